/- A device: is it up? -/
import Derived.Test.YtnibehcgnhdcgaaGreatDoorM4
namespace Go.Proofs.YtnibehcgnhdcgaaGreatDoor
open Go.RowKit

/-- append onto a row of the call's own, as one step of a region that draws its order. -/
theorem step_append_own {P : Program} {w : World} {ops : Array Oper} {o : Oper} {a : Act} {K : Act → World → Prop} {Q : Exit → Act → World → Prop} {E : Prop} (hgd : o.guard = none) (s x : Operand) (t : TypeId)
    (ho : o.op = .call { callee := .builtin .append, args := #[s, x], argTypes := #[t, t] })
    (base : Nat) (e : TypeId) (i : TypeInfo) (z : Value) (size bytes : Nat) (ht : P.underlying t = some (.slice e)) (hi : P.info? e = some i) (hz : i.zero = some z)
    (hsize : i.size = size) (hby : i.bytes = bytes) (hzs : z.cells.size = size) (hsz : 0 < size)
    (v : Value) (n : Nat) (xs : List Value) (hs : a.eval s = v) (hown : w.ownsRow base e size v n xs)
    (ad : Addr) (m c : Nat) (news : List Value) (hx : a.eval x = .slice (some ad) m c) (hl : news.length = m * size) (hnews : ∀ j u, news[j]? = some u → w.cell? (ad.add j) = some u) (h1 : ∀ u ∈ news, u.oneCell' = true)
    (h63 : n + m ≤ maxLen) (hbytes : (n + m) * bytes ≤ 140737488355328) (hbase : base ≤ w.heap.size)
    (h : ∀ v' w', w'.ownsRow base e size v' (n + m) (xs ++ news) → w.grownBy w' v.ownBlock → (v' = .slice none 0 0 ↔ v = .slice none 0 0 ∧ m = 0) → K (a.put o.dst v') w') :
    if Region.wanted o (yielded ops a.tmps) = true then Oper.wp P o a w K Q else E := by
  have hw : Region.wanted o (yielded ops a.tmps) = true := by simp [Region.wanted, hgd]
  rw [if_pos hw]
  exact wp_append_own w s x t ho base e i z size bytes ht hi hz hsize hby hzs hsz v n xs hs hown ad m c news hx hl hnews h1 h63 hbytes hbase h

theorem info116 : (Tryz.prog.info? 116).map (fun i => (i.zero, i.size, i.bytes)) = some (some (.agg #[.int .i64 0, .nilFunc]), 2, 16) := by kernel_rfl
theorem cells2 {w : World} {b : Nat} {x y : Value} {t : TypeId} {fr : Nat × Nat} (h : w.heap[b]? = some (.cells #[x, y] t fr)) : ∀ j u, [x, y][j]? = some u → w.cell? ((⟨b, 0, none⟩ : Addr).add j) = some u := by
  intro j u hu
  rw [Addr.add_mid, cell_of_row w b _ _ _ _ h]
  simpa using hu

set_option maxRecDepth 100000 in
set_option maxHeartbeats 1000000 in
theorem up_fl (db mb : Nat) (w : World) (hd1 : w.cell? ⟨db, 1, none⟩ = some (.map (some mb))) (hd4 : w.cell? ⟨db, 4, none⟩ = some (.bool false)) :
    Calls Tryz.prog 75 #[.pointer (some ⟨db, 0, none⟩), .slice none 0 0] w fun e w' => e = .returned (.int .i64 0) ∧ Below w.heap.size w w' := by
  obtain ⟨i0, hi, hz0, hz1, hz2⟩ := info_parts info116
  have hdb : db < w.heap.size := World.block_lt_of_cell? w _ hd1
  obtain ⟨r1, hr1⟩ : ∃ o, o = #[Value.int .i64 1, .func (.func 40) #[.pointer (some ⟨db, 0, none⟩)] #[]] := ⟨_, rfl⟩
  obtain ⟨r3, hr3⟩ : ∃ o, o = #[Value.int .i64 30, .func (.func 88) #[] #[.pointer (some ⟨w.heap.size, 0, none⟩)]] := ⟨_, rfl⟩
  obtain ⟨W1, hW1⟩ : ∃ W, W = ((w.alloc (.cells #[.pointer (some ⟨db, 0, none⟩)] 25)).alloc (.cells r1 116)).alloc (.cells r3 116) := ⟨_, rfl⟩
  have hs1 : W1.heap.size = w.heap.size + 3 := by rw [hW1]; simp
  have hB1 : Below w.heap.size w W1 := by rw [hW1]; exact (((Below.refl _ w).alloc (Nat.le_refl _) _).alloc (by simp) _).alloc (by simp; omega) _
  have k0 : W1.heap[w.heap.size]? = some (.cells #[.pointer (some ⟨db, 0, none⟩)] 25 (0, 0)) := by rw [hW1, hget_past _ _ (by simp; omega), hget_past _ _ (by simp), hget_at _ _ rfl]
  have fin : ∀ (W2 : World) (p : Nat), w.heap.size + 1 ≤ p → w.heap.size + 1 ≤ W2.heap.size → Below w.heap.size w W2 → W2.heap[w.heap.size]? = some (.cells #[.pointer (some ⟨db, 0, none⟩)] 25 (0, 0)) →
      ∀ v1 w1, w1.ownsRow (w.heap.size + 1) 116 2 v1 (1 + 1) (r1.toList ++ r3.toList) → W2.grownBy w1 (some p) →
      (∃ g c, v1 = .slice (some ⟨g, 0, none⟩) 2 c) ∧ Calls Tryz.prog 50 #[v1] w1 (fun e w' => e = .returned (.int .i64 0) ∧ Below w.heap.size w w') := by
    intro W2 p hp hs2 hB2 k2 v1 w1 ho1 hg1
    have d1 : W2.cell? ⟨db, 1, none⟩ = some (.map (some mb)) := by rw [World.cell?_of_block (w := w) (hB2.block db hdb), hd1]
    have d4 : W2.cell? ⟨db, 4, none⟩ = some (.bool false) := by rw [World.cell?_of_block (w := w) (hB2.block db hdb), hd4]
    have b0 : W2.cell? ⟨w.heap.size, 0, none⟩ = some (.pointer (some ⟨db, 0, none⟩)) := by rw [cell_of_row _ _ _ _ _ _ k2]; rfl
    rcases ho1.2 with ⟨_, h⟩ | ⟨g, cap, cur, rfl, hbg, hgb, _⟩
    · omega
    · have hcell : ∀ {a : Addr} {v : Value}, W2.cell? a = some v → a.block ≠ p → w1.cell? a = some v := fun h hne => hg1.cell h (fun e => hne (Option.some.inj e))
      have e1 := hcell d1 (by show db ≠ p; omega)
      have e4 := hcell d4 (by show db ≠ p; omega)
      have e0 := hcell b0 (by show w.heap.size ≠ p; omega)
      have x0 := ho1.cellAt 0 (by omega)
      have x1 := ho1.cellAt 1 (by omega)
      have x2 := ho1.cellAt 2 (by omega)
      have x3 := ho1.cellAt 3 (by omega)
      rw [hr1, hr3] at x0 x1 x2 x3
      refine ⟨⟨g, cap, rfl⟩, (check_fl db mb w.heap.size g cap w1 e1 e4 e0 x0 x1 x2 x3).mono ?_⟩
      rintro e w' ⟨rfl, hb⟩
      exact ⟨rfl, (hB2.grown hg1 (by omega) (fun k hk => by cases hk; omega)).trans (hb.mono (by have := hg1.size; omega))⟩
  -- the two orders in which the slices may be made
  obtain ⟨WA, hWA⟩ : ∃ W, W = ((W1.alloc (.cells r1 116)).alloc (.cells r3 116)).drew := ⟨_, rfl⟩
  obtain ⟨WB, hWB⟩ : ∃ W, W = ((W1.alloc (.cells r3 116)).alloc (.cells r1 116)).drew := ⟨_, rfl⟩
  have sA : WA.heap.size = w.heap.size + 5 := by rw [hWA]; show ((W1.alloc _).alloc _).heap.size = _; simp; omega
  have sB : WB.heap.size = w.heap.size + 5 := by rw [hWB]; show ((W1.alloc _).alloc _).heap.size = _; simp; omega
  have FA := hideIt (fin WA (w.heap.size + 3) (by omega) (by omega) (by rw [hWA]; exact ((hB1.alloc (by omega) _).alloc (by simp; omega) _).drew) (by rw [hWA, hget_drew, hget_past _ _ (by simp; omega), hget_past _ _ (by omega), k0]))
  have FB := hideIt (fin WB (w.heap.size + 4) (by omega) (by omega) (by rw [hWB]; exact ((hB1.alloc (by omega) _).alloc (by simp; omega) _).drew) (by rw [hWB, hget_drew, hget_past _ _ (by simp; omega), hget_past _ _ (by omega), k0]))
  have OA : Hid (WA.ownsRow (w.heap.size + 1) 116 2 (.slice (some ⟨w.heap.size + 3, 0, none⟩) 1 1) 1 r1.toList) := by
    have := World.ownsRow_lit (e := 116) (base := w.heap.size + 1) (size := 2) W1 r1 1 (by omega) (by decide) (by rw [hr1]; rfl)
    rw [hs1] at this
    rw [hWA]
    exact (this.alloc _).drew
  have OB : Hid (WB.ownsRow (w.heap.size + 1) 116 2 (.slice (some ⟨w.heap.size + 4, 0, none⟩) 1 1) 1 r1.toList) := by
    have := World.ownsRow_lit (e := 116) (base := w.heap.size + 1) (size := 2) (W1.alloc (.cells r3 116)) r1 1 (by simp; omega) (by decide) (by rw [hr1]; rfl)
    rw [show (W1.alloc (.cells r3 116)).heap.size = w.heap.size + 4 by simp; omega] at this
    rw [hWB]
    exact this.drew
  have NA := hideIt (cells2 (w := WA) (b := w.heap.size + 4) (x := .int .i64 30) (y := .func (.func 88) #[] #[.pointer (some ⟨w.heap.size, 0, none⟩)]) (by rw [hWA, hget_drew, hget_at _ _ (by simp; omega), hr3]))
  have NB := hideIt (cells2 (w := WB) (b := w.heap.size + 3) (x := .int .i64 30) (y := .func (.func 88) #[] #[.pointer (some ⟨w.heap.size, 0, none⟩)]) (by rw [hWB, hget_drew, hget_past _ _ (by simp; omega), hget_at _ _ hs1.symm, hr3]))
  have one3 : ∀ u ∈ r3.toList, u.oneCell' = true := by rw [hr3]; simp [Value.oneCell']
  have O1 := hideIt one3
  have HW1 := hideIt hW1
  have HWA := hideIt hWA
  have HWB := hideIt hWB
  clear fin one3 hW1 hWA hWB k0 hd1 hd4 hB1
  subst hr1 hr3
  go_enter Tryz.func75, Tryz.ntmps75
  go_wp2_with (first
    | (with_reducible refine wl_alloc_store zero116 (by simp) rfl rfl (size116 _ _) (two _ _ _ _) (one116 _ _ _ _) ?_))
  go_simp
  go_region_law (first
    | (rw [← HW1.out, ← HWA.out]; refine step_append_own rfl _ _ _ rfl (w.heap.size + 1) 116 i0 (.agg #[.int .i64 0, .nilFunc]) 2 16 Tryz.underlying138 hi hz0 hz1 hz2 rfl (by decide) _ _ _ rfl OA.out ⟨w.heap.size + 4, 0, none⟩ 1 1 _ rfl rfl NA.out O1.out (by unfold maxLen; omega) (by omega) (by omega) ?_; intro v1 w1 ho1 hg1 hn1; obtain ⟨⟨g, c, rfl⟩, hck⟩ := FA.out v1 w1 ho1 hg1; clear ho1 hg1 hn1)
    | (rw [← HW1.out, ← HWB.out]; refine step_append_own rfl _ _ _ rfl (w.heap.size + 1) 116 i0 (.agg #[.int .i64 0, .nilFunc]) 2 16 Tryz.underlying138 hi hz0 hz1 hz2 rfl (by decide) _ _ _ rfl OB.out ⟨w.heap.size + 3, 0, none⟩ 1 1 _ rfl rfl NB.out O1.out (by unfold maxLen; omega) (by omega) (by omega) ?_; intro v1 w1 ho1 hg1 hn1; obtain ⟨⟨g, c, rfl⟩, hck⟩ := FB.out v1 w1 ho1 hg1; clear ho1 hg1 hn1)
    | (go_simp; go_at_call 50; refine hck.mono ?_; rintro e w' ⟨rfl, hb⟩))
  all_goals
    go_wp2_with fail
    go_ret
    exact ⟨rfl, hb⟩
end Go.Proofs.YtnibehcgnhdcgaaGreatDoor
