/- A device: is it up? At a write. -/
import Derived.Test.YtnibehcgnhdcgaaGreatDoorM5
namespace Go.Proofs.YtnibehcgnhdcgaaGreatDoor
open Go.RowKit

set_option maxRecDepth 100000 in
set_option maxHeartbeats 2000000 in
theorem up_wr (db mb ba bd lb : Nat) (a n : Int) (ha : a < n) (w : World) (hd1 : w.cell? ⟨db, 1, none⟩ = some (.map (some mb))) (hd0 : w.cell? ⟨db, 0, none⟩ = some (.int .u32 n)) (hd4 : w.cell? ⟨db, 4, none⟩ = some (.bool false))
    (h0 : w.cell? ⟨ba, 0, none⟩ = some (.int .u32 a)) (h1 : w.cell? ⟨bd, 0, none⟩ = some (.pointer (some ⟨db, 0, none⟩)))
    (hl : w.heap[lb]? = some (.cells #[.int .i64 2, .func (.func 74) #[] #[.pointer (some ⟨ba, 0, none⟩), .pointer (some ⟨bd, 0, none⟩)]] 116 (0, 0))) :
    Calls Tryz.prog 75 #[.pointer (some ⟨db, 0, none⟩), .slice (some ⟨lb, 0, none⟩) 1 1] w fun e w' => e = .returned (.int .i64 0) ∧ Below w.heap.size w w' := by
  obtain ⟨i0, hi, hz0, hz1, hz2⟩ := info_parts info116
  have hdb : db < w.heap.size := World.block_lt_of_cell? w _ hd1
  have hba : ba < w.heap.size := World.block_lt_of_cell? w _ h0
  have hbd : bd < w.heap.size := World.block_lt_of_cell? w _ h1
  have hlb : lb < w.heap.size := (Array.getElem?_eq_some_iff.1 hl).1
  obtain ⟨r1, hr1⟩ : ∃ o, o = #[Value.int .i64 1, .func (.func 40) #[.pointer (some ⟨db, 0, none⟩)] #[]] := ⟨_, rfl⟩
  obtain ⟨r2, hr2⟩ : ∃ o, o = #[Value.int .i64 2, .func (.func 74) #[] #[.pointer (some ⟨ba, 0, none⟩), .pointer (some ⟨bd, 0, none⟩)]] := ⟨_, rfl⟩
  obtain ⟨r3, hr3⟩ : ∃ o, o = #[Value.int .i64 30, .func (.func 88) #[] #[.pointer (some ⟨w.heap.size, 0, none⟩)]] := ⟨_, rfl⟩
  obtain ⟨W1, hW1⟩ : ∃ W, W = ((w.alloc (.cells #[.pointer (some ⟨db, 0, none⟩)] 25)).alloc (.cells r1 116)).alloc (.cells r3 116) := ⟨_, rfl⟩
  have hs1 : W1.heap.size = w.heap.size + 3 := by rw [hW1]; simp
  have hB1 : Below w.heap.size w W1 := by rw [hW1]; exact (((Below.refl _ w).alloc (Nat.le_refl _) _).alloc (by simp) _).alloc (by simp; omega) _
  have k0 : W1.heap[w.heap.size]? = some (.cells #[.pointer (some ⟨db, 0, none⟩)] 25 (0, 0)) := by rw [hW1, hget_past _ _ (by simp; omega), hget_past _ _ (by simp), hget_at _ _ rfl]
  have k3 : W1.heap[w.heap.size + 2]? = some (.cells r3 116 (0, 0)) := by rw [hW1, hget_at _ _ (by simp)]
  -- behind the second append: 'check'
  have fin : ∀ (W2 : World) (p : Nat), w.heap.size + 1 ≤ p → w.heap.size + 1 ≤ W2.heap.size → Below w.heap.size w W2 → W2.heap[w.heap.size]? = some (.cells #[.pointer (some ⟨db, 0, none⟩)] 25 (0, 0)) →
      ∀ v1 w1, w1.ownsRow (w.heap.size + 1) 116 2 v1 (1 + 1 + 1) ((r1.toList ++ r2.toList) ++ r3.toList) → W2.grownBy w1 (some p) →
      (∃ g c, v1 = .slice (some ⟨g, 0, none⟩) 3 c) ∧ Calls Tryz.prog 50 #[v1] w1 (fun e w' => e = .returned (.int .i64 0) ∧ Below w.heap.size w w') := by
    intro W2 p hp hs2 hB2 k2 v1 w1 ho1 hg1
    have old : ∀ {c : Addr} {v : Value}, w.cell? c = some v → c.block < w.heap.size → w1.cell? c = some v := fun {c v} h hc => by
      have e2 : W2.cell? c = some v := by rw [World.cell?_of_block (w := w) (hB2.block _ hc), h]
      exact hg1.cell e2 (fun e => by have := Option.some.inj e; omega)
    have b0 : W2.cell? ⟨w.heap.size, 0, none⟩ = some (.pointer (some ⟨db, 0, none⟩)) := by rw [cell_of_row _ _ _ _ _ _ k2]; rfl
    rcases ho1.2 with ⟨_, h⟩ | ⟨g, cap, cur, rfl, hbg, hgb, _⟩
    · omega
    · have e0 : w1.cell? ⟨w.heap.size, 0, none⟩ = some (.pointer (some ⟨db, 0, none⟩)) := hg1.cell b0 (fun e => by have : w.heap.size = p := Option.some.inj e; omega)
      have x0 := ho1.cellAt 0 (by omega)
      have x1 := ho1.cellAt 1 (by omega)
      have x2 := ho1.cellAt 2 (by omega)
      have x3 := ho1.cellAt 3 (by omega)
      have x4 := ho1.cellAt 4 (by omega)
      have x5 := ho1.cellAt 5 (by omega)
      rw [hr1, hr2, hr3] at x0 x1 x2 x3 x4 x5
      refine ⟨⟨g, cap, rfl⟩, (check_wr db mb ba bd w.heap.size g cap a n w1 (old hd1 hdb) (old hd0 hdb) (old hd4 hdb) ha (old h0 hba) (old h1 hbd) e0 x0 x1 x2 x3 x4 x5).mono ?_⟩
      rintro e w' ⟨rfl, hb⟩
      exact ⟨rfl, (hB2.grown hg1 (by omega) (fun k hk => by cases hk; omega)).trans (hb.mono (by have := hg1.size; omega))⟩
  -- behind the first append, at whatever world X
  have one1 : ∀ u ∈ r2.toList, u.oneCell' = true := by rw [hr2]; simp [Value.oneCell']
  have one3 : ∀ u ∈ r3.toList, u.oneCell' = true := by rw [hr3]; simp [Value.oneCell']
  have mid : ∀ (X : World) (p : Nat), w.heap.size + 3 ≤ p → w.heap.size + 1 ≤ X.heap.size → Below w.heap.size w X → (∀ k, k < w.heap.size + 3 → X.heap[k]? = W1.heap[k]?) →
      ∀ v1 w1, w1.ownsRow (w.heap.size + 1) 116 2 v1 (1 + 1) (r1.toList ++ r2.toList) → X.grownBy w1 (some p) →
      ∃ g c, v1 = .slice (some ⟨g, 0, none⟩) 2 c ∧ w.heap.size + 1 ≤ g ∧ w.heap.size + 1 ≤ w1.heap.size ∧ Below w.heap.size w w1 ∧ w1.heap[w.heap.size]? = some (.cells #[.pointer (some ⟨db, 0, none⟩)] 25 (0, 0)) ∧ w1.heap[w.heap.size + 2]? = some (.cells r3 116 (0, 0)) := by
    intro X p hp hX hBX hk v1 w1 ho1 hg1
    rcases ho1.2 with ⟨_, h⟩ | ⟨g, cap, cur, rfl, hbg, hgb, _⟩
    · omega
    · have e1 := hk w.heap.size (by omega)
      have e2 := hk (w.heap.size + 2) (by omega)
      rw [k0] at e1
      rw [k3] at e2
      have z1 : w.heap.size < X.heap.size := (Array.getElem?_eq_some_iff.1 e1).1
      have z2 : w.heap.size + 2 < X.heap.size := (Array.getElem?_eq_some_iff.1 e2).1
      exact ⟨g, cap, rfl, hbg, by have := hg1.size; omega, hBX.grown hg1 (by omega) (fun k hk => by cases hk; omega),
        (hg1.block _ z1 (fun e => by have : w.heap.size = p := Option.some.inj e; omega)).trans e1, (hg1.block _ z2 (fun e => by have : w.heap.size + 2 = p := Option.some.inj e; omega)).trans e2⟩
  obtain ⟨X0, hX0⟩ : ∃ W, W = (W1.alloc (.cells r1 116)).drew := ⟨_, rfl⟩
  have sX0 : X0.heap.size = w.heap.size + 4 := by rw [hX0]; show (W1.alloc _).heap.size = _; simp; omega
  have bX0 : Below w.heap.size w X0 := by rw [hX0]; exact (hB1.alloc (by omega) _).drew
  have kX0 : ∀ k, k < w.heap.size + 3 → X0.heap[k]? = W1.heap[k]? := fun k hk => by rw [hX0, hget_drew, hget_past _ _ (by omega)]
  have LX0 : Hid (∀ j u, r2.toList[j]? = some u → X0.cell? ((⟨lb, 0, none⟩ : Addr).add j) = some u) := by
    rw [hr2]
    exact cells2 ((kX0 _ (by omega)).trans ((hB1.block lb hlb).trans hl))
  obtain ⟨XA, hXA⟩ : ∃ W, W = ((W1.alloc (.cells r1 116)).alloc (.cells r3 116)).drew := ⟨_, rfl⟩
  have sXA : XA.heap.size = w.heap.size + 5 := by rw [hXA]; show ((W1.alloc _).alloc _).heap.size = _; simp; omega
  have bXA : Below w.heap.size w XA := by rw [hXA]; exact ((hB1.alloc (by omega) _).alloc (by simp; omega) _).drew
  have kXA : ∀ k, k < w.heap.size + 3 → XA.heap[k]? = W1.heap[k]? := fun k hk => by rw [hXA, hget_drew, hget_past _ _ (by simp; omega), hget_past _ _ (by omega)]
  have LXA : Hid (∀ j u, r2.toList[j]? = some u → XA.cell? ((⟨lb, 0, none⟩ : Addr).add j) = some u) := by
    rw [hr2]
    exact cells2 ((kXA _ (by omega)).trans ((hB1.block lb hlb).trans hl))
  obtain ⟨XB, hXB⟩ : ∃ W, W = ((W1.alloc (.cells r3 116)).alloc (.cells r1 116)).drew := ⟨_, rfl⟩
  have sXB : XB.heap.size = w.heap.size + 5 := by rw [hXB]; show ((W1.alloc _).alloc _).heap.size = _; simp; omega
  have bXB : Below w.heap.size w XB := by rw [hXB]; exact ((hB1.alloc (by omega) _).alloc (by simp; omega) _).drew
  have kXB : ∀ k, k < w.heap.size + 3 → XB.heap[k]? = W1.heap[k]? := fun k hk => by rw [hXB, hget_drew, hget_past _ _ (by simp; omega), hget_past _ _ (by omega)]
  have LXB : Hid (∀ j u, r2.toList[j]? = some u → XB.cell? ((⟨lb, 0, none⟩ : Addr).add j) = some u) := by
    rw [hr2]
    exact cells2 ((kXB _ (by omega)).trans ((hB1.block lb hlb).trans hl))
  have O0 : Hid (X0.ownsRow (w.heap.size + 1) 116 2 (.slice (some ⟨w.heap.size + 3, 0, none⟩) 1 1) 1 r1.toList) := by
    have := World.ownsRow_lit (e := 116) (base := w.heap.size + 1) (size := 2) W1 r1 1 (by omega) (by decide) (by rw [hr1]; rfl)
    rw [hs1] at this
    rw [hX0]
    exact this.drew
  have OA : Hid (XA.ownsRow (w.heap.size + 1) 116 2 (.slice (some ⟨w.heap.size + 3, 0, none⟩) 1 1) 1 r1.toList) := by
    have := World.ownsRow_lit (e := 116) (base := w.heap.size + 1) (size := 2) W1 r1 1 (by omega) (by decide) (by rw [hr1]; rfl)
    rw [hs1] at this
    rw [hXA]
    exact (this.alloc _).drew
  have OB : Hid (XB.ownsRow (w.heap.size + 1) 116 2 (.slice (some ⟨w.heap.size + 4, 0, none⟩) 1 1) 1 r1.toList) := by
    have := World.ownsRow_lit (e := 116) (base := w.heap.size + 1) (size := 2) (W1.alloc (.cells r3 116)) r1 1 (by simp; omega) (by decide) (by rw [hr1]; rfl)
    rw [show (W1.alloc (.cells r3 116)).heap.size = w.heap.size + 4 by simp; omega] at this
    rw [hXB]
    exact this.drew
  have nA : XA.heap[w.heap.size + 4]? = some (.cells r3 116 (0, 0)) := by rw [hXA, hget_drew, hget_at _ _ (by simp; omega)]
  have nB : XB.heap[w.heap.size + 3]? = some (.cells r3 116 (0, 0)) := by rw [hXB, hget_drew, hget_past _ _ (by simp; omega), hget_at _ _ hs1.symm]
  -- the first append at each of the three worlds: what the second one and the load want
  have M0 : Hid (∀ v1 w1, w1.ownsRow (w.heap.size + 1) 116 2 v1 (1 + 1) (r1.toList ++ r2.toList) → X0.grownBy w1 (some (w.heap.size + 3)) →
      ∃ g c, v1 = .slice (some ⟨g, 0, none⟩) 2 c ∧ w1.cell? ⟨w.heap.size + 1 + 1, 0, none⟩ = some (.int .i64 30) ∧ w1.cell? ⟨w.heap.size + 1 + 1, 1, none⟩ = some (.func (.func 88) #[] #[.pointer (some ⟨w.heap.size, 0, none⟩)]) ∧
        Hid (w.heap.size + 1 ≤ (w1.alloc (.cells r3 116)).heap.size) ∧ Hid ((w1.alloc (.cells r3 116)).ownsRow (w.heap.size + 1) 116 2 v1 2 (r1.toList ++ r2.toList)) ∧
        Hid (∀ j u, r3.toList[j]? = some u → (w1.alloc (.cells r3 116)).cell? ((⟨w1.heap.size, 0, none⟩ : Addr).add j) = some u) ∧
        Hid (∀ v2 w2, w2.ownsRow (w.heap.size + 1) 116 2 v2 (1 + 1 + 1) ((r1.toList ++ r2.toList) ++ r3.toList) → (w1.alloc (.cells r3 116)).grownBy w2 (some g) →
          (∃ g' c, v2 = .slice (some ⟨g', 0, none⟩) 3 c) ∧ Calls Tryz.prog 50 #[v2] w2 (fun e w' => e = .returned (.int .i64 0) ∧ Below w.heap.size w w'))) := by
    intro v1 w1 ho1 hg1
    obtain ⟨g, c, rfl, hg, hz, hb, e1, e2⟩ := mid X0 (w.heap.size + 3) (by omega) (by omega) bX0 kX0 v1 w1 ho1 hg1
    refine ⟨g, c, rfl, by rw [cell_of_row _ _ 0 _ _ _ e2, hr3]; rfl, by rw [cell_of_row _ _ 1 _ _ _ e2, hr3]; rfl, ?_, ho1.alloc _, ?_, fin _ g (by omega) ?_ (hb.alloc (by omega) _) ((hget_past _ _ (Array.getElem?_eq_some_iff.1 e1).1).trans e1)⟩
    · show _ ≤ (w1.alloc _).heap.size; simp; omega
    · rw [hr3]; exact cells2 (hget_at _ _ rfl)
    · simp; omega
  have MA : Hid (∀ v1 w1, w1.ownsRow (w.heap.size + 1) 116 2 v1 (1 + 1) (r1.toList ++ r2.toList) → XA.grownBy w1 (some (w.heap.size + 3)) →
      ∃ g c, v1 = .slice (some ⟨g, 0, none⟩) 2 c ∧ Hid (w.heap.size + 1 ≤ w1.heap.size) ∧ Hid (w1.ownsRow (w.heap.size + 1) 116 2 v1 2 (r1.toList ++ r2.toList)) ∧
        Hid (∀ j u, r3.toList[j]? = some u → w1.cell? ((⟨w.heap.size + 4, 0, none⟩ : Addr).add j) = some u) ∧
        Hid (∀ v2 w2, w2.ownsRow (w.heap.size + 1) 116 2 v2 (1 + 1 + 1) ((r1.toList ++ r2.toList) ++ r3.toList) → w1.grownBy w2 (some g) →
          (∃ g' c, v2 = .slice (some ⟨g', 0, none⟩) 3 c) ∧ Calls Tryz.prog 50 #[v2] w2 (fun e w' => e = .returned (.int .i64 0) ∧ Below w.heap.size w w'))) := by
    intro v1 w1 ho1 hg1
    obtain ⟨g, c, rfl, hg, hz, hb, e1, e2⟩ := mid XA (w.heap.size + 3) (by omega) (by omega) bXA kXA v1 w1 ho1 hg1
    have e3 := (hg1.block _ (Array.getElem?_eq_some_iff.1 nA).1 (fun e => by have : w.heap.size + 4 = w.heap.size + 3 := Option.some.inj e; omega)).trans nA
    exact ⟨g, c, rfl, hz, ho1, by rw [hr3] at e3 ⊢; exact cells2 e3, fin _ g (by omega) (by omega) hb e1⟩
  have MB : Hid (∀ v1 w1, w1.ownsRow (w.heap.size + 1) 116 2 v1 (1 + 1) (r1.toList ++ r2.toList) → XB.grownBy w1 (some (w.heap.size + 4)) →
      ∃ g c, v1 = .slice (some ⟨g, 0, none⟩) 2 c ∧ Hid (w.heap.size + 1 ≤ w1.heap.size) ∧ Hid (w1.ownsRow (w.heap.size + 1) 116 2 v1 2 (r1.toList ++ r2.toList)) ∧
        Hid (∀ j u, r3.toList[j]? = some u → w1.cell? ((⟨w.heap.size + 3, 0, none⟩ : Addr).add j) = some u) ∧
        Hid (∀ v2 w2, w2.ownsRow (w.heap.size + 1) 116 2 v2 (1 + 1 + 1) ((r1.toList ++ r2.toList) ++ r3.toList) → w1.grownBy w2 (some g) →
          (∃ g' c, v2 = .slice (some ⟨g', 0, none⟩) 3 c) ∧ Calls Tryz.prog 50 #[v2] w2 (fun e w' => e = .returned (.int .i64 0) ∧ Below w.heap.size w w'))) := by
    intro v1 w1 ho1 hg1
    obtain ⟨g, c, rfl, hg, hz, hb, e1, e2⟩ := mid XB (w.heap.size + 4) (by omega) (by omega) bXB kXB v1 w1 ho1 hg1
    have e3 := (hg1.block _ (Array.getElem?_eq_some_iff.1 nB).1 (fun e => by have : w.heap.size + 3 = w.heap.size + 4 := Option.some.inj e; omega)).trans nB
    exact ⟨g, c, rfl, hz, ho1, by rw [hr3] at e3 ⊢; exact cells2 e3, fin _ g (by omega) (by omega) hb e1⟩
  have hz0' := hz0
  have HW1 := hideIt hW1
  have H0 := hideIt hX0
  have HA := hideIt hXA
  have HB := hideIt hXB
  have P1 := hideIt one1
  have P3 := hideIt one3
  have S0 : Hid (w.heap.size + 1 ≤ X0.heap.size) := by show _ ≤ _; omega
  have SA : Hid (w.heap.size + 1 ≤ XA.heap.size) := by show _ ≤ _; omega
  have SB : Hid (w.heap.size + 1 ≤ XB.heap.size) := by show _ ≤ _; omega
  clear hz0' fin mid one1 one3 hW1 hX0 hXA hXB nA nB bX0 bXA bXB kX0 kXA kXB sX0 sXA sXB k0 k3 hB1 hl h0 h1 hd0 hd1 hd4
  subst hr1 hr2 hr3
  go_enter Tryz.func75, Tryz.ntmps75
  go_wp2_with (first
    | (with_reducible refine wl_alloc_store zero116 (by simp) rfl rfl (size116 _ _) (two _ _ _ _) (one116 _ _ _ _) ?_))
  go_simp
  go_region_law (first
    | (rw [← HW1.out, ← H0.out]; refine step_append_own rfl _ _ _ rfl (w.heap.size + 1) 116 i0 (.agg #[.int .i64 0, .nilFunc]) 2 16 Tryz.underlying138 hi hz0 hz1 hz2 rfl (by decide) _ _ _ rfl O0.out ⟨lb, 0, none⟩ 1 1 _ rfl rfl LX0.out P1.out (by unfold maxLen; omega) (by omega) S0.out ?_; intro v1 w1 ho1 hg1 hn1; obtain ⟨g1, c1, rfl, y1, y2, Z1, Q1, N1, G1⟩ := M0.out v1 w1 ho1 hg1; clear ho1 hg1 hn1)
    | (rw [← HW1.out, ← HA.out]; refine step_append_own rfl _ _ _ rfl (w.heap.size + 1) 116 i0 (.agg #[.int .i64 0, .nilFunc]) 2 16 Tryz.underlying138 hi hz0 hz1 hz2 rfl (by decide) _ _ _ rfl OA.out ⟨lb, 0, none⟩ 1 1 _ rfl rfl LXA.out P1.out (by unfold maxLen; omega) (by omega) SA.out ?_; intro v1 w1 ho1 hg1 hn1; obtain ⟨g1, c1, rfl, Z1, Q1, N1, G1⟩ := MA.out v1 w1 ho1 hg1; clear ho1 hg1 hn1)
    | (rw [← HW1.out, ← HB.out]; refine step_append_own rfl _ _ _ rfl (w.heap.size + 1) 116 i0 (.agg #[.int .i64 0, .nilFunc]) 2 16 Tryz.underlying138 hi hz0 hz1 hz2 rfl (by decide) _ _ _ rfl OB.out ⟨lb, 0, none⟩ 1 1 _ rfl rfl LXB.out P1.out (by unfold maxLen; omega) (by omega) SB.out ?_; intro v1 w1 ho1 hg1 hn1; obtain ⟨g1, c1, rfl, Z1, Q1, N1, G1⟩ := MB.out v1 w1 ho1 hg1; clear ho1 hg1 hn1)
    | (refine step_append_own rfl _ _ _ rfl (w.heap.size + 1) 116 i0 (.agg #[.int .i64 0, .nilFunc]) 2 16 Tryz.underlying138 hi hz0 hz1 hz2 rfl (by decide) _ _ _ rfl Q1.out _ 1 1 _ rfl rfl N1.out P3.out (by unfold maxLen; omega) (by omega) Z1.out ?_; intro v2 w2 ho2 hg2 hn2; obtain ⟨⟨g2, c2, rfl⟩, hck⟩ := G1.out v2 w2 ho2 hg2; clear ho2 hg2 hn2)
    | (go_simp; go_at_call 50; refine hck.mono ?_; rintro e w' ⟨rfl, hb⟩))
  all_goals
    go_wp2_with fail
    go_ret
    exact ⟨rfl, hb⟩
end Go.Proofs.YtnibehcgnhdcgaaGreatDoor
