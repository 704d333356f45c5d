/- A page of a table: read, or found. -/
import Derived.Test.YtnibehcgnhdcgaaGreatDoorM10
namespace Go.Proofs.YtnibehcgnhdcgaaGreatDoor
open Go.RowKit

theorem wl_mapUpdate {P : Program} {ops : Array Oper} {Q : Exit → Act → World → Prop} {rest : List Oper} {w W' : World} {T : Array Value} {D : List Deferred} {t tt x y z : Nat} {pos : String} {af : Array Edge} {m k v : Value}
    (hx : T.getD x undef = m) (hy : T.getD y undef = k) (hz : T.getD z undef = v) (hr : (Instr.mapUpdate t m k v).run P w = .ok () W') (h : wpList P ops Q rest ⟨T, D⟩ W') :
    wpList P ops Q ({ dst := none, op := .mapUpdate t (.tmp x) (.tmp y) (.tmp z), type := tt, pos := pos, after := af, guard := none } :: rest) ⟨T, D⟩ w :=
  wpList_plain rfl fun _ hK => wp_mapUpdate rfl hx hy hz hr (hK _ _ h)
theorem put_mem {l : List (Int × Value)} {k : Int} {v : Value} : ∀ q ∈ put l k v, q ∈ l ∨ q = (k, v) := by
  induction l with
  | nil => intro q hq; simp [put] at hq; exact .inr hq
  | cons p r ih =>
    intro q hq
    rw [put] at hq
    split at hq
    · rcases List.mem_cons.1 hq with rfl | h
      · exact .inr rfl
      · exact .inl (List.mem_cons_of_mem _ h)
    · rcases List.mem_cons.1 hq with rfl | h
      · exact .inl List.mem_cons_self
      · rcases ih q h with h | h
        · exact .inl (List.mem_cons_of_mem _ h)
        · exact .inr h
theorem look_mem {l : List (Int × Value)} {k : Int} {v : Value} (h : look l k = some v) : (k, v) ∈ l := by
  unfold look at h
  obtain ⟨p, hp, rfl⟩ := Option.map_eq_some_iff.1 h
  have h1 := List.find?_some hp
  have h2 : k = p.1 := by simpa using h1
  rw [h2]
  exact List.mem_of_find?_eq_some hp

set_option maxRecDepth 100000 in
set_option maxHeartbeats 2000000 in
/-- picks: a page, at what its block holds. -/
theorem pageP_any (T : Tab) (w : World) (S : List (Int × Int)) (hA : TabAt T w S) (at_ s : Int) (hat : at_ < T.n) (cs : List Int) (hlen : cs.length = 16) (hcs : cs = T.pk) (hon : PickOn (dblk T.G at_) s cs) :
    Calls Tryz.prog 62 #[.pointer (some ⟨T.tb, 0, none⟩), .map (some T.pm), .int .u32 at_, .int .u32 s, .func (.func 63) #[] #[]] w fun e w' =>
      e = .returned (.tuple #[.agg (pickA s cs), .int .i64 0]) ∧ TabAt T w' S ∧ Keeps (fun k => k = T.pm) w w' := by
  obtain ⟨lp, hlp, hlq⟩ := hA.mp
  have hne := hA.ne
  have hlt := hA.lt
  have hd1 := hA.d1
  have hlA := dblk_length hA.dev.good at_
  obtain ⟨zA, hzA⟩ : ∃ z, z = pickA 0 z16 := ⟨_, rfl⟩
  obtain ⟨rA, hrA⟩ : ∃ r, r = pickA s cs := ⟨_, rfl⟩
  have hz0 : ∀ w, (zeroValue 74).run Tryz.prog w = .ok (.agg zA) w := by rw [hzA]; exact zero74
  have iR : (Tryz.prog.info? 74).map (·.size) = some rA.size := by rw [hrA]; exact size74' s hlen
  have iZ : (Tryz.prog.info? 74).map (·.size) = some zA.size := by rw [hzA]; exact size74' 0 rfl
  have eZ : zA.size = rA.size := by rw [hzA, hrA, pickA_size, pickA_size, hlen]; rfl
  have eZZ : zA.size = zA.size := rfl
  have oR : rA.all (·.oneCell') = true := by rw [hrA]; exact pickA_one _ _
  have oZ : zA.all (·.oneCell') = true := by rw [hzA]; exact pickA_one _ _
  obtain ⟨W0, hW0⟩ : ∃ W, W = w.alloc (.cells zA 74) := ⟨_, rfl⟩
  have hs0 : W0.heap.size = w.heap.size + 1 := by rw [hW0]; simp
  have hb0 : Below w.heap.size w W0 := by rw [hW0]; exact (Below.refl _ _).alloc (Nat.le_refl _) _
  have g0 : W0.heap[w.heap.size]? = some (.cells zA 74 (0, 0)) := by rw [hW0, hget_at _ _ rfl]
  have hm0 := hlp.of_block (hb0.block _ hlt.2.2.2.1)
  rw [← hrA]
  have HA := hideIt hA
  have HCS := hideIt hcs
  clear hcs
  have HW0 := hideIt hW0
  have G0 := hideIt g0
  have HRA := hideIt hrA
  have HIR := hideIt iR
  have HIZ := hideIt iZ
  have HM0 := hideIt hm0
  have HON := hideIt hon
  have HLQ := hideIt hlq
  have HLP := hideIt hlp
  have HLA := hideIt hlA
  have HB0 := hideIt hb0
  cases hlk : look lp s with
  | some v =>
    have hv : v = .agg rA := by rw [HRA.out, HCS.out]; exact HLQ.out _ (look_mem hlk)
    subst hv
    have GX : Hid ((W0.alloc (.cells rA 74)).heap[w.heap.size + 1]? = some (.cells rA 74 (0, 0))) := hget_at _ _ hs0.symm
    have GY : Hid ((W0.alloc (.cells rA 74)).heap[w.heap.size]? = some (.cells zA 74 (0, 0))) := by show _ = _; rw [hget_past _ _ (by omega)]; exact G0.out
    have hb1 : Below w.heap.size w (W0.alloc (.cells rA 74)) := HB0.out.alloc (by omega) _
    have HB1 := hideIt hb1
    have hv : (if (true : Bool) = true then Value.tuple #[(look lp s).getD (.agg zA), .bool (look lp s).isSome] else (look lp s).getD (.agg zA)) = .tuple #[.agg rA, .bool true] := by rw [hlk]; rfl
    have HV := hideIt hv
    clear hv hA hW0 g0 hrA hm0 hon hlq hlp hlA hb0 hb1 hzA iR iZ hlk
    go_enter Tryz.func62, Tryz.ntmps62
    go_wp2_with (first
      | (with_reducible refine wl_alloc hz0 ?_; rw [← HW0.out])
      | (with_reducible refine wl_lookup (v := .tuple #[.agg rA, .bool true]) rfl rfl HM0.out Tryz.underlying58 Tryz.underlying22 hz0 HV.out ?_; simp only [Act.put, List.setIfInBounds_toArray, List.set_cons_succ, List.set_cons_zero])
      | (with_reducible refine wl_extract rfl rfl ?_)
      | (with_reducible refine wl_alloc_store hz0 (by simp [Act.put]) rfl rfl HIR.out eZ oR ?_)
      | (rw [hs0])
      | (with_reducible refine wl_load rfl GX.out Tryz.underlying74 rfl HIR.out ?_)
      | (with_reducible refine wl_store rfl rfl GY.out HIR.out eZ oR ?_))
    exact ret_cell_tmp rfl rfl rfl (setRow_heap _ _ _ _ _ _ GY.out) Tryz.underlying74 rfl HIR.out ⟨rfl, HA.out.below (below_setRow HB1.out (Nat.le_refl _) _), Keeps.of_below (below_setRow HB1.out (Nat.le_refl _) _)⟩
  | none =>
    have hv : (if (true : Bool) = true then Value.tuple #[(look lp s).getD (.agg zA), .bool (look lp s).isSome] else (look lp s).getD (.agg zA)) = .tuple #[.agg zA, .bool false] := by rw [hlk]; rfl
    have HV := hideIt hv
    clear hv
    have hTr : ∀ W, Below w.heap.size w W → TabAt T W S := fun W h => hA.below h
    have HTR := hideIt hTr
    have hrd := read_any T.db T.mb T.n T.G at_ hat
    have HRD := hideIt hrd
    have ibk := size41' hlA
    have obk := blkA_one (dblk T.G at_)
    have ebk : (blkA zb).size = (blkA (dblk T.G at_)).size := by rw [zbA_size, blkA_size, hlA]
    have hgp := fun W => hon W
    have GZ : Hid ((W0.alloc (.cells zA 74)).heap[w.heap.size]? = some (.cells zA 74 (0, 0))) := by show _ = _; rw [hget_past _ _ (by omega)]; exact G0.out
    have hb1 : Below w.heap.size w (W0.alloc (.cells zA 74)) := HB0.out.alloc (by omega) _
    have hA1 := hTr _ hb1
    have hrd1 := hrd _ hA1.dev
    have c0 : (W0.alloc (.cells zA 74)).cell? ⟨T.tb, 0, none⟩ = some (.pointer (some ⟨T.db, 0, none⟩)) := hA1.cell 0
    have HB1 := hideIt hb1
    have hs1 : (W0.alloc (.cells zA 74)).heap.size = w.heap.size + 2 := by simp; omega
    generalize hW1 : W0.alloc (.cells zA 74) = W1 at hrd1 c0 HB1 hs1 GZ
    have HW1 := hideIt hW1
    clear hA hW0 g0 hm0 hlp hlA hb0 hb1 hzA iR iZ hlk hTr hrd hA1 hW1 hon hlq
    generalize hbk : blkA (dblk T.G at_) = bk at hrd1 ibk obk ebk hgp
    rw [← hrA] at hgp
    have GB : ∀ W : World, Hid ((W.alloc (.cells bk 41)).heap[W.heap.size]? = some (.cells bk 41 (0, 0))) := fun W => hget_at _ _ rfl
    have GR : ∀ W : World, Hid ((W.alloc (.cells rA 74)).heap[W.heap.size]? = some (.cells rA 74 (0, 0))) := fun W => hget_at _ _ rfl
    have IBK := hideIt ibk
    clear hbk hrA ibk
    go_enter Tryz.func62, Tryz.ntmps62
    go_wp2_with (first
      | (with_reducible refine wl_alloc hz0 ?_; rw [← HW0.out])
      | (with_reducible refine wl_lookup (v := .tuple #[.agg zA, .bool false]) rfl rfl HM0.out Tryz.underlying58 Tryz.underlying22 hz0 HV.out ?_; simp only [Act.put, List.setIfInBounds_toArray, List.set_cons_succ, List.set_cons_zero])
      | (with_reducible refine wl_extract rfl rfl ?_)
      | (with_reducible refine wl_alloc_store hz0 (by simp [Act.put]) rfl rfl HIZ.out eZZ oZ ?_; rw [HW1.out])
      | (go_at_call 25; (with_reducible refine hrd1.mono ?_); rintro e W2 ⟨rfl, hb2⟩)
      | (with_reducible refine wl_alloc_store zero41 (by simp [Act.put]) rfl rfl IBK.out ebk obk ?_)
      | (with_reducible refine wl_load rfl (GB _).out Tryz.underlying41 rfl IBK.out ?_)
      | (go_at_call 63; (with_reducible refine (hgp _).mono ?_); rintro e W3 ⟨rfl, hb3⟩
         have hz2 := hb2.size
         have hz3 := hb3.size
         have hB3 : Below w.heap.size w W3 := (HB1.out.trans ((hb2.mono (by omega)).alloc (by omega) _)).trans (hb3.mono (by simp; omega))
         have hB4 : Below w.heap.size w (W3.alloc (.cells rA 74)) := hB3.alloc hB3.size _
         have gz4 : (W3.alloc (.cells rA 74)).heap[w.heap.size]? = some (.cells zA 74 (0, 0)) := by { rw [hget_past _ _ (by simp at hz3; omega), hb3.block _ (by simp; omega), hget_past _ _ (by omega), hb2.block _ (by omega)]; exact GZ.out }
         have hm4 := HLP.out.of_block (hB4.block _ hlt.2.2.2.1)
         obtain ⟨o5, hr5, hm5⟩ := run_put hm4 Tryz.underlying58 Tryz.underlying22 s (.agg rA)
         obtain ⟨W5, hW5⟩ : ∃ W, W = (W3.alloc (.cells rA 74)).putObj T.pm o5 := ⟨_, rfl⟩
         rw [← hW5] at hr5 hm5
         have e5 : ∀ k, k ≠ T.pm → W5.heap[k]? = (W3.alloc (.cells rA 74)).heap[k]? := fun k hk => by { rw [hW5, World.putObj_heap_other hk] }
         have gr5 : W5.heap[W3.heap.size]? = some (.cells rA 74 (0, 0)) := (e5 _ (by simp at hz3; omega)).trans (hget_at _ _ rfl)
         have gz5 : W5.heap[w.heap.size]? = some (.cells zA 74 (0, 0)) := (e5 _ (by omega)).trans gz4
         have K5 : Keeps (fun k => k = T.pm) w W5 := ⟨by { rw [hW5]; exact hB4.os }, by { rw [hW5]; exact hB4.tape }, by { rw [hW5]; exact hB4.output }, by { rw [hW5, World.putObj_size]; exact hB4.size }, fun k hk hF => (e5 k hF).trans (hB4.block k hk)⟩
         have A5 : TabAt T W5 S := by
           { have hA4 := HTR.out _ hB4
             have hdd := hA4.d1
             have hnn := hA4.ne
             refine ⟨(e5 _ (by omega)).trans hA4.row, hA4.dev.of_blocks (e5 _ (by omega)) (e5 _ (by omega)), ?_, ?_, hA4.ms.of_block (e5 _ (by omega)), hdd⟩
             · exact ⟨_, hm5, fun q hq => by { rcases put_mem q hq with h | rfl; exact HLQ.out q h; show Value.agg rA = _; rw [HRA.out, HCS.out] }⟩
             · obtain ⟨l, hl, hq⟩ := hA4.mt; exact ⟨l, hl.of_block (e5 _ (by omega)), hq⟩ }
         have HG5 := hideIt gr5
         have HZ5 := hideIt gz5
         have HR5 := hideIt hr5
         have HA5 := hideIt A5
         have HK5 := hideIt K5
         clear gz4 hB4 hr5 hm5 hm4 hB3 gr5 gz5 A5 K5 e5 hW5)
      | (with_reducible refine wl_alloc_store hz0 (by simp [Act.put]) rfl rfl HIR.out eZ oR ?_)
      | (with_reducible refine wl_load rfl (GR _).out Tryz.underlying74 rfl HIR.out ?_)
      | (with_reducible refine wl_load rfl HG5.out Tryz.underlying74 rfl HIR.out ?_)
      | (with_reducible refine wl_store rfl rfl HZ5.out HIR.out eZ oR ?_)
      | (with_reducible refine wl_mapUpdate (m := .map (some T.pm)) (k := .int .u32 s) (v := .agg rA) rfl rfl rfl HR5.out ?_))
    exact ret_cell_tmp rfl rfl rfl (setRow_heap _ _ _ _ _ _ HZ5.out) Tryz.underlying74 rfl HIR.out ⟨rfl, HA5.out.of_blocks (fun k hk => setRow_other _ _ _ _ (by rcases hk with rfl | rfl | rfl | rfl | rfl | rfl <;> omega)), HK5.out.setRow (.inl (Nat.le_refl _)) _⟩

set_option maxRecDepth 100000 in
set_option maxHeartbeats 2000000 in
/-- tallies: a page, at what its block holds. -/
theorem pageT_any (T : Tab) (w : World) (S : List (Int × Int)) (hA : TabAt T w S) (at_ s : Int) (hat : at_ < T.n) (cs : List Int) (hlen : cs.length = 64) (hcs : cs = T.tl s) (hon : TallyOn (dblk T.G at_) s cs) :
    Calls Tryz.prog 58 #[.pointer (some ⟨T.tb, 0, none⟩), .map (some T.tm), .int .u32 at_, .int .u32 s, .func (.func 59) #[] #[]] w fun e w' =>
      e = .returned (.tuple #[.agg (tallyA s cs), .int .i64 0]) ∧ TabAt T w' S ∧ Keeps (fun k => k = T.tm) w w' := by
  obtain ⟨lp, hlp, hlq⟩ := hA.mt
  have hne := hA.ne
  have hlt := hA.lt
  have hd1 := hA.d1
  have hlA := dblk_length hA.dev.good at_
  obtain ⟨zA, hzA⟩ : ∃ z, z = tallyA 0 z64 := ⟨_, rfl⟩
  obtain ⟨rA, hrA⟩ : ∃ r, r = tallyA s cs := ⟨_, rfl⟩
  have hz0 : ∀ w, (zeroValue 69).run Tryz.prog w = .ok (.agg zA) w := by rw [hzA]; exact zero69
  have iR : (Tryz.prog.info? 69).map (·.size) = some rA.size := by rw [hrA]; exact size69' s hlen
  have iZ : (Tryz.prog.info? 69).map (·.size) = some zA.size := by rw [hzA]; exact size69' 0 rfl
  have eZ : zA.size = rA.size := by rw [hzA, hrA, tallyA_size, tallyA_size, hlen]; rfl
  have eZZ : zA.size = zA.size := rfl
  have oR : rA.all (·.oneCell') = true := by rw [hrA]; exact tallyA_one _ _
  have oZ : zA.all (·.oneCell') = true := by rw [hzA]; exact tallyA_one _ _
  obtain ⟨W0, hW0⟩ : ∃ W, W = w.alloc (.cells zA 69) := ⟨_, rfl⟩
  have hs0 : W0.heap.size = w.heap.size + 1 := by rw [hW0]; simp
  have hb0 : Below w.heap.size w W0 := by rw [hW0]; exact (Below.refl _ _).alloc (Nat.le_refl _) _
  have g0 : W0.heap[w.heap.size]? = some (.cells zA 69 (0, 0)) := by rw [hW0, hget_at _ _ rfl]
  have hm0 := hlp.of_block (hb0.block _ hlt.2.2.2.2.1)
  rw [← hrA]
  have HA := hideIt hA
  have HCS := hideIt hcs
  clear hcs
  have HW0 := hideIt hW0
  have G0 := hideIt g0
  have HRA := hideIt hrA
  have HIR := hideIt iR
  have HIZ := hideIt iZ
  have HM0 := hideIt hm0
  have HON := hideIt hon
  have HLQ := hideIt hlq
  have HLP := hideIt hlp
  have HLA := hideIt hlA
  have HB0 := hideIt hb0
  cases hlk : look lp s with
  | some v =>
    have hv : v = .agg rA := by rw [HRA.out, HCS.out]; exact HLQ.out _ (look_mem hlk)
    subst hv
    have GX : Hid ((W0.alloc (.cells rA 69)).heap[w.heap.size + 1]? = some (.cells rA 69 (0, 0))) := hget_at _ _ hs0.symm
    have GY : Hid ((W0.alloc (.cells rA 69)).heap[w.heap.size]? = some (.cells zA 69 (0, 0))) := by show _ = _; rw [hget_past _ _ (by omega)]; exact G0.out
    have hb1 : Below w.heap.size w (W0.alloc (.cells rA 69)) := HB0.out.alloc (by omega) _
    have HB1 := hideIt hb1
    have hv : (if (true : Bool) = true then Value.tuple #[(look lp s).getD (.agg zA), .bool (look lp s).isSome] else (look lp s).getD (.agg zA)) = .tuple #[.agg rA, .bool true] := by rw [hlk]; rfl
    have HV := hideIt hv
    clear hv hA hW0 g0 hrA hm0 hon hlq hlp hlA hb0 hb1 hzA iR iZ hlk
    go_enter Tryz.func58, Tryz.ntmps58
    go_wp2_with (first
      | (with_reducible refine wl_alloc hz0 ?_; rw [← HW0.out])
      | (with_reducible refine wl_lookup (v := .tuple #[.agg rA, .bool true]) rfl rfl HM0.out Tryz.underlying59 Tryz.underlying22 hz0 HV.out ?_; simp only [Act.put, List.setIfInBounds_toArray, List.set_cons_succ, List.set_cons_zero])
      | (with_reducible refine wl_extract rfl rfl ?_)
      | (with_reducible refine wl_alloc_store hz0 (by simp [Act.put]) rfl rfl HIR.out eZ oR ?_)
      | (rw [hs0])
      | (with_reducible refine wl_load rfl GX.out Tryz.underlying69 rfl HIR.out ?_)
      | (with_reducible refine wl_store rfl rfl GY.out HIR.out eZ oR ?_))
    exact ret_cell_tmp rfl rfl rfl (setRow_heap _ _ _ _ _ _ GY.out) Tryz.underlying69 rfl HIR.out ⟨rfl, HA.out.below (below_setRow HB1.out (Nat.le_refl _) _), Keeps.of_below (below_setRow HB1.out (Nat.le_refl _) _)⟩
  | none =>
    have hv : (if (true : Bool) = true then Value.tuple #[(look lp s).getD (.agg zA), .bool (look lp s).isSome] else (look lp s).getD (.agg zA)) = .tuple #[.agg zA, .bool false] := by rw [hlk]; rfl
    have HV := hideIt hv
    clear hv
    have hTr : ∀ W, Below w.heap.size w W → TabAt T W S := fun W h => hA.below h
    have HTR := hideIt hTr
    have hrd := read_any T.db T.mb T.n T.G at_ hat
    have HRD := hideIt hrd
    have ibk := size41' hlA
    have obk := blkA_one (dblk T.G at_)
    have ebk : (blkA zb).size = (blkA (dblk T.G at_)).size := by rw [zbA_size, blkA_size, hlA]
    have hgp := fun W => hon W
    have GZ : Hid ((W0.alloc (.cells zA 69)).heap[w.heap.size]? = some (.cells zA 69 (0, 0))) := by show _ = _; rw [hget_past _ _ (by omega)]; exact G0.out
    have hb1 : Below w.heap.size w (W0.alloc (.cells zA 69)) := HB0.out.alloc (by omega) _
    have hA1 := hTr _ hb1
    have hrd1 := hrd _ hA1.dev
    have c0 : (W0.alloc (.cells zA 69)).cell? ⟨T.tb, 0, none⟩ = some (.pointer (some ⟨T.db, 0, none⟩)) := hA1.cell 0
    have HB1 := hideIt hb1
    have hs1 : (W0.alloc (.cells zA 69)).heap.size = w.heap.size + 2 := by simp; omega
    generalize hW1 : W0.alloc (.cells zA 69) = W1 at hrd1 c0 HB1 hs1 GZ
    have HW1 := hideIt hW1
    clear hA hW0 g0 hm0 hlp hlA hb0 hb1 hzA iR iZ hlk hTr hrd hA1 hW1 hon hlq
    generalize hbk : blkA (dblk T.G at_) = bk at hrd1 ibk obk ebk hgp
    rw [← hrA] at hgp
    have GB : ∀ W : World, Hid ((W.alloc (.cells bk 41)).heap[W.heap.size]? = some (.cells bk 41 (0, 0))) := fun W => hget_at _ _ rfl
    have GR : ∀ W : World, Hid ((W.alloc (.cells rA 69)).heap[W.heap.size]? = some (.cells rA 69 (0, 0))) := fun W => hget_at _ _ rfl
    have IBK := hideIt ibk
    clear hbk hrA ibk
    go_enter Tryz.func58, Tryz.ntmps58
    go_wp2_with (first
      | (with_reducible refine wl_alloc hz0 ?_; rw [← HW0.out])
      | (with_reducible refine wl_lookup (v := .tuple #[.agg zA, .bool false]) rfl rfl HM0.out Tryz.underlying59 Tryz.underlying22 hz0 HV.out ?_; simp only [Act.put, List.setIfInBounds_toArray, List.set_cons_succ, List.set_cons_zero])
      | (with_reducible refine wl_extract rfl rfl ?_)
      | (with_reducible refine wl_alloc_store hz0 (by simp [Act.put]) rfl rfl HIZ.out eZZ oZ ?_; rw [HW1.out])
      | (go_at_call 25; (with_reducible refine hrd1.mono ?_); rintro e W2 ⟨rfl, hb2⟩)
      | (with_reducible refine wl_alloc_store zero41 (by simp [Act.put]) rfl rfl IBK.out ebk obk ?_)
      | (with_reducible refine wl_load rfl (GB _).out Tryz.underlying41 rfl IBK.out ?_)
      | (go_at_call 59; (with_reducible refine (hgp _).mono ?_); rintro e W3 ⟨rfl, hb3⟩
         have hz2 := hb2.size
         have hz3 := hb3.size
         have hB3 : Below w.heap.size w W3 := (HB1.out.trans ((hb2.mono (by omega)).alloc (by omega) _)).trans (hb3.mono (by simp; omega))
         have hB4 : Below w.heap.size w (W3.alloc (.cells rA 69)) := hB3.alloc hB3.size _
         have gz4 : (W3.alloc (.cells rA 69)).heap[w.heap.size]? = some (.cells zA 69 (0, 0)) := by { rw [hget_past _ _ (by simp at hz3; omega), hb3.block _ (by simp; omega), hget_past _ _ (by omega), hb2.block _ (by omega)]; exact GZ.out }
         have hm4 := HLP.out.of_block (hB4.block _ hlt.2.2.2.2.1)
         obtain ⟨o5, hr5, hm5⟩ := run_put hm4 Tryz.underlying59 Tryz.underlying22 s (.agg rA)
         obtain ⟨W5, hW5⟩ : ∃ W, W = (W3.alloc (.cells rA 69)).putObj T.tm o5 := ⟨_, rfl⟩
         rw [← hW5] at hr5 hm5
         have e5 : ∀ k, k ≠ T.tm → W5.heap[k]? = (W3.alloc (.cells rA 69)).heap[k]? := fun k hk => by { rw [hW5, World.putObj_heap_other hk] }
         have gr5 : W5.heap[W3.heap.size]? = some (.cells rA 69 (0, 0)) := (e5 _ (by simp at hz3; omega)).trans (hget_at _ _ rfl)
         have gz5 : W5.heap[w.heap.size]? = some (.cells zA 69 (0, 0)) := (e5 _ (by omega)).trans gz4
         have K5 : Keeps (fun k => k = T.tm) w W5 := ⟨by { rw [hW5]; exact hB4.os }, by { rw [hW5]; exact hB4.tape }, by { rw [hW5]; exact hB4.output }, by { rw [hW5, World.putObj_size]; exact hB4.size }, fun k hk hF => (e5 k hF).trans (hB4.block k hk)⟩
         have A5 : TabAt T W5 S := by
           { have hA4 := HTR.out _ hB4
             have hdd := hA4.d1
             have hnn := hA4.ne
             refine ⟨(e5 _ (by omega)).trans hA4.row, hA4.dev.of_blocks (e5 _ (by omega)) (e5 _ (by omega)), ?_, ?_, hA4.ms.of_block (e5 _ (by omega)), hdd⟩
             · obtain ⟨l, hl, hq⟩ := hA4.mp; exact ⟨l, hl.of_block (e5 _ (by omega)), hq⟩
             · exact ⟨_, hm5, fun q hq => by { rcases put_mem q hq with h | rfl; exact HLQ.out q h; show Value.agg rA = _; rw [HRA.out, HCS.out] }⟩ }
         have HG5 := hideIt gr5
         have HZ5 := hideIt gz5
         have HR5 := hideIt hr5
         have HA5 := hideIt A5
         have HK5 := hideIt K5
         clear gz4 hB4 hr5 hm5 hm4 hB3 gr5 gz5 A5 K5 e5 hW5)
      | (with_reducible refine wl_alloc_store hz0 (by simp [Act.put]) rfl rfl HIR.out eZ oR ?_)
      | (with_reducible refine wl_load rfl (GR _).out Tryz.underlying69 rfl HIR.out ?_)
      | (with_reducible refine wl_load rfl HG5.out Tryz.underlying69 rfl HIR.out ?_)
      | (with_reducible refine wl_store rfl rfl HZ5.out HIR.out eZ oR ?_)
      | (with_reducible refine wl_mapUpdate (m := .map (some T.tm)) (k := .int .u32 s) (v := .agg rA) rfl rfl rfl HR5.out ?_))
    exact ret_cell_tmp rfl rfl rfl (setRow_heap _ _ _ _ _ _ HZ5.out) Tryz.underlying69 rfl HIR.out ⟨rfl, HA5.out.of_blocks (fun k hk => setRow_other _ _ _ _ (by rcases hk with rfl | rfl | rfl | rfl | rfl | rfl <;> omega)), HK5.out.setRow (.inl (Nat.le_refl _)) _⟩
end Go.Proofs.YtnibehcgnhdcgaaGreatDoor
/- A table's pick; where a tally stands; a tally. -/
namespace Go.Proofs.YtnibehcgnhdcgaaGreatDoor
open Go.RowKit

set_option maxRecDepth 100000 in
set_option maxHeartbeats 2000000 in
theorem tpick_any (T : Tab) (hT : TabOk T) (w : World) (S : List (Int × Int)) (hA : TabAt T w S) :
    Calls Tryz.prog 32 #[.pointer (some ⟨T.tb, 0, none⟩), .int .u32 0] w fun e w' => e = .returned (.tuple #[.agg (pickA 0 T.pk), .int .i64 0]) ∧ TabAt T w' S ∧ Keeps (fun k => k = T.pm) w w' := by
  have hpa := fun W h => tpickat_any T hT W S h
  have hpg := fun W h => pageP_any T W S h (2 + T.picks) 0 (by have := hT.p0; have := hT.p1; have := hT.n1; omega) T.pk hT.plen rfl hT.pick
  have hlt := hA.lt
  obtain ⟨zA, hzA⟩ : ∃ z, z = pickA 0 z16 := ⟨_, rfl⟩
  obtain ⟨rA, hrA⟩ : ∃ r, r = pickA 0 T.pk := ⟨_, rfl⟩
  have hz0 : ∀ w, (zeroValue 74).run Tryz.prog w = .ok (.agg zA) w := by rw [hzA]; exact zero74
  have iR : (Tryz.prog.info? 74).map (·.size) = some rA.size := by rw [hrA]; exact size74' 0 hT.plen
  have eZ : zA.size = 17 := by rw [hzA, pickA_size]; rfl
  have eR : rA.size = 17 := by rw [hrA, pickA_size, hT.plen]
  have oR : rA.all (·.oneCell') = true := by rw [hrA]; exact pickA_one _ _
  rw [← hrA] at hpg ⊢
  obtain ⟨W0, hW0⟩ : ∃ W, W = w.alloc (.cells zA 74) := ⟨_, rfl⟩
  have hb0 : Below w.heap.size w W0 := by rw [hW0]; exact (Below.refl _ _).alloc (Nat.le_refl _) _
  have g0 : W0.heap[w.heap.size]? = some (.cells zA 74 (0, 0)) := by rw [hW0, hget_at _ _ rfl]
  have S0 : TabAt T W0.drew S ∧ ∃ cs, cs.size = 17 ∧ W0.drew.heap[w.heap.size]? = some (.cells cs 74 (0, 0)) := ⟨(hA.below hb0).of_blocks (fun _ _ => rfl), zA, eZ, g0⟩
  have cM : ∀ w' : World, (TabAt T w' S ∧ ∃ cs, cs.size = 17 ∧ w'.heap[w.heap.size]? = some (.cells cs 74 (0, 0))) → w'.cell? ⟨T.tb, 12, none⟩ = some (.map (some T.pm)) := fun w' h => h.1.cell 12
  have K0 : Keeps (fun k => k = T.pm) w W0.drew := (Keeps.of_below hb0).drew
  have hz1 : w.heap.size < W0.drew.heap.size := (Array.getElem?_eq_some_iff.1 g0).1
  have HS0 := hideIt S0
  have CM := hideIt cM
  have HW0 := hideIt hW0
  have HK0 := hideIt K0
  clear hA hT hW0 hb0 g0 S0 cM K0 hzA hrA
  go_enter Tryz.func32, Tryz.ntmps32
  go_wp2_with (first
    | (with_reducible refine wl_alloc hz0 ?_; rw [← HW0.out]))
  refine wp_region_held (S := (fun w' : World => TabAt T w' S ∧ ∃ cs, cs.size = 17 ∧ w'.heap[w.heap.size]? = some (.cells cs 74 (0, 0)))) (by kernel_rfl) ?_
  change wpAnyH _ _ _ _ _ _ _ _ (World.drew _)
  try simp only [Act.put, List.setIfInBounds_toArray, List.set_cons_succ, List.set_cons_zero]
  have hS := HS0.out
  refine takeH 0 (v := ?_) rfl rfl (by kernel_rfl) (by kernel_rfl) (by kernel_rfl) (fun _ _ _ h => h) hS (yieldsIf_run rfl ?_) ?_
  rotate_left
  focus (intro w hSw; go_simp; try with_reducible rfl)
  simp only [List.setIfInBounds_toArray, List.set_cons_succ, List.set_cons_zero]
  refine takeH 1 (v := ?_) rfl rfl (by kernel_rfl) (by kernel_rfl) (by kernel_rfl) (fun _ _ _ h => h) hS (yieldsIf_run rfl ?_) ?_
  rotate_left
  focus (intro w hSw; go_simp; try with_reducible rfl)
  simp only [List.setIfInBounds_toArray, List.set_cons_succ, List.set_cons_zero]
  refine takeH 2 (v := ?_) rfl rfl (by kernel_rfl) (by kernel_rfl) (by kernel_rfl) (fun _ _ _ h => h) hS (yieldsIf_run rfl ?_) ?_
  rotate_left
  focus (intro w hSw; go_simp; try with_reducible rfl)
  simp only [List.setIfInBounds_toArray, List.set_cons_succ, List.set_cons_zero]
  refine takeH 3 (v := ?_) rfl rfl (by kernel_rfl) (by kernel_rfl) (by kernel_rfl) (fun _ _ _ h => h) hS (yieldsIf_run rfl ?_) ?_
  rotate_left
  focus (intro w hSw; go_simp; try with_reducible rfl)
  simp only [List.setIfInBounds_toArray, List.set_cons_succ, List.set_cons_zero]
  refine takeH 4 (v := ?_) rfl rfl (by kernel_rfl) (by kernel_rfl) (by kernel_rfl) (fun _ _ _ h => h) hS (yieldsIf_run rfl ?_) ?_
  rotate_left
  focus (intro w hSw; have hcU := CM.out w hSw; clear hSw; go_simp; try with_reducible rfl)
  simp only [List.setIfInBounds_toArray, List.set_cons_succ, List.set_cons_zero]
  refine takeH 5 (v := ?_) rfl rfl (by kernel_rfl) (by kernel_rfl) (by kernel_rfl) (fun _ _ _ h => h) hS (yieldsIf_run rfl ?_) ?_
  rotate_left
  focus (intro w hSw; go_simp; try with_reducible rfl)
  simp only [List.setIfInBounds_toArray, List.set_cons_succ, List.set_cons_zero]
  refine takeH 6 (v := ?_) rfl rfl (by kernel_rfl) (by kernel_rfl) (by kernel_rfl) (fun _ _ _ h => h) hS (yieldsIf_run rfl ?_) ?_
  rotate_left
  focus (intro w hSw; go_simp; try with_reducible rfl)
  simp only [List.setIfInBounds_toArray, List.set_cons_succ, List.set_cons_zero]
  refine takeH 8 (v := ?_) rfl rfl (by kernel_rfl) (by kernel_rfl) (by kernel_rfl) (fun _ _ _ h => h) hS (yieldsIf_run rfl ?_) ?_
  rotate_left
  focus (intro w hSw; go_simp; try with_reducible rfl)
  simp only [List.setIfInBounds_toArray, List.set_cons_succ, List.set_cons_zero]
  clear hS
  refine anyH_step (i := 7) (by kernel_rfl) rfl rfl (fun K hK => ?_)
  go_simp
  go_at_call 38
  refine (hpa _ HS0.out.1).mono ?_
  rintro e w' ⟨rfl, rfl⟩
  refine hK _ _ (HS0.out) ?_
  clear hK K
  try simp only [Act.put, List.setIfInBounds_toArray, List.set_cons_succ, List.set_cons_zero]
  refine anyH_step (i := 9) (by kernel_rfl) rfl rfl (fun K hK => ?_)
  go_simp
  go_at_call 62
  refine (hpg _ HS0.out.1).mono ?_
  rintro e W1 ⟨rfl, hA1, hk1⟩
  have hS : TabAt T W1 S ∧ ∃ cs, cs.size = 17 ∧ W1.heap[w.heap.size]? = some (.cells cs 74 (0, 0)) := by
    refine ⟨hA1, ?_⟩
    obtain ⟨cs, h1, h2⟩ := HS0.out.2
    exact ⟨cs, h1, (hk1.block _ hz1 (by omega)).trans h2⟩
  have HS := hideIt hS
  have HK1 := hideIt hk1
  clear hk1 hA1
  refine hK _ _ (HS.out) ?_
  clear hK K
  try simp only [Act.put, List.setIfInBounds_toArray, List.set_cons_succ, List.set_cons_zero]
  refine takeH 10 (v := ?_) rfl rfl (by kernel_rfl) (by kernel_rfl) (by kernel_rfl) (fun _ _ _ h => h) hS (yieldsIf_run rfl ?_) ?_
  rotate_left
  focus (intro w hSw; go_simp; try with_reducible rfl)
  simp only [List.setIfInBounds_toArray, List.set_cons_succ, List.set_cons_zero]
  refine takeH 11 (v := ?_) rfl rfl (by kernel_rfl) (by kernel_rfl) (by kernel_rfl) (fun _ _ _ h => h) hS (yieldsIf_run rfl ?_) ?_
  rotate_left
  focus (intro w hSw; go_simp; try with_reducible rfl)
  simp only [List.setIfInBounds_toArray, List.set_cons_succ, List.set_cons_zero]
  obtain ⟨cs, hcs, hg⟩ := HS.out.2
  have hS2 : TabAt T (W1.setRow w.heap.size rA) S ∧ ∃ cs, cs.size = 17 ∧ (W1.setRow w.heap.size rA).heap[w.heap.size]? = some (.cells cs 74 (0, 0)) :=
    ⟨HS.out.1.of_blocks (fun k hk => setRow_other _ _ _ _ (by rcases hk with rfl | rfl | rfl | rfl | rfl | rfl <;> omega)), rA, eR, setRow_heap _ _ _ _ _ _ hg⟩
  clear hS
  refine anyH_step (i := 12) (by kernel_rfl) rfl rfl (fun K hK => ?_)
  refine wp_store_row _ _ _ rfl w.heap.size rA rfl rfl _ cs hg iR (hcs.trans eR.symm) oR ?_
  have hS := hS2
  refine hK _ _ (hS2) ?_
  clear hK K
  try simp only [Act.put, List.setIfInBounds_toArray, List.set_cons_succ, List.set_cons_zero]
  refine takeH 13 (v := ?_) rfl rfl (by kernel_rfl) (by kernel_rfl) (by kernel_rfl) (fun _ _ _ h => h) hS (yieldsIf_run rfl ?_) ?_
  rotate_left
  focus (intro w hSw; go_simp; try with_reducible rfl)
  simp only [List.setIfInBounds_toArray, List.set_cons_succ, List.set_cons_zero]
  refine wpAnyH_done (by kernel_rfl) ?_ _
  go_wp2_with fail
  exact ret_cell_tmp rfl rfl rfl (setRow_heap _ _ _ _ _ _ hg) Tryz.underlying74 rfl iR ⟨rfl, hS2.1, (HK0.out.trans HK1.out).setRow (.inl (Nat.le_refl _)) _⟩
end Go.Proofs.YtnibehcgnhdcgaaGreatDoor
