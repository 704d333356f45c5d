/- Pages that are got: picks that were put. (Printed by gen_getg.py.) -/
import Derived.Test.YtnibehcgnhdcgaaGreatDoorM41
namespace Go.Proofs.YtnibehcgnhdcgaaGreatDoor
open Go.RowKit

theorem cell_of_pick {W : World} {tb j : Nat} {idx : Int} {cs : List Int} {t : TypeId} {fr : Nat × Nat} (h : W.heap[tb]? = some (.cells (pickA idx cs) t fr)) (hj : j < cs.length) : ∃ u, W.cell? ⟨tb, 1 + j, none⟩ = some (.int .u64 u) :=
  ⟨cs[j], by rw [cell_of_row _ _ _ _ _ _ h, pickA_succ, List.getElem?_eq_getElem hj]; rfl⟩
/-- What holds before each number of a pick. -/
structure GetP (w : World) (rb bb tb : Nat) (b : List UInt8) (idx : Int) (cs : List Int) (j : Nat) (wr : World) : Prop where
  rd : Rd wr rb bb b ((5 + 8 * j : Nat) : Int)
  row : wr.heap[tb]? = some (.cells (pickA idx (upTo cs j)) 74 (0, 0))
  keeps : Keeps (fun k => k = tb) w wr

set_option maxRecDepth 100000 in
set_option maxHeartbeats 4000000 in
theorem get64_any (m : UInt8) (hm : m ≠ 0) (idx en : Int) (hi0 : 0 ≤ idx) (hi1 : idx < en) (hen : en < 4294967296) (cs : List Int) (hlen : cs.length = 16) (hcs : ∀ x ∈ cs, 0 ≤ x ∧ x < 18446744073709551616) (tb : Nat) (w : World)
    (ht : w.heap[tb]? = some (.cells (pickA idx z16) 74 (0, 0))) :
    Calls Tryz.prog 83 #[.agg (blkA (putB m idx 8 cs)), .int .u8 m.toNat, .int .u32 idx, .int .u32 en, .slice (some ⟨tb, 1, none⟩) 16 16, .int .i64 8] w
      fun e w' => e = .returned (.int .i64 0) ∧ w'.heap[tb]? = some (.cells (pickA idx cs) 74 (0, 0)) ∧ Keeps (fun k => k = tb) w w' := by
  have hk : 4 + 8 * cs.length ≤ 251 := by omega
  have hrow := fun j n hj => putB_row m idx 8 cs hk (j := j) (n := n) hj
  have htail := fun j h1 h2 => putB_tail m idx 8 cs hk (j := j) h1 h2
  have hidx := putB_idx m idx 8 cs
  have hfirst := putB_first m idx 8 cs
  have hgood := putB_good m idx 8 cs hk
  have hb := putB_len m idx 8 cs hk
  have hne := putB_ne m idx 8 cs hm
  generalize putB m idx 8 cs = b at hrow htail hidx hfirst hgood hb hne ⊢
  obtain ⟨W1, hW1⟩ : ∃ W, W = w.alloc (.cells (blkA b) 41) := ⟨_, rfl⟩
  have g1 : W1.heap[w.heap.size]? = some (.cells (blkA b) 41 (0, 0)) := by rw [hW1, hget_at _ _ rfl]
  have hB1 : Below w.heap.size w W1 := by rw [hW1]; exact (Below.refl _ w).alloc (Nat.le_refl _) _
  have hs1 : W1.heap.size = w.heap.size + 1 := by rw [hW1]; simp
  have hz := zero_any b hb W1
  rw [hne] at hz
  have htl : tb < w.heap.size := (Array.getElem?_eq_some_iff.1 ht).1
  have iB := size41' hb
  have HW1 := hideIt hW1
  have G1 := hideIt g1
  have HB1 := hideIt hB1
  have HT := hideIt ht
  have HROW := hideIt hrow
  have HTAIL := hideIt htail
  have HIDX := hideIt hidx
  have HB := hideIt hb
  have HFST := hideIt hfirst
  have HGOOD := hideIt hgood
  clear hW1 g1 hB1 hrow htail hidx hb hne ht hfirst hgood hs1
  have hge : ¬ en ≤ idx := by omega
  go_enter Tryz.func83, Tryz.ntmps83
  go_upto_region 3 with fail
  rw [← HW1.out]
  go_upto_region 5 with (first
    | (with_reducible refine wl_load rfl G1.out Tryz.underlying41 rfl iB ?_)
    | (go_at_call 26; (with_reducible refine hz.mono ?_); rintro e W2 ⟨rfl, hb2⟩))
  have hlt1 : w.heap.size < W1.heap.size := (Array.getElem?_eq_some_iff.1 G1.out).1
  have g2 := (hb2.block _ hlt1).trans G1.out
  have hB2 := HB1.out.trans (hb2.mono HB1.out.size)
  have ho := ropen_any b HB.out HGOOD.out m HFST.out W2
  have G2 := hideIt g2
  have HB2 := hideIt hB2
  clear hz hb2 g2 hB2 HW1 G1 HB1 hlt1
  go_upto_region 6 with (first
    | (with_reducible refine wl_load rfl G2.out Tryz.underlying41 rfl iB ?_)
    | (go_at_call 93; (with_reducible refine ho.mono ?_); rintro e W3 ⟨rb, bb, rfl, hR3, hb3, l1, l2⟩))
  have hB3 := HB2.out.trans (hb3.mono HB2.out.size)
  have hs2 := HB2.out.size
  have htb : tb ≠ rb := by omega
  have hnum := rdnum4_any rb bb 1 b HB.out (by omega) W3 hR3
  rw [HIDX.out, leV_leB 4 idx hi0 (by omega)] at hnum
  have HB3 := hideIt hB3
  clear ho hb3 hB3 hR3 iB G2 HB2
  go_upto_region 7 with (first
    | (go_at_call 94; (with_reducible refine hnum.mono ?_); rintro e W4 ⟨rfl, hR4, hk4⟩))
  have hs3 := HB3.out.size
  have hB4 : Below w.heap.size w W4 := HB3.out.trans (hk4.below hs3 (by intro k hk; omega))
  have hG0 : GetP w rb bb tb b idx cs 0 W4 := by
    refine ⟨hR4, ?_, Keeps.of_below hB4⟩
    rw [hB4.block tb htl, upTo_zero, hlen]
    exact HT.out
  have HG0 := hideIt hG0
  clear hnum hR4 hk4 hB4 hG0
  go_wp2
  go_loopw [34] (fun v wr => ∃ j : Nat, v = .int .i64 j ∧ j ≤ 16 ∧ GetP w rb bb tb b idx cs j wr) (fun v _ => 16 - (intOf v).toNat)
  case atStart => exact ⟨0, rfl, by omega, HG0.out⟩
  case round =>
    obtain ⟨j, rfl, hj, hG⟩ := hrel
    by_cases hj16 : j < 16
    · have hj' : (j : Int) < 16 := by omega
      obtain ⟨x, hx⟩ : ∃ x, cs[j]? = some x := ⟨cs[j], List.getElem?_eq_getElem (by omega)⟩
      have hxr := hcs x (List.mem_of_getElem? hx)
      have hn2 := rdnum8_any rb bb (5 + 8 * j) b HB.out (by omega) wr hG.rd
      rw [HROW.out j x hx, leV_leB 8 x hxr.1 (by simp; omega)] at hn2
      obtain ⟨hx0, hx1⟩ := hxr
      have HG := hideIt hG
      have HX := hideIt hx
      clear hG hx
      go_upto_region 10 with fail
      go_wp2_with (first
        | (go_at_call 94; (with_reducible refine hn2.mono ?_); rintro e W5 ⟨rfl, hR5, hk5⟩; have g5 := (hk5.block tb (Array.getElem?_eq_some_iff.1 HG.out.row).1 htb).trans HG.out.row; obtain ⟨u5, cn⟩ := cell_of_pick g5 (show j < (upTo cs j).length by rw [upTo_len _ (by omega)]; omega); have fn := frozen_of_row g5 (1 + j); have G5 := hideIt g5; clear g5))
      obtain ⟨W6, hW6⟩ : ∃ W, W = W5.setCell ⟨tb, 1 + j, none⟩ (.int .u64 x) := ⟨_, rfl⟩
      have hG6 : GetP w rb bb tb b idx cs (j + 1) W6 := by
        have hbt : bb ≠ tb := by omega
        refine ⟨?_, ?_, ?_⟩
        · have e : 5 + 8 * (j + 1) = 5 + 8 * j + 8 := by omega
          rw [e, hW6]
          exact hR5.of_blocks (hget_setCell_other _ _ _ (by show rb ≠ tb; omega)) (hget_setCell_other _ _ _ (by show bb ≠ tb; omega))
        · rw [hW6, hget_setCell_same _ _ _ _ _ G5.out, pickA_set, upTo_set HX.out]
        · rw [hW6]
          have h5 : Keeps (fun k => k = tb) w W5 := HG.out.keeps.trans' hk5 (by omega)
          exact h5.setCell (Or.inr rfl) _
      rw [← hW6]
      go_roundw
      case rel => exact ⟨j + 1, by go_num, by omega, hG6⟩
      case measure => simp [intOf]; omega
    · obtain rfl : j = 16 := by omega
      have hE := rdend_any rb bb 133 b (by omega) wr hG.rd (fun i h1 h2 => HTAIL.out i (by omega) h2)
      have hrow := hG.row
      rw [← hlen, upTo_all] at hrow
      have hkw := hG.keeps
      have HROW2 := hideIt hrow
      have HKW := hideIt hkw
      clear hG hrow hkw
      go_wp2_with (first
        | (go_at_call 95; (with_reducible refine hE.mono ?_); rintro e W7 ⟨rfl, nd, rfl⟩))
      go_ret
      exact ⟨rfl, HROW2.out, HKW.out.drewN nd⟩
end Go.Proofs.YtnibehcgnhdcgaaGreatDoor
/- Get and GetPick of pages that were put. (Printed by gen_getg.py.) -/
namespace Go.Proofs.YtnibehcgnhdcgaaGreatDoor
open Go.RowKit

set_option maxRecDepth 100000 in
set_option maxHeartbeats 1000000 in
theorem tget_put (idx : Int) (hi0 : 0 ≤ idx) (hi1 : idx < 16384) (cs : List Int) (hlen : cs.length = 64) (hcs : ∀ x ∈ cs, 0 ≤ x ∧ x < 65536) (w : World) :
    Calls Tryz.prog 59 #[.agg (blkA (putB 84 idx 2 cs)), .int .u32 idx] w
      fun e w' => e = .returned (.tuple #[.agg (tallyA idx cs), .int .i64 0]) ∧ Below w.heap.size w w' := by
  have hbl := putB_len 84 idx 2 cs (by omega)
  obtain ⟨b, hbe⟩ : ∃ b, b = putB 84 idx 2 cs := ⟨_, rfl⟩
  rw [← hbe] at hbl ⊢
  obtain ⟨W1, hW1⟩ : ∃ W, W = ((w.alloc (.cells (blkA b) 41)).alloc (.cells (tallyA 0 z64) 69)).alloc (.cells (Tryz.zeroCells69.setIfInBounds 0 (.int .u32 idx)) 69) := ⟨_, rfl⟩
  have tA : Tryz.zeroCells69.setIfInBounds 0 (.int .u32 idx) = tallyA idx z64 := rfl
  have g0 : W1.heap[w.heap.size]? = some (.cells (blkA b) 41 (0, 0)) := by rw [hW1, hget_past _ _ (by simp; omega), hget_past _ _ (by simp), hget_at _ _ rfl]
  have g1 : W1.heap[w.heap.size + 1]? = some (.cells (tallyA 0 z64) 69 (0, 0)) := by rw [hW1, hget_past _ _ (by simp), hget_at _ _ (by simp)]
  have g2 : W1.heap[w.heap.size + 2]? = some (.cells (tallyA idx z64) 69 (0, 0)) := by rw [hW1, hget_at _ _ (by simp), tA]
  have hs1 : w.heap.size + 3 = W1.heap.size := by rw [hW1]; simp
  have hB1 : Below w.heap.size w W1 := by rw [hW1]; exact (((Below.refl _ w).alloc (Nat.le_refl _) _).alloc (by simp) _).alloc (by simp; omega) _
  have hget := get16_any 84 (by decide) idx 16384 hi0 hi1 (by omega) cs hlen hcs (w.heap.size + 2) W1.drew g2
  rw [← hbe] at hget
  have i2 : (Tryz.prog.info? 69).map (·.size) = some (Tryz.zeroCells69.setIfInBounds 0 (.int .u32 idx)).size := by rw [tA]; exact size69' idx rfl
  have e2 : (tallyA 0 z64).size = (Tryz.zeroCells69.setIfInBounds 0 (.int .u32 idx)).size := rfl
  have h12 : (Tryz.zeroCells69.setIfInBounds 0 (.int .u32 idx)).all (·.oneCell') = true := by rw [tA]; exact tallyA_one _ _
  have HW1 := hideIt hW1
  have G0 := hideIt g0
  have G1 := hideIt g1
  have G2 := hideIt g2
  have HS1 := hideIt hs1
  clear hW1 g0 g1 g2 hs1 tA hbe
  go_enter Tryz.func59, Tryz.ntmps59
  go_wp2_with (first
    | (with_reducible refine wl_alloc zero41 ?_)
    | (with_reducible refine wl_alloc_store zero69 (by simp) rfl rfl i2 e2 h12 ?_)
    | (with_reducible refine wl_alloc zero69 ?_))
  rw [← HW1.out]
  go_simp
  clear i2 e2 h12
  have iB := size41' hbl
  refine wp_region_any (by kernel_rfl) ?_
  change wpAny _ _ _ _ _ _ _ (World.drew _)
  refine wpAny_take (i := 1) (v := ?v1) rfl (by kernel_rfl) (by kernel_rfl) (by kernel_rfl) (fun _ _ _ h => h) (Or.inl ⟨by rfl, ?y1⟩) ?_
  case y1 => (intro w; go_simp; try with_reducible rfl)
  refine wpAny_take (i := 2) (v := ?v2) rfl (by kernel_rfl) (by kernel_rfl) (by kernel_rfl) (fun _ _ _ h => h) (Or.inl ⟨by rfl, ?y2⟩) ?_
  case y2 => (intro w; go_simp; try with_reducible rfl)
  refine wpAny_take (i := 3) (v := ?v3) rfl (by kernel_rfl) (by kernel_rfl) (by kernel_rfl) (fun _ _ _ h => h) (Or.inl ⟨by rfl, ?y3⟩) ?_
  case y3 => (intro w; go_simp; try with_reducible rfl)
  refine any_step (i := 0) (by kernel_rfl) rfl rfl (fun K hK => ?_)
  refine wp_load_row _ _ rfl w.heap.size rfl _ _ _ _ G0.out Tryz.underlying41 rfl iB ?_
  refine hK _ _ ?_
  clear hK K
  refine any_step (i := 4) (by kernel_rfl) rfl rfl (fun K hK => ?_)
  go_simp
  go_at_call 82
  refine hget.mono ?_
  rintro e W2 ⟨rfl, k2, hk2⟩
  have k1 := (hk2.block (w.heap.size + 1) (by show _ < W1.heap.size; have := HS1.out; omega) (by omega)).trans G1.out
  have K1 := hideIt k1
  have K2 := hideIt k2
  clear k1 k2
  refine hK _ _ ?_
  clear hK K
  refine wpAny_take (i := 5) (v := ?v5) rfl (by kernel_rfl) (by kernel_rfl) (by kernel_rfl) (fun _ _ _ h => h) (Or.inl ⟨by rfl, ?y5⟩) ?_
  case y5 => (intro w; go_simp; try with_reducible rfl)
  refine wpAny_done (by kernel_rfl) ?_ _
  have i3 := size69' idx (cs := cs) hlen
  have e3 : (tallyA 0 z64).size = (tallyA idx cs).size := by rw [tallyA_size, tallyA_size, hlen]; rfl
  have h13 := tallyA_one idx cs
  go_wp2_with (first
    | (with_reducible refine wl_load rfl K2.out Tryz.underlying69 rfl i3 ?_)
    | (with_reducible refine wl_store rfl rfl K1.out i3 e3 h13 ?_))
  exact ret_cell_tmp rfl rfl rfl (setRow_heap W2 _ _ _ _ _ K1.out) Tryz.underlying69 rfl i3 ⟨rfl, below_setRow (hB1.drew.trans (hk2.below (B := w.heap.size) (by show w.heap.size ≤ W1.heap.size; have := HS1.out; omega) (by intro k hk; omega))) (by omega) _⟩
set_option maxRecDepth 100000 in
set_option maxHeartbeats 1000000 in
theorem pget_put (idx : Int) (hi0 : 0 ≤ idx) (hi1 : idx < 16) (cs : List Int) (hlen : cs.length = 16) (hcs : ∀ x ∈ cs, 0 ≤ x ∧ x < 18446744073709551616) (w : World) :
    Calls Tryz.prog 63 #[.agg (blkA (putB 80 idx 8 cs)), .int .u32 idx] w
      fun e w' => e = .returned (.tuple #[.agg (pickA idx cs), .int .i64 0]) ∧ Below w.heap.size w w' := by
  have hbl := putB_len 80 idx 8 cs (by omega)
  obtain ⟨b, hbe⟩ : ∃ b, b = putB 80 idx 8 cs := ⟨_, rfl⟩
  rw [← hbe] at hbl ⊢
  obtain ⟨W1, hW1⟩ : ∃ W, W = ((w.alloc (.cells (blkA b) 41)).alloc (.cells (pickA 0 z16) 74)).alloc (.cells ((#[.int .u32 idx, .int .u64 0, .int .u64 0, .int .u64 0, .int .u64 0, .int .u64 0, .int .u64 0, .int .u64 0, .int .u64 0, .int .u64 0, .int .u64 0, .int .u64 0, .int .u64 0, .int .u64 0, .int .u64 0, .int .u64 0, .int .u64 0] : Array Value)) 74) := ⟨_, rfl⟩
  have tA : (#[.int .u32 idx, .int .u64 0, .int .u64 0, .int .u64 0, .int .u64 0, .int .u64 0, .int .u64 0, .int .u64 0, .int .u64 0, .int .u64 0, .int .u64 0, .int .u64 0, .int .u64 0, .int .u64 0, .int .u64 0, .int .u64 0, .int .u64 0] : Array Value) = pickA idx z16 := rfl
  have g0 : W1.heap[w.heap.size]? = some (.cells (blkA b) 41 (0, 0)) := by rw [hW1, hget_past _ _ (by simp; omega), hget_past _ _ (by simp), hget_at _ _ rfl]
  have g1 : W1.heap[w.heap.size + 1]? = some (.cells (pickA 0 z16) 74 (0, 0)) := by rw [hW1, hget_past _ _ (by simp), hget_at _ _ (by simp)]
  have g2 : W1.heap[w.heap.size + 2]? = some (.cells (pickA idx z16) 74 (0, 0)) := by rw [hW1, hget_at _ _ (by simp), tA]
  have hs1 : w.heap.size + 3 = W1.heap.size := by rw [hW1]; simp
  have hB1 : Below w.heap.size w W1 := by rw [hW1]; exact (((Below.refl _ w).alloc (Nat.le_refl _) _).alloc (by simp) _).alloc (by simp; omega) _
  have hget := get64_any 80 (by decide) idx 16 hi0 hi1 (by omega) cs hlen hcs (w.heap.size + 2) W1.drew g2
  rw [← hbe] at hget
  have i2 : (Tryz.prog.info? 74).map (·.size) = some ((#[.int .u32 idx, .int .u64 0, .int .u64 0, .int .u64 0, .int .u64 0, .int .u64 0, .int .u64 0, .int .u64 0, .int .u64 0, .int .u64 0, .int .u64 0, .int .u64 0, .int .u64 0, .int .u64 0, .int .u64 0, .int .u64 0, .int .u64 0] : Array Value)).size := by rw [tA]; exact size74' idx rfl
  have e2 : (pickA 0 z16).size = ((#[.int .u32 idx, .int .u64 0, .int .u64 0, .int .u64 0, .int .u64 0, .int .u64 0, .int .u64 0, .int .u64 0, .int .u64 0, .int .u64 0, .int .u64 0, .int .u64 0, .int .u64 0, .int .u64 0, .int .u64 0, .int .u64 0, .int .u64 0] : Array Value)).size := rfl
  have h12 : ((#[.int .u32 idx, .int .u64 0, .int .u64 0, .int .u64 0, .int .u64 0, .int .u64 0, .int .u64 0, .int .u64 0, .int .u64 0, .int .u64 0, .int .u64 0, .int .u64 0, .int .u64 0, .int .u64 0, .int .u64 0, .int .u64 0, .int .u64 0] : Array Value)).all (·.oneCell') = true := by rw [tA]; exact pickA_one _ _
  have HW1 := hideIt hW1
  have G0 := hideIt g0
  have G1 := hideIt g1
  have G2 := hideIt g2
  have HS1 := hideIt hs1
  clear hW1 g0 g1 g2 hs1 tA hbe
  go_enter Tryz.func63, Tryz.ntmps63
  go_wp2_with (first
    | (with_reducible refine wl_alloc zero41 ?_)
    | (with_reducible refine wl_alloc_store zero74 (by simp) rfl rfl i2 e2 h12 ?_)
    | (with_reducible refine wl_alloc zero74 ?_))
  rw [← HW1.out]
  go_simp
  clear i2 e2 h12
  have iB := size41' hbl
  refine wp_region_any (by kernel_rfl) ?_
  change wpAny _ _ _ _ _ _ _ (World.drew _)
  refine wpAny_take (i := 1) (v := ?v1) rfl (by kernel_rfl) (by kernel_rfl) (by kernel_rfl) (fun _ _ _ h => h) (Or.inl ⟨by rfl, ?y1⟩) ?_
  case y1 => (intro w; go_simp; try with_reducible rfl)
  refine wpAny_take (i := 2) (v := ?v2) rfl (by kernel_rfl) (by kernel_rfl) (by kernel_rfl) (fun _ _ _ h => h) (Or.inl ⟨by rfl, ?y2⟩) ?_
  case y2 => (intro w; go_simp; try with_reducible rfl)
  refine wpAny_take (i := 3) (v := ?v3) rfl (by kernel_rfl) (by kernel_rfl) (by kernel_rfl) (fun _ _ _ h => h) (Or.inl ⟨by rfl, ?y3⟩) ?_
  case y3 => (intro w; go_simp; try with_reducible rfl)
  refine any_step (i := 0) (by kernel_rfl) rfl rfl (fun K hK => ?_)
  refine wp_load_row _ _ rfl w.heap.size rfl _ _ _ _ G0.out Tryz.underlying41 rfl iB ?_
  refine hK _ _ ?_
  clear hK K
  refine any_step (i := 4) (by kernel_rfl) rfl rfl (fun K hK => ?_)
  go_simp
  go_at_call 83
  refine hget.mono ?_
  rintro e W2 ⟨rfl, k2, hk2⟩
  have k1 := (hk2.block (w.heap.size + 1) (by show _ < W1.heap.size; have := HS1.out; omega) (by omega)).trans G1.out
  have K1 := hideIt k1
  have K2 := hideIt k2
  clear k1 k2
  refine hK _ _ ?_
  clear hK K
  refine wpAny_take (i := 5) (v := ?v5) rfl (by kernel_rfl) (by kernel_rfl) (by kernel_rfl) (fun _ _ _ h => h) (Or.inl ⟨by rfl, ?y5⟩) ?_
  case y5 => (intro w; go_simp; try with_reducible rfl)
  refine wpAny_done (by kernel_rfl) ?_ _
  have i3 := size74' idx (cs := cs) hlen
  have e3 : (pickA 0 z16).size = (pickA idx cs).size := by rw [pickA_size, pickA_size, hlen]; rfl
  have h13 := pickA_one idx cs
  go_wp2_with (first
    | (with_reducible refine wl_load rfl K2.out Tryz.underlying74 rfl i3 ?_)
    | (with_reducible refine wl_store rfl rfl K1.out i3 e3 h13 ?_))
  exact ret_cell_tmp rfl rfl rfl (setRow_heap W2 _ _ _ _ _ K1.out) Tryz.underlying74 rfl i3 ⟨rfl, below_setRow (hB1.drew.trans (hk2.below (B := w.heap.size) (by show w.heap.size ≤ W1.heap.size; have := HS1.out; omega) (by intro k hk; omega))) (by omega) _⟩
end Go.Proofs.YtnibehcgnhdcgaaGreatDoor
