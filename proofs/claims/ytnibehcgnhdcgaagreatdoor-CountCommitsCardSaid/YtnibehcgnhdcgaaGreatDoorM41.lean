/- Pages that are got: pages that were put. -/
import Derived.Test.YtnibehcgnhdcgaaGreatDoorM40
import Derived.Test.YtnibehcgnhdcgaaGreatDoorM3
import Derived.Test.YtnibehcgnhdcgaaGreatDoorM4
namespace Go.Proofs.YtnibehcgnhdcgaaGreatDoor
open Go.RowKit

theorem tallyA_set' (idx : Int) (cs : List Int) (j : Nat) (x : Int) : (tallyA idx cs).setIfInBounds (1 + j) (.int .u16 x) = tallyA idx (cs.set j x) := by
  simp only [tallyA, List.setIfInBounds_toArray, Nat.add_comm 1 j, List.set_cons_succ, List.map_set]
/-- The first ones are there; the others are zeros. -/
def upTo (cs : List Int) (j : Nat) : List Int := cs.take j ++ List.replicate (cs.length - j) 0
theorem upTo_zero (cs : List Int) : upTo cs 0 = List.replicate cs.length 0 := by simp [upTo]
theorem upTo_all (cs : List Int) : upTo cs cs.length = cs := by simp [upTo]
theorem upTo_set {cs : List Int} {j : Nat} {x : Int} (h : cs[j]? = some x) : (upTo cs j).set j x = upTo cs (j + 1) := by
  obtain ⟨hj, e⟩ := List.getElem?_eq_some_iff.1 h
  unfold upTo
  rw [List.set_append_right _ _ (by simp; omega)]
  have hl : (cs.take j).length = j := by simp; omega
  rw [hl, Nat.sub_self, show cs.length - j = (cs.length - (j + 1)) + 1 by omega, List.replicate_succ, List.set_cons_zero, List.take_add_one, h, Option.toList_some, List.append_assoc]
  rfl

theorem upTo_len (cs : List Int) {j : Nat} (h : j ≤ cs.length) : (upTo cs j).length = cs.length := by simp [upTo]; omega
theorem cell_of_tally {W : World} {tb j : Nat} {idx : Int} {cs : List Int} {t : TypeId} {fr : Nat × Nat} (h : W.heap[tb]? = some (.cells (tallyA idx cs) t fr)) (hj : j < cs.length) : ∃ u, W.cell? ⟨tb, 1 + j, none⟩ = some (.int .u16 u) :=
  ⟨cs[j], by rw [cell_of_row _ _ _ _ _ _ h, tallyA_succ, List.getElem?_eq_getElem hj]; rfl⟩
theorem frozen_of_row {W : World} {tb : Nat} {cs : Array Value} {t : TypeId} (h : W.heap[tb]? = some (.cells cs t (0, 0))) (i : Nat) : W.frozen? ⟨tb, i, none⟩ = false := by
  unfold World.frozen?; rw [h]; rfl
theorem Keeps.trans' {F : Nat → Prop} {a b c : World} {rb : Nat} (h : Keeps F a b) (k : Keeps (fun k => k = rb) b c) (hr : a.heap.size ≤ rb) : Keeps F a c :=
  ⟨k.os.trans h.os, k.tape.trans h.tape, k.output.trans h.output, Nat.le_trans h.size k.size, fun i hi hF => (k.block i (Nat.lt_of_lt_of_le hi h.size) (by omega)).trans (h.block i hi hF)⟩
/-- What holds before each number of a tally. -/
structure GetT (w : World) (rb bb tb : Nat) (b : List UInt8) (idx : Int) (cs : List Int) (j : Nat) (wr : World) : Prop where
  rd : Rd wr rb bb b ((5 + 2 * j : Nat) : Int)
  row : wr.heap[tb]? = some (.cells (tallyA idx (upTo cs j)) 69 (0, 0))
  keeps : Keeps (fun k => k = tb) w wr

set_option maxRecDepth 100000 in
set_option maxHeartbeats 4000000 in
theorem get16_any (m : UInt8) (hm : m ≠ 0) (idx en : Int) (hi0 : 0 ≤ idx) (hi1 : idx < en) (hen : en < 4294967296) (cs : List Int) (hlen : cs.length = 64) (hcs : ∀ x ∈ cs, 0 ≤ x ∧ x < 65536) (tb : Nat) (w : World)
    (ht : w.heap[tb]? = some (.cells (tallyA idx z64) 69 (0, 0))) :
    Calls Tryz.prog 82 #[.agg (blkA (putB m idx 2 cs)), .int .u8 m.toNat, .int .u32 idx, .int .u32 en, .slice (some ⟨tb, 1, none⟩) 64 64, .int .i64 2] w
      fun e w' => e = .returned (.int .i64 0) ∧ w'.heap[tb]? = some (.cells (tallyA idx cs) 69 (0, 0)) ∧ Keeps (fun k => k = tb) w w' := by
  have hk : 4 + 2 * cs.length ≤ 251 := by omega
  have hrow := fun j n hj => putB_row m idx 2 cs hk (j := j) (n := n) hj
  have htail := fun j h1 h2 => putB_tail m idx 2 cs hk (j := j) h1 h2
  have hidx := putB_idx m idx 2 cs
  have hfirst := putB_first m idx 2 cs
  have hgood := putB_good m idx 2 cs hk
  have hb := putB_len m idx 2 cs hk
  have hne := putB_ne m idx 2 cs hm
  generalize putB m idx 2 cs = b at hrow htail hidx hfirst hgood hb hne ⊢
  obtain ⟨W1, hW1⟩ : ∃ W, W = w.alloc (.cells (blkA b) 41) := ⟨_, rfl⟩
  have g1 : W1.heap[w.heap.size]? = some (.cells (blkA b) 41 (0, 0)) := by rw [hW1, hget_at _ _ rfl]
  have hB1 : Below w.heap.size w W1 := by rw [hW1]; exact (Below.refl _ w).alloc (Nat.le_refl _) _
  have hs1 : W1.heap.size = w.heap.size + 1 := by rw [hW1]; simp
  have hz := zero_any b hb W1
  rw [hne] at hz
  have htl : tb < w.heap.size := (Array.getElem?_eq_some_iff.1 ht).1
  have iB := size41' hb
  have HW1 := hideIt hW1
  have G1 := hideIt g1
  have HB1 := hideIt hB1
  have HT := hideIt ht
  have HROW := hideIt hrow
  have HTAIL := hideIt htail
  have HIDX := hideIt hidx
  have HB := hideIt hb
  have HFST := hideIt hfirst
  have HGOOD := hideIt hgood
  clear hW1 g1 hB1 hrow htail hidx hb hne ht hfirst hgood hs1
  have hge : ¬ en ≤ idx := by omega
  go_enter Tryz.func82, Tryz.ntmps82
  go_upto_region 3 with fail
  rw [← HW1.out]
  go_upto_region 5 with (first
    | (with_reducible refine wl_load rfl G1.out Tryz.underlying41 rfl iB ?_)
    | (go_at_call 26; (with_reducible refine hz.mono ?_); rintro e W2 ⟨rfl, hb2⟩))
  have hlt1 : w.heap.size < W1.heap.size := (Array.getElem?_eq_some_iff.1 G1.out).1
  have g2 := (hb2.block _ hlt1).trans G1.out
  have hB2 := HB1.out.trans (hb2.mono HB1.out.size)
  have ho := ropen_any b HB.out HGOOD.out m HFST.out W2
  have G2 := hideIt g2
  have HB2 := hideIt hB2
  clear hz hb2 g2 hB2 HW1 G1 HB1 hlt1
  go_upto_region 6 with (first
    | (with_reducible refine wl_load rfl G2.out Tryz.underlying41 rfl iB ?_)
    | (go_at_call 93; (with_reducible refine ho.mono ?_); rintro e W3 ⟨rb, bb, rfl, hR3, hb3, l1, l2⟩))
  have hB3 := HB2.out.trans (hb3.mono HB2.out.size)
  have hs2 := HB2.out.size
  have htb : tb ≠ rb := by omega
  have hnum := rdnum4_any rb bb 1 b HB.out (by omega) W3 hR3
  rw [HIDX.out, leV_leB 4 idx hi0 (by omega)] at hnum
  have HB3 := hideIt hB3
  clear ho hb3 hB3 hR3 iB G2 HB2
  go_upto_region 7 with (first
    | (go_at_call 94; (with_reducible refine hnum.mono ?_); rintro e W4 ⟨rfl, hR4, hk4⟩))
  have hs3 := HB3.out.size
  have hB4 : Below w.heap.size w W4 := HB3.out.trans (hk4.below hs3 (by intro k hk; omega))
  have hG0 : GetT w rb bb tb b idx cs 0 W4 := by
    refine ⟨hR4, ?_, Keeps.of_below hB4⟩
    rw [hB4.block tb htl, upTo_zero, hlen]
    exact HT.out
  have HG0 := hideIt hG0
  clear hnum hR4 hk4 hB4 hG0
  go_wp2
  go_loopw [34] (fun v wr => ∃ j : Nat, v = .int .i64 j ∧ j ≤ 64 ∧ GetT w rb bb tb b idx cs j wr) (fun v _ => 64 - (intOf v).toNat)
  case atStart => exact ⟨0, rfl, by omega, HG0.out⟩
  case round =>
    obtain ⟨j, rfl, hj, hG⟩ := hrel
    by_cases hj64 : j < 64
    · have hj' : (j : Int) < 64 := by omega
      obtain ⟨x, hx⟩ : ∃ x, cs[j]? = some x := ⟨cs[j], List.getElem?_eq_getElem (by omega)⟩
      have hxr := hcs x (List.mem_of_getElem? hx)
      have hn2 := rdnum2_any rb bb (5 + 2 * j) b HB.out (by omega) wr hG.rd
      rw [HROW.out j x hx, leV_leB 2 x hxr.1 (by simp; omega)] at hn2
      obtain ⟨hx0, hx1⟩ := hxr
      have hwx : IntKind.u16.wrap x = x := by rw [IntKind.wrap_u16]; omega
      have HG := hideIt hG
      have HX := hideIt hx
      clear hG hx
      go_upto_region 10 with fail
      go_wp2_with (first
        | (go_at_call 94; (with_reducible refine hn2.mono ?_); rintro e W5 ⟨rfl, hR5, hk5⟩; have g5 := (hk5.block tb (Array.getElem?_eq_some_iff.1 HG.out.row).1 htb).trans HG.out.row; obtain ⟨u5, cn⟩ := cell_of_tally g5 (show j < (upTo cs j).length by rw [upTo_len _ (by omega)]; omega); have fn := frozen_of_row g5 (1 + j); have G5 := hideIt g5; clear g5))
      obtain ⟨W6, hW6⟩ : ∃ W, W = W5.setCell ⟨tb, 1 + j, none⟩ (.int .u16 x) := ⟨_, rfl⟩
      have hG6 : GetT w rb bb tb b idx cs (j + 1) W6 := by
        have hbt : bb ≠ tb := by omega
        refine ⟨?_, ?_, ?_⟩
        · have e : 5 + 2 * (j + 1) = 5 + 2 * j + 2 := by omega
          rw [e, hW6]
          exact hR5.of_blocks (hget_setCell_other _ _ _ (by show rb ≠ tb; omega)) (hget_setCell_other _ _ _ (by show bb ≠ tb; omega))
        · rw [hW6, hget_setCell_same _ _ _ _ _ G5.out, tallyA_set', upTo_set HX.out]
        · rw [hW6]
          have h5 : Keeps (fun k => k = tb) w W5 := HG.out.keeps.trans' hk5 (by omega)
          exact h5.setCell (Or.inr rfl) _
      rw [← hW6]
      go_roundw
      case rel => exact ⟨j + 1, by go_num, by omega, hG6⟩
      case measure => simp [intOf]; omega
    · obtain rfl : j = 64 := by omega
      have hE := rdend_any rb bb 133 b (by omega) wr hG.rd (fun i h1 h2 => HTAIL.out i (by omega) h2)
      have hrow := hG.row
      rw [← hlen, upTo_all] at hrow
      have hkw := hG.keeps
      have HROW2 := hideIt hrow
      have HKW := hideIt hkw
      clear hG hrow hkw
      go_wp2_with (first
        | (go_at_call 95; (with_reducible refine hE.mono ?_); rintro e W7 ⟨rfl, nd, rfl⟩))
      go_ret
      exact ⟨rfl, HROW2.out, HKW.out.drewN nd⟩
end Go.Proofs.YtnibehcgnhdcgaaGreatDoor
