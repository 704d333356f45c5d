/- The document's tally, got from a page that was put. -/
import Derived.Test.YtnibehcgnhdcgaaGreatDoorM24
import Derived.Test.YtnibehcgnhdcgaaGreatDoorM7
import Derived.Deep.DeepCutAuto
import Derived.Deep.CutBlock
import Derived.Test.YtnibehcgnhdcgaaGreatDoorM1
import Derived.BigQuiet
import Derived.Test.YtnibehcgnhdcgaaGreatDoorM21
namespace Go.Proofs.YtnibehcgnhdcgaaGreatDoor
open Go.RowKit

/-- The worlds of the loop. -/
structure GetAt (w : World) (b : List UInt8) (idx : Int) (cs : List Int) (k : Nat) (W : World) : Prop where
  box : W.heap[w.heap.size]? = some (.cells (blkA b) 41 (0, 0))
  zero : W.heap[w.heap.size + 1]? = some (.cells (tallyA 0 z64) 69 (0, 0))
  row : W.heap[w.heap.size + 2]? = some (.cells (tallyA idx (cs.take k ++ List.replicate (64 - k) 0)) 69 (0, 0))
  below : Below w.heap.size w W
theorem GetAt.step {w : World} {b : List UInt8} {idx : Int} {cs : List Int} {k : Nat} {W W' : World} (h : GetAt w b idx cs k W) (hb : Below W.heap.size W W') : GetAt w b idx cs k W' :=
  ⟨(hb.block _ (Array.getElem?_eq_some_iff.1 h.box).1).trans h.box, (hb.block _ (Array.getElem?_eq_some_iff.1 h.zero).1).trans h.zero, (hb.block _ (Array.getElem?_eq_some_iff.1 h.row).1).trans h.row,
    h.below.trans (hb.mono h.below.size)⟩
theorem GetAt.set {w : World} {b : List UInt8} {idx : Int} {cs : List Int} {k : Nat} {W : World} (h : GetAt w b idx cs k W) (hlen : cs.length = 64) (hk : k < cs.length) :
    GetAt w b idx cs (k + 1) (W.setCell ⟨w.heap.size + 2, 1 + k, none⟩ (.int .u16 cs[k])) := by
  refine ⟨by rw [hget_setCell_other _ _ _ (by simp), h.box], by rw [hget_setCell_other _ _ _ (by simp), h.zero], ?_, h.below.setCell (by simp) _⟩
  rw [hget_setCell_same _ _ _ _ _ h.row]
  have e : (tallyA idx (cs.take k ++ List.replicate (64 - k) 0)).setIfInBounds (1 + k) (.int .u16 cs[k]) = tallyA idx (cs.take (k + 1) ++ List.replicate (64 - (k + 1)) 0) := by
    have hl : (cs.take k).length = k := by rw [List.length_take]; omega
    unfold tallyA
    rw [List.setIfInBounds_toArray, Nat.add_comm 1 k, List.set_cons_succ, ← List.map_set, List.set_append_right _ _ (by omega), hl, Nat.sub_self, show 64 - k = (64 - (k + 1)) + 1 from by omega, List.replicate_succ, List.set_cons_zero,
      List.take_succ_eq_append_getElem hk, List.append_assoc]
    rfl
  rw [e]

set_option maxRecDepth 100000 in
set_option maxHeartbeats 1000000 in
theorem rtget_any (idx : Int) (hi0 : 0 ≤ idx) (hi1 : idx < 16384) (cs : List Int) (hlen : cs.length = 64) (hcs : ∀ x ∈ cs, 0 ≤ x ∧ x < 65536) (w : World) :
    Calls Tryz.prog 19 #[.agg (blkA (putB 84 idx 2 cs)), .int .u32 idx] w
      fun e w' => e = .returned (.tuple #[.agg (tallyA idx cs), .int .i64 0]) ∧ Below w.heap.size w w' := by
  have hlS : (putB 84 idx 2 cs).length = 256 := (sealB_length _).trans (rawB_length _ _ (by rw [List.length_append, leB_length, rowB_length, hlen]; decide))
  have hput := fun W => rtput_any idx hi0 hi1 cs hlen hcs W
  have hbg := fun i j hj x hx hl => putB_get 84 idx 2 cs i j hj x hx hl
  have hnz := putB_zero 84 (by decide) idx 2 cs
  generalize putB 84 idx 2 cs = b at hlS hput hbg hnz ⊢
  have hz := fun W => ref_zero_any b hlS W
  rw [hnz] at hz
  obtain ⟨W1, hW1⟩ : ∃ W, W = ((w.alloc (.cells (blkA b) 41)).alloc (.cells (tallyA 0 z64) 69)).alloc (.cells (Tryz.zeroCells69.setIfInBounds 0 (.int .u32 idx)) 69) := ⟨_, rfl⟩
  have tA : Tryz.zeroCells69.setIfInBounds 0 (.int .u32 idx) = tallyA idx z64 := rfl
  have hat : GetAt w b idx cs 0 W1 := ⟨by rw [hW1, hget_past _ _ (by simp; omega), hget_past _ _ (by simp), hget_at _ _ rfl], by rw [hW1, hget_past _ _ (by simp), hget_at _ _ (by simp)], by rw [hW1, hget_at _ _ (by simp), tA]; rfl,
    by rw [hW1]; exact (((Below.refl _ w).alloc (Nat.le_refl _) _).alloc (by simp) _).alloc (by simp; omega) _⟩
  have i2 : (Tryz.prog.info? 69).map (·.size) = some (Tryz.zeroCells69.setIfInBounds 0 (.int .u32 idx)).size := by rw [tA]; exact size69' idx rfl
  have e2 : (tallyA 0 z64).size = (Tryz.zeroCells69.setIfInBounds 0 (.int .u32 idx)).size := rfl
  have h12 : (Tryz.zeroCells69.setIfInBounds 0 (.int .u32 idx)).all (·.oneCell') = true := by rw [tA]; exact tallyA_one _ _
  have iB := size41' hlS
  have HW := hideIt hW1
  have HAT := hideIt hat
  have HP := hideIt hput
  have HBG := hideIt hbg
  have HLS := hideIt hlS
  have HCS := hideIt hcs
  clear hW1 hat hput hbg tA hnz hlS hcs
  go_enter Tryz.func19, Tryz.ntmps19
  go_upto_region 4 with (first
    | (with_reducible refine wl_alloc_store zero69 (by simp [Act.put]) rfl rfl i2 e2 h12 ?_)
    | (with_reducible refine wl_alloc zero69 ?_))
  rw [← HW.out]
  clear i2 e2 h12
  have hg0 := HAT.out.box
  go_wp2_with (first
    | (with_reducible refine wl_load rfl hg0 Tryz.underlying41 rfl iB ?_)
    | (go_at_call 46; (with_reducible refine (hz _).mono ?_); rintro e W2 ⟨rfl, hb2⟩))
  rw [show w.heap.size + 1 + 1 = w.heap.size + 2 from rfl]
  have hat2 := HAT.out.step hb2
  have HAT2 := hideIt hat2
  clear hat2 hb2 hg0 hz iB
  go_loopw [7] (fun v7 wr => ∃ (k : Nat), k ≤ 64 ∧ v7 = .int .i64 k ∧ GetAt w b idx cs k wr) (fun v7 _ => 64 - (intOf v7).toNat)
  case atStart => exact ⟨0, by omega, rfl, HAT2.out⟩
  case round =>
    obtain ⟨k, hk, rfl, hr⟩ := hrel
    by_cases hlt : k < 64
    · have hcx : cs[k]? = some (cs[k]'(by omega)) := List.getElem?_eq_getElem _
      have hb0 := HBG.out k 0 (by omega) _ hcx (by omega)
      have hb1 := HBG.out k 1 (by omega) _ hcx (by omega)
      have hrd := hr.step (Below.refl _ _).drew
      have hset := hrd.set hlen (by omega)
      have hxb := HCS.out _ (List.getElem_mem (show k < cs.length by omega))
      generalize (cs[k]'(show k < cs.length by omega)) = x at hb0 hb1 hset hxb
      rw [show 5 + (2 * k + 0) = 5 + 2 * k from by omega, Int.pow_zero, Int.ediv_one] at hb0
      rw [show 5 + (2 * k + 1) = 6 + 2 * k from by omega, show (256 : Int) ^ 1 = 256 from rfl] at hb1
      have c0 : ∀ W : World, W.heap[w.heap.size]? = some (.cells (blkA b) 41 (0, 0)) → W.cell? ⟨w.heap.size, 5 + 2 * k, none⟩ = some (.int .u8 (x % 256)) := fun W h => by
        rw [cell_of_row _ _ _ _ _ _ h, blkA_get, hb0, Option.map_some, byteV_toB]
      have c1 : ∀ W : World, W.heap[w.heap.size]? = some (.cells (blkA b) 41 (0, 0)) → W.cell? ⟨w.heap.size, 6 + 2 * k, none⟩ = some (.int .u8 (x / 256 % 256)) := fun W h => by
        rw [cell_of_row _ _ _ _ _ _ h, blkA_get, hb1, Option.map_some, byteV_toB]
      have C0 := hideIt c0
      have C1 := hideIt c1
      have HSET := hideIt hset
      have hvx : IntKind.u16.wrap (IntKind.u16.wrap (x % 256) + IntKind.u16.wrap (256 * IntKind.u16.wrap (x / 256 % 256))) = x := by
        simp only [IntKind.wrap_u16]
        omega
      have HVX := hideIt hvx
      have fz : wr.drew.frozen? ⟨w.heap.size + 2, 1 + k, none⟩ = false := by rw [frozen_of_row _ _ _ _ _ hrd.row]
      obtain ⟨vz, cz⟩ : ∃ v, wr.drew.cell? ⟨w.heap.size + 2, 1 + k, none⟩ = some v := ⟨_, by rw [cell_of_row _ _ _ _ _ _ hrd.row]; exact Array.getElem?_eq_getElem (by rw [tallyA_size, List.length_append, List.length_take, List.length_replicate]; omega)⟩
      have FZ := hideIt fz
      have CZ := hideIt cz
      have HR := hideIt hr
      have m1 : IntKind.i64.wrap (2 * (k : Int)) = 2 * (k : Int) := by rw [IntKind.wrap_i64]; omega
      have m2 : IntKind.i64.wrap (5 + 2 * (k : Int)) = 5 + 2 * (k : Int) := by rw [IntKind.wrap_i64]; omega
      have m3 : IntKind.i64.wrap (6 + 2 * (k : Int)) = 6 + 2 * (k : Int) := by rw [IntKind.wrap_i64]; omega
      have t1 : (5 + 2 * (k : Int)).toNat = 5 + 2 * k := by omega
      have t2 : (6 + 2 * (k : Int)).toNat = 6 + 2 * k := by omega
      have M1 := hideIt m1
      have M2 := hideIt m2
      have M3 := hideIt m3
      have T1 := hideIt t1
      have T2 := hideIt t2
      clear c0 c1 hset hr hrd hvx fz cz m1 m2 m3 t1 t2 hb0 hb1 hcx
      have i5 : (0 : Int) ≤ 5 + 2 * (k : Int) := by omega
      have j5 : 5 + 2 * (k : Int) < 256 := by omega
      have i6 : (0 : Int) ≤ 6 + 2 * (k : Int) := by omega
      have j6 : 6 + 2 * (k : Int) < 256 := by omega
      go_upto_region 9 with fail
      refine wp_region_held (S := (fun W : World => W.heap[w.heap.size]? = some (.cells (blkA b) 41 (0, 0)))) (by kernel_rfl) ?_
      change wpAnyH _ _ _ _ _ _ _ _ (World.drew _)
      try simp only [Act.put, List.setIfInBounds_toArray, List.set_cons_succ, List.set_cons_zero]
      have hS := HR.out.box
      refine takeH 0 (v := ?_) rfl rfl (by kernel_rfl) (by kernel_rfl) (by kernel_rfl) (fun _ _ _ h => h) hS (yieldsIf_run rfl ?_) ?_
      rotate_left
      focus (intro w hSw; go_simp; try with_reducible rfl)
      simp only [List.setIfInBounds_toArray, List.set_cons_succ, List.set_cons_zero]
      refine takeH 1 (v := ?_) rfl rfl (by kernel_rfl) (by kernel_rfl) (by kernel_rfl) (fun _ _ _ h => h) hS (yieldsIf_run rfl ?_) ?_
      rotate_left
      focus (intro w hSw; go_simp; try with_reducible rfl)
      simp only [List.setIfInBounds_toArray, List.set_cons_succ, List.set_cons_zero]
      refine takeH 2 (v := ?_) rfl rfl (by kernel_rfl) (by kernel_rfl) (by kernel_rfl) (fun _ _ _ h => h) hS (yieldsIf_run rfl ?_) ?_
      rotate_left
      focus (intro w hSw; go_simp; try with_reducible rfl)
      simp only [List.setIfInBounds_toArray, List.set_cons_succ, List.set_cons_zero]
      rw [M1.out]
      refine takeH 3 (v := ?_) rfl rfl (by kernel_rfl) (by kernel_rfl) (by kernel_rfl) (fun _ _ _ h => h) hS (yieldsIf_run rfl ?_) ?_
      rotate_left
      focus (intro w hSw; go_simp; try with_reducible rfl)
      simp only [List.setIfInBounds_toArray, List.set_cons_succ, List.set_cons_zero]
      rw [M2.out]
      refine takeH 4 (v := ?_) rfl rfl (by kernel_rfl) (by kernel_rfl) (by kernel_rfl) (fun _ _ _ h => h) hS (yieldsIf_run rfl ?_) ?_
      rotate_left
      focus (intro w hSw; go_simp; try with_reducible rfl)
      simp only [List.setIfInBounds_toArray, List.set_cons_succ, List.set_cons_zero]
      rw [T1.out]
      refine takeH 5 (v := ?_) rfl rfl (by kernel_rfl) (by kernel_rfl) (by kernel_rfl) (fun _ _ _ h => h) hS (yieldsIf_run rfl ?_) ?_
      rotate_left
      focus (intro w hSw; have hcU := C0.out w hSw; clear hSw; go_simp; try with_reducible rfl)
      simp only [List.setIfInBounds_toArray, List.set_cons_succ, List.set_cons_zero]
      refine takeH 6 (v := ?_) rfl rfl (by kernel_rfl) (by kernel_rfl) (by kernel_rfl) (fun _ _ _ h => h) hS (yieldsIf_run rfl ?_) ?_
      rotate_left
      focus (intro w hSw; go_simp; try with_reducible rfl)
      simp only [List.setIfInBounds_toArray, List.set_cons_succ, List.set_cons_zero]
      refine takeH 7 (v := ?_) rfl rfl (by kernel_rfl) (by kernel_rfl) (by kernel_rfl) (fun _ _ _ h => h) hS (yieldsIf_run rfl ?_) ?_
      rotate_left
      focus (intro w hSw; go_simp; try with_reducible rfl)
      simp only [List.setIfInBounds_toArray, List.set_cons_succ, List.set_cons_zero]
      refine takeH 8 (v := ?_) rfl rfl (by kernel_rfl) (by kernel_rfl) (by kernel_rfl) (fun _ _ _ h => h) hS (yieldsIf_run rfl ?_) ?_
      rotate_left
      focus (intro w hSw; go_simp; try with_reducible rfl)
      simp only [List.setIfInBounds_toArray, List.set_cons_succ, List.set_cons_zero]
      rw [M1.out]
      refine takeH 9 (v := ?_) rfl rfl (by kernel_rfl) (by kernel_rfl) (by kernel_rfl) (fun _ _ _ h => h) hS (yieldsIf_run rfl ?_) ?_
      rotate_left
      focus (intro w hSw; go_simp; try with_reducible rfl)
      simp only [List.setIfInBounds_toArray, List.set_cons_succ, List.set_cons_zero]
      rw [M3.out]
      refine takeH 10 (v := ?_) rfl rfl (by kernel_rfl) (by kernel_rfl) (by kernel_rfl) (fun _ _ _ h => h) hS (yieldsIf_run rfl ?_) ?_
      rotate_left
      focus (intro w hSw; go_simp; try with_reducible rfl)
      simp only [List.setIfInBounds_toArray, List.set_cons_succ, List.set_cons_zero]
      rw [T2.out]
      refine takeH 11 (v := ?_) rfl rfl (by kernel_rfl) (by kernel_rfl) (by kernel_rfl) (fun _ _ _ h => h) hS (yieldsIf_run rfl ?_) ?_
      rotate_left
      focus (intro w hSw; have hcU := C1.out w hSw; clear hSw; go_simp; try with_reducible rfl)
      simp only [List.setIfInBounds_toArray, List.set_cons_succ, List.set_cons_zero]
      refine takeH 12 (v := ?_) rfl rfl (by kernel_rfl) (by kernel_rfl) (by kernel_rfl) (fun _ _ _ h => h) hS (yieldsIf_run rfl ?_) ?_
      rotate_left
      focus (intro w hSw; go_simp; try with_reducible rfl)
      simp only [List.setIfInBounds_toArray, List.set_cons_succ, List.set_cons_zero]
      refine takeH 13 (v := ?_) rfl rfl (by kernel_rfl) (by kernel_rfl) (by kernel_rfl) (fun _ _ _ h => h) hS (yieldsIf_run rfl ?_) ?_
      rotate_left
      focus (intro w hSw; go_simp; try with_reducible rfl)
      simp only [List.setIfInBounds_toArray, List.set_cons_succ, List.set_cons_zero]
      refine takeH 14 (v := ?_) rfl rfl (by kernel_rfl) (by kernel_rfl) (by kernel_rfl) (fun _ _ _ h => h) hS (yieldsIf_run rfl ?_) ?_
      rotate_left
      focus (intro w hSw; go_simp; try with_reducible rfl)
      simp only [List.setIfInBounds_toArray, List.set_cons_succ, List.set_cons_zero]
      refine takeH 15 (v := ?_) rfl rfl (by kernel_rfl) (by kernel_rfl) (by kernel_rfl) (fun _ _ _ h => h) hS (yieldsIf_run rfl ?_) ?_
      rotate_left
      focus (intro w hSw; go_simp; try with_reducible rfl)
      simp only [List.setIfInBounds_toArray, List.set_cons_succ, List.set_cons_zero]
      refine takeH 16 (v := ?_) rfl rfl (by kernel_rfl) (by kernel_rfl) (by kernel_rfl) (fun _ _ _ h => h) hS (yieldsIf_run rfl ?_) ?_
      rotate_left
      focus (intro w hSw; go_simp; try with_reducible rfl)
      simp only [List.setIfInBounds_toArray, List.set_cons_succ, List.set_cons_zero]
      rw [HVX.out]
      have fz := FZ.out
      have cz := CZ.out
      refine anyH_step (i := 17) (by kernel_rfl) rfl rfl (fun K hK => ?_)
      go_simp
      refine hK _ _ ((hget_setCell_other _ _ _ (by simp)).trans HR.out.box) ?_
      clear hK K
      try simp only [Act.put, List.setIfInBounds_toArray, List.set_cons_succ, List.set_cons_zero]
      refine wpAnyH_done (by kernel_rfl) ?_ _
      go_wp2_with fail
      refine ⟨⟨k + 1, by omega, by go_num, HSET.out⟩, by simp [intOf]; omega⟩
    · have hk' : k = 64 := by omega
      subst hk'
      have g2 := hr.row
      rw [List.take_of_length_le (show cs.length ≤ 64 by omega), Nat.sub_self, List.replicate_zero, List.append_nil] at g2
      have hb6 := hr.below
      have iB := size41' HLS.out
      have iT := size69' idx hlen
      have hoB := blkA_one b
      have eB : (blkA zb).size = (blkA b).size := by rw [zbA_size, blkA_size, HLS.out]
      have eT : (tallyA 0 z64).size = (tallyA idx cs).size := by rw [tallyA_size, tallyA_size, hlen]; rfl
      have oT := tallyA_one idx cs
      have HR := hideIt hr
      have HOB := hideIt hoB
      have EB := hideIt eB
      have ET := hideIt eT
      have OT := hideIt oT
      clear hr hb6 hoB eB eT oT
      go_upto_region 11 with (first
        | (with_reducible refine wl_load rfl g2 Tryz.underlying69 rfl iT ?_)
        | (go_at_call 47; (with_reducible refine (HP.out _).mono ?_); rintro e W4 ⟨rfl, hb4⟩)
        | (with_reducible refine wl_extract rfl rfl ?_)
        | (with_reducible refine wl_alloc_store zero41 (by simp [Act.put]) rfl rfl iB EB.out HOB.out ?_))
      obtain ⟨W5, hW5⟩ : ∃ W, W = W4.alloc (.cells (blkA b) 41) := ⟨_, rfl⟩
      rw [← hW5]
      have hr4 := HR.out.step hb4
      have hr5 : GetAt w b idx cs 64 W5 := hr4.step (by rw [hW5]; exact (Below.refl _ _).alloc (Nat.le_refl _) _)
      have g8 : W5.heap[W4.heap.size]? = some (.cells (blkA b) 41 (0, 0)) := by rw [hW5, hget_at _ _ rfl]
      have g0 := hr5.box
      have g1 := hr5.zero
      have g2 := hr5.row
      rw [List.take_of_length_le (show cs.length ≤ 64 by omega), Nat.sub_self, List.replicate_zero, List.append_nil] at g2
      have hB5 := hr5.below
      have HB5 := hideIt hB5
      have G0 := hideIt g0
      have G1 := hideIt g1
      have G2 := hideIt g2
      have G8 := hideIt g8
      have hbb : (b == b) = true := by simp
      clear hr4 hr5 g0 g1 g2 g8 hB5 hW5
      go_wp2_with (first
        | (with_reducible refine wl_load rfl G8.out Tryz.underlying41 rfl iB ?_)
        | (with_reducible refine wl_load rfl G0.out Tryz.underlying41 rfl iB ?_)
        | (with_reducible refine wl_neq41 rfl rfl HLS.out HLS.out ?_; simp only [hbb, Bool.not_true])
        | (with_reducible refine wl_load rfl G2.out Tryz.underlying69 rfl iT ?_)
        | (with_reducible refine wl_store rfl rfl G1.out iT ET.out OT.out ?_))
      exact ret_cell_tmp rfl rfl rfl (setRow_heap _ _ _ _ _ _ G1.out) Tryz.underlying69 rfl iT ⟨rfl, below_setRow HB5.out (by omega) _⟩
end Go.Proofs.YtnibehcgnhdcgaaGreatDoor
/- The document's pick, got from a page that was put. -/
namespace Go.Proofs.YtnibehcgnhdcgaaGreatDoor
open Go.RowKit

/-- Two operations may come up. -/
theorem any_two {P : Program} {md : Region.Mode} {ops : Array Oper} {Q : Exit → Act → World → Prop} {i j : Nat} {o o' : Oper} {fuel : Nat} {listed : Array Bool} {a : Act} {w : World}
    (hr : Region.ready md ops listed = [i, j]) (ho : ops[i]? = some o) (ho' : ops[j]? = some o') (hg : o.guard = none) (hg' : o'.guard = none)
    (h : ∀ K : Act → World → Prop, (∀ a w, wpAny P md ops Q fuel (listed.setIfInBounds i true) a w → K a w) → Oper.wp P o a w K Q)
    (h' : ∀ K : Act → World → Prop, (∀ a w, wpAny P md ops Q fuel (listed.setIfInBounds j true) a w → K a w) → Oper.wp P o' a w K Q) : wpAny P md ops Q (fuel + 1) listed a w :=
  wpAny_ready hr (by simp) (.cons ho (fun K hK => by rw [if_pos (by simp [Region.wanted, hg])]; exact h K hK) (.cons ho' (fun K hK => by rw [if_pos (by simp [Region.wanted, hg'])]; exact h' K hK) .nil))
/-- The worlds of the loops. -/
structure PGetAt (w : World) (b : List UInt8) (idx : Int) (L : List Int) (W : World) : Prop where
  box : W.heap[w.heap.size]? = some (.cells (blkA b) 41 (0, 0))
  zero : W.heap[w.heap.size + 1]? = some (.cells (pickA 0 z16) 74 (0, 0))
  row : W.heap[w.heap.size + 2]? = some (.cells (pickA idx L) 74 (0, 0))
  below : Below w.heap.size w W
theorem PGetAt.step {w : World} {b : List UInt8} {idx : Int} {L : List Int} {W W' : World} (h : PGetAt w b idx L W) (hb : Below W.heap.size W W') : PGetAt w b idx L W' :=
  ⟨(hb.block _ (Array.getElem?_eq_some_iff.1 h.box).1).trans h.box, (hb.block _ (Array.getElem?_eq_some_iff.1 h.zero).1).trans h.zero, (hb.block _ (Array.getElem?_eq_some_iff.1 h.row).1).trans h.row,
    h.below.trans (hb.mono h.below.size)⟩
theorem PGetAt.set {w : World} {b : List UInt8} {idx : Int} {A R : List Int} {y : Int} {W : World} (k : Nat) (h : PGetAt w b idx (A ++ y :: R) W) (hk : A.length = k) (y' : Int) :
    PGetAt w b idx (A ++ y' :: R) (W.setCell ⟨w.heap.size + 2, 1 + k, none⟩ (.int .u64 y')) := by
  refine ⟨by rw [hget_setCell_other _ _ _ (by simp), h.box], by rw [hget_setCell_other _ _ _ (by simp), h.zero], ?_, h.below.setCell (by simp) _⟩
  rw [hget_setCell_same _ _ _ _ _ h.row]
  have e : (pickA idx (A ++ y :: R)).setIfInBounds (1 + k) (.int .u64 y') = pickA idx (A ++ y' :: R) := by
    unfold pickA
    rw [List.setIfInBounds_toArray, Nat.add_comm 1 k, List.set_cons_succ, ← List.map_set, List.set_append_right _ _ (by omega), hk, Nat.sub_self, List.set_cons_zero]
  rw [e]
theorem PGetAt.cell {w : World} {b : List UInt8} {idx : Int} {A R : List Int} {y : Int} {W : World} (k : Nat) (h : PGetAt w b idx (A ++ y :: R) W) (hk : A.length = k) :
    W.cell? ⟨w.heap.size + 2, 1 + k, none⟩ = some (.int .u64 y) := by
  rw [cell_of_row _ _ _ _ _ _ h.row, pickA_succ, List.getElem?_append_right (by omega), hk, Nat.sub_self]
  rfl

set_option maxRecDepth 100000 in
set_option maxHeartbeats 1000000 in
theorem rpget_any (idx : Int) (hi0 : 0 ≤ idx) (hi1 : idx < 16) (cs : List Int) (hlen : cs.length = 16) (hcs : ∀ x ∈ cs, 0 ≤ x ∧ x < 18446744073709551616) (w : World) :
    Calls Tryz.prog 20 #[.agg (blkA (putB 80 idx 8 cs)), .int .u32 idx] w
      fun e w' => e = .returned (.tuple #[.agg (pickA idx cs), .int .i64 0]) ∧ Below w.heap.size w w' := by
  have hlS : (putB 80 idx 8 cs).length = 256 := (sealB_length _).trans (rawB_length _ _ (by rw [List.length_append, leB_length, rowB_length, hlen]; decide))
  have hput := fun W => rpput_any idx hi0 hi1 cs hlen hcs W
  have hbg := fun i j hj x hx hl => putB_get 80 idx 8 cs i j hj x hx hl
  have hnz := putB_zero 80 (by decide) idx 8 cs
  generalize putB 80 idx 8 cs = b at hlS hput hbg hnz ⊢
  have hz := fun W => ref_zero_any b hlS W
  rw [hnz] at hz
  obtain ⟨W1, hW1⟩ : ∃ W, W = ((w.alloc (.cells (blkA b) 41)).alloc (.cells (pickA 0 z16) 74)).alloc (.cells (#[.int .u32 idx, .int .u64 0, .int .u64 0, .int .u64 0, .int .u64 0, .int .u64 0, .int .u64 0, .int .u64 0, .int .u64 0, .int .u64 0, .int .u64 0, .int .u64 0, .int .u64 0, .int .u64 0, .int .u64 0, .int .u64 0, .int .u64 0] : Array Value) 74) := ⟨_, rfl⟩
  have tA : (#[.int .u32 idx, .int .u64 0, .int .u64 0, .int .u64 0, .int .u64 0, .int .u64 0, .int .u64 0, .int .u64 0, .int .u64 0, .int .u64 0, .int .u64 0, .int .u64 0, .int .u64 0, .int .u64 0, .int .u64 0, .int .u64 0, .int .u64 0] : Array Value) = pickA idx z16 := rfl
  have hat : PGetAt w b idx (cs.take 0 ++ List.replicate (16 - 0) 0) W1 := ⟨by rw [hW1, hget_past _ _ (by simp; omega), hget_past _ _ (by simp), hget_at _ _ rfl], by rw [hW1, hget_past _ _ (by simp), hget_at _ _ (by simp)], by rw [hW1, hget_at _ _ (by simp), tA]; rfl,
    by rw [hW1]; exact (((Below.refl _ w).alloc (Nat.le_refl _) _).alloc (by simp) _).alloc (by simp; omega) _⟩
  have i2 : (Tryz.prog.info? 74).map (·.size) = some (#[.int .u32 idx, .int .u64 0, .int .u64 0, .int .u64 0, .int .u64 0, .int .u64 0, .int .u64 0, .int .u64 0, .int .u64 0, .int .u64 0, .int .u64 0, .int .u64 0, .int .u64 0, .int .u64 0, .int .u64 0, .int .u64 0, .int .u64 0] : Array Value).size := by rw [tA]; exact size74' idx rfl
  have e2 : (pickA 0 z16).size = (#[.int .u32 idx, .int .u64 0, .int .u64 0, .int .u64 0, .int .u64 0, .int .u64 0, .int .u64 0, .int .u64 0, .int .u64 0, .int .u64 0, .int .u64 0, .int .u64 0, .int .u64 0, .int .u64 0, .int .u64 0, .int .u64 0, .int .u64 0] : Array Value).size := rfl
  have h12 : (#[.int .u32 idx, .int .u64 0, .int .u64 0, .int .u64 0, .int .u64 0, .int .u64 0, .int .u64 0, .int .u64 0, .int .u64 0, .int .u64 0, .int .u64 0, .int .u64 0, .int .u64 0, .int .u64 0, .int .u64 0, .int .u64 0, .int .u64 0] : Array Value).all (·.oneCell') = true := by rw [tA]; exact pickA_one _ _
  have iB := size41' hlS
  have HW := hideIt hW1
  have HAT := hideIt hat
  have HP := hideIt hput
  have HBG := hideIt hbg
  have HLS := hideIt hlS
  have HCS := hideIt hcs
  clear hW1 hat hput hbg tA hnz hlS hcs
  go_enter Tryz.func20, Tryz.ntmps20
  go_upto_region 4 with (first
    | (with_reducible refine wl_alloc_store zero74 (by simp [Act.put]) rfl rfl i2 e2 h12 ?_)
    | (with_reducible refine wl_alloc zero74 ?_))
  rw [← HW.out]
  clear i2 e2 h12
  have hg0 := HAT.out.box
  go_wp2_with (first
    | (with_reducible refine wl_load rfl hg0 Tryz.underlying41 rfl iB ?_)
    | (go_at_call 46; (with_reducible refine (hz _).mono ?_); rintro e W2 ⟨rfl, hb2⟩))
  rw [show w.heap.size + 1 + 1 = w.heap.size + 2 from rfl]
  have hat2 := HAT.out.step hb2
  have HAT2 := hideIt hat2
  clear hat2 hb2 hg0 hz iB
  go_loopw [7] (fun v7 wr => ∃ (k : Nat), k ≤ 16 ∧ v7 = .int .i64 k ∧ PGetAt w b idx (cs.take k ++ List.replicate (16 - k) 0) wr) (fun v7 _ => 16 - (intOf v7).toNat)
  case atStart => exact ⟨0, by omega, rfl, HAT2.out⟩
  case round =>
    obtain ⟨k, hk, rfl, hr⟩ := hrel
    by_cases hlt : k < 16
    · have hcx : cs[k]? = some (cs[k]'(by omega)) := List.getElem?_eq_getElem _
      have hbj := fun j hj => HBG.out k j hj _ hcx (by omega)
      have hxb := HCS.out _ (List.getElem_mem (show k < cs.length by omega))
      have hend : cs.take k ++ (cs[k]'(by omega)) :: List.replicate (15 - k) 0 = cs.take (k + 1) ++ List.replicate (16 - (k + 1)) 0 := by
        rw [List.take_succ_eq_append_getElem (by omega), List.append_assoc, show 16 - (k + 1) = 15 - k from by omega]; rfl
      have HEND := hideIt hend
      generalize hxx : (cs[k]'(show k < cs.length by omega)) = x at hbj hxb
      have HXX := hideIt hxx
      have hlk : (cs.take k).length = k := by rw [List.length_take]; omega
      generalize cs.take k = A at hr hlk HEND
      rw [show 16 - k = (15 - k) + 1 from by omega, List.replicate_succ] at hr
      generalize hR : List.replicate (15 - k) (0 : Int) = R at hr HEND
      have HBJ := hideIt hbj
      have HR := hideIt hr
      have hx0 := hxb.1
      have hx1 := hxb.2
      clear hbj hr hcx hend hxx hR hxb
      have hd16 : decide ((k : Int) < 16) = true := by simp; omega
      go_wp2_with fail
      clear hd16
      have hk16 : (k : Int) < 16 := by omega
      go_loopw [8] (fun v8 wr => ∃ (m : Nat), m ≤ 8 ∧ v8 = .int .i64 ((m : Int) - 1) ∧ PGetAt w b idx (A ++ x / 256 ^ m :: R) wr) (fun v8 _ => (intOf v8 + 1).toNat)
      case atStart =>
        refine ⟨8, by omega, rfl, ?_⟩
        rw [show x / (256 : Int) ^ 8 = 0 from by rw [show (256 : Int) ^ 8 = 18446744073709551616 from rfl]; omega]
        exact HR.out
      case round =>
        rename_i wo _ _
        clear HR
        obtain ⟨m, hm, rfl, hr⟩ := hrel
        by_cases h0 : m = 0
        · subst h0
          have HR := hideIt hr
          clear hr
          go_wp2_with fail
          have hr := HR.out
          rw [Int.pow_zero, Int.ediv_one, ← HXX.out, HEND.out] at hr
          refine ⟨⟨k + 1, by omega, by go_num, hr⟩, by simp [intOf]; omega⟩
        · obtain ⟨j, rfl⟩ : ∃ j, m = j + 1 := ⟨m - 1, by omega⟩
          have hbyte := HBJ.out j (by omega)
          have hq : x / (256 : Int) ^ (j + 1) = x / 256 ^ j / 256 := by
            rw [Int.pow_succ, Int.ediv_ediv_of_nonneg (Int.pow_nonneg (by decide))]
          rw [hq] at hr
          have hq0 : 0 ≤ x / (256 : Int) ^ j := Int.ediv_nonneg hx0 (Int.pow_nonneg (by decide))
          have hq1 : x / (256 : Int) ^ j ≤ x := Int.ediv_le_self _ hx0
          generalize hqq : x / (256 : Int) ^ j = q at hr hbyte hq0 hq1
          have HQQ := hideIt hqq
          have hrd := hr.step (Below.refl _ _).drew
          have hset := hrd.set k hlk q
          have cy := hrd.cell k hlk
          have fy : wr.drew.frozen? ⟨w.heap.size + 2, 1 + k, none⟩ = false := by rw [frozen_of_row _ _ _ _ _ hrd.row]
          have cb : wr.drew.cell? ⟨w.heap.size, 5 + (8 * k + j), none⟩ = some (.int .u8 (q % 256)) := by
            rw [cell_of_row _ _ _ _ _ _ hrd.box, blkA_get, hbyte, Option.map_some, byteV_toB]
          have hv : IntKind.u64.wrap (IntKind.u64.wrap (256 * (q / 256)) + IntKind.u64.wrap (q % 256)) = q := by
            simp only [IntKind.wrap_u64]
            omega
          have m1 : IntKind.i64.wrap (8 * (k : Int)) = 8 * (k : Int) := by rw [IntKind.wrap_i64]; omega
          have m2 : IntKind.i64.wrap (5 + 8 * (k : Int)) = 5 + 8 * (k : Int) := by rw [IntKind.wrap_i64]; omega
          have m3 : IntKind.i64.wrap (5 + 8 * (k : Int) + (j : Int)) = 5 + 8 * (k : Int) + (j : Int) := by rw [IntKind.wrap_i64]; omega
          have t1 : (5 + 8 * (k : Int) + (j : Int)).toNat = 5 + (8 * k + j) := by omega
          have i5 : (0 : Int) ≤ 5 + 8 * (k : Int) + (j : Int) := by omega
          have j5 : 5 + 8 * (k : Int) + (j : Int) < 256 := by omega
          have M1 := hideIt m1
          have M2 := hideIt m2
          have M3 := hideIt m3
          have T1 := hideIt t1
          have HV := hideIt hv
          have HSET := hideIt hset
          have CY := hideIt cy
          have CB := hideIt cb
          clear hr hbyte hq hrd hset hv m1 m2 m3 t1 hqq cy cb
          rw [show (((j + 1 : Nat) : Int) - 1) = (j : Int) from by omega]
          go_upto_region 12 with fail
          refine wp_region_any (by kernel_rfl) ?_
          change wpAny _ _ _ _ _ _ _ (World.drew _)
          refine wpAny_take (i := 0) (v := ?v0) rfl (by kernel_rfl) (by kernel_rfl) (by kernel_rfl) (fun _ _ _ h => h) (Or.inl ⟨by rfl, ?y0⟩) ?_
          case y0 => (intro w; go_simp; try with_reducible rfl)
          refine wpAny_take (i := 1) (v := ?v1) rfl (by kernel_rfl) (by kernel_rfl) (by kernel_rfl) (fun _ _ _ h => h) (Or.inl ⟨by rfl, ?y1⟩) ?_
          case y1 => (intro w; go_simp; try with_reducible rfl)
          refine wpAny_take (i := 2) (v := ?v2) rfl (by kernel_rfl) (by kernel_rfl) (by kernel_rfl) (fun _ _ _ h => h) (Or.inl ⟨by rfl, ?y2⟩) ?_
          case y2 => (intro w; go_simp; try with_reducible rfl)
          refine wpAny_take (i := 3) (v := ?v3) rfl (by kernel_rfl) (by kernel_rfl) (by kernel_rfl) (fun _ _ _ h => h) (Or.inl ⟨by rfl, ?y3⟩) ?_
          case y3 => (intro w; go_simp; try with_reducible rfl)
          refine wpAny_take (i := 6) (v := ?v6) rfl (by kernel_rfl) (by kernel_rfl) (by kernel_rfl) (fun _ _ _ h => h) (Or.inl ⟨by rfl, ?y6⟩) ?_
          case y6 => (intro w; go_simp; try with_reducible rfl)
          refine wpAny_take (i := 7) (v := ?v7) rfl (by kernel_rfl) (by kernel_rfl) (by kernel_rfl) (fun _ _ _ h => h) (Or.inl ⟨by rfl, ?y7⟩) ?_
          case y7 => (intro w; go_simp; try with_reducible rfl)
          rw [M1.out]
          refine wpAny_take (i := 8) (v := ?v8) rfl (by kernel_rfl) (by kernel_rfl) (by kernel_rfl) (fun _ _ _ h => h) (Or.inl ⟨by rfl, ?y8⟩) ?_
          case y8 => (intro w; go_simp; try with_reducible rfl)
          rw [M2.out]
          refine wpAny_take (i := 9) (v := ?v9) rfl (by kernel_rfl) (by kernel_rfl) (by kernel_rfl) (fun _ _ _ h => h) (Or.inl ⟨by rfl, ?y9⟩) ?_
          case y9 => (intro w; go_simp; try with_reducible rfl)
          refine wpAny_take (i := 10) (v := ?v10) rfl (by kernel_rfl) (by kernel_rfl) (by kernel_rfl) (fun _ _ _ h => h) (Or.inl ⟨by rfl, ?y10⟩) ?_
          case y10 => (intro w; go_simp; try with_reducible rfl)
          rw [M3.out]
          refine wpAny_take (i := 11) (v := ?v11) rfl (by kernel_rfl) (by kernel_rfl) (by kernel_rfl) (fun _ _ _ h => h) (Or.inl ⟨by rfl, ?y11⟩) ?_
          case y11 => (intro w; go_simp; try with_reducible rfl)
          rw [T1.out]
          refine wpAny_take (i := 15) (v := ?v15) rfl (by kernel_rfl) (by kernel_rfl) (by kernel_rfl) (fun _ _ _ h => h) (Or.inl ⟨by rfl, ?y15⟩) ?_
          case y15 => (intro w; go_simp; try with_reducible rfl)
          refine any_two (i := 4) (j := 12) (by kernel_rfl) rfl rfl rfl rfl (fun K hK => ?ja) (fun K hK => ?jb)
          case' ja =>
            have cy := CY.out
            go_simp
            refine hK _ _ ?_
            clear hK K cy
            refine wpAny_take (i := 5) (v := ?v5) rfl (by kernel_rfl) (by kernel_rfl) (by kernel_rfl) (fun _ _ _ h => h) (Or.inl ⟨by rfl, ?y5⟩) ?_
            case y5 => (intro w; go_simp; try with_reducible rfl)
            refine any_step (i := 12) (by kernel_rfl) rfl rfl (fun K hK => ?_)
            have cb := CB.out
            go_simp
            refine hK _ _ ?_
            clear hK K cb
            refine wpAny_take (i := 13) (v := ?v13) rfl (by kernel_rfl) (by kernel_rfl) (by kernel_rfl) (fun _ _ _ h => h) (Or.inl ⟨by rfl, ?y13⟩) ?_
            case y13 => (intro w; go_simp; try with_reducible rfl)
          case' jb =>
            have cb := CB.out
            go_simp
            refine hK _ _ ?_
            clear hK K cb
            refine wpAny_take (i := 13) (v := ?v13) rfl (by kernel_rfl) (by kernel_rfl) (by kernel_rfl) (fun _ _ _ h => h) (Or.inl ⟨by rfl, ?y13⟩) ?_
            case y13 => (intro w; go_simp; try with_reducible rfl)
            refine any_step (i := 4) (by kernel_rfl) rfl rfl (fun K hK => ?_)
            have cy := CY.out
            go_simp
            refine hK _ _ ?_
            clear hK K cy
            refine wpAny_take (i := 5) (v := ?v5) rfl (by kernel_rfl) (by kernel_rfl) (by kernel_rfl) (fun _ _ _ h => h) (Or.inl ⟨by rfl, ?y5⟩) ?_
            case y5 => (intro w; go_simp; try with_reducible rfl)
          all_goals
            refine wpAny_take (i := 14) (v := ?v14) rfl (by kernel_rfl) (by kernel_rfl) (by kernel_rfl) (fun _ _ _ h => h) (Or.inl ⟨by rfl, ?y14⟩) ?_
            case y14 => (intro w; go_simp; try with_reducible rfl)
            rw [HV.out]
            refine wpAny_take (i := 16) (v := ?v16) rfl (by kernel_rfl) (by kernel_rfl) (by kernel_rfl) (fun _ _ _ h => h) (Or.inl ⟨by rfl, ?y16⟩) ?_
            case y16 => (intro w; go_simp; try with_reducible rfl)
            refine any_step (i := 17) (by kernel_rfl) rfl rfl (fun K hK => ?_)
            have cy := CY.out
            go_simp
            refine hK _ _ ?_
            clear hK K
            refine wpAny_done (by kernel_rfl) ?_ _
            go_wp2_with fail
            go_roundw
            case rel => exact ⟨j, by omega, by go_num, by rw [HQQ.out]; exact HSET.out⟩
            case measure => simp [intOf]
    · have hk' : k = 16 := by omega
      subst hk'
      have g2 := hr.row
      rw [List.take_of_length_le (show cs.length ≤ 16 by omega), Nat.sub_self, List.replicate_zero, List.append_nil] at g2
      have hb6 := hr.below
      have iB := size41' HLS.out
      have iT := size74' idx hlen
      have hoB := blkA_one b
      have eB : (blkA zb).size = (blkA b).size := by rw [zbA_size, blkA_size, HLS.out]
      have eT : (pickA 0 z16).size = (pickA idx cs).size := by rw [pickA_size, pickA_size, hlen]; rfl
      have oT := pickA_one idx cs
      have HR := hideIt hr
      have HOB := hideIt hoB
      have EB := hideIt eB
      have ET := hideIt eT
      have OT := hideIt oT
      clear hr hb6 hoB eB eT oT
      go_upto_region 14 with (first
        | (with_reducible refine wl_load rfl g2 Tryz.underlying74 rfl iT ?_)
        | (go_at_call 48; (with_reducible refine (HP.out _).mono ?_); rintro e W4 ⟨rfl, hb4⟩)
        | (with_reducible refine wl_extract rfl rfl ?_)
        | (with_reducible refine wl_alloc_store zero41 (by simp [Act.put]) rfl rfl iB EB.out HOB.out ?_))
      obtain ⟨W5, hW5⟩ : ∃ W, W = W4.alloc (.cells (blkA b) 41) := ⟨_, rfl⟩
      rw [← hW5]
      have hr4 := HR.out.step hb4
      have hr5 : PGetAt w b idx (cs.take 16 ++ List.replicate (16 - 16) 0) W5 := hr4.step (by rw [hW5]; exact (Below.refl _ _).alloc (Nat.le_refl _) _)
      have g8 : W5.heap[W4.heap.size]? = some (.cells (blkA b) 41 (0, 0)) := by rw [hW5, hget_at _ _ rfl]
      have g0 := hr5.box
      have g1 := hr5.zero
      have g2 := hr5.row
      rw [List.take_of_length_le (show cs.length ≤ 16 by omega), Nat.sub_self, List.replicate_zero, List.append_nil] at g2
      have hB5 := hr5.below
      have HB5 := hideIt hB5
      have G0 := hideIt g0
      have G1 := hideIt g1
      have G2 := hideIt g2
      have G8 := hideIt g8
      have hbb : (b == b) = true := by simp
      clear hr4 hr5 g0 g1 g2 g8 hB5 hW5
      go_wp2_with (first
        | (with_reducible refine wl_load rfl G8.out Tryz.underlying41 rfl iB ?_)
        | (with_reducible refine wl_load rfl G0.out Tryz.underlying41 rfl iB ?_)
        | (with_reducible refine wl_neq41 rfl rfl HLS.out HLS.out ?_; simp only [hbb, Bool.not_true])
        | (with_reducible refine wl_load rfl G2.out Tryz.underlying74 rfl iT ?_)
        | (with_reducible refine wl_store rfl rfl G1.out iT ET.out OT.out ?_))
      exact ret_cell_tmp rfl rfl rfl (setRow_heap _ _ _ _ _ _ G1.out) Tryz.underlying74 rfl iT ⟨rfl, below_setRow HB5.out (by omega) _⟩
end Go.Proofs.YtnibehcgnhdcgaaGreatDoor
/- The document's comparison of lists, where both hold one number. -/
namespace Go.Proofs.YtnibehcgnhdcgaaGreatDoor
open Go.RowKit

set_option maxHeartbeats 1000000 in
theorem same1_any (g1 g2 c1 c2 : Nat) (x : Int) (w : World) (h1 : w.cell? ⟨g1, 0, none⟩ = some (.int .u32 x)) (h2 : w.cell? ⟨g2, 0, none⟩ = some (.int .u32 x)) :
    Calls Tryz.prog 21 #[.slice (some ⟨g1, 0, none⟩) 1 c1, .slice (some ⟨g2, 0, none⟩) 1 c2] w fun e w' => e = .returned (.bool true) ∧ Below w.heap.size w w' := by
  go_enter Tryz.func21, Tryz.ntmps21
  go_wp2
  refine wp_loop_rounds 3 ?_
  rw [rounds_succ]
  go_wp2_with fail
  go_quiet (fail)
  go_wp2_with fail
  rw [rounds_succ]
  go_wp2_with fail
  go_ret
  exact ⟨rfl, below_drewN (Below.refl _ _) _⟩
end Go.Proofs.YtnibehcgnhdcgaaGreatDoor
/- The table of 64 blocks that 'head' makes: what is reckoned of it. -/
namespace Go.Proofs.YtnibehcgnhdcgaaGreatDoor
open Go.RowKit

/-- The table of a new device of 64 blocks. -/
def tab0 (tb db mb pm tm sm : Nat) (b : List UInt8) : Tab :=
  { tb := tb, db := db, mb := mb, pm := pm, tm := tm, sm := sm, n := 64, gen := 1, picks := 0, G := putD [] 1 b, pk := z16, tl := fun _ => z64 }
def c92 : List Int := z64.set 9 2
def p01 : List Int := z16.set 0 1
structure HeadOk (T : Tab) : Prop where
  ok : TabOk T
  now0 : T.now [] 9 = 0
  err9 : T.err 9 = 0
  set1e : T.setErr 9 = 0
  set1 : T.setTo [] 9 2 = [(9, 2)]
  now1 : T.now [(9, 2)] 9 = 2
  old9 : T.old 9 = 0
  set2e : T.setErr 5 = 2
  set2 : T.setTo [(9, 2)] 5 1 = [(9, 2)]
  set3 : T.setTo [(9, 2)] 9 0 = []
  sok : SetOk T [(9, 2)]
  sok0 : SetOk T []
  puts : sealPuts T [(9, 2)] = [(5, putB 84 0 2 c92), (3, putB 80 0 8 p01)]
  picks : sealPicks T [(9, 2)] = 1
  puts0 : sealPuts T [] = []
  picks0 : sealPicks T [] = 0
theorem keyL92 : keyL [(9, 2)] = [9] := by simp [keyL, sortI]
theorem keyL0 : keyL [] = [] := by simp [keyL, sortI]
theorem tab0_ok (tb db mb pm tm sm : Nat) (b : List UInt8) : HeadOk (tab0 tb db mb pm tm sm b) := by
  have h0 : (tab0 tb db mb pm tm sm b).old 9 = 0 := by rfl
  refine ⟨new_ok tb db mb pm tm sm 64 (by omega) (by omega) b, by rfl, by rfl, by rfl, by rfl, by rfl, h0, by rfl, by rfl, by rfl, ⟨by simp, ?_, ?_, ?_⟩, ⟨by simp, by simp, by simp, by simp⟩, ?_, ?_, ?_, ?_⟩
  · intro p hp; simp at hp; subst hp
    exact ⟨by show planFi 64 ≤ 9; decide, by show (9 : Int) < 64; decide⟩
  · intro p hp; simp at hp; subst hp; decide
  · intro p hp; simp at hp; subst hp
    rw [h0]; decide
  · have e1 : turnL z16 0 = p01 := by decide +kernel
    have e2 : fillP [(9, 2)] (9 / 64) z64 [9] = (c92, []) := by decide +kernel
    have e3 : otherI ((tab0 tb db mb pm tm sm b).at (9 / 64)) = 5 := by rfl
    have e4 : otherI (2 + (tab0 tb db mb pm tm sm b).picks) = 3 := by rfl
    unfold sealPuts
    rw [keyL92]
    show (match sealG (tab0 tb db mb pm tm sm b) [(9, 2)] 2 [9] none [] with | (none, l) => l | (some cs, l) => l ++ [(otherI (2 + (tab0 tb db mb pm tm sm b).picks), putB 80 0 8 cs)]) = _
    rw [e4, sealG, show (tab0 tb db mb pm tm sm b).tl (9 / 64) = z64 from rfl, e2, e3]
    simp only [sealG]
    rw [show turnL ((none : Option (List Int)).getD (tab0 tb db mb pm tm sm b).pk) ((9 : Int) / 64).toNat = p01 from e1]
    rfl
  · unfold sealPicks
    rw [keyL92]
    rfl
  · unfold sealPuts
    rw [keyL0]
    rfl
  · unfold sealPicks
    rw [keyL0]
    rfl
end Go.Proofs.YtnibehcgnhdcgaaGreatDoor
