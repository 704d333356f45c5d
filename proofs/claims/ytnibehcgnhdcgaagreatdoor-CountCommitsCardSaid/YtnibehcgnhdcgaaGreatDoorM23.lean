/- The document's numbers, byte by byte. -/
import Derived.Test.YtnibehcgnhdcgaaGreatDoorM22
import Derived.Test.YtnibehcgnhdcgaaGreatDoorM2
import Derived.Test.YtnibehcgnhdcgaaGreatDoorM7
import Derived.Deep.DeepCutAuto
import Derived.Deep.CutBlock
namespace Go.Proofs.YtnibehcgnhdcgaaGreatDoor
open Go.RowKit

theorem run_bs5 (w : World) (x : Int) : (Instr.buildSlice 156 1 #[(0, .int .u8 x)]).run Tryz.prog w = .ok (.slice (some ⟨w.heap.size, 0, none⟩) 1 1) (w.alloc (.cells #[.int .u8 x] 5)) := by
  go_simp
/-- A conversion: its run is known. -/
theorem wp_conv {P : Program} {o : Oper} {a : Act} {w : World} {K : Act → World → Prop} {Q : Exit → Act → World → Prop} {s t : TypeId} {x : Operand} {u v : Value} (ho : o.op = .convert s t x)
    (hx : a.eval x = u) (hr : (convert s t u).run P w = .ok v w) (h : K (a.put o.dst v) w) : o.wp P a w K Q := by
  subst hx
  unfold Oper.wp execOp
  simp only [ho, Sem.run_bind, hr, Result.andThen_ok]
  exact h
theorem string_of_one (w : World) (g : Nat) (x : Int) (fr : Nat × Nat) (hg : w.heap[g]? = some (.cells #[.int .u8 (x % 256)] 5 fr)) :
    (convert 156 9 (.slice (some ⟨g, 0, none⟩) 1 1)).run Tryz.prog w = .ok (.string ⟨#[toB x]⟩) w := by
  rw [← byteV_toB] at hg
  have h := run_string_of (P := Tryz.prog) w 156 9 5 ⟨g, 0, none⟩ 1 [toB x] Tryz.underlying156 Tryz.underlying5 Tryz.underlying9 (fun j v hv => by
    rw [Addr.add_mid, cell_of_row w g _ _ _ _ hg]
    simpa using hv)
  exact h

set_option maxRecDepth 100000 in
set_option maxHeartbeats 1000000 in
theorem rnum_any (k : Nat) : k ≤ 8 → ∀ (n : Int), 0 ≤ n → n < 18446744073709551616 → ∀ w : World,
    Calls Tryz.prog 72 #[.int .u64 n, .int .i64 k] w fun e w' => e = .returned (.string ⟨(leB k n).toArray⟩) ∧ Below w.heap.size w w' := by
  induction k with
  | zero =>
    intro _ n hn1 hn2 w
    go_enter Tryz.func72, Tryz.ntmps72
    go_wp2
    go_ret
    exact ⟨rfl, Below.refl _ _⟩
  | succ k ih =>
    intro hk n hn1 hn2 w
    have ihc := fun W => ih (by omega) (n / 256) (by omega) (by omega) W
    have hsum : IntKind.i64.wrap (k : Int) = (k : Int) := by
      rw [IntKind.wrap_i64]; omega
    have htm : IntKind.u8.wrap (n.tmod 256) = n % 256 := by
      rw [Int.tmod_eq_emod_of_nonneg hn1, IntKind.wrap_u8]; omega
    have htd : IntKind.u64.wrap (n.tdiv 256) = n / 256 := by
      rw [Int.tdiv_eq_ediv_of_nonneg hn1, IntKind.wrap_u64]; omega
    have hend : ({ data := #[toB n] } : ByteArray) ++ { data := (leB k (n / 256)).toArray } = { data := (leB (k + 1) n).toArray } := by
      rw [leB]
      apply ByteArray.ext
      simp
    have hlen : ¬ 9223372036854775807 < 1 + (leB k (n / 256)).length := by rw [leB_length]; omega
    have HLEN := hideIt hlen
    have HSU := hideIt hsum
    have HTM := hideIt htm
    have HTD := hideIt htd
    have HEND := hideIt hend
    clear ih hsum htm htd hend hlen
    go_enter Tryz.func72, Tryz.ntmps72
    go_wp2_with fail
    refine wp_region_held (S := (fun _ : World => True)) (by kernel_rfl) ?_
    change wpAnyH _ _ _ _ _ _ _ _ (World.drew _)
    try simp only [Act.put, List.setIfInBounds_toArray, List.set_cons_succ, List.set_cons_zero]
    have hS := trivial
    refine takeH 0 (v := ?_) rfl rfl (by kernel_rfl) (by kernel_rfl) (by kernel_rfl) (fun _ _ _ h => h) hS (yieldsIf_run rfl ?_) ?_
    rotate_left
    focus (intro w hSw; go_simp; try with_reducible rfl)
    simp only [List.setIfInBounds_toArray, List.set_cons_succ, List.set_cons_zero]
    refine takeH 1 (v := ?_) rfl rfl (by kernel_rfl) (by kernel_rfl) (by kernel_rfl) (fun _ _ _ h => h) hS (yieldsIf_run rfl ?_) ?_
    rotate_left
    focus (intro w hSw; go_simp; try with_reducible rfl)
    simp only [List.setIfInBounds_toArray, List.set_cons_succ, List.set_cons_zero]
    refine takeH 2 (v := ?_) rfl rfl (by kernel_rfl) (by kernel_rfl) (by kernel_rfl) (fun _ _ _ h => h) hS (yieldsIf_run rfl ?_) ?_
    rotate_left
    focus (intro w hSw; go_simp; try with_reducible rfl)
    simp only [List.setIfInBounds_toArray, List.set_cons_succ, List.set_cons_zero]
    refine takeH 5 (v := ?_) rfl rfl (by kernel_rfl) (by kernel_rfl) (by kernel_rfl) (fun _ _ _ h => h) hS (yieldsIf_run rfl ?_) ?_
    rotate_left
    focus (intro w hSw; go_simp; try with_reducible rfl)
    simp only [List.setIfInBounds_toArray, List.set_cons_succ, List.set_cons_zero]
    refine takeH 6 (v := ?_) rfl rfl (by kernel_rfl) (by kernel_rfl) (by kernel_rfl) (fun _ _ _ h => h) hS (yieldsIf_run rfl ?_) ?_
    rotate_left
    focus (intro w hSw; go_simp; try with_reducible rfl)
    simp only [List.setIfInBounds_toArray, List.set_cons_succ, List.set_cons_zero]
    refine takeH 7 (v := ?_) rfl rfl (by kernel_rfl) (by kernel_rfl) (by kernel_rfl) (fun _ _ _ h => h) hS (yieldsIf_run rfl ?_) ?_
    rotate_left
    focus (intro w hSw; go_simp; try with_reducible rfl)
    simp only [List.setIfInBounds_toArray, List.set_cons_succ, List.set_cons_zero]
    refine takeH 8 (v := ?_) rfl rfl (by kernel_rfl) (by kernel_rfl) (by kernel_rfl) (fun _ _ _ h => h) hS (yieldsIf_run rfl ?_) ?_
    rotate_left
    focus (intro w hSw; go_simp; try with_reducible rfl)
    simp only [List.setIfInBounds_toArray, List.set_cons_succ, List.set_cons_zero]
    rw [HSU.out, HTM.out, HTD.out]
    clear HSU HTM HTD
    refine anyH_two (i := 3) (j := 9) (by kernel_rfl) rfl rfl rfl rfl (fun K hK => ?ja) (fun K hK => ?jb)
    case' ja =>
      refine wp_bs (l := #[(0, .int .u8 (n % 256))]) rfl (by simp [Act.eval]) (run_bs5 _ _) ?_
      refine hK _ _ (trivial) ?_
      clear hK K
      try simp only [Act.put, List.setIfInBounds_toArray, List.set_cons_succ, List.set_cons_zero]
      obtain ⟨W1, hW1⟩ : ∃ W, W = w.drew.alloc (.cells #[.int .u8 (n % 256)] 5) := ⟨_, rfl⟩
      have g1 : W1.heap[w.heap.size]? = some (.cells #[.int .u8 (n % 256)] 5 (0, 0)) := by rw [hW1]; exact hget_at _ _ rfl
      have b1 : Below w.heap.size w W1 := by rw [hW1]; exact (Below.refl _ _).drew.alloc (Nat.le_refl _) _
      have s1 : W1.heap.size = w.heap.size + 1 := by rw [hW1]; simp
      have hv1 := string_of_one W1 _ _ _ g1
      rw [show w.drew.heap.size = w.heap.size from rfl]
      rw [← hW1]
      clear hW1
      refine anyH_two (i := 4) (j := 9) (by kernel_rfl) rfl rfl rfl rfl (fun K hK => ?jc) (fun K hK => ?jd)
      case' jc =>
        refine wp_conv rfl rfl hv1 ?_
        refine hK _ _ (trivial) ?_
        clear hK K
        try simp only [Act.put, List.setIfInBounds_toArray, List.set_cons_succ, List.set_cons_zero]
        refine anyH_step (i := 9) (by kernel_rfl) rfl rfl (fun K hK => ?_)
        go_simp
        go_at_call 72
        (with_reducible refine (ihc _).mono ?_)
        rintro e W2 ⟨rfl, hb2⟩
        have hB := b1.trans (hb2.mono (by omega))
        refine hK _ _ (trivial) ?_
        clear hK K
        try simp only [Act.put, List.setIfInBounds_toArray, List.set_cons_succ, List.set_cons_zero]
      case' jd =>
        go_simp
        go_at_call 72
        (with_reducible refine (ihc _).mono ?_)
        rintro e W2 ⟨rfl, hb2⟩
        have hB := b1.trans (hb2.mono (by omega))
        have hv2 := string_of_one W2 _ _ _ ((hb2.block _ (by omega)).trans g1)
        refine hK _ _ (trivial) ?_
        clear hK K
        try simp only [Act.put, List.setIfInBounds_toArray, List.set_cons_succ, List.set_cons_zero]
        refine anyH_step (i := 4) (by kernel_rfl) rfl rfl (fun K hK => ?_)
        refine wp_conv rfl rfl hv2 ?_
        refine hK _ _ (trivial) ?_
        clear hK K
        try simp only [Act.put, List.setIfInBounds_toArray, List.set_cons_succ, List.set_cons_zero]
    case' jb =>
      go_simp
      go_at_call 72
      (with_reducible refine (ihc _).mono ?_)
      rintro e W1 ⟨rfl, hb1⟩
      refine hK _ _ (trivial) ?_
      clear hK K
      try simp only [Act.put, List.setIfInBounds_toArray, List.set_cons_succ, List.set_cons_zero]
      refine anyH_step (i := 3) (by kernel_rfl) rfl rfl (fun K hK => ?_)
      refine wp_bs (l := #[(0, .int .u8 (n % 256))]) rfl (by simp [Act.eval]) (run_bs5 _ _) ?_
      obtain ⟨W2, hW2⟩ : ∃ W, W = W1.alloc (.cells #[.int .u8 (n % 256)] 5) := ⟨_, rfl⟩
      have hv2 := string_of_one W2 W1.heap.size n (0, 0) (by rw [hW2, hget_at _ _ rfl])
      have hB : Below w.heap.size w W2 := by rw [hW2]; exact ((Below.refl _ w).drew.trans hb1).alloc hb1.size _
      subst hW2
      refine hK _ _ (trivial) ?_
      clear hK K
      try simp only [Act.put, List.setIfInBounds_toArray, List.set_cons_succ, List.set_cons_zero]
      refine anyH_step (i := 4) (by kernel_rfl) rfl rfl (fun K hK => ?_)
      refine wp_conv rfl rfl hv2 ?_
      refine hK _ _ (trivial) ?_
      clear hK K
      try simp only [Act.put, List.setIfInBounds_toArray, List.set_cons_succ, List.set_cons_zero]
    all_goals
      refine anyH_step (i := 10) (by kernel_rfl) rfl rfl (fun K hK => ?_)
      go_simp
      rw [HEND.out, if_neg HLEN.out]
      go_simp
      refine hK _ _ (trivial) ?_
      clear hK K
      try simp only [Act.put, List.setIfInBounds_toArray, List.set_cons_succ, List.set_cons_zero]
      refine takeH 11 (v := ?_) rfl rfl (by kernel_rfl) (by kernel_rfl) (by kernel_rfl) (fun _ _ _ h => h) hS (yieldsIf_run rfl ?_) ?_
      rotate_left
      focus (intro w hSw; go_simp; try with_reducible rfl)
      simp only [List.setIfInBounds_toArray, List.set_cons_succ, List.set_cons_zero]
      refine wpAnyH_done (by kernel_rfl) ?_ _
      go_wp2
      go_ret
      exact ⟨rfl, hB⟩
end Go.Proofs.YtnibehcgnhdcgaaGreatDoor
/- The document's block of all fields' bytes. -/
namespace Go.Proofs.YtnibehcgnhdcgaaGreatDoor
open Go.RowKit

theorem rawB_nil (m : UInt8) : rawB m [] = zb.set 0 m := by rfl
theorem rawB_set (m : UInt8) (L : List UInt8) (k : Nat) (hk : k < L.length) (hL : L.length ≤ 251) : (rawB m (L.take k)).set (1 + k) L[k] = rawB m (L.take (k + 1)) := by
  have h1 : (L.take k).length = k := by rw [List.length_take]; omega
  have h2 : (L.take (k + 1)).length = k + 1 := by rw [List.length_take]; omega
  unfold rawB
  have e := List.take_succ_eq_append_getElem hk
  rw [h1, h2, Nat.add_comm 1 k, List.set_cons_succ, List.set_append_right _ _ (by omega), h1, Nat.sub_self, e,
    show 255 - k = (255 - (k + 1)) + 1 from by omega, List.replicate_succ, List.set_cons_zero, List.append_assoc]
  rfl
/-- The worlds of the loop. -/
structure DoneAt (w : World) (m : UInt8) (L : List UInt8) (k : Nat) (W : World) : Prop where
  zero : W.heap[w.heap.size]? = some (.cells (blkA zb) 41 (0, 0))
  row : W.heap[w.heap.size + 1]? = some (.cells (blkA (rawB m (L.take k))) 41 (0, 0))
  below : Below w.heap.size w W

set_option maxRecDepth 100000 in
set_option maxHeartbeats 1000000 in
theorem rdone_any (m : UInt8) (L : List UInt8) (hL : L.length ≤ 251) (w : World) :
    Calls Tryz.prog 73 #[.int .u8 m.toNat, .string ⟨L.toArray⟩] w fun e w' => e = .returned (.tuple #[.agg (blkA (sealB (rawB m L))), .int .i64 0]) ∧ Below w.heap.size w w' := by
  have hz := zbA_size
  have hone := blkA_one zb
  have i1 := size41.trans (congrArg some hz.symm)
  obtain ⟨W1, hW1⟩ : ∃ W, W = (w.alloc (.cells (blkA zb) 41)).alloc (.cells (blkA zb) 41) := ⟨_, rfl⟩
  have g1 : W1.heap[w.heap.size + 1]? = some (.cells (blkA zb) 41 (0, 0)) := by rw [hW1, hget_at _ _ (by simp)]
  have g0 : W1.heap[w.heap.size]? = some (.cells (blkA zb) 41 (0, 0)) := by rw [hW1, hget_past _ _ (by simp), hget_at _ _ rfl]
  have c3 : W1.cell? ⟨w.heap.size + 1, 0, none⟩ = some (.int .u8 0) := by rw [cell_of_row _ _ 0 _ _ _ g1]; rfl
  have f3 : W1.frozen? ⟨w.heap.size + 1, 0, none⟩ = false := by rw [frozen_of_row _ _ 0 _ _ g1]
  have hB1 : Below w.heap.size w W1 := by rw [hW1]; exact ((Below.refl _ w).alloc (Nat.le_refl _) _).alloc (by simp) _
  have hat : DoneAt w m L 0 (W1.setCell ⟨w.heap.size + 1, 0, none⟩ (byteV m)) := ⟨by rw [hget_setCell_other _ _ _ (by simp), g0],
    by rw [hget_setCell_same _ 0 _ _ _ g1, set0]; rfl, hB1.setCell (by simp) _⟩
  have hsl := sealB_length (rawB m L)
  have hrl := rawB_length m L hL
  have hseal := fun W => rseal_any (rawB m L) hrl W
  have i3 := size41' hrl
  have i4 := size41' (hsl.trans hrl)
  have e4 : (blkA zb).size = (blkA (sealB (rawB m L))).size := by rw [zbA_size, blkA_size, hsl, hrl]
  have h14 := blkA_one (sealB (rawB m L))
  have HW := hideIt hW1
  have HAT := hideIt hat
  have HL := hideIt hL
  have HSE := hideIt hseal
  have I3 := hideIt i3
  have I4 := hideIt i4
  have E4 := hideIt e4
  have H14 := hideIt h14
  clear hW1 g1 g0 hB1 hat hsl hrl hseal i3 i4 e4 h14
  go_enter Tryz.func73, Tryz.ntmps73
  go_upto_region 4 with (first
    | (with_reducible refine wl_build0 built41 ?_)
    | (with_reducible refine wl_alloc_store zero41 (by simp [Act.put]) rfl rfl i1 rfl hone ?_)
    | (with_reducible refine wl_alloc zero41 ?_))
  simp only [Act.put, List.setIfInBounds_toArray, List.set_cons_succ, List.set_cons_zero]
  rw [show (w.alloc (.cells (blkA zb) 41)).heap.size = w.heap.size + 1 from by simp, ← HW.out]
  clear i1 hone hz
  go_wp2_with fail
  change Code.wp _ _ _ _ (W1.setCell ⟨w.heap.size + 1, 0, none⟩ (byteV m))
  go_loopw [7] (fun v7 wr => ∃ (k : Nat), k ≤ L.length ∧ v7 = .int .i64 k ∧ DoneAt w m L k wr) (fun v7 _ => L.length - (intOf v7).toNat)
  case atStart => exact ⟨0, by omega, rfl, HAT.out⟩
  case round =>
    obtain ⟨k, hk, rfl, hr⟩ := hrel
    by_cases hlt : k < L.length
    · have c1 : ∃ v, wr.cell? ⟨w.heap.size + 1, 1 + k, none⟩ = some v := ⟨_, by rw [cell_of_row _ _ _ _ _ _ hr.row]; exact Array.getElem?_eq_getElem (by rw [blkA_size, rawB_length _ _ (by rw [List.length_take]; omega)]; omega)⟩
      have f1 : wr.frozen? ⟨w.heap.size + 1, 1 + k, none⟩ = false := by rw [frozen_of_row _ _ _ _ _ hr.row]
      obtain ⟨v1, c1⟩ := c1
      have HR := hideIt hr
      clear hr
      go_wp2_with fail
      refine ⟨⟨k + 1, by omega, by go_num, ?_⟩, by simp [intOf]; omega⟩
      change DoneAt w m L (k + 1) (wr.setCell ⟨w.heap.size + 1, 1 + k, none⟩ (byteV L[k]))
      exact ⟨by rw [hget_setCell_other _ _ _ (by simp), HR.out.zero],
        by rw [hget_setCell_same _ _ _ _ _ HR.out.row, blkA_set, rawB_set m L k hlt HL.out], HR.out.below.setCell (by simp) _⟩
    · have hk' : k = L.length := by omega
      subst hk'
      have g6 := hr.row
      have g4 := hr.zero
      rw [List.take_length] at g6
      have hb6 := hr.below
      have hs6 : w.heap.size + 2 ≤ wr.heap.size := (Array.getElem?_eq_some_iff.1 g6).1
      have HB6 := hideIt hb6
      clear hr hb6
      go_wp2_with (first
        | (with_reducible refine wl_load rfl g6 Tryz.underlying41 rfl I3.out ?_)
        | (go_at_call 87; (with_reducible refine (HSE.out _).mono ?_); rintro e W4 ⟨rfl, hb4⟩; have g5 := (hb4.block _ (by omega)).trans g4; have G5 := hideIt g5; clear g5)
        | (with_reducible refine wl_store rfl rfl G5.out I4.out E4.out H14.out ?_))
      exact ret_cell_tmp rfl rfl rfl (setRow_heap _ _ _ _ _ _ G5.out) Tryz.underlying41 rfl I4.out ⟨rfl, below_setRow (HB6.out.trans (hb4.mono (by omega))) (Nat.le_refl _) _⟩
end Go.Proofs.YtnibehcgnhdcgaaGreatDoor
