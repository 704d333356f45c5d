/- The document's tally and pick, put. -/
import Derived.Test.YtnibehcgnhdcgaaGreatDoorM23
import Derived.Test.YtnibehcgnhdcgaaGreatDoorM3
import Derived.Deep.DeepCutAuto
import Derived.Deep.CutBlock
namespace Go.Proofs.YtnibehcgnhdcgaaGreatDoor
open Go.RowKit

theorem rnum4_any (n : Int) (h1 : 0 ≤ n) (h2 : n < 18446744073709551616) (w : World) :
    Calls Tryz.prog 72 #[.int .u64 n, .int .i64 4] w fun e w' => e = .returned (.string ⟨(leB 4 n).toArray⟩) ∧ Below w.heap.size w w' := rnum_any 4 (by decide) n h1 h2 w
theorem rnum2_any (n : Int) (h1 : 0 ≤ n) (h2 : n < 18446744073709551616) (w : World) :
    Calls Tryz.prog 72 #[.int .u64 n, .int .i64 2] w fun e w' => e = .returned (.string ⟨(leB 2 n).toArray⟩) ∧ Below w.heap.size w w' := rnum_any 2 (by decide) n h1 h2 w
theorem rnum8_any (n : Int) (h1 : 0 ≤ n) (h2 : n < 18446744073709551616) (w : World) :
    Calls Tryz.prog 72 #[.int .u64 n, .int .i64 8] w fun e w' => e = .returned (.string ⟨(leB 8 n).toArray⟩) ∧ Below w.heap.size w w' := rnum_any 8 (by decide) n h1 h2 w
theorem bytes_app (a b : List UInt8) : ({ data := a.toArray } : ByteArray) ++ { data := b.toArray } = { data := (a ++ b).toArray } := by
  apply ByteArray.ext
  simp

/-- The worlds of the loop. -/
structure TallyRow (w : World) (idx : Int) (cs : List Int) (W : World) : Prop where
  row : W.heap[w.heap.size]? = some (.cells (tallyA idx cs) 69 (0, 0))
  zero : W.heap[w.heap.size + 1]? = some (.cells (blkA zb) 41 (0, 0))
  below : Below w.heap.size w W
theorem TallyRow.step {w : World} {idx : Int} {cs : List Int} {W W' : World} (h : TallyRow w idx cs W) (hb : Below W.heap.size W W') : TallyRow w idx cs W' :=
  ⟨(hb.block _ (Array.getElem?_eq_some_iff.1 h.row).1).trans h.row, (hb.block _ (Array.getElem?_eq_some_iff.1 h.zero).1).trans h.zero, h.below.trans (hb.mono h.below.size)⟩
set_option maxRecDepth 100000 in
set_option maxHeartbeats 1000000 in
theorem rtput_any (idx : Int) (hi0 : 0 ≤ idx) (hi1 : idx < 16384) (cs : List Int) (hlen : cs.length = 64) (hcs : ∀ x ∈ cs, 0 ≤ x ∧ x < 65536) (w : World) :
    Calls Tryz.prog 47 #[.agg (tallyA idx cs)] w
      fun e w' => e = .returned (.tuple #[.agg (blkA (putB 84 idx 2 cs)), .int .i64 0]) ∧ Below w.heap.size w w' := by
  obtain ⟨W1, hW1⟩ : ∃ W, W = (w.alloc (.cells (tallyA idx cs) 69)).alloc (.cells (blkA zb) 41) := ⟨_, rfl⟩
  have hat : TallyRow w idx cs W1 := ⟨by rw [hW1, hget_past _ _ (by simp), hget_at _ _ rfl], by rw [hW1, hget_at _ _ (by simp)], by rw [hW1]; exact ((Below.refl _ w).alloc (Nat.le_refl _) _).alloc (by simp) _⟩
  have c0 : W1.cell? ⟨w.heap.size, 0, none⟩ = some (.int .u32 idx) := by rw [cell_of_row W1 _ 0 _ _ _ hat.row]; rfl
  have hnum0 := rnum4_any idx hi0 (by omega) W1
  have hlS : (putB 84 idx 2 cs).length = 256 := (sealB_length _).trans (rawB_length _ _ (by rw [List.length_append, leB_length, rowB_length, hlen]; decide))
  have hdone : ∀ W, Calls Tryz.prog 73 #[.int .u8 84, .string ⟨(leB 4 idx ++ rowB 2 cs).toArray⟩] W fun e w' => e = .returned (.tuple #[.agg (blkA (putB 84 idx 2 cs)), .int .i64 0]) ∧ Below W.heap.size W w' := fun W => rdone_any 84 (leB 4 idx ++ rowB 2 cs) (by rw [List.length_append, leB_length, rowB_length, hlen]; decide) W
  have iS := size41' hlS
  have eS : (blkA zb).size = (blkA (putB 84 idx 2 cs)).size := by rw [zbA_size, blkA_size, hlS]
  have h1S := blkA_one (putB 84 idx 2 cs)
  have HW := hideIt hW1
  have HAT := hideIt hat
  have HD := hideIt hdone
  have IS := hideIt iS
  have ES := hideIt eS
  have H1 := hideIt h1S
  have HCS := hideIt hcs
  clear hW1 hat hdone hlS iS eS h1S hcs
  have hsA : (tallyA idx cs).size = 65 := by rw [tallyA_size, hlen]
  have HSA := hideIt hsA
  clear hsA
  go_enter Tryz.func47, Tryz.ntmps47
  go_wp2_with (first
    | (with_reducible refine wl_alloc zero41 ?_; try rw [← HW.out])
    | (go_at_call 72; (with_reducible refine hnum0.mono ?_); rintro e W2 ⟨rfl, hb2⟩))
  have hat2 := HAT.out.step hb2
  have HAT2 := hideIt hat2
  clear hat2 hb2 c0 hnum0
  go_loopw [4, 5] (fun v4 v5 wr => ∃ (k : Nat), k ≤ 64 ∧ v5 = .int .i64 k ∧ v4 = .string ⟨(leB 4 idx ++ rowB 2 (cs.take k)).toArray⟩ ∧ TallyRow w idx cs wr) (fun _ v5 _ => 64 - (intOf v5).toNat)
  case atStart => exact ⟨0, by omega, rfl, by simp [rowB], HAT2.out⟩
  case round =>
    obtain ⟨k, hk, rfl, rfl, hr⟩ := hrel
    by_cases hlt : k < 64
    · have hsL : (leB 4 idx ++ rowB 2 (cs.take k)).length ≤ 200 := by rw [List.length_append, leB_length, rowB_length, List.length_take]; omega
      have hnx : leB 4 idx ++ rowB 2 (cs.take (k + 1)) = (leB 4 idx ++ rowB 2 (cs.take k)) ++ leB 2 (cs[k]'(by omega)) := by
        rw [List.take_succ_eq_append_getElem (by omega), rowB_snoc, List.append_assoc]
      have HNX := hideIt hnx
      have hxb := HCS.out _ (List.getElem_mem (show k < cs.length by omega))
      have hck : wr.cell? ⟨w.heap.size, 1 + k, none⟩ = some (.int .u16 (cs[k]'(by omega))) := by
        rw [cell_of_row wr _ _ _ _ _ hr.row, tallyA_succ, List.getElem?_eq_getElem (by omega)]; rfl
      generalize hsl : leB 4 idx ++ rowB 2 (cs.take k) = sL at hsL hnx
      generalize hxx : (cs[k]'(show k < cs.length by omega)) = x at hck hxb hnx
      have hnum := rnum2_any x hxb.1 (by omega) wr
      have hlx : (leB 2 x).length = 2 := leB_length _ _
      have hx0 := hxb.1
      have hx1 := hxb.2
      have HR := hideIt hr
      have HSL := hideIt hsl
      have HXX := hideIt hxx
      clear hr hnx hxb hsl hxx
      go_wp2_with (first
        | (go_at_call 72; (with_reducible refine hnum.mono ?_); rintro e W3 ⟨rfl, hb3⟩))
      refine ⟨⟨k + 1, by omega, by go_num, ?_, HR.out.step hb3⟩, by simp [intOf]; omega⟩
      rw [bytes_app, HNX.out, HSL.out, HXX.out]
    · have hk' : k = 64 := by omega
      subst hk'
      have htk : cs.take 64 = cs := List.take_of_length_le (by omega)
      rw [htk]
      clear htk
      have HR := hideIt hr
      clear hr
      go_upto_region 9 with (first
        | (go_at_call 73; (with_reducible refine (HD.out _).mono ?_); rintro e W4 ⟨rfl, hb4⟩)
        | (with_reducible refine wl_extract rfl rfl ?_)
        | (with_reducible refine wl_alloc_store zero41 (by simp [Act.put]) rfl rfl IS.out ES.out H1.out ?_))
      generalize hS : putB 84 idx 2 cs = S at IS ES H1 hb4 ⊢
      obtain ⟨W5, hW5⟩ : ∃ W, W = W4.alloc (.cells (blkA S) 41) := ⟨_, rfl⟩
      have hr4 := HR.out.step hb4
      have g6 : W5.heap[W4.heap.size]? = some (.cells (blkA S) 41 (0, 0)) := by rw [hW5, hget_at _ _ rfl]
      have hz4 : w.heap.size + 1 < W4.heap.size := (Array.getElem?_eq_some_iff.1 hr4.zero).1
      have g4 : W5.heap[w.heap.size + 1]? = some (.cells (blkA zb) 41 (0, 0)) := by rw [hW5, hget_past _ _ hz4, hr4.zero]
      have hB5 : Below w.heap.size w W5 := by rw [hW5]; exact hr4.below.alloc hr4.below.size _
      rw [← hW5]
      have G4 := hideIt g4
      have G6 := hideIt g6
      have HB5 := hideIt hB5
      clear hW5 g4 g6 hB5 hr4 HR HD HAT HAT2
      go_wp2_with (first
        | (with_reducible refine wl_load rfl G6.out Tryz.underlying41 rfl IS.out ?_)
        | (with_reducible refine wl_store rfl rfl G4.out IS.out ES.out H1.out ?_))
      exact ret_cell_tmp rfl rfl rfl (setRow_heap _ _ _ _ _ _ G4.out) Tryz.underlying41 rfl IS.out ⟨by rw [hS]; rfl, below_setRow HB5.out (by omega) _⟩

/-- The worlds of the loop. -/
structure PickRow (w : World) (idx : Int) (cs : List Int) (W : World) : Prop where
  row : W.heap[w.heap.size]? = some (.cells (pickA idx cs) 74 (0, 0))
  zero : W.heap[w.heap.size + 1]? = some (.cells (blkA zb) 41 (0, 0))
  below : Below w.heap.size w W
theorem PickRow.step {w : World} {idx : Int} {cs : List Int} {W W' : World} (h : PickRow w idx cs W) (hb : Below W.heap.size W W') : PickRow w idx cs W' :=
  ⟨(hb.block _ (Array.getElem?_eq_some_iff.1 h.row).1).trans h.row, (hb.block _ (Array.getElem?_eq_some_iff.1 h.zero).1).trans h.zero, h.below.trans (hb.mono h.below.size)⟩
set_option maxRecDepth 100000 in
set_option maxHeartbeats 1000000 in
theorem rpput_any (idx : Int) (hi0 : 0 ≤ idx) (hi1 : idx < 16) (cs : List Int) (hlen : cs.length = 16) (hcs : ∀ x ∈ cs, 0 ≤ x ∧ x < 18446744073709551616) (w : World) :
    Calls Tryz.prog 48 #[.agg (pickA idx cs)] w
      fun e w' => e = .returned (.tuple #[.agg (blkA (putB 80 idx 8 cs)), .int .i64 0]) ∧ Below w.heap.size w w' := by
  obtain ⟨W1, hW1⟩ : ∃ W, W = (w.alloc (.cells (pickA idx cs) 74)).alloc (.cells (blkA zb) 41) := ⟨_, rfl⟩
  have hat : PickRow w idx cs W1 := ⟨by rw [hW1, hget_past _ _ (by simp), hget_at _ _ rfl], by rw [hW1, hget_at _ _ (by simp)], by rw [hW1]; exact ((Below.refl _ w).alloc (Nat.le_refl _) _).alloc (by simp) _⟩
  have c0 : W1.cell? ⟨w.heap.size, 0, none⟩ = some (.int .u32 idx) := by rw [cell_of_row W1 _ 0 _ _ _ hat.row]; rfl
  have hnum0 := rnum4_any idx hi0 (by omega) W1
  have hlS : (putB 80 idx 8 cs).length = 256 := (sealB_length _).trans (rawB_length _ _ (by rw [List.length_append, leB_length, rowB_length, hlen]; decide))
  have hdone : ∀ W, Calls Tryz.prog 73 #[.int .u8 80, .string ⟨(leB 4 idx ++ rowB 8 cs).toArray⟩] W fun e w' => e = .returned (.tuple #[.agg (blkA (putB 80 idx 8 cs)), .int .i64 0]) ∧ Below W.heap.size W w' := fun W => rdone_any 80 (leB 4 idx ++ rowB 8 cs) (by rw [List.length_append, leB_length, rowB_length, hlen]; decide) W
  have iS := size41' hlS
  have eS : (blkA zb).size = (blkA (putB 80 idx 8 cs)).size := by rw [zbA_size, blkA_size, hlS]
  have h1S := blkA_one (putB 80 idx 8 cs)
  have HW := hideIt hW1
  have HAT := hideIt hat
  have HD := hideIt hdone
  have IS := hideIt iS
  have ES := hideIt eS
  have H1 := hideIt h1S
  have HCS := hideIt hcs
  clear hW1 hat hdone hlS iS eS h1S hcs
  have hsA : (pickA idx cs).size = 17 := by rw [pickA_size, hlen]
  have HSA := hideIt hsA
  clear hsA
  go_enter Tryz.func48, Tryz.ntmps48
  go_wp2_with (first
    | (with_reducible refine wl_alloc zero41 ?_; try rw [← HW.out])
    | (go_at_call 72; (with_reducible refine hnum0.mono ?_); rintro e W2 ⟨rfl, hb2⟩))
  have hat2 := HAT.out.step hb2
  have HAT2 := hideIt hat2
  clear hat2 hb2 c0 hnum0
  go_loopw [4, 5] (fun v4 v5 wr => ∃ (k : Nat), k ≤ 16 ∧ v5 = .int .i64 k ∧ v4 = .string ⟨(leB 4 idx ++ rowB 8 (cs.take k)).toArray⟩ ∧ PickRow w idx cs wr) (fun _ v5 _ => 16 - (intOf v5).toNat)
  case atStart => exact ⟨0, by omega, rfl, by simp [rowB], HAT2.out⟩
  case round =>
    obtain ⟨k, hk, rfl, rfl, hr⟩ := hrel
    by_cases hlt : k < 16
    · have hsL : (leB 4 idx ++ rowB 8 (cs.take k)).length ≤ 200 := by rw [List.length_append, leB_length, rowB_length, List.length_take]; omega
      have hnx : leB 4 idx ++ rowB 8 (cs.take (k + 1)) = (leB 4 idx ++ rowB 8 (cs.take k)) ++ leB 8 (cs[k]'(by omega)) := by
        rw [List.take_succ_eq_append_getElem (by omega), rowB_snoc, List.append_assoc]
      have HNX := hideIt hnx
      have hxb := HCS.out _ (List.getElem_mem (show k < cs.length by omega))
      have hck : wr.cell? ⟨w.heap.size, 1 + k, none⟩ = some (.int .u64 (cs[k]'(by omega))) := by
        rw [cell_of_row wr _ _ _ _ _ hr.row, pickA_succ, List.getElem?_eq_getElem (by omega)]; rfl
      generalize hsl : leB 4 idx ++ rowB 8 (cs.take k) = sL at hsL hnx
      generalize hxx : (cs[k]'(show k < cs.length by omega)) = x at hck hxb hnx
      have hnum := rnum8_any x hxb.1 (by omega) wr
      have hlx : (leB 8 x).length = 8 := leB_length _ _
      have hx0 := hxb.1
      have hx1 := hxb.2
      have HR := hideIt hr
      have HSL := hideIt hsl
      have HXX := hideIt hxx
      clear hr hnx hxb hsl hxx
      go_wp2_with (first
        | (go_at_call 72; (with_reducible refine hnum.mono ?_); rintro e W3 ⟨rfl, hb3⟩))
      refine ⟨⟨k + 1, by omega, by go_num, ?_, HR.out.step hb3⟩, by simp [intOf]; omega⟩
      rw [bytes_app, HNX.out, HSL.out, HXX.out]
    · have hk' : k = 16 := by omega
      subst hk'
      have htk : cs.take 16 = cs := List.take_of_length_le (by omega)
      rw [htk]
      clear htk
      have HR := hideIt hr
      clear hr
      go_upto_region 9 with (first
        | (go_at_call 73; (with_reducible refine (HD.out _).mono ?_); rintro e W4 ⟨rfl, hb4⟩)
        | (with_reducible refine wl_extract rfl rfl ?_)
        | (with_reducible refine wl_alloc_store zero41 (by simp [Act.put]) rfl rfl IS.out ES.out H1.out ?_))
      generalize hS : putB 80 idx 8 cs = S at IS ES H1 hb4 ⊢
      obtain ⟨W5, hW5⟩ : ∃ W, W = W4.alloc (.cells (blkA S) 41) := ⟨_, rfl⟩
      have hr4 := HR.out.step hb4
      have g6 : W5.heap[W4.heap.size]? = some (.cells (blkA S) 41 (0, 0)) := by rw [hW5, hget_at _ _ rfl]
      have hz4 : w.heap.size + 1 < W4.heap.size := (Array.getElem?_eq_some_iff.1 hr4.zero).1
      have g4 : W5.heap[w.heap.size + 1]? = some (.cells (blkA zb) 41 (0, 0)) := by rw [hW5, hget_past _ _ hz4, hr4.zero]
      have hB5 : Below w.heap.size w W5 := by rw [hW5]; exact hr4.below.alloc hr4.below.size _
      rw [← hW5]
      have G4 := hideIt g4
      have G6 := hideIt g6
      have HB5 := hideIt hB5
      clear hW5 g4 g6 hB5 hr4 HR HD HAT HAT2
      go_wp2_with (first
        | (with_reducible refine wl_load rfl G6.out Tryz.underlying41 rfl IS.out ?_)
        | (with_reducible refine wl_store rfl rfl G4.out IS.out ES.out H1.out ?_))
      exact ret_cell_tmp rfl rfl rfl (setRow_heap _ _ _ _ _ _ G4.out) Tryz.underlying41 rfl IS.out ⟨by rw [hS]; rfl, below_setRow HB5.out (by omega) _⟩
end Go.Proofs.YtnibehcgnhdcgaaGreatDoor
/- Which byte stands where in a page of numbers; '!=' on blocks. -/
namespace Go.Proofs.YtnibehcgnhdcgaaGreatDoor
open Go.RowKit

theorem leB_get (k : Nat) (x : Int) (j : Nat) (hj : j < k) : (leB k x)[j]? = some (toB (x / 256 ^ j)) := by
  induction k generalizing x j with
  | zero => omega
  | succ k ih =>
    cases j with
    | zero => simp [leB]
    | succ j =>
      rw [leB, List.getElem?_cons_succ, ih _ _ (by omega), Int.pow_succ, Int.mul_comm, Int.ediv_ediv_of_nonneg (by decide)]
theorem rowB_get (k : Nat) (cs : List Int) (i j : Nat) (hj : j < k) (x : Int) (hx : cs[i]? = some x) : (rowB k cs)[k * i + j]? = some (toB (x / 256 ^ j)) := by
  induction cs generalizing i with
  | nil => simp at hx
  | cons c r ih =>
    cases i with
    | zero =>
      simp at hx
      subst hx
      rw [rowB, Nat.mul_zero, Nat.zero_add, List.getElem?_append_left (by rw [leB_length]; exact hj), leB_get k c j hj]
    | succ i =>
      rw [rowB, List.getElem?_append_right (by rw [leB_length, Nat.mul_add]; omega), leB_length, show k * (i + 1) + j - k = k * i + j from by rw [Nat.mul_add]; omega]
      exact ih i (by simpa using hx)
theorem sealB_get (b : List UInt8) (i : Nat) (hi : i < 252) : (sealB b)[i]? = b[i]? := by
  unfold sealB
  simp only
  rw [List.getElem?_set_ne (by omega), List.getElem?_set_ne (by omega), List.getElem?_set_ne (by omega), List.getElem?_set_ne (by omega)]
theorem putB_get (m : UInt8) (idx : Int) (k : Nat) (cs : List Int) (i j : Nat) (hj : j < k) (x : Int) (hx : cs[i]? = some x) (hl : 5 + (k * i + j) < 252) : (putB m idx k cs)[5 + (k * i + j)]? = some (toB (x / 256 ^ j)) := by
  have h := rowB_get k cs i j hj x hx
  unfold putB rawB
  rw [sealB_get _ _ hl, show 5 + (k * i + j) = (4 + (k * i + j)) + 1 from by omega, List.getElem?_cons_succ, List.append_assoc, List.getElem?_append_right (by rw [leB_length]; omega), leB_length,
    show 4 + (k * i + j) - 4 = k * i + j from by omega, List.getElem?_append_left (by
      rcases Nat.lt_or_ge (k * i + j) (rowB k cs).length with h1 | h1
      · exact h1
      · rw [List.getElem?_eq_none h1] at h; cases h), h]
theorem putB_head (m : UInt8) (idx : Int) (k : Nat) (cs : List Int) : (putB m idx k cs)[0]? = some m := by
  unfold putB rawB
  rw [sealB_get _ _ (by omega)]
  rfl
theorem putB_zero (m : UInt8) (hm : m ≠ 0) (idx : Int) (k : Nat) (cs : List Int) : (putB m idx k cs == zb) = false := by
  rw [beq_eq_false_iff_ne]
  intro h
  have h0 := putB_head m idx k cs
  rw [h, show zb[0]? = some 0 from rfl] at h0
  exact hm (Option.some.inj h0).symm
/-- '!=' on two blocks -/
theorem wl_neq41 {ops : Array Oper} {Q : Exit → Act → World → Prop} {rest : List Oper} {w : World} {T : Array Value} {D : List Deferred} {d tt ty x y : Nat} {pos : String} {af : Array Edge} {a b : List UInt8}
    (hx : T.getD x undef = .agg (blkA a)) (hy : T.getD y undef = .agg (blkA b)) (ha : a.length = 256) (hb : b.length = 256)
    (h : wpList Tryz.prog ops Q rest (Act.put ⟨T, D⟩ (some d) (.bool (!(a == b)))) w) :
    wpList Tryz.prog ops Q ({ dst := some d, op := .binOp .neq 41 (.tmp x) (.tmp y) ty, type := tt, pos := pos, after := af, guard := none } :: rest) ⟨T, D⟩ w := by
  refine wpList_plain rfl fun K hK => ?_
  unfold Oper.wp execOp
  have e1 : (Act.mk T D).eval (.tmp x) = .agg (blkA a) := hx
  have e2 : (Act.mk T D).eval (.tmp y) = .agg (blkA b) := hy
  have r1 := run_eqGuard_agg (P := Tryz.prog) w .neq 41 (.tmp x) (.tmp y) (blkA a) (blkA b) (by kernel_rfl)
  have r2 : (binOp .neq 41 (.agg (blkA a)) (.agg (blkA b))).run Tryz.prog w = .ok (.bool (!(a == b))) w := by
    rw [run_neq_struct]
    have h := run_equalIn_bytes (P := Tryz.prog) w 9998 41 5 256 Tryz.underlying41 Tryz.underlying5 sizeOf5 a b ha hb
    change ((Op.equalIn 10000 41 (.agg (blkA a)) (.agg (blkA b))).run Tryz.prog w) = _ at h
    rw [h]
    rfl
  simp only [e1, e2, Sem.run_bind, r1, r2, Result.andThen_ok]
  exact hK _ _ h
end Go.Proofs.YtnibehcgnhdcgaaGreatDoor
