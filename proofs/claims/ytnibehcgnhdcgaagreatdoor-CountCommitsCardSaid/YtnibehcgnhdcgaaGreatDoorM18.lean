/- slices.Sorted(maps.Keys(m)) at maps with uint32 keys. -/
import Derived.Test.YtnibehcgnhdcgaaGreatDoorM17
namespace Go.Proofs.YtnibehcgnhdcgaaGreatDoor
open Go.RowKit Go.Maps Go.Sort

theorem sorts12 (m : Nat) : uSortsIn Fence.wide m 12 := by
  refine ⟨fun blk off cap ss W hH hb hl => callsIn_wide.2 ?_, fun p cap W => callsIn_wide.2 (sSort_int_nil p cap W)⟩
  have h := sSort12 blk off cap ss.toArray W hH (by simpa using hl)
  rw [ins_eq] at h
  have e : ss.toArray.size = ss.length := by simp
  rw [e] at h
  refine h.mono ?_
  rintro e w' ⟨he, n, hw⟩
  exact ⟨he, n, #[], by rw [hw, grow_empty]⟩

/-- A slice value that holds numbers of the kind uint32, in a block of the call's own. -/
def KeysAt (B : Nat) (w' : World) (v : Value) (l : List Int) : Prop := w'.ownsRow B 22 1 v l.length (l.map encU)
def sortI (l : List Int) : List Int := l.mergeSort (fun x y => decide (x ≤ y))
theorem sortI_perm {l l' : List Int} (h : l.Perm l') : sortI l = sortI l' := mergeSort_of_perm_u h
theorem sortI_length (l : List Int) : (sortI l).length = l.length := List.length_mergeSort l

theorem keysS (b : Nat) (w : World) :
    Calls Tryz.prog 39 #[.map (some b)] w fun e w' => e = .returned (.func (.func 68) #[] #[.pointer (some ⟨w.heap.size, 0, none⟩)]) ∧ w' = w.alloc (.cells #[.map (some b)] 60) :=
  callsIn_wide.1 (keys_inS Fence.wide 5 trivial rfl (some b) w)
/-- slices.Sorted at the iterator of a map's keys. -/
theorem sortedS (M : Nat) (hs : ∀ m, uSortsIn Fence.wide m M) (b Bm : Nat) (l : List (Int × Value)) (hl : l.length ≤ M) (hM : M ≤ 100000) (hr : ∀ p ∈ l, 0 ≤ p.1 ∧ p.1 < 4294967296) (w : World) (hB : w.cell? ⟨Bm, 0, none⟩ = some (.map (some b))) (hm : MapAt w b l) :
    Calls Tryz.prog 35 #[.func (.func 68) #[] #[.pointer (some ⟨Bm, 0, none⟩)]] w fun e w' =>
      ∃ v, e = .returned v ∧ KeysAt w.heap.size w' v (sortI (l.map (·.1))) ∧ Below w.heap.size w w' := by
  obtain ⟨D, hown, hperm, hsize⟩ := ownsMap_of Tryz.underlying22 hm hr (by unfold maxLen; omega)
  have hseq := keys_givesS Fence.wide 5 trivial rfl (by omega) Bm b l.length D w (World.block_lt_of_cell? w _ hB) hB hown
  rw [hsize] at hseq
  refine (callsIn_wide.1 (usorted_in Fence.wide 8 trivial trivial trivial trivial rfl (by omega) M (hs _) _ _ trivial (enters_of Tryz.func68 (by kernel_rfl) rfl) _ l.length (by unfold maxLen; omega) hl (by omega) w hseq)).mono ?_
  rintro e w' ⟨v, ss, he, hS, hrow, _, hb⟩
  have e1 : ss.mergeSort (fun x y => decide (x ≤ y)) = sortI (l.map (·.1)) := mergeSort_of_perm_u (hS.trans hperm)
  rw [e1] at hrow
  have e2 : ss.length = (sortI (l.map (·.1))).length := by rw [← e1, List.length_mergeSort]
  rw [e2] at hrow
  exact ⟨v, he, hrow, hb⟩

theorem keysP (b : Nat) (w : World) :
    Calls Tryz.prog 36 #[.map (some b)] w fun e w' => e = .returned (.func (.func 66) #[] #[.pointer (some ⟨w.heap.size, 0, none⟩)]) ∧ w' = w.alloc (.cells #[.map (some b)] 58) :=
  callsIn_wide.1 (keys_inP Fence.wide 5 trivial rfl (some b) w)
/-- slices.Sorted at the iterator of a map's keys. -/
theorem sortedP (M : Nat) (hs : ∀ m, uSortsIn Fence.wide m M) (b Bm : Nat) (l : List (Int × Value)) (hl : l.length ≤ M) (hM : M ≤ 100000) (hr : ∀ p ∈ l, 0 ≤ p.1 ∧ p.1 < 4294967296) (w : World) (hB : w.cell? ⟨Bm, 0, none⟩ = some (.map (some b))) (hm : MapAt w b l) :
    Calls Tryz.prog 35 #[.func (.func 66) #[] #[.pointer (some ⟨Bm, 0, none⟩)]] w fun e w' =>
      ∃ v, e = .returned v ∧ KeysAt w.heap.size w' v (sortI (l.map (·.1))) ∧ Below w.heap.size w w' := by
  obtain ⟨D, hown, hperm, hsize⟩ := ownsMap_of Tryz.underlying22 hm hr (by unfold maxLen; omega)
  have hseq := keys_givesP Fence.wide 5 trivial rfl (by omega) Bm b l.length D w (World.block_lt_of_cell? w _ hB) hB hown
  rw [hsize] at hseq
  refine (callsIn_wide.1 (usorted_in Fence.wide 8 trivial trivial trivial trivial rfl (by omega) M (hs _) _ _ trivial (enters_of Tryz.func66 (by kernel_rfl) rfl) _ l.length (by unfold maxLen; omega) hl (by omega) w hseq)).mono ?_
  rintro e w' ⟨v, ss, he, hS, hrow, _, hb⟩
  have e1 : ss.mergeSort (fun x y => decide (x ≤ y)) = sortI (l.map (·.1)) := mergeSort_of_perm_u (hS.trans hperm)
  rw [e1] at hrow
  have e2 : ss.length = (sortI (l.map (·.1))).length := by rw [← e1, List.length_mergeSort]
  rw [e2] at hrow
  exact ⟨v, he, hrow, hb⟩
end Go.Proofs.YtnibehcgnhdcgaaGreatDoor
/- Which counts are changed. -/
namespace Go.Proofs.YtnibehcgnhdcgaaGreatDoor
open Go.RowKit

theorem encS_keys (S : List (Int × Int)) : (encS S).map (·.1) = S.map (·.1) := by simp [encS]
/-- The keys of what is set, in order. -/
def keyL (S : List (Int × Int)) : List Int := sortI (S.map (·.1))
def KeysPost (w : World) (l : List Int) (e : Ending) (w' : World) : Prop := ∃ v, e = .returned v ∧ KeysAt w.heap.size w' v l ∧ Below w.heap.size w w'
structure SetOk (T : Tab) (S : List (Int × Int)) : Prop where
  nodup : (S.map (·.1)).Nodup
  key : ∀ p ∈ S, T.fi ≤ p.1 ∧ p.1 < T.n
  val : ∀ p ∈ S, 0 ≤ p.2 ∧ p.2 < 65536
  new : ∀ p ∈ S, p.2 ≠ T.old p.1
set_option maxRecDepth 100000 in
set_option maxHeartbeats 2000000 in
theorem tchanged_any (M : Nat) (hs : ∀ m, uSortsIn Fence.wide m M) (hM : M ≤ 100000) (T : Tab) (hT : TabOk T) (w : World) (S : List (Int × Int)) (hS : SetOk T S) (hl : S.length ≤ M) (hA : TabAt T w S) :
    Calls Tryz.prog 14 #[.pointer (some ⟨T.tb, 0, none⟩)] w (KeysPost w (keyL S)) := by
  have hn := tnone_no T.tb T.db w (hA.cell 0)
  have c14 : w.cell? ⟨T.tb, 14, none⟩ = some (.map (some T.sm)) := hA.cell 14
  have hr : ∀ p ∈ encS S, 0 ≤ p.1 ∧ p.1 < 4294967296 := by
    intro p hp
    obtain ⟨q, hq, rfl⟩ := List.mem_map.1 hp
    have h1 := hS.key q hq
    have h2 := planFi_lt T.n hT.n1 (by have := hT.n2; omega)
    have h3 := hT.n2
    show 0 ≤ q.1 ∧ q.1 < 4294967296
    unfold Tab.fi at h1
    omega
  have hk := keysS T.sm w
  have hb1 : Below w.heap.size w (w.alloc (.cells #[.map (some T.sm)] 60)) := (Below.refl _ _).alloc (Nat.le_refl _) _
  have hso := sortedS M hs T.sm w.heap.size (encS S) (by simpa [encS] using hl) hM hr _ (by rw [cell_of_row _ _ 0 _ _ _ (hget_at (.cells #[.map (some T.sm)] 60) w.heap.size rfl)]; rfl) (hA.ms.of_block (hb1.block _ hA.lt.2.2.2.2.2))
  rw [encS_keys] at hso
  have HB1 := hideIt hb1
  clear hA hT hr hb1 hS
  go_enter Tryz.func14, Tryz.ntmps14
  go_wp2_with (first
    | (go_at_call 28; (with_reducible refine hn.mono ?_); rintro e w' ⟨rfl, rfl⟩)
    | (go_at_call 39; (with_reducible refine hk.mono ?_); rintro e w' ⟨rfl, rfl⟩)
    | (go_at_call 35; (with_reducible refine hso.mono ?_); rintro e w2 ⟨v, rfl, hv, hb2⟩))
  go_ret
  exact ⟨v, rfl, ownsRow_base hv (by simp), HB1.out.trans (hb2.mono (by simp))⟩
theorem tchanged_nil (w : World) :
    Calls Tryz.prog 14 #[.pointer none] w fun e w' => e = .returned (.slice none 0 0) ∧ w = w' := by
  have hn := tnone_nil w
  go_enter Tryz.func14, Tryz.ntmps14
  go_wp2_with (first
    | (go_at_call 28; (with_reducible refine hn.mono ?_); rintro e w' ⟨rfl, rfl⟩))
  go_ret
  exact ⟨rfl, rfl⟩
theorem tchanged_zero (tb : Nat) (w : World) (h : w.cell? ⟨tb, 0, none⟩ = some (.pointer none)) :
    Calls Tryz.prog 14 #[.pointer (some ⟨tb, 0, none⟩)] w fun e w' => e = .returned (.slice none 0 0) ∧ w = w' := by
  have hn := tnone_zero tb w h
  go_enter Tryz.func14, Tryz.ntmps14
  go_wp2_with (first
    | (go_at_call 28; (with_reducible refine hn.mono ?_); rintro e w' ⟨rfl, rfl⟩))
  go_ret
  exact ⟨rfl, rfl⟩
end Go.Proofs.YtnibehcgnhdcgaaGreatDoor
