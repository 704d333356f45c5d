/- Sort: slices.Sort[[]uint32] of any number of elements. Lines of the kit's worked walks, turned to this program. -/
import Derived.Test.YtnibehcgnhdcgaaGreatDoorM34
import Derived.Test.YtnibehcgnhdcgaaGreatDoorM18
import Derived.Sort.AssemblyPlain
namespace Go.Proofs.YtnibehcgnhdcgaaGreatDoor
open Go.RowKit Go.Maps Go.Sort

theorem scallees : Callees13 where
  ins := sinsertionSort_int
  brk := sbreakPatterns_int
  piv := schoosePivot_int
  par := spartialInsertionSort_int
  peq := spartitionEqualOrdered_int
  prt := spartitionOrdered_int
theorem splain : Plain13 where
  swo := swo_ltInt
  ins := insertionSort_holds
  par := partialInsertionSort_holds
  prt := partition_holds _
  peq := partitionEqual_holds _
  pdq := pdq_sorts _
theorem ssort_eq (zs : List Int) : Sort.sort ltInt zs.toArray = (zs.mergeSort fun x y => decide (x ≤ y)).toArray := by
  rw [← sortInt zs]
set_option maxRecDepth 100000 in
theorem sSort_int (blk off cap : Nat) (d : Array Int) (w : World) (hH : Holds (Value.int .u32) w blk off d) (hblk : blk < w.heap.size) (hsz : d.size < 4611686018427387904) :
    Calls Tryz.prog 65 #[.slice (some ⟨blk, off, none⟩) d.size cap] w fun e w' => e = .returned (.tuple #[]) ∧ ∃ n os, w' = grow (putRow (Value.int .u32) (Sort.ahead w n) blk off (Sort.sort ltInt d)) os := by
  have hLen : ∀ w, Calls Tryz.prog 86 #[.int .u64 (d.size : Int)] w fun e w' => e = .returned (.int .i64 (bitsLen d.size : Nat)) ∧ w' = w := fun w => by
    have h := sbits_Len (d.size : Int) w (by omega) (by omega)
    rwa [Int.toNat_natCast, bitLen_eq _ (by omega)] at h
  have hk : bitsLen d.size ≤ 62 := (bitsLen_le_iff d.size 62).2 (by omega)
  have hp := spdqsort_int scallees splain (d.size - 0 + 1) blk off cap 0 d.size (bitsLen d.size) d w (by omega) hH hblk (Nat.zero_le _) (Nat.le_refl _) hsz (by omega) (Or.inl rfl)
  clear hH
  go_enter Tryz.func65, Tryz.ntmps65
  go_wp2_with (first
    | (go_at_call 86; refine (hLen _).mono ?_; rintro e w' ⟨rfl, rfl⟩)
    | (go_at_call 85; refine hp.mono ?_; rintro e w' ⟨rfl, n, os, rfl⟩))
  go_end0
  exact ⟨rfl, n, os, rfl⟩
theorem sortsAll (m M : Nat) (hM : M < 4611686018427387904) : uSortsIn Fence.wide m M := by
  refine ⟨fun blk off cap ss W hH hb hl => callsIn_wide.2 ?_, fun p cap W => callsIn_wide.2 (sSort_int_nil p cap W)⟩
  have h := sSort_int blk off cap ss.toArray W hH hb (by simpa using Nat.lt_of_le_of_lt hl hM)
  rw [ssort_eq] at h
  have e : ss.toArray.size = ss.length := by simp
  rw [e] at h
  exact h
end Go.Proofs.YtnibehcgnhdcgaaGreatDoor
