/- Sort: of few elements. Lines of the kit's worked walks, turned to this program. -/
import Derived.Test.YtnibehcgnhdcgaaGreatDoorM14
import Derived.Test.YtnibehcgnhdcgaaGreatDoorM15
import Derived.Test.YtnibehcgnhdcgaaGreatDoorM16
import Derived.Sort.AssemblyPlain
namespace Go.Proofs.YtnibehcgnhdcgaaGreatDoor

open Go.RowKit Go.Sort

/-- insertionSortOrdered[int] of no element: 'i := 1; 1 < 0' is false. -/
theorem sinsertionSort_int_nil (p : Option Addr) (cap : Nat) (w : World) :
    Calls Tryz.prog 96 #[.slice p 0 cap, .int .i64 0, .int .i64 0] w fun e w' => e = .returned (.tuple #[]) ∧ w' = w := by
  go_enter Tryz.func96, Tryz.ntmps96
  go_wp2
  refine wp_loop_rounds 1 ?_
  rw [rounds_succ]
  go_wp2
  go_end0
  exact ⟨rfl, rfl⟩

set_option maxRecDepth 100000 in
/-- pdqsortOrdered[int] of no element: 'length <= maxInsertion' at once. -/
theorem spdqsort_int_nil (p : Option Addr) (cap : Nat) (w : World) :
    Calls Tryz.prog 85 #[.slice p 0 cap, .int .i64 0, .int .i64 0, .int .i64 0] w fun e w' => e = .returned (.tuple #[]) ∧ w' = w := by
  go_enter Tryz.func85, Tryz.ntmps85
  go_wp2
  refine wp_loop_rounds 1 ?_
  rw [rounds_succ]
  go_wp2_with (first | (go_at_call 96; refine (sinsertionSort_int_nil p cap _).mono ?_; rintro e w' ⟨rfl, rfl⟩))
  refine bodyPost_ret (results_none rfl _ _ _) rfl ?_      -- an explicit 'return' in a function without results
  exact ⟨rfl, rfl⟩

set_option maxRecDepth 100000 in
/-- slices.Sort of no element. -/
theorem sSort_int_nil (p : Option Addr) (cap : Nat) (w : World) :
    Calls Tryz.prog 65 #[.slice p 0 cap] w fun e w' => e = .returned (.tuple #[]) ∧ w' = w := by
  have hLen : ∀ w, Calls Tryz.prog 86 #[.int .u64 0] w fun e w' => e = .returned (.int .i64 0) ∧ w' = w := fun w => sbits_Len 0 w (by omega) (by omega)
  go_enter Tryz.func65, Tryz.ntmps65
  go_wp2_with (first
    | (go_at_call 86; refine (hLen _).mono ?_; rintro e w' ⟨rfl, rfl⟩)
    | (go_at_call 85; refine (spdqsort_int_nil p cap _).mono ?_; rintro e w' ⟨rfl, rfl⟩))
  go_end0
  exact ⟨rfl, rfl⟩



set_option maxRecDepth 100000 in
/-- pdqsortOrdered of at most twelve elements. -/
theorem spdq12 (blk off cap limit : Nat) (d : Array Int) (w : World) (hH : Holds (Value.int .u32) w blk off d) (hsz : d.size ≤ 12) :
    Calls Tryz.prog 85 #[.slice (some ⟨blk, off, none⟩) d.size cap, .int .i64 0, .int .i64 d.size, .int .i64 limit] w fun e w' => e = .returned (.tuple #[]) ∧ ∃ n, w' = putRow (Value.int .u32) (Sort.ahead w n) blk off (insertionSort ltInt d 0 d.size) := by
  have hin := sinsertionSort_int blk off cap 0 d.size d w hH (Nat.zero_le _) (Nat.le_refl _) (by omega)
  have hle : ((d.size : Int) ≤ 12) := by omega
  clear hH
  go_enter Tryz.func85, Tryz.ntmps85
  go_wp2_with fail
  refine wp_loop_rounds 1 ?_
  rw [rounds_succ]
  go_wp2_with (first | (go_at_call 96; refine hin.mono ?_; rintro e w' ⟨rfl, n, rfl⟩))
  exact bodyPost_ret (results_none rfl _ _ _) rfl ⟨rfl, n, rfl⟩
set_option maxRecDepth 100000 in
theorem sSort12 (blk off cap : Nat) (d : Array Int) (w : World) (hH : Holds (Value.int .u32) w blk off d) (hsz : d.size ≤ 12) :
    Calls Tryz.prog 65 #[.slice (some ⟨blk, off, none⟩) d.size cap] w fun e w' => e = .returned (.tuple #[]) ∧ ∃ n, w' = putRow (Value.int .u32) (Sort.ahead w n) blk off (insertionSort ltInt d 0 d.size) := by
  have hLen : ∀ w, Calls Tryz.prog 86 #[.int .u64 (d.size : Int)] w fun e w' => e = .returned (.int .i64 (Lib.bitLen d.size : Nat)) ∧ w' = w := fun w => by
    have h := sbits_Len (d.size : Int) w (by omega) (by omega)
    rwa [Int.toNat_natCast] at h
  have hp := spdq12 blk off cap (Lib.bitLen d.size) d w hH hsz
  generalize Lib.bitLen d.size = lim at hLen hp
  clear hH
  go_enter Tryz.func65, Tryz.ntmps65
  go_wp2_with (first
    | (go_at_call 86; refine (hLen _).mono ?_; rintro e w' ⟨rfl, rfl⟩)
    | (go_at_call 85; refine hp.mono ?_; rintro e w' ⟨rfl, n, rfl⟩))
  go_end0
  exact ⟨rfl, n, rfl⟩
theorem ins_eq (zs : List Int) : insertionSort ltInt zs.toArray 0 zs.toArray.size = (zs.mergeSort fun x y => decide (x ≤ y)).toArray := by
  obtain ⟨hP, hSo⟩ := insertionSort_holds (lt := ltInt) swo_ltInt zs.toArray 0 zs.toArray.size (Nat.zero_le _) (Nat.le_refl _)
  have h := sorted_unique_holds swo_ltInt (fun x y h1 h2 => by simp only [ltInt, decide_eq_false_iff_not] at h1 h2; omega) zs.toArray _ hP hSo
  apply Array.ext'
  rw [h]
  show zs.mergeSort _ = zs.mergeSort _
  congr 1
  funext x y
  simp only [ltInt]
  by_cases hxy : x ≤ y
  · simp [hxy, Int.not_lt.2 hxy]
  · simp [hxy, Int.not_le.1 hxy]

end Go.Proofs.YtnibehcgnhdcgaaGreatDoor
