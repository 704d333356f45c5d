/- CountNone answers true at every input. -/
import Derived.Test.YtnibehcgnhdcgaaGreatDoorM26
namespace Go.Proofs.YtnibehcgnhdcgaaGreatDoor
open Go.RowKit

set_option maxRecDepth 100000 in
set_option maxHeartbeats 4000000 in
theorem none_any (a n : Int) (w : World) : Calls Tryz.prog 4 #[.int .u32 a, .int .u16 n] w fun e w' => e = .returned (.bool true) ∧ Below w.heap.size w w' := by
  obtain ⟨W, hW⟩ : ∃ W, W = (w.alloc (.cells #[.pointer none, .int .u64 0, .int .u32 0, .int .u32 0, .int .u32 0, .int .u32 0, .int .u32 0, .int .u32 0, .int .u8 0, .int .u32 0, .int .u32 0, .int .u32 0, .map none, .map none, .map none] 62)).alloc (.cells #[.pointer none, .pointer (some ⟨w.heap.size, 0, none⟩)] 34) := ⟨_, rfl⟩
  have hB : Below w.heap.size w W := by rw [hW]; exact ((Below.refl _ w).alloc (Nat.le_refl _) _).alloc (by simp) _
  have g0 : W.heap[w.heap.size]? = some (.cells #[.pointer none, .int .u64 0, .int .u32 0, .int .u32 0, .int .u32 0, .int .u32 0, .int .u32 0, .int .u32 0, .int .u8 0, .int .u32 0, .int .u32 0, .int .u32 0, .map none, .map none, .map none] 62 (0, 0)) := by rw [hW, hget_past _ _ (by simp), hget_at _ _ rfl]
  have g1 : W.heap[w.heap.size + 1]? = some (.cells #[.pointer none, .pointer (some ⟨w.heap.size, 0, none⟩)] 34 (0, 0)) := by rw [hW, hget_at _ _ (by simp)]
  have c0 : W.cell? ⟨w.heap.size + 1, 0, none⟩ = some (.pointer none) := by rw [cell_of_row _ _ _ _ _ _ g1]; rfl
  have c1 : W.cell? ⟨w.heap.size + 1, 1, none⟩ = some (.pointer (some ⟨w.heap.size, 0, none⟩)) := by rw [cell_of_row _ _ _ _ _ _ g1]; rfl
  have n0 := tnone_nil W
  have n1 := tnone_zero w.heap.size W (by rw [cell_of_row _ _ _ _ _ _ g0]; rfl)
  have hh := head_any W
  have HW := hideIt hW
  have HB := hideIt hB
  clear hW hB g0 g1
  go_enter Tryz.func4, Tryz.ntmps4
  go_wp2_with fail
  rw [← HW.out]
  refine wp_loop_rounds 3 ?_
  rw [rounds_succ]
  go_wp2_with (first
    | (go_at_call 15; (with_reducible refine (nold_any _ _ n0 a).mono ?_); rintro e w' ⟨rfl, rfl⟩)
    | (go_at_call 12; (with_reducible refine (nget_any _ _ n0 a).mono ?_); rintro e w' ⟨rfl, rfl⟩)
    | (go_at_call 13; (with_reducible refine (nseal_any _ _ n0).mono ?_); rintro e w' ⟨rfl, rfl⟩)
    | (go_at_call 10; (with_reducible refine (nset_any _ _ n0 a n).mono ?_); rintro e w' ⟨rfl, rfl⟩)
    | (go_at_call 14; (with_reducible refine (nchanged_any _ _ n0).mono ?_); rintro e w' ⟨rfl, rfl⟩)
    | (go_at_call 11; (with_reducible refine (nfirst_any _ _ n0).mono ?_); rintro e w' ⟨rfl, rfl⟩)
    | (go_at_call 16; (with_reducible refine (nsize_any _ _ n0).mono ?_); rintro e w' ⟨rfl, rfl⟩)
    | (with_reducible refine wl_extract rfl rfl ?_))
  rw [rounds_succ]
  go_wp2_with (first
    | (go_at_call 15; (with_reducible refine (nold_any _ _ n1 a).mono ?_); rintro e w' ⟨rfl, rfl⟩)
    | (go_at_call 12; (with_reducible refine (nget_any _ _ n1 a).mono ?_); rintro e w' ⟨rfl, rfl⟩)
    | (go_at_call 13; (with_reducible refine (nseal_any _ _ n1).mono ?_); rintro e w' ⟨rfl, rfl⟩)
    | (go_at_call 10; (with_reducible refine (nset_any _ _ n1 a n).mono ?_); rintro e w' ⟨rfl, rfl⟩)
    | (go_at_call 14; (with_reducible refine (nchanged_any _ _ n1).mono ?_); rintro e w' ⟨rfl, rfl⟩)
    | (go_at_call 11; (with_reducible refine (nfirst_any _ _ n1).mono ?_); rintro e w' ⟨rfl, rfl⟩)
    | (go_at_call 16; (with_reducible refine (nsize_any _ _ n1).mono ?_); rintro e w' ⟨rfl, rfl⟩)
    | (with_reducible refine wl_extract rfl rfl ?_))
  rw [rounds_succ]
  go_wp2_with (first
    | (go_at_call 6; (with_reducible refine hh.mono ?_); rintro e w' ⟨rfl, hb⟩))
  go_ret
  exact ⟨rfl, HB.out.trans (hb.mono HB.out.size)⟩
end Go.Proofs.YtnibehcgnhdcgaaGreatDoor
