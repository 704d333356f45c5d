/- A block that bears its checksum is good. -/
import Derived.Test.YtnibehcgnhdcgaaGreatDoorM7
import Derived.Test.YtnibehcgnhdcgaaGreatDoorM2
import Derived.Defers
import Derived.Laws.Bits64b
import Derived.BigQuiet
import Derived.RegionTactic
import Derived.BigGuard
import Derived.BigCall
import Derived.Deep.Cut
namespace Go.Proofs.YtnibehcgnhdcgaaGreatDoor
open Go.RowKit

theorem sealB_take (b : List UInt8) : (sealB b).take 252 = b.take 252 := by
  apply List.ext_getElem?
  intro i
  simp only [List.getElem?_take, sealB]
  by_cases h : i < 252
  · rw [if_pos h, if_pos h, List.getElem?_set_ne (by omega), List.getElem?_set_ne (by omega), List.getElem?_set_ne (by omega), List.getElem?_set_ne (by omega)]
  · rw [if_neg h, if_neg h]
theorem sealB_sealB (b : List UInt8) (hb : b.length = 256) : sealB (sealB b) = sealB b := by
  have e : crcSum ((sealB b).take 252) = crcSum (b.take 252) := by rw [sealB_take]
  have h : ∀ c : List UInt8, sealB c = (((c.set 252 (toB (crcSum (c.take 252) / 16777216))).set 253 (toB (crcSum (c.take 252) / 65536))).set 254 (toB (crcSum (c.take 252) / 256))).set 255 (toB (crcSum (c.take 252))) := fun _ => rfl
  rw [h (sealB b), e]
  apply List.ext_getElem?
  intro i
  have hl := sealB_length b
  rw [hb] at hl
  by_cases h255 : i = 255
  · subst h255; simp [sealB, hb]
  · by_cases h254 : i = 254
    · subst h254; simp [sealB, hb]
    · by_cases h253 : i = 253
      · subst h253; simp [sealB, hb]
      · by_cases h252 : i = 252
        · subst h252; simp [sealB, hb]
        · simp only [List.getElem?_set_ne (show 255 ≠ i by omega), List.getElem?_set_ne (show 254 ≠ i by omega), List.getElem?_set_ne (show 253 ≠ i by omega), List.getElem?_set_ne (show 252 ≠ i by omega)]

/-- '==' on two blocks, in a region that draws. -/
theorem yieldsIf_eql41 {ops : Array Oper} {S : World → Prop} {o : Oper} {a : Act} {x y ty : Nat} {u v : List UInt8} (hg : o.guard = none) (ho : o.op = .binOp .eql 41 (.tmp x) (.tmp y) ty)
    (hx : a.eval (.tmp x) = .agg (blkA u)) (hy : a.eval (.tmp y) = .agg (blkA v)) (hu : u.length = 256) (hv : v.length = 256) : YieldsIf Tryz.prog ops S o (.bool (u == v)) a := by
  refine Or.inl ⟨by simp [Region.wanted, hg], fun w _ => ?_⟩
  unfold execOp
  rw [ho]
  have r1 := run_eqGuard_agg (P := Tryz.prog) w .eql 41 (.tmp x) (.tmp y) (blkA u) (blkA v) (by kernel_rfl)
  have r2 : (binOp .eql 41 (.agg (blkA u)) (.agg (blkA v))).run Tryz.prog w = .ok (.bool (u == v)) w :=
    run_eql_bytes w 41 5 256 Tryz.underlying41 Tryz.underlying5 sizeOf5 u v hu hv
  simp only [hx, hy, Sem.run_bind, r1, r2, Result.andThen_ok, Sem.run_pure]

set_option maxRecDepth 100000 in
set_option maxHeartbeats 1000000 in
theorem good_any (b : List UInt8) (hb : b.length = 256) (hs : sealB b = b) (w : World) :
    Calls Tryz.prog 109 #[.agg (blkA b)] w fun e w' => e = .returned (.bool true) ∧ Below w.heap.size w w' := by
  obtain ⟨W0, hW0⟩ : ∃ W, W = w.alloc (.cells (blkA b) 41) := ⟨_, rfl⟩
  have g0 : W0.heap[w.heap.size]? = some (.cells (blkA b) 41 (0, 0)) := by rw [hW0, hget_at _ _ rfl]
  have hb0 : Below w.heap.size w W0 := by rw [hW0]; exact (Below.refl _ _).alloc (Nat.le_refl _) _
  have hz0 : w.heap.size < W0.heap.size := by rw [hW0]; simp
  have hsl := seal_any b hb W0.drew
  rw [hs] at hsl
  have S0 : W0.drew.heap[w.heap.size]? = some (.cells (blkA b) 41 (0, 0)) := g0
  have HS0 := hideIt S0
  have HW0 := hideIt hW0
  have HI := hideIt (size41' hb)
  have HB := hideIt hb
  clear hW0 g0 S0 hs hb
  go_enter Tryz.func109, Tryz.ntmps109
  go_wp2_with fail
  rw [← HW0.out]
  refine wp_region_held (S := (fun w' : World => w'.heap[w.heap.size]? = some (.cells (blkA b) 41 (0, 0)))) (by kernel_rfl) ?_
  change wpAnyH _ _ _ _ _ _ _ _ (World.drew _)
  try simp only [Act.put, List.setIfInBounds_toArray, List.set_cons_succ, List.set_cons_zero]
  have hS := HS0.out
  refine takeH 0 rfl rfl (by kernel_rfl) (by kernel_rfl) (by kernel_rfl) (fun _ _ _ h => h) hS (yieldsIf_load_row rfl rfl w.heap.size rfl (fun w' h => h) Tryz.underlying41 rfl HI.out) ?_
  simp only [List.setIfInBounds_toArray, List.set_cons_succ, List.set_cons_zero]
  refine takeH 2 rfl rfl (by kernel_rfl) (by kernel_rfl) (by kernel_rfl) (fun _ _ _ h => h) hS (yieldsIf_load_row rfl rfl w.heap.size rfl (fun w' h => h) Tryz.underlying41 rfl HI.out) ?_
  simp only [List.setIfInBounds_toArray, List.set_cons_succ, List.set_cons_zero]
  clear hS
  refine anyH_step (i := 1) (by kernel_rfl) rfl rfl (fun K hK => ?_)
  go_simp
  go_at_call 92
  refine hsl.mono ?_
  rintro e w1 ⟨rfl, hb1⟩
  have hS1 : w1.heap[w.heap.size]? = some (.cells (blkA b) 41 (0, 0)) := (hb1.block _ hz0).trans HS0.out
  have hS := hS1
  refine hK _ _ (hS1) ?_
  clear hK K
  try simp only [Act.put, List.setIfInBounds_toArray, List.set_cons_succ, List.set_cons_zero]
  refine takeH 3 rfl rfl (by kernel_rfl) (by kernel_rfl) (by kernel_rfl) (fun _ _ _ h => h) hS (yieldsIf_eql41 rfl rfl rfl rfl HB.out HB.out) ?_
  simp only [List.setIfInBounds_toArray, List.set_cons_succ, List.set_cons_zero]
  rw [show (b == b) = true from by simp]
  refine takeH 4 (v := ?_) rfl rfl (by kernel_rfl) (by kernel_rfl) (by kernel_rfl) (fun _ _ _ h => h) hS (yieldsIf_run rfl ?_) ?_
  rotate_left
  focus (intro w hSw; go_simp; try with_reducible rfl)
  simp only [List.setIfInBounds_toArray, List.set_cons_succ, List.set_cons_zero]
  refine wpAnyH_done (by kernel_rfl) ?_ _
  go_wp2_with fail
  go_ret
  exact ⟨rfl, (show Below w.heap.size w W0.drew from ⟨hb0.os, hb0.tape, hb0.output, hb0.size, hb0.block⟩).trans (hb1.mono (by show w.heap.size ≤ W0.heap.size; omega))⟩
end Go.Proofs.YtnibehcgnhdcgaaGreatDoor
/- A block's reader: made. -/
namespace Go.Proofs.YtnibehcgnhdcgaaGreatDoor
open Go.RowKit

/-- A reader: its row, its block, its place. -/
def rdA (bb : Nat) (at_ : Int) : Array Value := #[.slice (some ⟨bb, 0, none⟩) 252 256, .int .i64 at_, .bool true]
structure Rd (w : World) (rb bb : Nat) (b : List UInt8) (at_ : Int) : Prop where
  row : w.heap[rb]? = some (.cells (rdA bb at_) 178 (0, 0))
  blk : w.heap[bb]? = some (.cells (blkA b) 41 (0, 0))
def OpenRPost (w : World) (b : List UInt8) (e : Ending) (w' : World) : Prop :=
  ∃ rb bb, e = .returned (.pointer (some ⟨rb, 0, none⟩)) ∧ Rd w' rb bb b 1 ∧ Below w.heap.size w w' ∧ w.heap.size ≤ rb ∧ w.heap.size ≤ bb

set_option maxRecDepth 100000 in
set_option maxHeartbeats 1000000 in
theorem ropen_any (b : List UInt8) (hb : b.length = 256) (hs : sealB b = b) (m : UInt8) (hm : b[0]? = some m) (w : World) :
    Calls Tryz.prog 93 #[.agg (blkA b), .int .u8 m.toNat] w (OpenRPost w b) := by
  obtain ⟨W0, hW0⟩ : ∃ W, W = w.alloc (.cells (blkA b) 41) := ⟨_, rfl⟩
  have g0 : W0.heap[w.heap.size]? = some (.cells (blkA b) 41 (0, 0)) := by rw [hW0, hget_at _ _ rfl]
  have hb0 : Below w.heap.size w W0 := by rw [hW0]; exact (Below.refl _ _).alloc (Nat.le_refl _) _
  have hz0 : w.heap.size < W0.heap.size := by rw [hW0]; simp
  have hgd := good_any b hb hs W0.drew
  have S0 : W0.drew.heap[w.heap.size]? = some (.cells (blkA b) 41 (0, 0)) := g0
  have c0 : ∀ w' : World, w'.heap[w.heap.size]? = some (.cells (blkA b) 41 (0, 0)) → w'.cell? ⟨w.heap.size, 0, none⟩ = some (.int .u8 m.toNat) := fun w' h => by
    rw [cell_of_row _ _ _ _ _ _ h, blkA_get, hm]; rfl
  have hbW : Below w.heap.size w W0.drew := ⟨hb0.os, hb0.tape, hb0.output, hb0.size, hb0.block⟩
  have HS0 := hideIt S0
  have HW0 := hideIt hW0
  have HI := hideIt (size41' hb)
  have C0 := hideIt c0
  have HBW := hideIt hbW
  clear hW0 g0 S0 hs hb c0 hb0 hbW
  go_enter Tryz.func93, Tryz.ntmps93
  go_wp2_with fail
  rw [← HW0.out]
  refine wp_region_held (S := (fun w' : World => w'.heap[w.heap.size]? = some (.cells (blkA b) 41 (0, 0)))) (by kernel_rfl) ?_
  change wpAnyH _ _ _ _ _ _ _ _ (World.drew _)
  try simp only [Act.put, List.setIfInBounds_toArray, List.set_cons_succ, List.set_cons_zero]
  have hS := HS0.out
  refine takeH 0 (v := ?_) rfl rfl (by kernel_rfl) (by kernel_rfl) (by kernel_rfl) (fun _ _ _ h => h) hS (yieldsIf_run rfl ?_) ?_
  rotate_left
  focus (intro w hSw; go_simp; try with_reducible rfl)
  simp only [List.setIfInBounds_toArray, List.set_cons_succ, List.set_cons_zero]
  refine takeH 1 rfl rfl (by kernel_rfl) (by kernel_rfl) (by kernel_rfl) (fun _ _ _ h => h) hS (yieldsIf_load_row rfl rfl w.heap.size rfl (fun w' h => h) Tryz.underlying41 rfl HI.out) ?_
  simp only [List.setIfInBounds_toArray, List.set_cons_succ, List.set_cons_zero]
  clear hS
  refine anyH_step (i := 2) (by kernel_rfl) rfl rfl (fun K hK => ?_)
  go_simp
  go_at_call 109
  refine hgd.mono ?_
  rintro e w1 ⟨rfl, hb1⟩
  have hS1 : w1.heap[w.heap.size]? = some (.cells (blkA b) 41 (0, 0)) := (hb1.block _ hz0).trans HS0.out
  have hS := hS1
  refine hK _ _ (hS1) ?_
  clear hK K
  try simp only [Act.put, List.setIfInBounds_toArray, List.set_cons_succ, List.set_cons_zero]
  refine takeH 3 (v := ?_) rfl rfl (by kernel_rfl) (by kernel_rfl) (by kernel_rfl) (fun _ _ _ h => h) hS (yieldsIf_run rfl ?_) ?_
  rotate_left
  focus (intro w hSw; go_simp; try with_reducible rfl)
  simp only [List.setIfInBounds_toArray, List.set_cons_succ, List.set_cons_zero]
  refine takeH 4 (v := ?_) rfl rfl (by kernel_rfl) (by kernel_rfl) (by kernel_rfl) (fun _ _ _ h => h) hS (Or.inl ⟨by rfl, ?_⟩) ?_
  rotate_left
  focus (intro w hSw; go_simp; try with_reducible rfl)
  simp only [List.setIfInBounds_toArray, List.set_cons_succ, List.set_cons_zero]
  refine takeH 5 (v := ?_) rfl rfl (by kernel_rfl) (by kernel_rfl) (by kernel_rfl) (fun _ _ _ h => h) hS (Or.inl ⟨by rfl, ?_⟩) ?_
  rotate_left
  focus (intro w hSw; have hcU := C0.out w hSw; clear hSw; go_simp; try with_reducible rfl)
  simp only [List.setIfInBounds_toArray, List.set_cons_succ, List.set_cons_zero]
  refine takeH 6 (v := ?_) rfl rfl (by kernel_rfl) (by kernel_rfl) (by kernel_rfl) (fun _ _ _ h => h) hS (Or.inl ⟨by rfl, ?_⟩) ?_
  rotate_left
  focus (intro w hSw; go_simp; try with_reducible rfl)
  simp only [List.setIfInBounds_toArray, List.set_cons_succ, List.set_cons_zero]
  refine takeH 7 (v := ?_) rfl rfl (by kernel_rfl) (by kernel_rfl) (by kernel_rfl) (fun _ _ _ h => h) hS (Or.inl ⟨by rfl, ?_⟩) ?_
  rotate_left
  focus (intro w hSw; go_simp; try with_reducible rfl)
  simp only [List.setIfInBounds_toArray, List.set_cons_succ, List.set_cons_zero]
  refine takeH 8 (v := ?_) rfl rfl (by kernel_rfl) (by kernel_rfl) (by kernel_rfl) (fun _ _ _ h => h) hS (yieldsIf_run rfl ?_) ?_
  rotate_left
  focus (intro w hSw; go_simp; try with_reducible rfl)
  simp only [List.setIfInBounds_toArray, List.set_cons_succ, List.set_cons_zero]
  refine takeH 9 (v := ?_) rfl rfl (by kernel_rfl) (by kernel_rfl) (by kernel_rfl) (fun _ _ _ h => h) hS (yieldsIf_run rfl ?_) ?_
  rotate_left
  focus (intro w hSw; go_simp; try with_reducible rfl)
  simp only [List.setIfInBounds_toArray, List.set_cons_succ, List.set_cons_zero]
  have hB1 : Below w.heap.size w w1 := HBW.out.trans (hb1.mono (by show w.heap.size ≤ W0.heap.size; omega))
  have hsz := hb1.size
  have hz1 : w.heap.size < w1.heap.size := by have : W0.drew.heap.size = W0.heap.size := rfl; omega
  obtain ⟨W2, hW2⟩ : ∃ W, W = w1.alloc (.cells (rdA w.heap.size 1) 178) := ⟨_, rfl⟩
  have hR2 : Rd W2 w1.heap.size w.heap.size b 1 := ⟨by rw [hW2, hget_at _ _ rfl], by rw [hW2, hget_past _ _ hz1]; exact hS1⟩
  have hB2 : Below w.heap.size w W2 := by rw [hW2]; exact hB1.alloc (by omega) _
  have HR2 := hideIt hR2
  have HW2 := hideIt hW2
  have HB2 := hideIt hB2
  clear hS hR2 hB2 hB1 hW2
  refine anyH_step (i := 10) (by kernel_rfl) rfl rfl (fun K hK => ?_)
  go_simp
  try unfold rdA at HW2
  try rw [← HW2.out]
  have hS := HR2.out.blk
  refine hK _ _ (HR2.out.blk) ?_
  clear hK K
  try simp only [Act.put, List.setIfInBounds_toArray, List.set_cons_succ, List.set_cons_zero]
  refine takeH 11 (v := ?_) rfl rfl (by kernel_rfl) (by kernel_rfl) (by kernel_rfl) (fun _ _ _ h => h) hS (yieldsIf_run rfl ?_) ?_
  rotate_left
  focus (intro w hSw; go_simp; try with_reducible rfl)
  simp only [List.setIfInBounds_toArray, List.set_cons_succ, List.set_cons_zero]
  refine wpAnyH_done (by kernel_rfl) ?_ _
  go_wp2_with fail
  go_ret
  exact ⟨_, _, rfl, HR2.out, HB2.out, by omega, Nat.le_refl _⟩
end Go.Proofs.YtnibehcgnhdcgaaGreatDoor
/- A block's reader: numbers. -/
namespace Go.Proofs.YtnibehcgnhdcgaaGreatDoor
open Go.RowKit

/-- The number that bytes are, the lowest first. -/
def leV : List UInt8 → Int
  | [] => 0
  | x :: r => (x.toNat : Int) + 256 * leV r

set_option maxHeartbeats 400000 in
theorem rfine_any (rb bb : Nat) (b : List UInt8) (at_ : Int) (w : World) (hR : Rd w rb bb b at_) :
    Calls Tryz.prog 112 #[.pointer (some ⟨rb, 0, none⟩)] w fun e w' => e = .returned (.bool true) ∧ w' = w := by
  have c2 : w.cell? ⟨rb, 2, none⟩ = some (.bool true) := by rw [cell_of_row _ _ _ _ _ _ hR.row]; rfl
  clear hR
  go_enter Tryz.func112, Tryz.ntmps112
  go_wp2
  go_ret
  exact ⟨rfl, rfl⟩

theorem byte_num (x : UInt8) : ∃ a : Nat, a < 256 ∧ x.toNat = a := ⟨x.toNat, by have := x.toNat_lt; omega, rfl⟩
theorem or_first (a : Nat) (ha : a < 256) : bits .or .u64 0 (a : Int) = (a : Int) := by
  have h := bits_or_u64_nat 0 a (by omega) (by omega)
  rw [Nat.zero_or] at h
  exact h
/-- One byte more, above what there is. -/
theorem or_step (v a m i : Nat) (M : Int) (hM : m = 2 ^ i) (hm : M = (m : Int)) (hi : i ≤ 56) (hv : v < m) (ha : a < 256) : bits .or .u64 (v : Int) ((a : Int) * M) = ((v + a * m : Nat) : Int) := by
  have hMb : m ≤ 72057594037927936 := by rw [hM]; exact Nat.pow_le_pow_right (by decide) hi
  have ham : a * m < 18446744073709551616 := by
    have : a * m ≤ 255 * 72057594037927936 := Nat.mul_le_mul (by omega) hMb
    omega
  rw [hm, ← Int.natCast_mul, bits_or_u64_nat _ _ (by omega) ham]
  congr 1
  have h := Nat.two_pow_add_eq_or_of_lt (i := i) (b := v) (by rw [← hM]; exact hv) a
  rw [← hM, Nat.mul_comm m a] at h
  rw [Nat.or_comm, ← h, Nat.add_comm]

set_option maxHeartbeats 400000 in
theorem take1_any (pb ob rb : Nat) (u : FrameMode) (w : World) (h1 : w.cell? ⟨pb, 0, none⟩ = some (.pointer (some ⟨rb, 0, none⟩))) (h2 : w.cell? ⟨ob, 0, none⟩ = some (.bool true))
    (h3 : w.cell? ⟨rb, 2, none⟩ = some (.bool true)) (h4 : w.frozen? ⟨rb, 2, none⟩ = false) :
    CallsD Tryz.prog 122 #[.pointer (some ⟨pb, 0, none⟩), .pointer (some ⟨ob, 0, none⟩)] u w fun e u' w' => u' = u ∧ (e = .returned (.tuple #[]) ∧ w' = (w.setCell ⟨rb, 2, none⟩ (.bool true)).drew) := by
  go_enter_d Tryz.func122, Tryz.ntmps122
  go_wp2
  go_region
  all_goals go_wp2
  all_goals go_end0
  all_goals exact ⟨rfl, rfl⟩

set_option maxHeartbeats 4000000 in
theorem num1c2 (bb at_ cap : Nat) (x0 x1 : UInt8) (w : World) (h0 : w.cell? ⟨bb, at_, none⟩ = some (byteV x0)) (h1 : w.cell? ⟨bb, at_ + 1, none⟩ = some (byteV x1)) :
    Calls Tryz.prog 111 #[.slice (some ⟨bb, at_, none⟩) 2 cap] w fun e w' => e = .returned (.tuple #[.int .u64 (leV [x0, x1]), .bool true]) ∧ w' = w := by
  unfold byteV at h0 h1
  obtain ⟨a0, r0, e0⟩ := byte_num x0
  obtain ⟨a1, r1, e1⟩ := byte_num x1
  rw [show leV [x0, x1] = ((a0 + a1 * 256 : Nat) : Int) by simp only [leV]; omega]
  rw [e0] at h0
  rw [e1] at h1
  clear e0 e1
  go_enter Tryz.func111, Tryz.ntmps111
  go_wp2
  refine wp_loop_rounds 3 ?_
  rw [rounds_succ]
  go_wp2
  rw [rounds_succ]
  go_wp2
  rw [rounds_succ]
  go_wp2
  rw [or_first a0 r0]
  rw [or_step (a0) a1 256 8 256 (by decide) rfl (by decide) (by omega) r1]
  go_ret2
  exact ⟨rfl, rfl⟩

set_option maxHeartbeats 4000000 in
theorem num1c4 (bb at_ cap : Nat) (x0 x1 x2 x3 : UInt8) (w : World) (h0 : w.cell? ⟨bb, at_, none⟩ = some (byteV x0)) (h1 : w.cell? ⟨bb, at_ + 1, none⟩ = some (byteV x1)) (h2 : w.cell? ⟨bb, at_ + 2, none⟩ = some (byteV x2)) (h3 : w.cell? ⟨bb, at_ + 3, none⟩ = some (byteV x3)) :
    Calls Tryz.prog 111 #[.slice (some ⟨bb, at_, none⟩) 4 cap] w fun e w' => e = .returned (.tuple #[.int .u64 (leV [x0, x1, x2, x3]), .bool true]) ∧ w' = w := by
  unfold byteV at h0 h1 h2 h3
  obtain ⟨a0, r0, e0⟩ := byte_num x0
  obtain ⟨a1, r1, e1⟩ := byte_num x1
  obtain ⟨a2, r2, e2⟩ := byte_num x2
  obtain ⟨a3, r3, e3⟩ := byte_num x3
  rw [show leV [x0, x1, x2, x3] = ((a0 + a1 * 256 + a2 * 65536 + a3 * 16777216 : Nat) : Int) by simp only [leV]; omega]
  rw [e0] at h0
  rw [e1] at h1
  rw [e2] at h2
  rw [e3] at h3
  clear e0 e1 e2 e3
  go_enter Tryz.func111, Tryz.ntmps111
  go_wp2
  refine wp_loop_rounds 5 ?_
  rw [rounds_succ]
  go_wp2
  rw [rounds_succ]
  go_wp2
  rw [rounds_succ]
  go_wp2
  rw [rounds_succ]
  go_wp2
  rw [rounds_succ]
  go_wp2
  rw [or_first a0 r0]
  rw [or_step (a0) a1 256 8 256 (by decide) rfl (by decide) (by omega) r1]
  rw [or_step (a0 + a1 * 256) a2 65536 16 65536 (by decide) rfl (by decide) (by omega) r2]
  rw [or_step (a0 + a1 * 256 + a2 * 65536) a3 16777216 24 16777216 (by decide) rfl (by decide) (by omega) r3]
  go_ret2
  exact ⟨rfl, rfl⟩

set_option maxHeartbeats 4000000 in
theorem num1c8 (bb at_ cap : Nat) (x0 x1 x2 x3 x4 x5 x6 x7 : UInt8) (w : World) (h0 : w.cell? ⟨bb, at_, none⟩ = some (byteV x0)) (h1 : w.cell? ⟨bb, at_ + 1, none⟩ = some (byteV x1)) (h2 : w.cell? ⟨bb, at_ + 2, none⟩ = some (byteV x2)) (h3 : w.cell? ⟨bb, at_ + 3, none⟩ = some (byteV x3)) (h4 : w.cell? ⟨bb, at_ + 4, none⟩ = some (byteV x4)) (h5 : w.cell? ⟨bb, at_ + 5, none⟩ = some (byteV x5)) (h6 : w.cell? ⟨bb, at_ + 6, none⟩ = some (byteV x6)) (h7 : w.cell? ⟨bb, at_ + 7, none⟩ = some (byteV x7)) :
    Calls Tryz.prog 111 #[.slice (some ⟨bb, at_, none⟩) 8 cap] w fun e w' => e = .returned (.tuple #[.int .u64 (leV [x0, x1, x2, x3, x4, x5, x6, x7]), .bool true]) ∧ w' = w := by
  unfold byteV at h0 h1 h2 h3 h4 h5 h6 h7
  obtain ⟨a0, r0, e0⟩ := byte_num x0
  obtain ⟨a1, r1, e1⟩ := byte_num x1
  obtain ⟨a2, r2, e2⟩ := byte_num x2
  obtain ⟨a3, r3, e3⟩ := byte_num x3
  obtain ⟨a4, r4, e4⟩ := byte_num x4
  obtain ⟨a5, r5, e5⟩ := byte_num x5
  obtain ⟨a6, r6, e6⟩ := byte_num x6
  obtain ⟨a7, r7, e7⟩ := byte_num x7
  rw [show leV [x0, x1, x2, x3, x4, x5, x6, x7] = ((a0 + a1 * 256 + a2 * 65536 + a3 * 16777216 + a4 * 4294967296 + a5 * 1099511627776 + a6 * 281474976710656 + a7 * 72057594037927936 : Nat) : Int) by simp only [leV]; omega]
  rw [e0] at h0
  rw [e1] at h1
  rw [e2] at h2
  rw [e3] at h3
  rw [e4] at h4
  rw [e5] at h5
  rw [e6] at h6
  rw [e7] at h7
  clear e0 e1 e2 e3 e4 e5 e6 e7
  go_enter Tryz.func111, Tryz.ntmps111
  go_wp2
  refine wp_loop_rounds 9 ?_
  rw [rounds_succ]
  go_wp2
  rw [rounds_succ]
  go_wp2
  rw [rounds_succ]
  go_wp2
  rw [rounds_succ]
  go_wp2
  rw [rounds_succ]
  go_wp2
  rw [rounds_succ]
  go_wp2
  rw [rounds_succ]
  go_wp2
  rw [rounds_succ]
  go_wp2
  rw [rounds_succ]
  go_wp2
  rw [or_first a0 r0]
  rw [or_step (a0) a1 256 8 256 (by decide) rfl (by decide) (by omega) r1]
  rw [or_step (a0 + a1 * 256) a2 65536 16 65536 (by decide) rfl (by decide) (by omega) r2]
  rw [or_step (a0 + a1 * 256 + a2 * 65536) a3 16777216 24 16777216 (by decide) rfl (by decide) (by omega) r3]
  rw [or_step (a0 + a1 * 256 + a2 * 65536 + a3 * 16777216) a4 4294967296 32 4294967296 (by decide) rfl (by decide) (by omega) r4]
  rw [or_step (a0 + a1 * 256 + a2 * 65536 + a3 * 16777216 + a4 * 4294967296) a5 1099511627776 40 1099511627776 (by decide) rfl (by decide) (by omega) r5]
  rw [or_step (a0 + a1 * 256 + a2 * 65536 + a3 * 16777216 + a4 * 4294967296 + a5 * 1099511627776) a6 281474976710656 48 281474976710656 (by decide) rfl (by decide) (by omega) r6]
  rw [or_step (a0 + a1 * 256 + a2 * 65536 + a3 * 16777216 + a4 * 4294967296 + a5 * 1099511627776 + a6 * 281474976710656) a7 72057594037927936 56 72057594037927936 (by decide) rfl (by decide) (by omega) r7]
  go_ret2
  exact ⟨rfl, rfl⟩
end Go.Proofs.YtnibehcgnhdcgaaGreatDoor
/- A block's reader: numbers are read. -/
namespace Go.Proofs.YtnibehcgnhdcgaaGreatDoor
open Go.RowKit

theorem Rd.c0 {w : World} {rb bb : Nat} {b : List UInt8} {at_ : Int} (h : Rd w rb bb b at_) : w.cell? ⟨rb, 0, none⟩ = some (.slice (some ⟨bb, 0, none⟩) 252 256) := by rw [cell_of_row _ _ _ _ _ _ h.row]; rfl
theorem Rd.c1 {w : World} {rb bb : Nat} {b : List UInt8} {at_ : Int} (h : Rd w rb bb b at_) : w.cell? ⟨rb, 1, none⟩ = some (.int .i64 at_) := by rw [cell_of_row _ _ _ _ _ _ h.row]; rfl
theorem Rd.c2 {w : World} {rb bb : Nat} {b : List UInt8} {at_ : Int} (h : Rd w rb bb b at_) : w.cell? ⟨rb, 2, none⟩ = some (.bool true) := by rw [cell_of_row _ _ _ _ _ _ h.row]; rfl
theorem Rd.fz {w : World} {rb bb : Nat} {b : List UInt8} {at_ : Int} (h : Rd w rb bb b at_) (j : Nat) : w.frozen? ⟨rb, j, none⟩ = false := by unfold World.frozen?; rw [h.row]; rfl
theorem Rd.cb {w : World} {rb bb : Nat} {b : List UInt8} {at_ : Int} (h : Rd w rb bb b at_) {j : Nat} {x : UInt8} (hx : b[j]? = some x) : w.cell? ⟨bb, j, none⟩ = some (byteV x) := by
  rw [cell_of_row _ _ _ _ _ _ h.blk, blkA_get, hx]; rfl
theorem Rd.of_blocks {w w' : World} {rb bb : Nat} {b : List UInt8} {at_ : Int} (h : Rd w rb bb b at_) (h1 : w'.heap[rb]? = w.heap[rb]?) (h2 : w'.heap[bb]? = w.heap[bb]?) : Rd w' rb bb b at_ :=
  ⟨h1.trans h.row, h2.trans h.blk⟩
theorem Rd.lt {w : World} {rb bb : Nat} {b : List UInt8} {at_ : Int} (h : Rd w rb bb b at_) : rb < w.heap.size ∧ bb < w.heap.size := ⟨(Array.getElem?_eq_some_iff.1 h.row).1, (Array.getElem?_eq_some_iff.1 h.blk).1⟩

set_option maxRecDepth 100000 in
set_option maxHeartbeats 4000000 in
theorem take_any (rb bb at_ n : Nat) (b : List UInt8) (x : Int) (hn : at_ + n ≤ 252) (hn1 : 1 ≤ n) (w : World) (hR : Rd w rb bb b at_)
    (hof : ∀ W : World, W.heap[bb]? = some (.cells (blkA b) 41 (0, 0)) → Calls Tryz.prog 111 #[.slice (some ⟨bb, at_, none⟩) n (256 - at_)] W fun e w' => e = .returned (.tuple #[.int .u64 x, .bool true]) ∧ w' = W) :
    Calls Tryz.prog 110 #[.pointer (some ⟨rb, 0, none⟩), .bool true, .int .i64 n, .func (.func 111) #[] #[]] w fun e w' => e = .returned (.int .u64 x) ∧ Rd w' rb bb b ((at_ + n : Nat) : Int) ∧ Keeps (fun k => k = rb) w w' := by
  have hmf : ∀ (fn : Fn) (first cap : Array Value) (w : World), (Instr.makeFunc fn first cap).run Tryz.prog w = .ok (.func fn first cap) w := fun _ _ _ _ => rfl
  have HR := hideIt hR
  have HOF := hideIt hof
  clear hR hof
  go_enter_defers Tryz.func110, Tryz.ntmps110
  go_upto_region 3 with fail
  obtain ⟨W1, hW1⟩ : ∃ W, W = (w.alloc (.cells #[.pointer (some ⟨rb, 0, none⟩)] 162)).alloc (.cells #[.bool false] 4) := ⟨_, rfl⟩
  rw [← hW1]
  have hlt := HR.out.lt
  have hb1 : Below w.heap.size w W1 := by rw [hW1]; exact ((Below.refl _ w).alloc (Nat.le_refl _) _).alloc (by simp) _
  have gp : W1.heap[w.heap.size]? = some (.cells #[.pointer (some ⟨rb, 0, none⟩)] 162 (0, 0)) := by rw [hW1, hget_past _ _ (by simp), hget_at _ _ rfl]
  have go : W1.heap[w.heap.size + 1]? = some (.cells #[.bool false] 4 (0, 0)) := by rw [hW1, hget_at _ _ (by simp)]
  have hR1 : Rd W1 rb bb b at_ := HR.out.of_blocks (hb1.block _ hlt.1) (hb1.block _ hlt.2)
  have cp : W1.cell? ⟨w.heap.size, 0, none⟩ = some (.pointer (some ⟨rb, 0, none⟩)) := by rw [cell_of_row _ _ _ _ _ _ gp]; rfl
  have c0 := hR1.c0
  have c1 := hR1.c1
  have hfine : ∀ k, Calls Tryz.prog 112 #[.pointer (some ⟨rb, 0, none⟩)] (W1.drewN k) fun e w' => e = .returned (.bool true) ∧ w' = W1.drewN k := fun k => rfine_any rb bb b at_ _ (hR1.of_blocks rfl rfl)
  have hfine1 : Calls Tryz.prog 112 #[.pointer (some ⟨rb, 0, none⟩)] W1.drew fun e w' => e = .returned (.bool true) ∧ w' = W1.drew := rfine_any rb bb b at_ _ (hR1.of_blocks rfl rfl)
  have hcmp : ¬ ((252 : Int) - (at_ : Int) < (n : Int)) := by omega
  have HB1 := hideIt hb1
  have GP := hideIt gp
  have GO := hideIt go
  have HR1 := hideIt hR1
  clear hW1 hb1 gp go hR1
  go_quiet (first | (go_at_call 112; first | exact Calls.quiet_of_same (hfine _) | exact Calls.quiet_of_same hfine1))
  go_upto_region 5 with fail
  obtain ⟨W2, hW2⟩ : ∃ W, W = W1.drewN nq := ⟨_, rfl⟩
  rw [← hW2]
  have hp2 : W2.heap = W1.heap := by rw [hW2]; rfl
  have hR2 : Rd W2 rb bb b at_ := HR1.out.of_blocks (by rw [hp2]) (by rw [hp2])
  have gp2 : W2.heap[w.heap.size]? = some (.cells #[.pointer (some ⟨rb, 0, none⟩)] 162 (0, 0)) := by rw [hp2]; exact GP.out
  have go2 : W2.heap[w.heap.size + 1]? = some (.cells #[.bool false] 4 (0, 0)) := by rw [hp2]; exact GO.out
  have hb2 : Below w.heap.size w W2 := by rw [hW2]; exact below_drewN HB1.out nq
  clear hfine hfine1 c0 c1 cp hW2 hp2
  have cp : W2.cell? ⟨w.heap.size, 0, none⟩ = some (.pointer (some ⟨rb, 0, none⟩)) := by rw [cell_of_row _ _ _ _ _ _ gp2]; rfl
  have co : W2.cell? ⟨w.heap.size + 1, 0, none⟩ = some (.bool false) := by rw [cell_of_row _ _ _ _ _ _ go2]; rfl
  have fo : W2.frozen? ⟨w.heap.size + 1, 0, none⟩ = false := by unfold World.frozen?; rw [go2]; rfl
  have c0 := hR2.c0
  have c1 := hR2.c1
  have c2 := hR2.c2
  have f1 := hR2.fz 1
  have f2 := hR2.fz 2
  have hnum := fun W h => HOF.out W h
  have hnum0 := hnum W2.drew hR2.blk
  have hnum1 := fun k => hnum (W2.drewN k) hR2.blk
  have GP2 := hideIt gp2
  have GO2 := hideIt go2
  have HR2 := hideIt hR2
  have HB2 := hideIt hb2
  clear HB1 GP GO HR1 hR2 gp2 go2 hb2 hnum hcmp
  have hs1 : ¬ (at_ : Int) + (n : Int) < (at_ : Int) := by omega
  have hs2 : (at_ : Int) + (n : Int) ≤ 256 := by omega
  go_quiet (first | (go_at_call 111; first | exact Calls.quiet_of_same (hnum1 _) | exact Calls.quiet_of_same hnum0))
  obtain ⟨W3, hW3⟩ : ∃ W, W = W2.drewN nq := ⟨_, rfl⟩
  rw [← hW3]
  have hp3 : W3.heap = W2.heap := by rw [hW3]; rfl
  have hR3 : Rd W3 rb bb b at_ := HR2.out.of_blocks (by rw [hp3]) (by rw [hp3])
  have hb3 : Below w.heap.size w W3 := by rw [hW3]; exact below_drewN HB2.out nq
  have e3 : ∀ p, W3.cell? p = W2.cell? p := fun p => by rw [hW3]; rfl
  have e4 : ∀ p, W3.frozen? p = W2.frozen? p := fun p => by rw [hW3]; rfl
  rw [← e3] at cp co c0 c1 c2
  rw [← e4] at fo f1 f2
  have GP3 := hideIt (show W3.heap[w.heap.size]? = some (.cells #[.pointer (some ⟨rb, 0, none⟩)] 162 (0, 0)) by rw [hp3]; exact GP2.out)
  have GO3 := hideIt (show W3.heap[w.heap.size + 1]? = some (.cells #[.bool false] 4 (0, 0)) by rw [hp3]; exact GO2.out)
  have HR3 := hideIt hR3
  have HB3 := hideIt hb3
  clear hnum0 hnum1 hW3 hp3 hR3 hb3 e3 e4 HR2 HB2 hs1 hs2
  go_wp2
  refine leaves_cons (f := 122) (args := #[.pointer (some ⟨w.heap.size, 0, none⟩), .pointer (some ⟨w.heap.size + 1, 0, none⟩)]) (by simp) (by simp [go_sem]) ?_
  obtain ⟨W4, hW4⟩ : ∃ W, W = (W3.setCell ⟨w.heap.size + 1, 0, none⟩ (.bool true)).setCell ⟨rb, 1, none⟩ (.int .i64 ((at_ : Int) + (n : Int))) := ⟨_, rfl⟩
  rw [← hW4]
  have hbr : bb ≠ rb := fun e => by
    have h1 := HR3.out.row
    have h2 := HR3.out.blk
    rw [e, h1] at h2
    injection h2 with h2
    injection h2 with _ h3 _
    exact absurd h3 (by decide)
  have g4r : W4.heap[rb]? = some (.cells (rdA bb ((at_ : Int) + (n : Int))) 178 (0, 0)) := by
    rw [hW4, hget_setCell_same rb 1 (rdA bb at_) 178 _ (by rw [hget_setCell_other _ _ _ (by show rb ≠ w.heap.size + 1; omega)]; exact HR3.out.row)]
    rfl
  have g4b : W4.heap[bb]? = some (.cells (blkA b) 41 (0, 0)) := by
    rw [hW4, hget_setCell_other _ _ _ (by show bb ≠ rb; exact hbr), hget_setCell_other _ _ _ (by show bb ≠ w.heap.size + 1; omega)]
    exact HR3.out.blk
  have g4p : W4.heap[w.heap.size]? = some (.cells #[.pointer (some ⟨rb, 0, none⟩)] 162 (0, 0)) := by
    rw [hW4, hget_setCell_other _ _ _ (by show w.heap.size ≠ rb; omega), hget_setCell_other _ _ _ (by show w.heap.size ≠ w.heap.size + 1; omega)]
    exact GP3.out
  have g4o : W4.heap[w.heap.size + 1]? = some (.cells #[.bool true] 4 (0, 0)) := by
    rw [hW4, hget_setCell_other _ _ _ (by show w.heap.size + 1 ≠ rb; omega), hget_setCell_same _ 0 #[.bool false] 4 _ GO3.out]
    rfl
  have hk4 : Keeps (fun k => k = rb) w W4 := by
    rw [hW4]
    have h0 : Keeps (fun k => k = rb) w (W3.setCell ⟨w.heap.size + 1, 0, none⟩ (.bool true)) := (Keeps.of_below HB3.out).setCell (Or.inl (by show w.heap.size ≤ w.heap.size + 1; omega)) _
    exact h0.setCell (Or.inr rfl) _
  refine (take1_any w.heap.size (w.heap.size + 1) rb .returning W4 (by rw [cell_of_row _ _ _ _ _ _ g4p]; rfl) (by rw [cell_of_row _ _ _ _ _ _ g4o]; rfl) (by rw [cell_of_row _ _ _ _ _ _ g4r]; rfl) (by unfold World.frozen?; rw [g4r]; rfl)).mono ?_
  rintro e u' w' ⟨rfl, rfl, rfl⟩
  refine ⟨_, results_tmp rfl _ _ _, rfl, ⟨?_, ?_⟩, (hk4.setCell (Or.inr rfl) _).drew⟩
  · rw [hget_drew, hget_setCell_same rb 2 _ _ _ g4r]
    rfl
  · rw [hget_drew, hget_setCell_other _ _ _ (by show bb ≠ rb; exact hbr)]
    exact g4b
end Go.Proofs.YtnibehcgnhdcgaaGreatDoor
