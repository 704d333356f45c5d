/- A tally, a pick as rows of cells; whole rows inside a region that draws its order. -/
import Derived.Test.YtnibehcgnhdcgaaGreatDoorM2
import Derived.Deep.RegionLaw
import Derived.Test.YtnibehcgnhdcgaaGreatDoorM1
import Derived.MapKept
import Derived.ChangeMaps5
import Derived.RangeFuncRecord
namespace Go.Proofs.YtnibehcgnhdcgaaGreatDoor
open Go.RowKit

theorem run_loadRow {P : Program} {w : World} {b : Nat} {cs : Array Value} {t : TypeId} {fr : Nat × Nat} (n : Nat) (hg : w.heap[b]? = some (.cells cs t fr)) (hn : cs.size = n) :
    (loadCellsFrom ⟨b, 0, none⟩ 0 n #[]).run P w = .ok cs w := by
  subst hn
  have := run_loadCells_list (P := P) w ⟨b, 0, none⟩ cs.toList (fun j v hv => by
    have hadd : (⟨b, 0, none⟩ : Addr).add j = ⟨b, j, none⟩ := by unfold Addr.add; split <;> simp_all
    rw [hadd, cell_of_row _ _ j cs t fr hg]
    simpa using hv)
  simpa [loadCells] using this
theorem run_storeRow {P : Program} {w : World} {b : Nat} {cs c' : Array Value} {t : TypeId} (ty : TypeId) (hg : w.heap[b]? = some (.cells cs t (0, 0))) (hi : (P.info? ty).map (·.size) = some c'.size) (ho : cs.size = c'.size)
    (h1 : c'.all (·.oneCell') = true) : (storeCells ⟨b, 0, none⟩ c'.toList 0).run P w = .ok () (w.setRow b c') := by
  have := run_storeVar_row (P := P) w b t ty cs c' hg hi ho h1
  cases hq : P.info? ty with
  | none => simp [hq] at hi
  | some i =>
    have hs : c'.size = i.size := by simp [hq] at hi; omega
    simpa [storeVar, sizeOf, typeInfo, hq, Value.cells, hs] using this

/-- One operation of a region that draws its order: it alone may come up. -/
theorem any_step {P : Program} {md : Region.Mode} {ops : Array Oper} {Q : Exit → Act → World → Prop} {i : Nat} {o : Oper} {fuel : Nat} {listed : Array Bool} {a : Act} {w : World}
    (hr : Region.ready md ops listed = [i]) (ho : ops[i]? = some o) (hg : o.guard = none)
    (h : ∀ K : Act → World → Prop, (∀ a w, wpAny P md ops Q fuel (listed.setIfInBounds i true) a w → K a w) → Oper.wp P o a w K Q) : wpAny P md ops Q (fuel + 1) listed a w :=
  wpAny_ready hr (by simp) (.cons ho (fun K hK => by rw [if_pos (by simp [Region.wanted, hg])]; exact h K hK) .nil)

def tallyA (idx : Int) (cs : List Int) : Array Value := (.int .u32 idx :: cs.map (.int .u16)).toArray
def pickA (idx : Int) (cs : List Int) : Array Value := (.int .u32 idx :: cs.map (.int .u64)).toArray
theorem size69 : (Tryz.prog.info? 69).map (·.size) = some 65 := by kernel_rfl
theorem size74 : (Tryz.prog.info? 74).map (·.size) = some 17 := by kernel_rfl
theorem tallyA_size (idx : Int) (cs : List Int) : (tallyA idx cs).size = cs.length + 1 := by simp [tallyA]
theorem pickA_size (idx : Int) (cs : List Int) : (pickA idx cs).size = cs.length + 1 := by simp [pickA]
theorem tallyA_succ (idx : Int) (cs : List Int) (j : Nat) : (tallyA idx cs)[1 + j]? = cs[j]?.map (.int .u16) := by
  simp [tallyA, Nat.add_comm 1 j]
theorem pickA_succ (idx : Int) (cs : List Int) (j : Nat) : (pickA idx cs)[1 + j]? = cs[j]?.map (.int .u64) := by
  simp [pickA, Nat.add_comm 1 j]

set_option maxRecDepth 100000 in
set_option maxHeartbeats 1000000 in
theorem tput_any (idx : Int) (hi0 : 0 ≤ idx) (hi1 : idx < 16384) (cs : List Int) (hlen : cs.length = 64) (hcs : ∀ x ∈ cs, 0 ≤ x ∧ x < 65536) (w : World) :
    Calls Tryz.prog 31 #[.agg (tallyA idx cs)] w
      fun e w' => e = .returned (.tuple #[.agg (blkA (putB 84 idx 2 cs)), .int .i64 0]) ∧ Below w.heap.size w w' := by
  obtain ⟨W1, hW1⟩ : ∃ W, W = (w.alloc (.cells (tallyA idx cs) 69)).alloc (.cells (blkA zb) 41) := ⟨_, rfl⟩
  have g0 : W1.heap[w.heap.size]? = some (.cells (tallyA idx cs) 69 (0, 0)) := by rw [hW1, hget_past _ _ (by simp), hget_at _ _ rfl]
  have g1 : W1.heap[w.heap.size + 1]? = some (.cells (blkA zb) 41 (0, 0)) := by rw [hW1, hget_at _ _ (by simp)]
  have hs1 : w.heap.size + 2 = W1.heap.size := by rw [hW1]; simp
  have hB1 : Below w.heap.size w W1 := by rw [hW1]; exact ((Below.refl _ w).alloc (Nat.le_refl _) _).alloc (by simp) _
  have c0 : W1.cell? ⟨w.heap.size, 0, none⟩ = some (.int .u32 idx) := by rw [cell_of_row W1 _ 0 _ _ _ g0]; rfl
  have hput := put16_any 84 idx 16384 hi0 hi1 (by omega) cs hlen hcs w.heap.size W1.drew (by show _ < W1.heap.size; omega) (fun j x hx => by
    show W1.cell? _ = _
    rw [cell_of_row W1 _ _ _ _ _ g0, tallyA_succ, hx]; rfl)
  have hlS : (putB 84 idx 2 cs).length = 256 := (sealB_length _).trans (rawB_length _ _ (by rw [List.length_append, leB_length, rowB_length, hlen]; decide))
  have iS := size41' hlS
  have eS : (blkA zb).size = (blkA (putB 84 idx 2 cs)).size := by rw [zbA_size, blkA_size, hlS]
  have h1S := blkA_one (putB 84 idx 2 cs)
  have hzS : (blkA (putB 84 idx 2 cs)).size = 256 := by rw [blkA_size, hlS]
  generalize hS : putB 84 idx 2 cs = S at hput iS eS h1S hzS ⊢
  have HW1 := hideIt hW1
  have G0 := hideIt g0
  have G1 := hideIt g1
  have HS1 := hideIt hs1
  clear hW1 g0 g1 hs1 hlS hS hlen hcs
  go_enter Tryz.func31, Tryz.ntmps31
  go_wp2_with (first
    | (with_reducible refine wl_alloc zero41 ?_))
  rw [← HW1.out]
  go_region_law (go_simp; go_at_call 61; refine hput.mono ?_; rintro e W2 ⟨rfl, hb2⟩; have g2 := (hb2.block (w.heap.size + 1) (by show _ < W1.heap.size; have := HS1.out; omega)).trans G1.out; have G2 := hideIt g2; have st2 := run_storeRow (P := Tryz.prog) 41 g2 iS eS h1S; clear g2)
  go_wp2_with fail
  exact ret_cell_tmp rfl rfl rfl (setRow_heap W2 _ _ (blkA S) _ _ G2.out) Tryz.underlying41 rfl iS ⟨rfl, below_setRow (hB1.drew.trans (hb2.mono (B' := w.heap.size) (by show w.heap.size ≤ W1.heap.size; have := HS1.out; omega))) (by omega) _⟩
set_option maxRecDepth 100000 in
set_option maxHeartbeats 1000000 in
theorem pput_any (idx : Int) (hi0 : 0 ≤ idx) (hi1 : idx < 16) (cs : List Int) (hlen : cs.length = 16) (hcs : ∀ x ∈ cs, 0 ≤ x ∧ x < 18446744073709551616) (w : World) :
    Calls Tryz.prog 37 #[.agg (pickA idx cs)] w
      fun e w' => e = .returned (.tuple #[.agg (blkA (putB 80 idx 8 cs)), .int .i64 0]) ∧ Below w.heap.size w w' := by
  obtain ⟨W1, hW1⟩ : ∃ W, W = (w.alloc (.cells (pickA idx cs) 74)).alloc (.cells (blkA zb) 41) := ⟨_, rfl⟩
  have g0 : W1.heap[w.heap.size]? = some (.cells (pickA idx cs) 74 (0, 0)) := by rw [hW1, hget_past _ _ (by simp), hget_at _ _ rfl]
  have g1 : W1.heap[w.heap.size + 1]? = some (.cells (blkA zb) 41 (0, 0)) := by rw [hW1, hget_at _ _ (by simp)]
  have hs1 : w.heap.size + 2 = W1.heap.size := by rw [hW1]; simp
  have hB1 : Below w.heap.size w W1 := by rw [hW1]; exact ((Below.refl _ w).alloc (Nat.le_refl _) _).alloc (by simp) _
  have c0 : W1.cell? ⟨w.heap.size, 0, none⟩ = some (.int .u32 idx) := by rw [cell_of_row W1 _ 0 _ _ _ g0]; rfl
  have hput := put64_any 80 idx 16 hi0 hi1 (by omega) cs hlen hcs w.heap.size W1.drew (by show _ < W1.heap.size; omega) (fun j x hx => by
    show W1.cell? _ = _
    rw [cell_of_row W1 _ _ _ _ _ g0, pickA_succ, hx]; rfl)
  have hlS : (putB 80 idx 8 cs).length = 256 := (sealB_length _).trans (rawB_length _ _ (by rw [List.length_append, leB_length, rowB_length, hlen]; decide))
  have iS := size41' hlS
  have eS : (blkA zb).size = (blkA (putB 80 idx 8 cs)).size := by rw [zbA_size, blkA_size, hlS]
  have h1S := blkA_one (putB 80 idx 8 cs)
  have hzS : (blkA (putB 80 idx 8 cs)).size = 256 := by rw [blkA_size, hlS]
  generalize hS : putB 80 idx 8 cs = S at hput iS eS h1S hzS ⊢
  have HW1 := hideIt hW1
  have G0 := hideIt g0
  have G1 := hideIt g1
  have HS1 := hideIt hs1
  clear hW1 g0 g1 hs1 hlS hS hlen hcs
  go_enter Tryz.func37, Tryz.ntmps37
  go_wp2_with (first
    | (with_reducible refine wl_alloc zero41 ?_))
  rw [← HW1.out]
  go_region_law (go_simp; go_at_call 67; refine hput.mono ?_; rintro e W2 ⟨rfl, hb2⟩; have g2 := (hb2.block (w.heap.size + 1) (by show _ < W1.heap.size; have := HS1.out; omega)).trans G1.out; have G2 := hideIt g2; have st2 := run_storeRow (P := Tryz.prog) 41 g2 iS eS h1S; clear g2)
  go_wp2_with fail
  exact ret_cell_tmp rfl rfl rfl (setRow_heap W2 _ _ (blkA S) _ _ G2.out) Tryz.underlying41 rfl iS ⟨rfl, below_setRow (hB1.drew.trans (hb2.mono (B' := w.heap.size) (by show w.heap.size ≤ W1.heap.size; have := HS1.out; omega))) (by omega) _⟩
end Go.Proofs.YtnibehcgnhdcgaaGreatDoor
/- Pages that are got: blocks of zeros. -/
namespace Go.Proofs.YtnibehcgnhdcgaaGreatDoor
open Go.RowKit

def z64 : List Int := List.replicate 64 0
def z16 : List Int := List.replicate 16 0
theorem zero69 : ∀ w, (zeroValue 69).run Tryz.prog w = .ok (.agg (tallyA 0 z64)) w :=
  (zero_of_info (t := 69) (v := .agg (tallyA 0 z64)) (n := 65) (by kernel_rfl)).1
theorem zero74 : ∀ w, (zeroValue 74).run Tryz.prog w = .ok (.agg (pickA 0 z16)) w :=
  (zero_of_info (t := 74) (v := .agg (pickA 0 z16)) (n := 17) (by kernel_rfl)).1
theorem tallyA_one (idx : Int) (cs : List Int) : (tallyA idx cs).all (·.oneCell') = true := by
  simp [tallyA, Value.oneCell']
theorem pickA_one (idx : Int) (cs : List Int) : (pickA idx cs).all (·.oneCell') = true := by
  simp [pickA, Value.oneCell']
theorem size69' (idx : Int) {cs : List Int} (h : cs.length = 64) : (Tryz.prog.info? 69).map (·.size) = some (tallyA idx cs).size := by rw [tallyA_size, h]; exact size69
theorem size74' (idx : Int) {cs : List Int} (h : cs.length = 16) : (Tryz.prog.info? 74).map (·.size) = some (pickA idx cs).size := by rw [pickA_size, h]; exact size74

set_option maxRecDepth 100000 in
set_option maxHeartbeats 1000000 in
theorem get16_zero (m : UInt8) (idx en : Int) (hi1 : idx < en) (v : Value) (w : World) :
    Calls Tryz.prog 82 #[.agg (blkA zb), .int .u8 m.toNat, .int .u32 idx, .int .u32 en, v, .int .i64 2] w
      fun e w' => e = .returned (.int .i64 0) ∧ Below w.heap.size w w' := by
  obtain ⟨W1, hW1⟩ : ∃ W, W = w.alloc (.cells (blkA zb) 41) := ⟨_, rfl⟩
  have g0 : W1.heap[w.heap.size]? = some (.cells (blkA zb) 41 (0, 0)) := by rw [hW1, hget_at _ _ rfl]
  have hB1 : Below w.heap.size w W1 := by rw [hW1]; exact (Below.refl _ w).alloc (Nat.le_refl _) _
  have hz := zero_any zb zb_length W1
  have hs1 : w.heap.size + 1 = W1.heap.size := by rw [hW1]; simp
  have i0 := size41' zb_length
  rw [hW1] at g0
  have HW1 := hideIt hW1
  have G0 := hideIt g0
  clear hW1 g0
  go_enter Tryz.func82, Tryz.ntmps82
  go_wp2_with (first
    | (with_reducible refine wl_load rfl G0.out Tryz.underlying41 rfl i0 ?_)
    | (go_at_call 26; first | rw [← HW1.out] | skip; refine hz.mono ?_; rintro e W2 ⟨rfl, hb2⟩))
  go_ret
  exact ⟨rfl, hB1.trans (hb2.mono (by omega))⟩

set_option maxRecDepth 100000 in
set_option maxHeartbeats 1000000 in
theorem tget_zero (idx : Int) (hi1 : idx < 16384) (w : World) :
    Calls Tryz.prog 59 #[.agg (blkA zb), .int .u32 idx] w
      fun e w' => e = .returned (.tuple #[.agg (tallyA idx z64), .int .i64 0]) ∧ Below w.heap.size w w' := by
  obtain ⟨W1, hW1⟩ : ∃ W, W = ((w.alloc (.cells (blkA zb) 41)).alloc (.cells (tallyA 0 z64) 69)).alloc (.cells (Tryz.zeroCells69.setIfInBounds 0 (.int .u32 idx)) 69) := ⟨_, rfl⟩
  have tA : Tryz.zeroCells69.setIfInBounds 0 (.int .u32 idx) = tallyA idx z64 := rfl
  have g0 : W1.heap[w.heap.size]? = some (.cells (blkA zb) 41 (0, 0)) := by rw [hW1, hget_past _ _ (by simp; omega), hget_past _ _ (by simp), hget_at _ _ rfl]
  have g1 : W1.heap[w.heap.size + 1]? = some (.cells (tallyA 0 z64) 69 (0, 0)) := by rw [hW1, hget_past _ _ (by simp), hget_at _ _ (by simp)]
  have g2 : W1.heap[w.heap.size + 2]? = some (.cells (tallyA idx z64) 69 (0, 0)) := by rw [hW1, hget_at _ _ (by simp), tA]
  have hs1 : w.heap.size + 3 = W1.heap.size := by rw [hW1]; simp
  have hB1 : Below w.heap.size w W1 := by rw [hW1]; exact (((Below.refl _ w).alloc (Nat.le_refl _) _).alloc (by simp) _).alloc (by simp; omega) _
  have hget := fun v => get16_zero 84 idx 16384 hi1 v W1.drew
  have i2 : (Tryz.prog.info? 69).map (·.size) = some (Tryz.zeroCells69.setIfInBounds 0 (.int .u32 idx)).size := by rw [tA]; exact size69' idx rfl
  have e2 : (tallyA 0 z64).size = (Tryz.zeroCells69.setIfInBounds 0 (.int .u32 idx)).size := rfl
  have h12 : (Tryz.zeroCells69.setIfInBounds 0 (.int .u32 idx)).all (·.oneCell') = true := by rw [tA]; exact tallyA_one _ _
  have HW1 := hideIt hW1
  have G0 := hideIt g0
  have G1 := hideIt g1
  have G2 := hideIt g2
  have HS1 := hideIt hs1
  clear hW1 g0 g1 g2 hs1 tA
  go_enter Tryz.func59, Tryz.ntmps59
  go_wp2_with (first
    | (with_reducible refine wl_alloc zero41 ?_)
    | (with_reducible refine wl_alloc_store zero69 (by simp) rfl rfl i2 e2 h12 ?_)
    | (with_reducible refine wl_alloc zero69 ?_))
  rw [← HW1.out]
  go_simp
  clear i2 e2 h12
  have iB := size41' zb_length
  refine wp_region_any (by kernel_rfl) ?_
  change wpAny _ _ _ _ _ _ _ (World.drew _)
  refine wpAny_take (i := 1) (v := ?v1) rfl (by kernel_rfl) (by kernel_rfl) (by kernel_rfl) (fun _ _ _ h => h) (Or.inl ⟨by rfl, ?y1⟩) ?_
  case y1 => (intro w; go_simp; try with_reducible rfl)
  refine wpAny_take (i := 2) (v := ?v2) rfl (by kernel_rfl) (by kernel_rfl) (by kernel_rfl) (fun _ _ _ h => h) (Or.inl ⟨by rfl, ?y2⟩) ?_
  case y2 => (intro w; go_simp; try with_reducible rfl)
  refine wpAny_take (i := 3) (v := ?v3) rfl (by kernel_rfl) (by kernel_rfl) (by kernel_rfl) (fun _ _ _ h => h) (Or.inl ⟨by rfl, ?y3⟩) ?_
  case y3 => (intro w; go_simp; try with_reducible rfl)
  refine any_step (i := 0) (by kernel_rfl) rfl rfl (fun K hK => ?_)
  refine wp_load_row _ _ rfl w.heap.size rfl _ _ _ _ G0.out Tryz.underlying41 rfl iB ?_
  refine hK _ _ ?_
  clear hK K
  refine any_step (i := 4) (by kernel_rfl) rfl rfl (fun K hK => ?_)
  go_simp
  go_at_call 82
  refine (hget _).mono ?_
  rintro e W2 ⟨rfl, hb2⟩
  have k1 := (hb2.block (w.heap.size + 1) (by show _ < W1.heap.size; have := HS1.out; omega)).trans G1.out
  have k2 := (hb2.block (w.heap.size + 2) (by show _ < W1.heap.size; have := HS1.out; omega)).trans G2.out
  have K1 := hideIt k1
  have K2 := hideIt k2
  clear k1 k2
  refine hK _ _ ?_
  clear hK K
  refine wpAny_take (i := 5) (v := ?v5) rfl (by kernel_rfl) (by kernel_rfl) (by kernel_rfl) (fun _ _ _ h => h) (Or.inl ⟨by rfl, ?y5⟩) ?_
  case y5 => (intro w; go_simp; try with_reducible rfl)
  refine wpAny_done (by kernel_rfl) ?_ _
  have i3 := size69' idx (cs := z64) rfl
  have e3 : (tallyA 0 z64).size = (tallyA idx z64).size := rfl
  have h13 := tallyA_one idx z64
  go_wp2_with (first
    | (with_reducible refine wl_load rfl K2.out Tryz.underlying69 rfl i3 ?_)
    | (with_reducible refine wl_store rfl rfl K1.out i3 e3 h13 ?_))
  exact ret_cell_tmp rfl rfl rfl (setRow_heap W2 _ _ _ _ _ K1.out) Tryz.underlying69 rfl i3 ⟨rfl, below_setRow (hB1.drew.trans (hb2.mono (B' := w.heap.size) (by show w.heap.size ≤ W1.heap.size; have := HS1.out; omega))) (by omega) _⟩
set_option maxRecDepth 100000 in
set_option maxHeartbeats 1000000 in
theorem get64_zero (m : UInt8) (idx en : Int) (hi1 : idx < en) (v : Value) (w : World) :
    Calls Tryz.prog 83 #[.agg (blkA zb), .int .u8 m.toNat, .int .u32 idx, .int .u32 en, v, .int .i64 8] w
      fun e w' => e = .returned (.int .i64 0) ∧ Below w.heap.size w w' := by
  obtain ⟨W1, hW1⟩ : ∃ W, W = w.alloc (.cells (blkA zb) 41) := ⟨_, rfl⟩
  have g0 : W1.heap[w.heap.size]? = some (.cells (blkA zb) 41 (0, 0)) := by rw [hW1, hget_at _ _ rfl]
  have hB1 : Below w.heap.size w W1 := by rw [hW1]; exact (Below.refl _ w).alloc (Nat.le_refl _) _
  have hz := zero_any zb zb_length W1
  have hs1 : w.heap.size + 1 = W1.heap.size := by rw [hW1]; simp
  have i0 := size41' zb_length
  rw [hW1] at g0
  have HW1 := hideIt hW1
  have G0 := hideIt g0
  clear hW1 g0
  go_enter Tryz.func83, Tryz.ntmps83
  go_wp2_with (first
    | (with_reducible refine wl_load rfl G0.out Tryz.underlying41 rfl i0 ?_)
    | (go_at_call 26; first | rw [← HW1.out] | skip; refine hz.mono ?_; rintro e W2 ⟨rfl, hb2⟩))
  go_ret
  exact ⟨rfl, hB1.trans (hb2.mono (by omega))⟩

set_option maxRecDepth 100000 in
set_option maxHeartbeats 1000000 in
theorem pget_zero (idx : Int) (hi1 : idx < 16) (w : World) :
    Calls Tryz.prog 63 #[.agg (blkA zb), .int .u32 idx] w
      fun e w' => e = .returned (.tuple #[.agg (pickA idx z16), .int .i64 0]) ∧ Below w.heap.size w w' := by
  obtain ⟨W1, hW1⟩ : ∃ W, W = ((w.alloc (.cells (blkA zb) 41)).alloc (.cells (pickA 0 z16) 74)).alloc (.cells ((#[.int .u32 idx, .int .u64 0, .int .u64 0, .int .u64 0, .int .u64 0, .int .u64 0, .int .u64 0, .int .u64 0, .int .u64 0, .int .u64 0, .int .u64 0, .int .u64 0, .int .u64 0, .int .u64 0, .int .u64 0, .int .u64 0, .int .u64 0] : Array Value)) 74) := ⟨_, rfl⟩
  have tA : (#[.int .u32 idx, .int .u64 0, .int .u64 0, .int .u64 0, .int .u64 0, .int .u64 0, .int .u64 0, .int .u64 0, .int .u64 0, .int .u64 0, .int .u64 0, .int .u64 0, .int .u64 0, .int .u64 0, .int .u64 0, .int .u64 0, .int .u64 0] : Array Value) = pickA idx z16 := rfl
  have g0 : W1.heap[w.heap.size]? = some (.cells (blkA zb) 41 (0, 0)) := by rw [hW1, hget_past _ _ (by simp; omega), hget_past _ _ (by simp), hget_at _ _ rfl]
  have g1 : W1.heap[w.heap.size + 1]? = some (.cells (pickA 0 z16) 74 (0, 0)) := by rw [hW1, hget_past _ _ (by simp), hget_at _ _ (by simp)]
  have g2 : W1.heap[w.heap.size + 2]? = some (.cells (pickA idx z16) 74 (0, 0)) := by rw [hW1, hget_at _ _ (by simp), tA]
  have hs1 : w.heap.size + 3 = W1.heap.size := by rw [hW1]; simp
  have hB1 : Below w.heap.size w W1 := by rw [hW1]; exact (((Below.refl _ w).alloc (Nat.le_refl _) _).alloc (by simp) _).alloc (by simp; omega) _
  have hget := fun v => get64_zero 80 idx 16 hi1 v W1.drew
  have i2 : (Tryz.prog.info? 74).map (·.size) = some ((#[.int .u32 idx, .int .u64 0, .int .u64 0, .int .u64 0, .int .u64 0, .int .u64 0, .int .u64 0, .int .u64 0, .int .u64 0, .int .u64 0, .int .u64 0, .int .u64 0, .int .u64 0, .int .u64 0, .int .u64 0, .int .u64 0, .int .u64 0] : Array Value)).size := by rw [tA]; exact size74' idx rfl
  have e2 : (pickA 0 z16).size = ((#[.int .u32 idx, .int .u64 0, .int .u64 0, .int .u64 0, .int .u64 0, .int .u64 0, .int .u64 0, .int .u64 0, .int .u64 0, .int .u64 0, .int .u64 0, .int .u64 0, .int .u64 0, .int .u64 0, .int .u64 0, .int .u64 0, .int .u64 0] : Array Value)).size := rfl
  have h12 : ((#[.int .u32 idx, .int .u64 0, .int .u64 0, .int .u64 0, .int .u64 0, .int .u64 0, .int .u64 0, .int .u64 0, .int .u64 0, .int .u64 0, .int .u64 0, .int .u64 0, .int .u64 0, .int .u64 0, .int .u64 0, .int .u64 0, .int .u64 0] : Array Value)).all (·.oneCell') = true := by rw [tA]; exact pickA_one _ _
  have HW1 := hideIt hW1
  have G0 := hideIt g0
  have G1 := hideIt g1
  have G2 := hideIt g2
  have HS1 := hideIt hs1
  clear hW1 g0 g1 g2 hs1 tA
  go_enter Tryz.func63, Tryz.ntmps63
  go_wp2_with (first
    | (with_reducible refine wl_alloc zero41 ?_)
    | (with_reducible refine wl_alloc_store zero74 (by simp) rfl rfl i2 e2 h12 ?_)
    | (with_reducible refine wl_alloc zero74 ?_))
  rw [← HW1.out]
  go_simp
  clear i2 e2 h12
  have iB := size41' zb_length
  refine wp_region_any (by kernel_rfl) ?_
  change wpAny _ _ _ _ _ _ _ (World.drew _)
  refine wpAny_take (i := 1) (v := ?v1) rfl (by kernel_rfl) (by kernel_rfl) (by kernel_rfl) (fun _ _ _ h => h) (Or.inl ⟨by rfl, ?y1⟩) ?_
  case y1 => (intro w; go_simp; try with_reducible rfl)
  refine wpAny_take (i := 2) (v := ?v2) rfl (by kernel_rfl) (by kernel_rfl) (by kernel_rfl) (fun _ _ _ h => h) (Or.inl ⟨by rfl, ?y2⟩) ?_
  case y2 => (intro w; go_simp; try with_reducible rfl)
  refine wpAny_take (i := 3) (v := ?v3) rfl (by kernel_rfl) (by kernel_rfl) (by kernel_rfl) (fun _ _ _ h => h) (Or.inl ⟨by rfl, ?y3⟩) ?_
  case y3 => (intro w; go_simp; try with_reducible rfl)
  refine any_step (i := 0) (by kernel_rfl) rfl rfl (fun K hK => ?_)
  refine wp_load_row _ _ rfl w.heap.size rfl _ _ _ _ G0.out Tryz.underlying41 rfl iB ?_
  refine hK _ _ ?_
  clear hK K
  refine any_step (i := 4) (by kernel_rfl) rfl rfl (fun K hK => ?_)
  go_simp
  go_at_call 83
  refine (hget _).mono ?_
  rintro e W2 ⟨rfl, hb2⟩
  have k1 := (hb2.block (w.heap.size + 1) (by show _ < W1.heap.size; have := HS1.out; omega)).trans G1.out
  have k2 := (hb2.block (w.heap.size + 2) (by show _ < W1.heap.size; have := HS1.out; omega)).trans G2.out
  have K1 := hideIt k1
  have K2 := hideIt k2
  clear k1 k2
  refine hK _ _ ?_
  clear hK K
  refine wpAny_take (i := 5) (v := ?v5) rfl (by kernel_rfl) (by kernel_rfl) (by kernel_rfl) (fun _ _ _ h => h) (Or.inl ⟨by rfl, ?y5⟩) ?_
  case y5 => (intro w; go_simp; try with_reducible rfl)
  refine wpAny_done (by kernel_rfl) ?_ _
  have i3 := size74' idx (cs := z16) rfl
  have e3 : (pickA 0 z16).size = (pickA idx z16).size := rfl
  have h13 := pickA_one idx z16
  go_wp2_with (first
    | (with_reducible refine wl_load rfl K2.out Tryz.underlying74 rfl i3 ?_)
    | (with_reducible refine wl_store rfl rfl K1.out i3 e3 h13 ?_))
  exact ret_cell_tmp rfl rfl rfl (setRow_heap W2 _ _ _ _ _ K1.out) Tryz.underlying74 rfl i3 ⟨rfl, below_setRow (hB1.drew.trans (hb2.mono (B' := w.heap.size) (by show w.heap.size ≤ W1.heap.size; have := HS1.out; omega))) (by omega) _⟩
end Go.Proofs.YtnibehcgnhdcgaaGreatDoor
/- Maps at keys of the kind uint32, as lists of keys and values. -/
namespace Go.Proofs.YtnibehcgnhdcgaaGreatDoor
open Go.RowKit

/-- The map in block b holds these keys and values. -/
def MapAt (w : World) (b : Nat) (l : List (Int × Value)) : Prop :=
  ∃ es clock, w.heap[b]? = some (.map es clock) ∧ MapKept.Stamped es clock ∧ es.toList.map (fun e => (e.key, e.val)) = l.map (fun p => (Value.int .u32 p.1, p.2))
theorem MapAt.lt {w : World} {b : Nat} {l : List (Int × Value)} (h : MapAt w b l) : b < w.heap.size := by
  obtain ⟨es, clock, hb, _⟩ := h
  exact (Array.getElem?_eq_some_iff.1 hb).1
theorem MapAt.of_block {w w' : World} {b : Nat} {l : List (Int × Value)} (h : MapAt w b l) (e : w'.heap[b]? = w.heap[b]?) : MapAt w' b l := by
  obtain ⟨es, clock, hb, r⟩ := h
  exact ⟨es, clock, e.trans hb, r⟩
theorem MapAt_new (w : World) : MapAt (w.alloc (.map #[] 0)) w.heap.size [] := ⟨#[], 0, hget_at _ _ rfl, MapKept.stamped_empty 0, rfl⟩

/-- What stands at a key; a key's value put; a key struck. -/
def look (l : List (Int × Value)) (k : Int) : Option Value := (l.find? (fun p => k == p.1)).map (·.2)
def put : List (Int × Value) → Int → Value → List (Int × Value)
  | [], k, v => [(k, v)]
  | p :: r, k, v => if k == p.1 then (k, v) :: r else p :: put r k v
def del : List (Int × Value) → Int → List (Int × Value)
  | [], _ => []
  | p :: r, k => if k == p.1 then r else p :: del r k
def lookI : List (Int × Value) → Int → Nat → Option (Nat × Value)
  | [], _, _ => none
  | p :: r, k, i => if k == p.1 then some (i, p.2) else lookI r k (i + 1)

theorem look_nil (k : Int) : look [] k = none := rfl
theorem look_cons (p : Int × Value) (r : List (Int × Value)) (k : Int) : look (p :: r) k = if k == p.1 then some p.2 else look r k := by
  unfold look
  rw [List.find?_cons]
  cases hk : k == p.1 <;> simp
theorem lookI_look (l : List (Int × Value)) (k : Int) (i : Nat) : (lookI l k i).map (·.2) = look l k := by
  induction l generalizing i with
  | nil => rfl
  | cons p r ih =>
    rw [look_cons, lookI]
    split
    · rfl
    · exact ih _
theorem find_spec (k : Int) : ∀ (es : List MapEntry) (l : List (Int × Value)) (i : Nat), es.map (fun e => (e.key, e.val)) = l.map (fun p => (Value.int .u32 p.1, p.2)) →
    Instr.findNow (.int .u32) (.int .u32 k) es i = some (lookI l k i)
  | [], l, i, h => by
    cases l with
    | nil => rfl
    | cons p r => simp at h
  | e :: es, l, i, h => by
    cases l with
    | nil => simp at h
    | cons p r =>
      simp only [List.map_cons, List.cons.injEq, Prod.mk.injEq] at h
      obtain ⟨⟨hk, hv⟩, hr⟩ := h
      simp only [Instr.findNow, hk, Instr.sameNow, lookI, hv, if_true]
      cases hkp : k == p.1
      · simp only [Bool.false_eq_true, if_false]
        exact find_spec k es r (i + 1) hr
      · simp
theorem lookI_none {l : List (Int × Value)} {k : Int} {i : Nat} (h : lookI l k i = none) : put l k = (fun v => l ++ [(k, v)]) ∧ del l k = l ∧ ∀ p ∈ l, p.1 ≠ k := by
  induction l generalizing i with
  | nil => exact ⟨rfl, rfl, by simp⟩
  | cons p r ih =>
    rw [lookI] at h
    split at h
    · cases h
    · rename_i hk
      obtain ⟨h1, h2, h3⟩ := ih h
      refine ⟨?_, ?_, ?_⟩
      · funext v; rw [put, if_neg hk, h1]; rfl
      · rw [del, if_neg hk, h2]
      · intro q hq
        rcases List.mem_cons.1 hq with rfl | hq
        · exact fun e => hk (by simp [e])
        · exact h3 q hq
theorem lookI_some {l : List (Int × Value)} {k : Int} {i j : Nat} {v : Value} (h : lookI l k i = some (j, v)) :
    i ≤ j ∧ (∃ p, l[j - i]? = some p ∧ p.1 = k) ∧ (∀ u, put l k u = l.set (j - i) (k, u)) ∧ del l k = l.eraseIdx (j - i) := by
  induction l generalizing i with
  | nil => cases h
  | cons p r ih =>
    rw [lookI] at h
    split at h
    · rename_i hk
      cases h
      have hk' : k = p.1 := by simpa using hk
      refine ⟨Nat.le_refl _, ⟨p, by simp, hk'.symm⟩, fun u => ?_, ?_⟩
      · rw [put, if_pos hk]; simp
      · rw [del, if_pos hk]; simp
    · rename_i hk
      obtain ⟨h1, ⟨q, hq, hqk⟩, h2, h3⟩ := ih h
      have e : j - i = (j - (i + 1)) + 1 := by omega
      refine ⟨by omega, ⟨q, by rw [e]; simpa using hq, hqk⟩, fun u => ?_, ?_⟩
      · rw [put, if_neg hk, h2, e]; rfl
      · rw [del, if_neg hk, h3, e]; rfl

section
variable {P : Program} {w : World} {b : Nat} {l : List (Int × Value)} {t kT eT : TypeId}

theorem run_look (hm : MapAt w b l) (ht : P.underlying t = some (.map kT eT)) (hk : P.underlying kT = some (.int .u32)) {z : Value} (hz : (zeroValue eT).run P w = .ok z w) (k : Int) (c : Bool) :
    (Instr.lookup t (.map (some b)) (.int .u32 k) c).run P w = .ok (if c then .tuple #[(look l k).getD z, .bool (look l k).isSome] else (look l k).getD z) w := by
  obtain ⟨es, clock, hb, hst, he⟩ := hm
  have hc : (Instr.checkKey es.isEmpty 10000 kT (.int .u32 k)).run P w = .ok () w := MapKept.run_checkKey hk (by simp [MapKept.IsKey]) _ _
  have hf := find_spec k es.toList l 0 he
  have hl := lookI_look l k 0
  simp only [Instr.lookup, Sem.run_bind, run_underlying ht, Result.andThen_ok, MapKept.run_getObj_map hb, hc, Instr.findKey, run_underlying hk, hf, Sem.run_pure]
  cases hi : lookI l k 0 with
  | none =>
    rw [hi] at hl
    simp only [Option.map_none] at hl
    rw [← hl]
    cases c <;> simp [hz, Result.andThen_ok]
  | some q =>
    obtain ⟨j, v⟩ := q
    rw [hi] at hl
    simp only [Option.map_some] at hl
    rw [← hl]
    cases c <;> simp

/-- The world with another map in block b. -/
theorem run_put (hm : MapAt w b l) (ht : P.underlying t = some (.map kT eT)) (hk : P.underlying kT = some (.int .u32)) (k : Int) (v : Value) :
    ∃ o, (Instr.mapUpdate t (.map (some b)) (.int .u32 k) v).run P w = .ok () (w.putObj b o) ∧ MapAt (w.putObj b o) b (put l k v) := by
  have hlt := hm.lt
  obtain ⟨es, clock, hb, hst, he⟩ := hm
  have hc : (Instr.checkKey false 10000 kT (.int .u32 k)).run P w = .ok () w := MapKept.run_checkKey hk (by simp [MapKept.IsKey]) _ _
  have hf := find_spec k es.toList l 0 he
  cases hi : lookI l k 0 with
  | none =>
    rw [hi] at hf
    obtain ⟨h1, h2, h3⟩ := lookI_none hi
    refine ⟨.map (es.push { key := .int .u32 k, val := v, born := clock }) (clock + 1), ?_, _, _, World.putObj_heap_same hlt, MapKept.stamped_push hst ?_, ?_⟩
    · simp only [Instr.mapUpdate, Sem.run_bind, run_underlying ht, Result.andThen_ok, MapKept.run_getObj_map hb, hc, Instr.findKey, run_underlying hk, hf, Sem.run_pure, MapKept.run_setObj_map _ hb]
      rfl
    · intro x hx e
      have hx' : (x.key, x.val) ∈ l.map (fun p => (Value.int .u32 p.1, p.2)) := by rw [← he]; exact List.mem_map.2 ⟨x, hx, rfl⟩
      obtain ⟨p, hp, hpx⟩ := List.mem_map.1 hx'
      simp only [Prod.mk.injEq] at hpx
      rw [e] at hpx
      exact h3 p hp (by simpa using hpx.1)
    · rw [Array.toList_push, List.map_append, he, h1]
      simp
  | some q =>
    obtain ⟨j, u⟩ := q
    rw [hi] at hf
    obtain ⟨-, ⟨p, hp, hpk⟩, h2, -⟩ := lookI_some hi
    simp only [Nat.sub_zero] at hp h2
    have hj : (es.toList.map (fun e => (e.key, e.val)))[j]? = some (Value.int .u32 k, p.2) := by rw [he, List.getElem?_map, hp, ← hpk]; rfl
    rw [List.getElem?_map] at hj
    obtain ⟨x, hx, hxe⟩ := Option.map_eq_some_iff.1 hj
    simp only [Prod.mk.injEq] at hxe
    have hxa : es[j]? = some x := by simpa using hx
    have hkey : ((es[j]?).map (·.key)).getD (Value.int .u32 k) = .int .u32 k := by rw [hxa]; simpa using hxe.1
    refine ⟨.map (es.modify j fun e => { e with key := .int .u32 k, val := v }) clock, ?_, _, _, World.putObj_heap_same hlt, MapKept.stamped_modify hst j _ (fun _ _ => rfl) (fun e he' hje => ?_), ?_⟩
    · simp only [Instr.mapUpdate, Sem.run_bind, run_underlying ht, Result.andThen_ok, MapKept.run_getObj_map hb, hc, Instr.findKey, run_underlying hk, hf, Sem.run_pure]
      rw [hkey]
      have hsame : Instr.sameBits 10000 (.int .u32 k) (.int .u32 k) = true := by simp [Instr.sameBits]
      simp only [Instr.keyThatStays, hsame, if_true, Sem.run_pure, Result.andThen_ok, MapKept.run_setObj_map _ hb]
      rfl
    · rw [hxa] at hje
      cases hje
      exact hxe.1.symm
    · rw [h2, Array.toList_modify]
      apply List.ext_getElem?
      intro n
      rw [List.getElem?_map, List.getElem?_modify, List.getElem?_map, List.getElem?_set]
      have hn : (es.toList.map (fun e => (e.key, e.val)))[n]? = (l.map (fun p => (Value.int .u32 p.1, p.2)))[n]? := by rw [he]
      rw [List.getElem?_map, List.getElem?_map] at hn
      by_cases hjn : j = n
      · subst hjn
        have hjl : j < l.length := (List.getElem?_eq_some_iff.1 hp).1
        simp [hx, hjl]
      · simp only [hjn, if_false]
        rw [← hn]
        simp

theorem run_del (hm : MapAt w b l) (ht : P.underlying t = some (.map kT eT)) (hk : P.underlying kT = some (.int .u32)) (k : Int) (tt u : TypeId) :
    ∃ o, (Builtin.delete_ #[t, u] tt #[.map (some b), .int .u32 k]).run P w = .ok (.tuple #[]) (w.putObj b o) ∧ MapAt (w.putObj b o) b (del l k) := by
  have hlt := hm.lt
  obtain ⟨es, clock, hb, hst, he⟩ := hm
  have hc : (Instr.checkKey es.isEmpty 10000 kT (.int .u32 k)).run P w = .ok () w := MapKept.run_checkKey hk (by simp [MapKept.IsKey]) _ _
  have hf := find_spec k es.toList l 0 he
  cases hi : lookI l k 0 with
  | none =>
    rw [hi] at hf
    obtain ⟨-, h2, -⟩ := lookI_none hi
    refine ⟨.map es clock, ?_, _, _, World.putObj_heap_same hlt, hst, by rw [h2]; exact he⟩
    simp [Builtin.delete_, run_underlying ht, MapKept.run_getObj_map hb, hc, Instr.findKey, run_underlying hk, hf, MapKept.run_setObj_map _ hb, Result.andThen_ok, World.putObj]
  | some q =>
    obtain ⟨j, v⟩ := q
    rw [hi] at hf
    obtain ⟨-, -, -, h2⟩ := lookI_some hi
    simp only [Nat.sub_zero] at h2
    refine ⟨.map (es.eraseIdxIfInBounds j) clock, ?_, _, _, World.putObj_heap_same hlt, MapKept.stamped_erase hst j, ?_⟩
    · simp [Builtin.delete_, run_underlying ht, MapKept.run_getObj_map hb, hc, Instr.findKey, run_underlying hk, hf, MapKept.run_setObj_map _ hb, Result.andThen_ok, World.putObj]
    · rw [h2]
      have e1 : (es.eraseIdxIfInBounds j).toList = es.toList.eraseIdx j := by
        unfold Array.eraseIdxIfInBounds
        split
        · simp
        · rw [List.eraseIdx_of_length_le]
          simpa using Nat.le_of_not_lt ‹_›
      rw [e1, ChangeMaps.map_eraseIdx, he, ChangeMaps.map_eraseIdx]

theorem wl_lookup {ops : Array Oper} {Q : Exit → Act → World → Prop} {rest : List Oper} {T : Array Value} {D : List Deferred} {d x y tt : Nat} {pos : String} {af : Array Edge} {k : Int} {c : Bool} {z v : Value}
    (hx : T.getD x undef = .map (some b)) (hy : T.getD y undef = .int .u32 k) (hm : MapAt w b l) (ht : P.underlying t = some (.map kT eT)) (hk : P.underlying kT = some (.int .u32)) (hz : ∀ w, (zeroValue eT).run P w = .ok z w)
    (hv : (if c then .tuple #[(look l k).getD z, .bool (look l k).isSome] else (look l k).getD z) = v)
    (h : wpList P ops Q rest (Act.put ⟨T, D⟩ (some d) v) w) :
    wpList P ops Q ({ dst := some d, op := .lookup t (.tmp x) (.tmp y) c, type := tt, pos := pos, after := af, guard := none } :: rest) ⟨T, D⟩ w := by
  refine wpList_plain rfl fun K hK => ?_
  unfold Oper.wp execOp
  have e1 : (Act.mk T D).eval (.tmp x) = .map (some b) := hx
  have e2 : (Act.mk T D).eval (.tmp y) = .int .u32 k := hy
  have hr := run_look hm ht hk (hz w) k c
  rw [hv] at hr
  simp only [e1, e2, Sem.run_bind, hr, Result.andThen_ok]
  exact hK _ _ h
end
end Go.Proofs.YtnibehcgnhdcgaaGreatDoor
/- A device: what stands where; reads. -/
namespace Go.Proofs.YtnibehcgnhdcgaaGreatDoor
open Go.RowKit

/-- A device's blocks, as a map's entries. -/
def encG (G : List (Int × List UInt8)) : List (Int × Value) := G.map fun p => (p.1, .agg (blkA p.2))
/-- A device of n blocks; nothing is pending; no fuse. -/
structure DevAt (w : World) (db mb : Nat) (n : Int) (G : List (Int × List UInt8)) : Prop where
  cells : ∃ wr, 0 ≤ wr ∧ wr < 18446744073709551616 ∧ w.heap[db]? = some (.cells #[.int .u32 n, .map (some mb), .slice none 0 0, .pointer none, .bool false, .int .u64 wr] 81 (0, 0))
  map : MapAt w mb (encG G)
  good : ∀ p ∈ G, p.2.length = 256
theorem DevAt.lt {w : World} {db mb : Nat} {n : Int} {G : List (Int × List UInt8)} (h : DevAt w db mb n G) : db < w.heap.size := by
  obtain ⟨_, _, _, hb⟩ := h.cells
  exact (Array.getElem?_eq_some_iff.1 hb).1
theorem DevAt.of_blocks {w w' : World} {db mb : Nat} {n : Int} {G : List (Int × List UInt8)} (h : DevAt w db mb n G) (e1 : w'.heap[db]? = w.heap[db]?) (e2 : w'.heap[mb]? = w.heap[mb]?) : DevAt w' db mb n G := by
  obtain ⟨wr, h1, h2, hb⟩ := h.cells
  exact ⟨⟨wr, h1, h2, e1.trans hb⟩, h.map.of_block e2, h.good⟩
theorem DevAt.below {w w' : World} {db mb B : Nat} {n : Int} {G : List (Int × List UInt8)} (h : DevAt w db mb n G) (hb : Below B w w') (h1 : db < B) (h2 : mb < B) : DevAt w' db mb n G :=
  h.of_blocks (hb.block _ h1) (hb.block _ h2)
/-- What stands at an address. -/
def dblk (G : List (Int × List UInt8)) (a : Int) : List UInt8 := ((G.find? (fun p => a == p.1)).map (·.2)).getD zb
theorem look_enc (G : List (Int × List UInt8)) (a : Int) : (look (encG G) a).getD (.agg (blkA zb)) = .agg (blkA (dblk G a)) := by
  unfold dblk
  induction G with
  | nil => rfl
  | cons p r ih =>
    simp only [encG, List.map_cons] at ih ⊢
    rw [look_cons, List.find?_cons]
    cases hk : a == p.1
    · simpa using ih
    · simp
theorem dblk_length {G : List (Int × List UInt8)} (h : ∀ p ∈ G, p.2.length = 256) (a : Int) : (dblk G a).length = 256 := by
  unfold dblk
  cases hf : G.find? (fun p => a == p.1) with
  | none => exact zb_length
  | some p => exact h p (List.mem_of_find?_eq_some hf)

section
variable {w : World} {db mb : Nat} {n : Int} {G : List (Int × List UInt8)}
theorem DevAt.c0 (h : DevAt w db mb n G) : w.cell? ⟨db, 0, none⟩ = some (.int .u32 n) := by
  obtain ⟨_, _, _, hb⟩ := h.cells
  rw [cell_of_row w db 0 _ _ _ hb]; rfl
theorem DevAt.c1 (h : DevAt w db mb n G) : w.cell? ⟨db, 1, none⟩ = some (.map (some mb)) := by
  obtain ⟨_, _, _, hb⟩ := h.cells
  rw [cell_of_row w db 1 _ _ _ hb]; rfl
theorem DevAt.c2 (h : DevAt w db mb n G) : w.cell? ⟨db, 2, none⟩ = some (.slice none 0 0) := by
  obtain ⟨_, _, _, hb⟩ := h.cells
  rw [cell_of_row w db 2 _ _ _ hb]; rfl
theorem DevAt.c3 (h : DevAt w db mb n G) : w.cell? ⟨db, 3, none⟩ = some (.pointer none) := by
  obtain ⟨_, _, _, hb⟩ := h.cells
  rw [cell_of_row w db 3 _ _ _ hb]; rfl
theorem DevAt.c4 (h : DevAt w db mb n G) : w.cell? ⟨db, 4, none⟩ = some (.bool false) := by
  obtain ⟨_, _, _, hb⟩ := h.cells
  rw [cell_of_row w db 4 _ _ _ hb]; rfl
theorem DevAt.fz (h : DevAt w db mb n G) (j : Nat) : w.frozen? ⟨db, j, none⟩ = false := by
  obtain ⟨_, _, _, hb⟩ := h.cells
  exact frozen_of_row w db j _ _ hb
end

theorem past_any {W : World} {o : Obj} {p : Addr} {v : Value} (h : W.cell? p = some v) : (W.alloc o).cell? p = some v := by
  rw [World.cell?_of_block (w := W) (hget_past o p.block (World.block_lt_of_cell? W p h)), h]
theorem zero116 : ∀ w, (zeroValue 116).run Tryz.prog w = .ok (.agg #[.int .i64 0, .nilFunc]) w :=
  (zero_of_info (t := 116) (v := .agg #[.int .i64 0, .nilFunc]) (n := 2) (by kernel_rfl)).1
theorem size116 (x y : Value) : (Tryz.prog.info? 116).map (·.size) = some (#[x, y] : Array Value).size := by kernel_rfl
theorem two (x y z u : Value) : (#[x, y] : Array Value).size = (#[z, u] : Array Value).size := rfl
theorem one116 (e : Int) (f : Fn) (a b : Array Value) : (#[.int .i64 e, .func f a b] : Array Value).all (·.oneCell') = true := by simp [Value.oneCell']

set_option maxRecDepth 100000 in
set_option maxHeartbeats 400000 in
theorem dnone_any (db mb : Nat) (w : World) (h : w.cell? ⟨db, 1, none⟩ = some (.map (some mb))) :
    Calls Tryz.prog 40 #[.pointer (some ⟨db, 0, none⟩)] w fun e w' => e = .returned (.bool false) ∧ w = w' := by
  have he : ∀ W, (binOp .eql 78 (.map (some mb)) (.map none)).run Tryz.prog W = .ok (.bool false) W := fun _ => by kernel_rfl
  go_enter Tryz.func40, Tryz.ntmps40
  go_wp2
  go_ret
  exact ⟨rfl, rfl⟩
set_option maxHeartbeats 400000 in
theorem dnone_nil (w : World) :
    Calls Tryz.prog 40 #[.pointer none] w fun e w' => e = .returned (.bool true) ∧ w = w' := by
  go_enter Tryz.func40, Tryz.ntmps40
  go_wp2
  go_ret
  exact ⟨rfl, rfl⟩
set_option maxHeartbeats 400000 in
theorem dsize_any (db mb : Nat) (n : Int) (w : World) (h : w.cell? ⟨db, 1, none⟩ = some (.map (some mb))) (h0 : w.cell? ⟨db, 0, none⟩ = some (.int .u32 n)) :
    Calls Tryz.prog 24 #[.pointer (some ⟨db, 0, none⟩)] w fun e w' => e = .returned (.int .u32 n) ∧ w = w' := by
  have hn := dnone_any db mb w h
  go_enter Tryz.func24, Tryz.ntmps24
  go_wp2_with (first
    | (go_at_call 40; refine hn.mono ?_; rintro e w' ⟨rfl, rfl⟩))
  go_ret
  exact ⟨rfl, rfl⟩
set_option maxHeartbeats 400000 in
theorem dsize_nil (w : World) :
    Calls Tryz.prog 24 #[.pointer none] w fun e w' => e = .returned (.int .u32 0) ∧ w = w' := by
  have hn := dnone_nil w
  go_enter Tryz.func24, Tryz.ntmps24
  go_wp2_with (first
    | (go_at_call 40; refine hn.mono ?_; rintro e w' ⟨rfl, rfl⟩))
  go_ret
  exact ⟨rfl, rfl⟩
set_option maxHeartbeats 400000 in
theorem far1_any (ba bd db : Nat) (a n : Int) (w : World) (h0 : w.cell? ⟨ba, 0, none⟩ = some (.int .u32 a)) (h1 : w.cell? ⟨bd, 0, none⟩ = some (.pointer (some ⟨db, 0, none⟩))) (h2 : w.cell? ⟨db, 0, none⟩ = some (.int .u32 n)) (ha : a < n) :
    Calls Tryz.prog 74 #[.pointer (some ⟨ba, 0, none⟩), .pointer (some ⟨bd, 0, none⟩)] w fun e w' => e = .returned (.bool false) ∧ ∃ k, w' = w.drewN k := by
  go_enter Tryz.func74, Tryz.ntmps74
  go_wp2_with fail
  go_quiet (fail)
  go_wp2_with fail
  go_ret
  exact ⟨by simp; omega, _, rfl⟩
set_option maxHeartbeats 400000 in
theorem far_any (db : Nat) (a : Int) (w : World) :
    Calls Tryz.prog 51 #[.pointer (some ⟨db, 0, none⟩), .int .u32 a] w fun e w' =>
      e = .returned (.agg #[.int .i64 2, .func (.func 74) #[] #[.pointer (some ⟨w.heap.size + 1, 0, none⟩), .pointer (some ⟨w.heap.size, 0, none⟩)]]) ∧
      Below w.heap.size w w' ∧ w'.cell? ⟨w.heap.size, 0, none⟩ = some (.pointer (some ⟨db, 0, none⟩)) ∧ w'.cell? ⟨w.heap.size + 1, 0, none⟩ = some (.int .u32 a) ∧ w.heap.size + 2 ≤ w'.heap.size := by
  have hg : (((w.alloc (.cells #[.pointer (some ⟨db, 0, none⟩)] 25)).alloc (.cells #[.int .u32 a] 22)).alloc (.cells #[.int .i64 0, .nilFunc] 116)).heap[w.heap.size + 1 + 1]? = some (.cells #[.int .i64 0, .nilFunc] 116 (0, 0)) := hget_at _ _ (by simp)
  have i2 : (Tryz.prog.info? 116).map (·.size) = some (#[Value.int .i64 2, .func (.func 74) #[] #[.pointer (some ⟨w.heap.size + 1, 0, none⟩), .pointer (some ⟨w.heap.size, 0, none⟩)]] : Array Value).size := by kernel_rfl
  have h12 : (#[Value.int .i64 2, .func (.func 74) #[] #[.pointer (some ⟨w.heap.size + 1, 0, none⟩), .pointer (some ⟨w.heap.size, 0, none⟩)]] : Array Value).all (·.oneCell') = true := by simp [Value.oneCell']
  go_enter Tryz.func51, Tryz.ntmps51
  go_wp2_with (first
    | (with_reducible refine wl_store rfl rfl hg i2 rfl h12 ?_))
  rw [setRow_at _ _ _ _ (by simp)]
  have hg2 : (((w.alloc (.cells #[.pointer (some ⟨db, 0, none⟩)] 25)).alloc (.cells #[.int .u32 a] 22)).alloc (.cells #[Value.int .i64 2, .func (.func 74) #[] #[.pointer (some ⟨w.heap.size + 1, 0, none⟩), .pointer (some ⟨w.heap.size, 0, none⟩)]] 116)).heap[w.heap.size + 1 + 1]? = some (.cells #[Value.int .i64 2, .func (.func 74) #[] #[.pointer (some ⟨w.heap.size + 1, 0, none⟩), .pointer (some ⟨w.heap.size, 0, none⟩)]] 116 (0, 0)) := hget_at _ _ (by simp)
  refine ret_cell rfl rfl hg2 Tryz.underlying116 rfl i2 ⟨rfl, (((Below.refl _ w).alloc (Nat.le_refl _) _).alloc (by simp) _).alloc (by simp; omega) _, ?_, ?_, by simp⟩
  · rw [cell_of_row _ w.heap.size 0 #[.pointer (some ⟨db, 0, none⟩)] 25 (0, 0) (by rw [hget_past _ _ (by simp; omega), hget_past _ _ (by simp), hget_at _ _ rfl])]; rfl
  · rw [cell_of_row _ (w.heap.size + 1) 0 #[.int .u32 a] 22 (0, 0) (by rw [hget_past _ _ (by simp), hget_at _ _ (by simp)])]; rfl

set_option maxRecDepth 100000 in
set_option maxHeartbeats 1000000 in
theorem check_rd (db mb ba bd sb : Nat) (a n : Int) (w : World) (hd1 : w.cell? ⟨db, 1, none⟩ = some (.map (some mb))) (hd0 : w.cell? ⟨db, 0, none⟩ = some (.int .u32 n)) (ha : a < n)
    (h0 : w.cell? ⟨ba, 0, none⟩ = some (.int .u32 a)) (h1 : w.cell? ⟨bd, 0, none⟩ = some (.pointer (some ⟨db, 0, none⟩)))
    (hs0 : w.cell? ⟨sb, 0, none⟩ = some (.int .i64 1)) (hs1 : w.cell? ⟨sb, 1, none⟩ = some (.func (.func 40) #[.pointer (some ⟨db, 0, none⟩)] #[]))
    (hs2 : w.cell? ⟨sb, 2, none⟩ = some (.int .i64 2)) (hs3 : w.cell? ⟨sb, 3, none⟩ = some (.func (.func 74) #[] #[.pointer (some ⟨ba, 0, none⟩), .pointer (some ⟨bd, 0, none⟩)])) :
    Calls Tryz.prog 50 #[.slice (some ⟨sb, 0, none⟩) 2 2] w fun e w' => e = .returned (.int .i64 0) ∧ Below w.heap.size w w' := by
  have past : ∀ {W : World} {o : Obj} {p : Addr} {v : Value}, W.cell? p = some v → (W.alloc o).cell? p = some v := fun {W o p v} h => by
    rw [World.cell?_of_block (w := W) (hget_past o p.block (World.block_lt_of_cell? W p h)), h]
  have hn := dnone_any db mb (w.alloc (.cells #[.int .i64 1, .func (.func 40) #[.pointer (some ⟨db, 0, none⟩)] #[]] 116)) (past hd1)
  have hf := far1_any ba bd db a n ((w.alloc (.cells #[.int .i64 1, .func (.func 40) #[.pointer (some ⟨db, 0, none⟩)] #[]] 116)).alloc (.cells #[.int .i64 2, .func (.func 74) #[] #[.pointer (some ⟨ba, 0, none⟩), .pointer (some ⟨bd, 0, none⟩)]] 116)) (past (past h0)) (past (past h1)) (past (past hd0)) ha
  have p0 : (w.alloc (.cells #[.int .i64 1, .func (.func 40) #[.pointer (some ⟨db, 0, none⟩)] #[]] 116)).cell? ⟨sb, 2, none⟩ = _ := past hs2
  have p1 : (w.alloc (.cells #[.int .i64 1, .func (.func 40) #[.pointer (some ⟨db, 0, none⟩)] #[]] 116)).cell? ⟨sb, 3, none⟩ = _ := past hs3
  clear past hd1 hd0 h0 h1 hs2 hs3
  go_enter Tryz.func50, Tryz.ntmps50
  go_wp2_with fail
  refine wp_loop_rounds 3 ?_
  rw [rounds_succ]
  go_wp2_with (first
    | (with_reducible refine wl_alloc_store zero116 (by simp) rfl rfl (size116 _ _) (two _ _ _ _) (one116 _ _ _ _) ?_)
    | (go_at_call 40; refine hn.mono ?_; rintro e w' ⟨rfl, rfl⟩))
  rw [rounds_succ]
  go_wp2_with (first
    | (with_reducible refine wl_alloc_store zero116 (by simp) rfl rfl (size116 _ _) (two _ _ _ _) (one116 _ _ _ _) ?_)
    | (go_at_call 74; refine hf.mono ?_; rintro e w' ⟨rfl, k, rfl⟩))
  rw [rounds_succ]
  go_wp2_with fail
  go_ret
  exact ⟨rfl, below_drewN (((Below.refl _ w).alloc (Nat.le_refl _) _).alloc (by simp) _) _⟩
end Go.Proofs.YtnibehcgnhdcgaaGreatDoor
/- A device: reads. -/
namespace Go.Proofs.YtnibehcgnhdcgaaGreatDoor
open Go.RowKit

set_option maxRecDepth 100000 in
set_option maxHeartbeats 1000000 in
theorem read_any (db mb : Nat) (n : Int) (G : List (Int × List UInt8)) (a : Int) (ha : a < n) (w : World) (hD : DevAt w db mb n G) :
    Calls Tryz.prog 25 #[.pointer (some ⟨db, 0, none⟩), .int .u32 a] w fun e w' => e = .returned (.tuple #[.agg (blkA (dblk G a)), .int .i64 0]) ∧ Below w.heap.size w w' := by
  have hdb := hD.lt
  have hmb := hD.map.lt
  obtain ⟨W0, hW0⟩ : ∃ W, W = w.alloc (.cells (blkA zb) 41) := ⟨_, rfl⟩
  have hs0 : W0.heap.size = w.heap.size + 1 := by rw [hW0]; simp
  have g0 : W0.heap[w.heap.size]? = some (.cells (blkA zb) 41 (0, 0)) := by rw [hW0, hget_at _ _ rfl]
  have hB0 : Below w.heap.size w W0 := by rw [hW0]; exact (Below.refl _ w).alloc (Nat.le_refl _) _
  have hfar := far_any db a W0
  rw [hs0] at hfar
  have HW0 := hideIt hW0
  have G0 := hideIt g0
  have hD_good := hD.good
  have HD := hideIt hD
  clear hW0 g0 hD
  go_enter Tryz.func25, Tryz.ntmps25
  go_wp2_with (first
    | (with_reducible refine wl_alloc zero41 ?_)
    | (go_at_call 51; rw [← HW0.out]; refine hfar.mono ?_; rintro e W1 ⟨rfl, hb1, hq0, hq1, hs1⟩))
  have hlS := dblk_length hD_good a
  have iS := size41' hlS
  have eS : (blkA zb).size = (blkA (dblk G a)).size := by rw [zbA_size, blkA_size, hlS]
  have h1S := blkA_one (dblk G a)
  have hv : (if (false : Bool) = true then Value.tuple #[(look (encG G) a).getD (.agg (blkA zb)), .bool (look (encG G) a).isSome] else (look (encG G) a).getD (.agg (blkA zb))) = .agg (blkA (dblk G a)) := by simpa using look_enc G a
  generalize hS : dblk G a = S at iS eS h1S hv ⊢
  have HS := hideIt hS
  have HV := hideIt hv
  clear hS hlS hD_good hv
  go_step3
  go_wp2_with (first
    | (go_at_call 51; rw [← HW0.out]; refine hfar.mono ?_; rintro e W1 ⟨rfl, hb1, hq0, hq1, hs1⟩
       have hD1 := HD.out.below (hB0.trans (hb1.mono (by omega))) hdb hmb
       have hck := check_rd db mb (w.heap.size + 1 + 1) (w.heap.size + 1) W1.heap.size a n (W1.alloc (.cells #[.int .i64 1, .func (.func 40) #[.pointer (some ⟨db, 0, none⟩)] #[], .int .i64 2, .func (.func 74) #[] #[.pointer (some ⟨w.heap.size + 1 + 1, 0, none⟩), .pointer (some ⟨w.heap.size + 1, 0, none⟩)]] 116)) (past_any hD1.c1) (past_any hD1.c0) ha (past_any hq1) (past_any hq0)
         (by rw [cell_of_row _ _ 0 _ _ _ (hget_at _ _ rfl)]; rfl) (by rw [cell_of_row _ _ 1 _ _ _ (hget_at _ _ rfl)]; rfl) (by rw [cell_of_row _ _ 2 _ _ _ (hget_at _ _ rfl)]; rfl) (by rw [cell_of_row _ _ 3 _ _ _ (hget_at _ _ rfl)]; rfl)
       clear hq0 hq1 hD1)
    | (go_at_call 50; refine hck.mono ?_; rintro e W3 ⟨rfl, hb3⟩
       have hB3 : Below (w.heap.size + 1) W0 W3 := (hb1.alloc (by omega) _).trans (hb3.mono (by simp; omega))
       have hD3 := HD.out.below (hB0.trans (hB3.mono (by omega))) hdb hmb
       have k1 := hD3.c1
       have k2 := hD3.c2
       have g3 := (hB3.block w.heap.size (by omega)).trans G0.out
       have G3 := hideIt g3
       have HD3 := hideIt hD3
       clear g3 hD3 hck hb3 hb1)
    | (with_reducible refine wl_lookup rfl rfl HD3.out.map Tryz.underlying78 Tryz.underlying22 zero41 HV.out ?_; simp only [Act.put, List.setIfInBounds_toArray, List.set_cons_succ, List.set_cons_zero])
    | (with_reducible refine wl_alloc_store zero41 (by simp) rfl rfl iS eS h1S ?_))
  go_simp
  go_step3
  have k3 := past_any (o := .cells (blkA S) 41) k2
  clear k1 k2
  go_wp2_with fail
  refine wp_loop_rounds 1 ?_
  rw [rounds_succ]
  have gS : (W3.alloc (.cells (blkA S) 41)).heap[W3.heap.size]? = some (.cells (blkA S) 41 (0, 0)) := hget_at _ _ rfl
  have gZ : (W3.alloc (.cells (blkA S) 41)).heap[w.heap.size]? = some (.cells (blkA zb) 41 (0, 0)) := by rw [hget_past _ _ (Array.getElem?_eq_some_iff.1 G3.out).1, G3.out]
  have GS := hideIt gS
  have GZ := hideIt gZ
  clear gS gZ
  go_wp2_with (first
    | (with_reducible refine wl_load rfl GS.out Tryz.underlying41 rfl iS ?_)
    | (with_reducible refine wl_store rfl rfl GZ.out iS eS h1S ?_))
  simp only [Exit.noGoto]
  go_wp2_with fail
  exact ret_cell_tmp rfl rfl rfl (setRow_heap _ _ _ _ _ _ GZ.out) Tryz.underlying41 rfl iS ⟨by rw [HS.out]; rfl, below_setRow ((hB0.trans (hB3.mono (by omega))).alloc (by have := (Array.getElem?_eq_some_iff.1 G3.out).1; omega) _) (Nat.le_refl _) _⟩
end Go.Proofs.YtnibehcgnhdcgaaGreatDoor
