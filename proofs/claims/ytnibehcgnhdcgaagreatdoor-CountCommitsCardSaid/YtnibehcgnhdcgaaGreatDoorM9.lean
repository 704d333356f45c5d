/- A root's block. -/
import Derived.Test.YtnibehcgnhdcgaaGreatDoorM8
namespace Go.Proofs.YtnibehcgnhdcgaaGreatDoor
open Go.RowKit

/-- A root as a row: no names, no volumes. -/
def rootA (gen size picks free next hint : Int) : Array Value := #[.int .u64 gen, .int .u32 size, .int .u32 picks, .int .u32 0, .int .u32 free, .int .u32 next, .int .u32 hint, .int .u8 0]
structure RootOk (gen size picks free next hint : Int) : Prop where
  gen1 : 1 ≤ gen
  gen2 : gen < 18446744073709551616
  size1 : 64 ≤ size
  size2 : size ≤ 1048576
  picks1 : 0 ≤ picks
  picks2 : picks < 65536
  free1 : 0 ≤ free
  free2 : free ≤ size
  next1 : 1 ≤ next
  next2 : next < 4294967296
  hint1 : 0 ≤ hint
  hint2 : hint < size

set_option maxRecDepth 100000 in
set_option maxHeartbeats 1000000 in
theorem may_any (gen size picks free next hint : Int) (h : RootOk gen size picks free next hint) (w : World) :
    Calls Tryz.prog 70 #[.agg (rootA gen size picks free next hint)] w fun e w' => e = .returned (.bool true) ∧ Below w.heap.size w w' := by
  obtain ⟨h1, h2, h3, h4, h5, h6, h7, h8, h9, h10, h11, h12⟩ := h
  have hA : rootA gen size picks free next hint = #[.int .u64 gen, .int .u32 size, .int .u32 picks, .int .u32 0, .int .u32 free, .int .u32 next, .int .u32 hint, .int .u8 0] := rfl
  rw [hA]
  clear hA
  have k1 : 64 ≤ size := h3
  have k2 : 0 < gen := by omega
  have k3 : 0 < next := by omega
  have k4 : 0 < size := by omega
  go_enter Tryz.func70, Tryz.ntmps70
  go_wp2_with fail
  go_ret
  exact ⟨rfl, (Below.refl _ _).alloc (Nat.le_refl _) _⟩

set_option maxHeartbeats 400000 in
theorem words_any (v : Value) (w : World) :
    Calls Tryz.prog 91 #[v] w fun e w' => e = .returned v ∧ w = w' := by
  go_enter Tryz.func91, Tryz.ntmps91
  go_wp2_with fail
  go_ret
  exact ⟨rfl, rfl⟩
def ofA (rb : Nat) : Array Value := #[.pointer (some ⟨rb, 1, none⟩), .pointer (some ⟨rb, 2, none⟩), .pointer (some ⟨rb, 3, none⟩), .pointer (some ⟨rb, 4, none⟩), .pointer (some ⟨rb, 5, none⟩), .pointer (some ⟨rb, 6, none⟩)]
set_option maxRecDepth 100000 in
set_option maxHeartbeats 1000000 in
theorem of_any (rb : Nat) (w : World) :
    Calls Tryz.prog 79 #[.pointer (some ⟨rb, 0, none⟩)] w fun e w' => e = .returned (.slice (some ⟨w.heap.size, 0, none⟩) 6 6) ∧ w' = w.drew.alloc (.cells (ofA rb) 145) := by
  go_enter Tryz.func79, Tryz.ntmps79
  go_wp2_with fail
  refine wp_region_held (S := (fun _ => True)) (by kernel_rfl) ?_
  change wpAnyH _ _ _ _ _ _ _ _ (World.drew _)
  try simp only [Act.put, List.setIfInBounds_toArray, List.set_cons_succ, List.set_cons_zero]
  have hS := trivial
  refine takeH 0 (v := ?_) rfl rfl (by kernel_rfl) (by kernel_rfl) (by kernel_rfl) (fun _ _ _ h => h) hS (yieldsIf_run rfl ?_) ?_
  rotate_left
  focus (intro w hSw; go_simp; try with_reducible rfl)
  simp only [List.setIfInBounds_toArray, List.set_cons_succ, List.set_cons_zero]
  refine takeH 1 (v := ?_) rfl rfl (by kernel_rfl) (by kernel_rfl) (by kernel_rfl) (fun _ _ _ h => h) hS (yieldsIf_run rfl ?_) ?_
  rotate_left
  focus (intro w hSw; go_simp; try with_reducible rfl)
  simp only [List.setIfInBounds_toArray, List.set_cons_succ, List.set_cons_zero]
  refine takeH 2 (v := ?_) rfl rfl (by kernel_rfl) (by kernel_rfl) (by kernel_rfl) (fun _ _ _ h => h) hS (yieldsIf_run rfl ?_) ?_
  rotate_left
  focus (intro w hSw; go_simp; try with_reducible rfl)
  simp only [List.setIfInBounds_toArray, List.set_cons_succ, List.set_cons_zero]
  refine takeH 3 (v := ?_) rfl rfl (by kernel_rfl) (by kernel_rfl) (by kernel_rfl) (fun _ _ _ h => h) hS (yieldsIf_run rfl ?_) ?_
  rotate_left
  focus (intro w hSw; go_simp; try with_reducible rfl)
  simp only [List.setIfInBounds_toArray, List.set_cons_succ, List.set_cons_zero]
  refine takeH 4 (v := ?_) rfl rfl (by kernel_rfl) (by kernel_rfl) (by kernel_rfl) (fun _ _ _ h => h) hS (yieldsIf_run rfl ?_) ?_
  rotate_left
  focus (intro w hSw; go_simp; try with_reducible rfl)
  simp only [List.setIfInBounds_toArray, List.set_cons_succ, List.set_cons_zero]
  refine takeH 5 (v := ?_) rfl rfl (by kernel_rfl) (by kernel_rfl) (by kernel_rfl) (fun _ _ _ h => h) hS (yieldsIf_run rfl ?_) ?_
  rotate_left
  focus (intro w hSw; go_simp; try with_reducible rfl)
  simp only [List.setIfInBounds_toArray, List.set_cons_succ, List.set_cons_zero]
  refine takeH 6 (v := ?_) rfl rfl (by kernel_rfl) (by kernel_rfl) (by kernel_rfl) (fun _ _ _ h => h) hS (yieldsIf_run rfl ?_) ?_
  rotate_left
  focus (intro w hSw; go_simp; try with_reducible rfl)
  simp only [List.setIfInBounds_toArray, List.set_cons_succ, List.set_cons_zero]
  refine takeH 7 (v := ?_) rfl rfl (by kernel_rfl) (by kernel_rfl) (by kernel_rfl) (fun _ _ _ h => h) hS (yieldsIf_run rfl ?_) ?_
  rotate_left
  focus (intro w hSw; go_simp; try with_reducible rfl)
  simp only [List.setIfInBounds_toArray, List.set_cons_succ, List.set_cons_zero]
  refine takeH 8 (v := ?_) rfl rfl (by kernel_rfl) (by kernel_rfl) (by kernel_rfl) (fun _ _ _ h => h) hS (yieldsIf_run rfl ?_) ?_
  rotate_left
  focus (intro w hSw; go_simp; try with_reducible rfl)
  simp only [List.setIfInBounds_toArray, List.set_cons_succ, List.set_cons_zero]
  refine takeH 9 (v := ?_) rfl rfl (by kernel_rfl) (by kernel_rfl) (by kernel_rfl) (fun _ _ _ h => h) hS (yieldsIf_run rfl ?_) ?_
  rotate_left
  focus (intro w hSw; go_simp; try with_reducible rfl)
  simp only [List.setIfInBounds_toArray, List.set_cons_succ, List.set_cons_zero]
  refine takeH 10 (v := ?_) rfl rfl (by kernel_rfl) (by kernel_rfl) (by kernel_rfl) (fun _ _ _ h => h) hS (yieldsIf_run rfl ?_) ?_
  rotate_left
  focus (intro w hSw; go_simp; try with_reducible rfl)
  simp only [List.setIfInBounds_toArray, List.set_cons_succ, List.set_cons_zero]
  refine takeH 11 (v := ?_) rfl rfl (by kernel_rfl) (by kernel_rfl) (by kernel_rfl) (fun _ _ _ h => h) hS (yieldsIf_run rfl ?_) ?_
  rotate_left
  focus (intro w hSw; go_simp; try with_reducible rfl)
  simp only [List.setIfInBounds_toArray, List.set_cons_succ, List.set_cons_zero]
  refine takeH 12 (v := ?_) rfl rfl (by kernel_rfl) (by kernel_rfl) (by kernel_rfl) (fun _ _ _ h => h) hS (yieldsIf_run rfl ?_) ?_
  rotate_left
  focus (intro w hSw; go_simp; try with_reducible rfl)
  simp only [List.setIfInBounds_toArray, List.set_cons_succ, List.set_cons_zero]
  refine takeH 13 (v := ?_) rfl rfl (by kernel_rfl) (by kernel_rfl) (by kernel_rfl) (fun _ _ _ h => h) hS (yieldsIf_run rfl ?_) ?_
  rotate_left
  focus (intro w hSw; go_simp; try with_reducible rfl)
  simp only [List.setIfInBounds_toArray, List.set_cons_succ, List.set_cons_zero]
  refine takeH 14 (v := ?_) rfl rfl (by kernel_rfl) (by kernel_rfl) (by kernel_rfl) (fun _ _ _ h => h) hS (yieldsIf_run rfl ?_) ?_
  rotate_left
  focus (intro w hSw; go_simp; try with_reducible rfl)
  simp only [List.setIfInBounds_toArray, List.set_cons_succ, List.set_cons_zero]
  refine takeH 15 (v := ?_) rfl rfl (by kernel_rfl) (by kernel_rfl) (by kernel_rfl) (fun _ _ _ h => h) hS (yieldsIf_run rfl ?_) ?_
  rotate_left
  focus (intro w hSw; go_simp; try with_reducible rfl)
  simp only [List.setIfInBounds_toArray, List.set_cons_succ, List.set_cons_zero]
  refine takeH 16 (v := ?_) rfl rfl (by kernel_rfl) (by kernel_rfl) (by kernel_rfl) (fun _ _ _ h => h) hS (yieldsIf_run rfl ?_) ?_
  rotate_left
  focus (intro w hSw; go_simp; try with_reducible rfl)
  simp only [List.setIfInBounds_toArray, List.set_cons_succ, List.set_cons_zero]
  refine takeH 17 (v := ?_) rfl rfl (by kernel_rfl) (by kernel_rfl) (by kernel_rfl) (fun _ _ _ h => h) hS (yieldsIf_run rfl ?_) ?_
  rotate_left
  focus (intro w hSw; go_simp; try with_reducible rfl)
  simp only [List.setIfInBounds_toArray, List.set_cons_succ, List.set_cons_zero]
  clear hS
  refine anyH_step (i := 18) (by kernel_rfl) rfl rfl (fun K hK => ?_)
  go_simp
  refine hK _ _ (trivial) ?_
  clear hK K
  try simp only [Act.put, List.setIfInBounds_toArray, List.set_cons_succ, List.set_cons_zero]
  refine anyH_step (i := 19) (by kernel_rfl) rfl rfl (fun K hK => ?_)
  go_simp
  go_at_call 91
  refine (words_any _ _).mono ?_
  rintro e w' ⟨rfl, rfl⟩
  refine hK _ _ (trivial) ?_
  clear hK K
  try simp only [Act.put, List.setIfInBounds_toArray, List.set_cons_succ, List.set_cons_zero]
  refine anyH_step (i := 20) (by kernel_rfl) rfl rfl (fun K hK => ?_)
  go_simp
  refine hK _ _ (trivial) ?_
  clear hK K
  try simp only [Act.put, List.setIfInBounds_toArray, List.set_cons_succ, List.set_cons_zero]
  refine wpAnyH_done (by kernel_rfl) ?_ _
  go_wp2_with fail
  go_ret
  exact ⟨rfl, rfl⟩
end Go.Proofs.YtnibehcgnhdcgaaGreatDoor
/- A root's block is told. -/
namespace Go.Proofs.YtnibehcgnhdcgaaGreatDoor
open Go.RowKit

theorem Wr.below {w w' : World} {B wb : Nat} {L : List UInt8} (h : Wr w B wb L) (hb : Below w.heap.size w w') : Wr w' B wb L := by
  obtain ⟨h1, v, hg, ho⟩ := h
  exact ⟨h1, v, (hb.block wb (Array.getElem?_eq_some_iff.1 hg).1).trans hg, own_below ho hb⟩
theorem Wr.lt {w : World} {B wb : Nat} {L : List UInt8} (h : Wr w B wb L) : wb < w.heap.size := by
  obtain ⟨h1, v, hg, ho⟩ := h
  exact (Array.getElem?_eq_some_iff.1 hg).1
theorem KeepsW.cells {B wb : Nat} {w w' : World} (h : KeepsW B wb w w') {k : Nat} {cs : Array Value} {t : TypeId} {fr : Nat × Nat} (hk : w.heap[k]? = some (.cells cs t fr)) (hn : k ≠ wb) (ht : t ≠ 5) : w'.heap[k]? = some (.cells cs t fr) := by
  rw [h.block k (Array.getElem?_eq_some_iff.1 hk).1 hn ?_, hk]
  rintro ⟨cur, fr', e⟩
  rw [hk] at e
  simp only [Option.some.injEq, Obj.cells.injEq] at e
  exact ht e.2.1

/-- The words of a root. -/
def rootWs (size picks free next hint : Int) : List Int := [size, picks, 0, free, next, hint]
def SomeBlock (w : World) (e : Ending) (w' : World) : Prop := ∃ b : List UInt8, b.length = 256 ∧ e = .returned (.tuple #[.agg (blkA b), .int .i64 0]) ∧ Below w.heap.size w w'

set_option maxRecDepth 100000 in
set_option maxHeartbeats 2000000 in
theorem sput_any (gen size picks free next hint : Int) (h : RootOk gen size picks free next hint) (w : World) :
    Calls Tryz.prog 55 #[.agg (rootA gen size picks free next hint)] w (SomeBlock w) := by
  have hmay := fun W => may_any gen size picks free next hint h W
  have hnew := fun W => wnew_any W
  have hwr := fun W => Wr_new W
  have g1 := h.gen1
  have g2 := h.gen2
  have hws : ∀ x ∈ rootWs size picks free next hint, 0 ≤ x ∧ x < 4294967296 := by
    obtain ⟨h1, h2, h3, h4, h5, h6, h7, h8, h9, h10, h11, h12⟩ := h
    intro x hx
    simp only [rootWs, List.mem_cons, List.not_mem_nil, or_false] at hx
    rcases hx with rfl | rfl | rfl | rfl | rfl | rfl <;> omega
  obtain ⟨rA, hA⟩ : ∃ r, r = rootA gen size picks free next hint := ⟨_, rfl⟩
  rw [← hA] at hmay ⊢
  have hget : ∀ i x, (rootWs size picks free next hint)[i]? = some x → rA[1 + i]? = some (.int .u32 x) := by
    intro i x hx
    have hi : i < 6 := (List.getElem?_eq_some_iff.1 hx).1
    rw [hA]
    rcases i with _ | _ | _ | _ | _ | _ | i <;> first | (simp [rootWs] at hx; subst hx; rfl) | omega
  have ofget : ∀ i, i < 6 → (ofA w.heap.size)[i]? = some (.pointer (some ⟨w.heap.size, 1 + i, none⟩)) := by
    intro i hi
    rcases i with _ | _ | _ | _ | _ | _ | i <;> first | rfl | omega
  have hr0 : rA[0]? = some (.int .u64 gen) := by rw [hA]; rfl
  have hr7 : rA[7]? = some (.int .u8 0) := by rw [hA]; rfl
  have irA : (Tryz.prog.info? 31).map (·.size) = some rA.size := by rw [hA]; kernel_rfl
  have gr : (((w.alloc (.cells rA 31)).alloc (.cells (blkA zb) 41))).heap[w.heap.size]? = some (.cells rA 31 (0, 0)) := by rw [hget_past _ _ (by simp), hget_at _ _ rfl]
  have gz : (((w.alloc (.cells rA 31)).alloc (.cells (blkA zb) 41))).heap[w.heap.size + 1]? = some (.cells (blkA zb) 41 (0, 0)) := hget_at _ _ (by simp)
  have hB0 : Below w.heap.size w ((w.alloc (.cells rA 31)).alloc (.cells (blkA zb) 41)) := ((Below.refl _ w).alloc (Nat.le_refl _) _).alloc (by simp) _
  obtain ⟨W0, hW0⟩ : ∃ W, W = (w.alloc (.cells rA 31)).alloc (.cells (blkA zb) 41) := ⟨_, rfl⟩
  rw [← hW0] at gr gz hB0
  have hs0 : W0.heap.size = w.heap.size + 2 := by rw [hW0]; simp
  have HW0 := hideIt hW0
  have GR := hideIt gr
  have GZ := hideIt gz
  have HA := hideIt hA
  have HWS := hideIt hws
  have HGET := hideIt hget
  have HOF := hideIt ofget
  have HR0 := hideIt hr0
  have HR7 := hideIt hr7
  clear hW0 gr gz hA hws hget ofget hr0 hr7 h
  go_enter Tryz.func55, Tryz.ntmps55
  go_wp2_with (first
    | (with_reducible refine wl_alloc zero41 ?_; rw [← HW0.out])
    | (with_reducible refine wl_load rfl GR.out Tryz.underlying31 rfl irA ?_)
    | (go_at_call 70; with_reducible refine (hmay _).mono ?_; rintro e W1 ⟨rfl, hb1⟩)
    | (go_at_call 77; with_reducible refine (hnew _).mono ?_; rintro e w' ⟨rfl, rfl⟩
       have hw2 := hwr W1
       have hb2 : Below W1.heap.size W1 (W1.alloc (.cells #[.slice none 0 0, .bool true, .bool false] 159)) := (Below.refl _ _).alloc (Nat.le_refl _) _
       generalize W1.alloc (.cells #[.slice none 0 0, .bool true, .bool false] 159) = W2 at hw2 hb2 ⊢
       have hz1 := hb1.size
       have gr2 : W2.heap[w.heap.size]? = some (.cells rA 31 (0, 0)) := (hb2.block _ (by omega)).trans ((hb1.block _ (by omega)).trans GR.out)
       have gz2 : W2.heap[w.heap.size + 1]? = some (.cells (blkA zb) 41 (0, 0)) := (hb2.block _ (by omega)).trans ((hb1.block _ (by omega)).trans GZ.out)
       have hB2 : Below w.heap.size w W2 := (hB0.trans (hb1.mono (by omega))).trans (hb2.mono (by omega))
       have hn3 := num8_any _ _ gen (by omega) (by omega) [] (by simp) W2 hw2
       have c20 : W2.cell? ⟨w.heap.size, 0, none⟩ = some (.int .u64 gen) := by { rw [cell_of_row _ _ 0 _ _ _ gr2]; exact HR0.out }
       have HR2 := hideIt gr2
       have HZ2 := hideIt gz2
       clear gr2 gz2 hw2)
    | (go_at_call 78; with_reducible refine hn3.mono ?_; rintro e W3 ⟨rfl, hw3, hk3⟩
       have gr3 := hk3.cells HR2.out (by omega) (by decide)
       have gz3 := hk3.cells HZ2.out (by omega) (by decide)
       have hof := of_any w.heap.size W3
       have HR3 := hideIt gr3
       have HZ3 := hideIt gz3
       clear gr3 gz3 c20 hn3)
    | (go_at_call 79; with_reducible refine hof.mono ?_; rintro e w' ⟨rfl, rfl⟩))
  have hb5 : Below W3.heap.size W3 (W3.alloc (.cells (ofA w.heap.size) 145)).drew := ((Below.refl _ _).alloc (Nat.le_refl _) _).drew
  have ho5 : (W3.alloc (.cells (ofA w.heap.size) 145)).drew.heap[W3.heap.size]? = some (.cells (ofA w.heap.size) 145 (0, 0)) := by rw [hget_drew, hget_at _ _ rfl]
  generalize (W3.alloc (.cells (ofA w.heap.size) 145)).drew = W5 at hb5 ho5 ⊢
  have hz3 := hk3.below.size
  have hlt := hw3.lt
  have hz5 := hb5.size
  have hw5 := hw3.below hb5
  rw [List.nil_append] at hw5
  have gr5 := (hb5.block _ (by omega)).trans HR3.out
  have gz5 := (hb5.block _ (by omega)).trans HZ3.out
  have hB5 : Below w.heap.size w W5 := (hB2.trans (hk3.below.mono (by omega))).trans (hb5.mono (by omega))
  have hne5 : W3.heap.size ≠ W1.heap.size := by omega
  have hl5 : W3.heap.size < W5.heap.size := (Array.getElem?_eq_some_iff.1 ho5).1
  have HO5 := hideIt ho5
  have HR5 := hideIt gr5
  have HZ5 := hideIt gz5
  have HW5 : Hid (∃ L, L.length = 8 + 4 * 0 ∧ Wr W5 W1.heap.size W1.heap.size L) := ⟨_, leB_length _ _, hw5⟩
  clear ho5 gr5 gz5 hw5 hw3
  go_loopw [21] (fun v wr => ∃ i : Nat, i ≤ 6 ∧ v = .int .i64 i ∧ Hid (∃ L, L.length = 8 + 4 * i ∧ Wr wr W1.heap.size W1.heap.size L) ∧ KeepsW W1.heap.size W1.heap.size W5 wr) (fun v _ => 6 - (intOf v).toNat)
  case atStart => exact ⟨0, by omega, rfl, HW5, KeepsW.refl _ _ _⟩
  case round =>
    obtain ⟨i, hi, rfl, hli, hki⟩ := hrel
    obtain ⟨L, hL, hwi⟩ := hli.out
    have gri := hki.cells HR5.out (by omega) (by decide)
    have goi := hki.cells HO5.out (by omega) (by decide)
    have KI := hideIt hki
    clear hki hli
    by_cases hlt : i < 6
    · obtain ⟨x, hx⟩ : ∃ x, (rootWs size picks free next hint)[i]? = some x := ⟨_, List.getElem?_eq_getElem (by simp [rootWs]; exact hlt)⟩
      obtain ⟨x0, x1⟩ := HWS.out x (List.mem_of_getElem? hx)
      have ci : wr.cell? ⟨w.heap.size, 1 + i, none⟩ = some (.int .u32 x) := by rw [cell_of_row _ _ _ _ _ _ gri]; exact HGET.out i x hx
      have cp : wr.cell? ⟨W3.heap.size, i, none⟩ = some (.pointer (some ⟨w.heap.size, 1 + i, none⟩)) := by rw [cell_of_row _ _ _ _ _ _ goi]; exact HOF.out i hlt
      have hn := num4_any _ _ x x0 (by omega) L (by omega) wr hwi
      have HL := hideIt hL
      clear gri goi hx hL hwi
      go_wp2_with (first
        | (go_at_call 78; with_reducible refine hn.mono ?_; rintro e W6 ⟨rfl, hw6, hk6⟩))
      go_roundw
      case rel => exact ⟨i + 1, by omega, by go_num, ⟨_, by rw [List.length_append, leB_length, HL.out]; omega, hw6⟩, KI.out.trans hk6⟩
      case measure => simp [intOf]; omega
    · obtain rfl : i = 6 := by omega
      have c7 : wr.cell? ⟨w.heap.size, 7, none⟩ = some (.int .u8 0) := by rw [cell_of_row _ _ 7 _ _ _ gri]; exact HR7.out
      have gzi := KI.out.cells HZ5.out (by omega) (by decide)
      have hbi : Below w.heap.size w wr := hB5.trans (KI.out.below.mono (by omega))
      have hn := num1_any _ _ 0 (by omega) (by omega) L (by omega) wr hwi
      have hdn : ∀ W L, (L : List UInt8).length = 33 → Wr W W1.heap.size W1.heap.size L → Calls Tryz.prog 80 #[.pointer (some ⟨W1.heap.size, 0, none⟩), .int .u8 82] W fun e w' => e = .returned (.tuple #[.agg (blkA (sealB (rawB 82 L))), .int .i64 0]) ∧ Below W.heap.size W w' :=
        fun W L hl hw => done_any _ _ 82 L (by omega) (by omega) W hw
      have hlen : ∀ L : List UInt8, L.length = 33 → (sealB (rawB 82 L)).length = 256 := fun L hl => (sealB_length _).trans (rawB_length _ _ (by omega))
      have HDN := hideIt hdn
      have HLEN := hideIt hlen
      have HL := hideIt hL
      have GZI := hideIt gzi
      clear gri goi hwi hdn hlen hL gzi
      go_wp2_with (first
        | (go_at_call 78; with_reducible refine hn.mono ?_; rintro e W6 ⟨rfl, hw6, hk6⟩
           have hl6 : (L ++ leB 1 0).length = 33 := by { rw [List.length_append, leB_length, HL.out] }
           have hdn := HDN.out W6 _ hl6 hw6
           have hS := HLEN.out _ hl6
           have gz6 := hk6.cells GZI.out (by omega) (by decide)
           have hs6 := hk6.below.size
           have hB6 : Below w.heap.size w W6 := hbi.trans (hk6.below.mono (by omega))
           have hl7 : w.heap.size + 1 < W6.heap.size := (Array.getElem?_eq_some_iff.1 gz6).1
           generalize sealB (rawB 82 (L ++ leB 1 0)) = S at hdn hS ⊢
           have iS := size41' hS
           have eS : (blkA zb).size = (blkA S).size := by { rw [zbA_size, blkA_size, hS] }
           have h1S := blkA_one S
           have GZ6 := hideIt gz6
           have HS := hideIt hS
           clear gz6 hS hl6 hw6 hk6 hn c7)
        | (go_at_call 80; with_reducible refine hdn.mono ?_; rintro e W7 ⟨rfl, hb7⟩; have gz7 := (hb7.block _ hl7).trans GZ6.out; have GZ7 := hideIt gz7; clear gz7)
        | (with_reducible refine wl_extract rfl rfl ?_)
        | (with_reducible refine wl_store rfl rfl GZ7.out iS eS h1S ?_))
      exact ret_cell_tmp rfl rfl rfl (setRow_heap W7 _ _ (blkA S) _ _ GZ7.out) Tryz.underlying41 rfl iS ⟨S, HS.out, rfl, below_setRow (hB6.trans (hb7.mono (by omega))) (by omega) _⟩
end Go.Proofs.YtnibehcgnhdcgaaGreatDoor
/- Blocks are written, then a root. -/
namespace Go.Proofs.YtnibehcgnhdcgaaGreatDoor
open Go.RowKit

/-- A slice of puts that lies apart from the device. -/
def PutsAt (w : World) (db : Nat) (p : Option Addr) (L : List (Int × List UInt8)) : Prop :=
  ∀ i a b, L[i]? = some (a, b) → ∃ g, p = some ⟨g, 0, none⟩ ∧ g ≠ db ∧ w.rangeAt g (i * 257) (putA a b).toList
theorem PutsAt.kept {w w' : World} {db : Nat} {p : Option Addr} {L : List (Int × List UInt8)} (h : PutsAt w db p L) (hk : ∀ k, k < w.heap.size → k ≠ db → w'.heap[k]? = w.heap[k]?) : PutsAt w' db p L := by
  intro i a b hi
  obtain ⟨g, hp, hg, hr⟩ := h i a b hi
  refine ⟨g, hp, hg, fun j v hv => ?_⟩
  have := hr j v hv
  rw [World.cell?_of_block (w := w) (hk g (World.block_lt_of_cell? w _ this) hg), this]
theorem DevP.mk0 {w : World} {db mb : Nat} {n : Int} {G : List (Int × List UInt8)} (h : DevAt w db mb n G) : DevP w w.heap.size db mb n G [] := DevP.of_dev h h.lt h.map.lt (Nat.le_refl _)

set_option maxRecDepth 100000 in
set_option maxHeartbeats 2000000 in
theorem turn1_any (db mb lb bd cap : Nat) (p : Option Addr) (n : Int) (G L : List (Int × List UInt8)) (hL : L.length ≤ 1000) (hLa : ∀ x ∈ L, x.1 < n ∧ x.2.length = 256) (w : World) (hD : DevAt w db mb n G)
    (hl : w.cell? ⟨lb, 0, none⟩ = some (.slice p L.length cap)) (hd : w.cell? ⟨bd, 0, none⟩ = some (.pointer (some ⟨db, 0, none⟩))) (hP : PutsAt w db p L) :
    Calls Tryz.prog 52 #[.pointer (some ⟨lb, 0, none⟩), .pointer (some ⟨bd, 0, none⟩)] w fun e w' => e = .returned (.int .i64 0) ∧ DevP w' w.heap.size db mb n G L ∧ Keeps (fun k => k = db) w w' := by
  have hbd : bd ≠ db := by
    rintro rfl
    rw [hD.c0] at hd
    cases hd
  have hbl := World.block_lt_of_cell? w _ hd
  have H0 : Hid (DevP w w.heap.size db mb n G (L.take 0)) := DevP.mk0 hD
  have HLA := hideIt hLa
  have HP := hideIt hP
  have HDC := hideIt hd
  clear hD hLa hP
  go_enter Tryz.func52, Tryz.ntmps52
  go_wp2_with fail
  clear hl hd
  go_loopw [8] (fun v wr => ∃ i : Nat, i ≤ L.length ∧ v = .int .i64 i ∧ Hid (DevP wr w.heap.size db mb n G (L.take i)) ∧ Keeps (fun k => k = db ∨ w.heap.size ≤ k) w wr) (fun v _ => L.length - (intOf v).toNat)
  case atStart => exact ⟨0, Nat.zero_le _, rfl, H0, Keeps.refl _ _⟩
  case round =>
    obtain ⟨i, hi, rfl, hdi, hki⟩ := hrel
    by_cases hlt : i < L.length
    · obtain ⟨⟨a, b⟩, hx⟩ : ∃ x, L[i]? = some x := ⟨L[i]'hlt, List.getElem?_eq_getElem _⟩
      have hmem := List.mem_of_getElem? hx
      obtain ⟨han, hbb⟩ : a < n ∧ b.length = 256 := HLA.out _ hmem
      have hPi : PutsAt wr db p L := HP.out.kept (fun k hk hn => hki.block k hk (by omega))
      obtain ⟨g, rfl, hgd, hrg⟩ := hPi i a b hx
      have hcd : wr.cell? ⟨bd, 0, none⟩ = some (.pointer (some ⟨db, 0, none⟩)) := by
        rw [World.cell?_of_block (w := w) (hki.block bd hbl (by omega))]; exact HDC.out
      have hcd2 : (wr.alloc (.cells (putA a b) 52)).cell? ⟨bd, 0, none⟩ = some (.pointer (some ⟨db, 0, none⟩)) := past_any hcd
      have hgx : (wr.alloc (.cells (putA a b) 52)).heap[wr.heap.size]? = some (.cells (putA a b) 52 (0, 0)) := hget_at _ _ rfl
      have hca : (wr.alloc (.cells (putA a b) 52)).cell? ⟨wr.heap.size, 0, none⟩ = some (.int .u32 a) := by rw [cell_of_row _ _ 0 _ _ _ hgx]; rfl
      have hrx := putA_range hgx
      have hD2 : DevP (wr.alloc (.cells (putA a b) 52)) w.heap.size db mb n G (L.take i) := hdi.out.below ((Below.refl _ _).alloc (Nat.le_refl _) _)
      have hwl := write_any w.heap.size db mb n G (L.take i) a han b hbb (by rw [List.length_take]; omega) _ hD2
      have htk : L.take i ++ [(a, b)] = L.take (i + 1) := by rw [List.take_add_one, hx]; rfl
      rw [htk] at hwl
      change Calls _ _ #[_, _, .agg (b.map byteV).toArray] _ _ at hwl
      have isz := size52' a hbb
      have isl : (Tryz.prog.info? 52).map (·.size) = some (putA a b).toList.length := by rw [Array.length_toList]; exact isz
      have ibl : (Tryz.prog.info? 41).map (·.size) = some (b.map byteV).length := by rw [List.length_map, hbb]; exact size41
      have esz : (putA 0 zb).size = (putA a b).size := by rw [putA_size, putA_size, hbb, zb_length]
      have one := putA_one a b
      have KI := hideIt hki
      have HRG := hideIt hrg
      have HRX := hideIt hrx
      have HI := hideIt isz
      have HIL := hideIt isl
      have HIB := hideIt ibl
      have HE := hideIt esz
      have HO := hideIt one
      clear hPi hrg hgx hrx isz isl esz one hki hbb hx hmem hD2 hcd htk
      go_wp2_with (first
        | (with_reducible refine wpList_load_mid rfl _ _ rfl g (i * 257) rfl (putA a b).toList _ HRG.out Tryz.underlying52 rfl HIL.out ?_)
        | (with_reducible refine wl_alloc_store zero52 (by simp [Act.put]) rfl rfl HI.out HE.out HO.out ?_)
        | (with_reducible refine wpList_load_mid rfl _ _ rfl wr.heap.size 1 rfl (b.map byteV) _ HRX.out Tryz.underlying41 rfl HIB.out ?_)
        | (go_at_call 53; (with_reducible refine hwl.mono ?_); rintro e w3 ⟨rfl, hd3, hk3⟩))
      go_roundw
      case rel => exact ⟨i + 1, by omega, by go_num, hd3, ((KI.out.alloc _).trans (hk3.mono (fun k _ h => h)))⟩
      case measure => simp [intOf]; omega
    · obtain rfl : i = L.length := by omega
      rw [List.take_length] at hdi
      go_wp2_with fail
      go_ret
      exact ⟨rfl, hdi.out, hki.mono (fun k hk h => by omega)⟩

set_option maxRecDepth 100000 in
set_option maxHeartbeats 2000000 in
theorem turn2_any (db mb rb bd : Nat) (n : Int) (hn : 2 ≤ n) (G : List (Int × List UInt8)) (gen size picks free next hint : Int) (hr : RootOk gen size picks free next hint) (w : World) (hD : DevAt w db mb n G)
    (hrb : w.heap[rb]? = some (.cells (rootA gen size picks free next hint) 31 (0, 0))) (hrd : rb ≠ db) (hd : w.cell? ⟨bd, 0, none⟩ = some (.pointer (some ⟨db, 0, none⟩))) :
    Calls Tryz.prog 54 #[.pointer (some ⟨rb, 0, none⟩), .pointer (some ⟨bd, 0, none⟩)] w fun e w' => e = .returned (.int .i64 0) ∧ Hid (∃ B b, b.length = 256 ∧ w.heap.size ≤ B ∧ DevP w' B db mb n G [(gen % 2, b)]) ∧ Keeps (fun k => k = db) w w' := by
  have hbd : bd ≠ db := by
    rintro rfl
    rw [hD.c0] at hd
    cases hd
  have hbl := World.block_lt_of_cell? w _ hd
  have hrl := (Array.getElem?_eq_some_iff.1 hrb).1
  have g1 := hr.gen1
  have g2 := hr.gen2
  have hsp := fun W => sput_any gen size picks free next hint hr W
  obtain ⟨rA, hA⟩ : ∃ r, r = rootA gen size picks free next hint := ⟨_, rfl⟩
  rw [← hA] at hrb hsp
  have hr0 : rA[0]? = some (.int .u64 gen) := by rw [hA]; rfl
  have irA : (Tryz.prog.info? 31).map (·.size) = some rA.size := by rw [hA]; kernel_rfl
  have HD := hideIt hD
  have HRB := hideIt hrb
  have HDC := hideIt hd
  have HR0 := hideIt hr0
  clear hD hA hd hrb hr hr0
  go_enter Tryz.func54, Tryz.ntmps54
  go_wp2_with (first
    | (with_reducible refine wl_load rfl HRB.out Tryz.underlying31 rfl irA ?_)
    | (go_at_call 55; (with_reducible refine (hsp _).mono ?_); rintro e W1 ⟨b, hb, rfl, hb1⟩
       have iS := size41' hb
       have eS : (blkA zb).size = (blkA b).size := by { rw [zbA_size, blkA_size, hb] }
       have h1S := blkA_one b
       have hz1 := hb1.size
       have hb2 : Below w.heap.size w (W1.alloc (.cells (blkA b) 41)) := hb1.alloc hz1 _
       have cd2 : (W1.alloc (.cells (blkA b) 41)).cell? ⟨bd, 0, none⟩ = some (.pointer (some ⟨db, 0, none⟩)) := by { rw [World.cell?_of_block (w := w) (hb2.block bd hbl)]; exact HDC.out }
       have cr2 : (W1.alloc (.cells (blkA b) 41)).cell? ⟨rb, 0, none⟩ = some (.int .u64 gen) := by { rw [cell_of_row _ _ 0 _ _ _ ((hb2.block rb hrl).trans HRB.out)]; exact HR0.out }
       have GB : Hid ((W1.alloc (.cells (blkA b) 41)).heap[W1.heap.size]? = some (.cells (blkA b) 41 (0, 0))) := hget_at _ _ rfl
       have hD2 := HD.out.below hb2 HD.out.lt HD.out.map.lt
       have hwr := write_any _ db mb n G [] (gen % 2) (by omega) b hb (by simp) _ (DevP.mk0 hD2)
       have HB := hideIt hb
       have HB2 := hideIt hb2
       clear hb hb2 hD2)
    | (with_reducible refine wl_load rfl GB.out Tryz.underlying41 rfl iS ?_)
    | (go_at_call 53; (with_reducible refine hwr.mono ?_); rintro e W3 ⟨rfl, hd3, hk3⟩)
    | (with_reducible refine wl_extract rfl rfl ?_)
    | (with_reducible refine wl_alloc_store zero41 (by simp [Act.put]) rfl rfl iS eS h1S ?_))
  go_ret
  exact ⟨rfl, ⟨_, b, HB.out, by simp; omega, hd3⟩, (Keeps.of_below HB2.out).trans (hk3.mono (fun k hk h => by rcases h with h | h; exact h; omega))⟩

theorem DevAt.cellne {w : World} {db mb : Nat} {n : Int} {G : List (Int × List UInt8)} (h : DevAt w db mb n G) {k : Nat} {v : Value} (hc : w.cell? ⟨k, 0, none⟩ = some v) (hv : v ≠ .int .u32 n) : k ≠ db := by
  rintro rfl
  rw [h.c0] at hc
  exact hv (Option.some.inj hc).symm

set_option maxRecDepth 100000 in
set_option maxHeartbeats 2000000 in
theorem steps_any (db mb lb rb bd sb cap : Nat) (p : Option Addr) (n : Int) (hn : 2 ≤ n) (G L : List (Int × List UInt8)) (hL : L.length ≤ 1000) (hLa : ∀ x ∈ L, x.1 < n ∧ x.2.length = 256)
    (gen size picks free next hint : Int) (hr : RootOk gen size picks free next hint) (w : World) (hD : DevAt w db mb n G)
    (hl : w.cell? ⟨lb, 0, none⟩ = some (.slice p L.length cap)) (hd : w.cell? ⟨bd, 0, none⟩ = some (.pointer (some ⟨db, 0, none⟩))) (hP : PutsAt w db p L)
    (hrb : w.heap[rb]? = some (.cells (rootA gen size picks free next hint) 31 (0, 0))) (hrd : rb ≠ db) (hrm : rb ≠ mb)
    (hs : w.heap[sb]? = some (.cells #[.func (.func 52) #[] #[.pointer (some ⟨lb, 0, none⟩), .pointer (some ⟨bd, 0, none⟩)], .func (.func 57) #[.pointer (some ⟨db, 0, none⟩)] #[],
      .func (.func 54) #[] #[.pointer (some ⟨rb, 0, none⟩), .pointer (some ⟨bd, 0, none⟩)], .func (.func 57) #[.pointer (some ⟨db, 0, none⟩)] #[]] 119 (0, 0))) :
    Calls Tryz.prog 56 #[.slice (some ⟨sb, 0, none⟩) 4 4] w fun e w' => e = .returned (.int .i64 0) ∧ Hid (∃ b, b.length = 256 ∧ DevAt w' db mb n (putD (flushG G L) (gen % 2) b)) ∧ Keeps (fun k => k = db ∨ k = mb) w w' := by
  have hbd : bd ≠ db := hD.cellne hd (by simp)
  have hmd : mb ≠ db := (DevP.mk0 hD).ne
  have hbm : bd ≠ mb := by
    obtain ⟨es, clock, e, _⟩ := hD.map
    rintro rfl
    simp [World.cell?, e] at hd
  have hsd : sb ≠ db := by
    obtain ⟨_, _, _, e⟩ := hD.cells
    rintro rfl
    rw [e] at hs
    simp at hs
  have hsm : sb ≠ mb := by
    obtain ⟨es, clock, e, _⟩ := hD.map
    rintro rfl
    rw [e] at hs
    cases hs
  have hbl := World.block_lt_of_cell? w _ hd
  have hsl := (Array.getElem?_eq_some_iff.1 hs).1
  have hrl := (Array.getElem?_eq_some_iff.1 hrb).1
  have t1 := turn1_any db mb lb bd cap p n G L hL hLa w hD hl hd hP
  have t2 : ∀ W1, DevP W1 w.heap.size db mb n G L → Calls Tryz.prog 57 #[.pointer (some ⟨db, 0, none⟩)] W1 fun e w' => e = .returned (.int .i64 0) ∧ DevAt w' db mb n (flushG G L) ∧ Keeps (fun k => k = db ∨ k = mb) W1 w' :=
    fun W1 h => flush_any w.heap.size db mb n G L (by omega) W1 h
  have t3 : ∀ W2, Keeps (fun k => k = db ∨ k = mb) w W2 → DevAt W2 db mb n (flushG G L) → Calls Tryz.prog 54 #[.pointer (some ⟨rb, 0, none⟩), .pointer (some ⟨bd, 0, none⟩)] W2 fun e w' => e = .returned (.int .i64 0) ∧ Hid (∃ B b, b.length = 256 ∧ W2.heap.size ≤ B ∧ DevP w' B db mb n (flushG G L) [(gen % 2, b)]) ∧ Keeps (fun k => k = db) W2 w' :=
    fun W2 hk h => turn2_any db mb rb bd n hn (flushG G L) gen size picks free next hint hr W2 h ((hk.block rb hrl (by omega)).trans hrb) hrd (by rw [World.cell?_of_block (w := w) (hk.block bd hbl (by omega)), hd])
  have cs : ∀ W, Keeps (fun k => k = db ∨ k = mb) w W → ∀ i, W.cell? ⟨sb, i, none⟩ = w.cell? ⟨sb, i, none⟩ := fun W hk i => World.cell?_of_block (w := w) (hk.block sb hsl (by show ¬ (sb = db ∨ sb = mb); omega))
  have s0 : w.cell? ⟨sb, 0, none⟩ = some (.func (.func 52) #[] #[.pointer (some ⟨lb, 0, none⟩), .pointer (some ⟨bd, 0, none⟩)]) := by rw [cell_of_row _ _ 0 _ _ _ hs]; rfl
  have s1 : ∀ W, Keeps (fun k => k = db ∨ k = mb) w W → W.cell? ⟨sb, 1, none⟩ = some (.func (.func 57) #[.pointer (some ⟨db, 0, none⟩)] #[]) := fun W hk => by rw [cs W hk, cell_of_row _ _ 1 _ _ _ hs]; rfl
  have s2 : ∀ W, Keeps (fun k => k = db ∨ k = mb) w W → W.cell? ⟨sb, 2, none⟩ = some (.func (.func 54) #[] #[.pointer (some ⟨rb, 0, none⟩), .pointer (some ⟨bd, 0, none⟩)]) := fun W hk => by rw [cs W hk, cell_of_row _ _ 2 _ _ _ hs]; rfl
  have s3 : ∀ W, Keeps (fun k => k = db ∨ k = mb) w W → W.cell? ⟨sb, 3, none⟩ = some (.func (.func 57) #[.pointer (some ⟨db, 0, none⟩)] #[]) := fun W hk => by rw [cs W hk, cell_of_row _ _ 3 _ _ _ hs]; rfl
  have S1 := hideIt s1
  have S2 := hideIt s2
  have S3 := hideIt s3
  have T2 := hideIt t2
  have T3 := hideIt t3
  clear hD hLa hr hl hd hP hrb hs t2 t3 cs s1 s2 s3
  go_enter Tryz.func56, Tryz.ntmps56
  go_wp2_with fail
  refine wp_loop_rounds 5 ?_
  rw [rounds_succ]
  go_wp2_with (first
    | (go_at_call 52; (with_reducible refine t1.mono ?_); rintro e W1 ⟨rfl, hd1, hk1⟩
       have K1 : Keeps (fun k => k = db ∨ k = mb) w W1 := hk1.mono (fun _ _ h => .inl h)
       have c1 := S1.out W1 K1
       have t2 := T2.out W1 hd1
       clear hd1 hk1 t1 s0))
  rw [rounds_succ]
  go_wp2_with (first
    | (go_at_call 57; (with_reducible refine t2.mono ?_); rintro e W2 ⟨rfl, hd2, hk2⟩
       have K2 := K1.trans hk2
       have c2 := S2.out W2 K2
       have t3 := T3.out W2 K2 hd2
       clear hd2 hk2 t2 c1))
  rw [rounds_succ]
  go_wp2_with (first
    | (go_at_call 54; (with_reducible refine t3.mono ?_); rintro e W3 ⟨rfl, hd3, hk3⟩
       have K3 := K2.trans (hk3.mono (G := fun k => k = db ∨ k = mb) (fun _ _ h => .inl h))
       have c3 := S3.out W3 K3
       clear hk3 t3 c2))
  obtain ⟨B, b, hb, hB, hd3⟩ := hd3.out
  have t4 := flush_any B db mb n (flushG G L) [(gen % 2, b)] (by simp) W3 hd3
  have HB := hideIt hb
  clear hb hd3
  rw [rounds_succ]
  go_wp2_with (first
    | (go_at_call 57; (with_reducible refine t4.mono ?_); rintro e W4 ⟨rfl, hd4, hk4⟩; clear t4))
  rw [rounds_succ]
  go_wp2_with fail
  go_ret
  exact ⟨rfl, ⟨b, HB.out, hd4⟩, K3.trans hk4⟩
end Go.Proofs.YtnibehcgnhdcgaaGreatDoor
/- Blocks are written, then a root: the whole. -/
namespace Go.Proofs.YtnibehcgnhdcgaaGreatDoor
open Go.RowKit

set_option maxRecDepth 100000 in
set_option maxHeartbeats 2000000 in
theorem rturn_any (db mb cap : Nat) (p : Option Addr) (n : Int) (hn : 2 ≤ n) (G L : List (Int × List UInt8)) (hL : L.length ≤ 1000) (hLa : ∀ x ∈ L, x.1 < n ∧ x.2.length = 256)
    (gen size picks free next hint : Int) (hr : RootOk gen size picks free next hint) (w : World) (hD : DevAt w db mb n G) (hP : PutsAt w db p L) :
    Calls Tryz.prog 27 #[.pointer (some ⟨db, 0, none⟩), .slice p L.length cap, .agg (rootA gen size picks free next hint)] w fun e w' => e = .returned (.int .i64 0) ∧ Hid (∃ b, b.length = 256 ∧ DevAt w' db mb n (putD (flushG G L) (gen % 2) b)) ∧ Keeps (fun k => k = db ∨ k = mb) w w' := by
  have hdl := hD.lt
  have hml := hD.map.lt
  obtain ⟨rA, hA⟩ : ∃ r, r = rootA gen size picks free next hint := ⟨_, rfl⟩
  obtain ⟨W1, hW1⟩ : ∃ W, W = ((w.alloc (.cells #[.pointer (some ⟨db, 0, none⟩)] 25)).alloc (.cells #[.slice p L.length cap] 48)).alloc (.cells rA 31) := ⟨_, rfl⟩
  obtain ⟨sA, hsA⟩ : ∃ s : Array Value, s = #[.func (.func 52) #[] #[.pointer (some ⟨w.heap.size + 1, 0, none⟩), .pointer (some ⟨w.heap.size, 0, none⟩)], .func (.func 57) #[.pointer (some ⟨db, 0, none⟩)] #[],
      .func (.func 54) #[] #[.pointer (some ⟨w.heap.size + 1 + 1, 0, none⟩), .pointer (some ⟨w.heap.size, 0, none⟩)], .func (.func 57) #[.pointer (some ⟨db, 0, none⟩)] #[]] := ⟨_, rfl⟩
  have hs1 : W1.heap.size = w.heap.size + 3 := by rw [hW1]; simp
  have hB1 : Below w.heap.size w W1 := by rw [hW1]; exact (((Below.refl _ w).alloc (Nat.le_refl _) _).alloc (by simp) _).alloc (by simp; omega) _
  obtain ⟨W2, hW2⟩ : ∃ W, W = W1.alloc (.cells sA 119) := ⟨_, rfl⟩
  have hB2 : Below w.heap.size w W2 := by rw [hW2]; exact hB1.alloc (by omega) _
  have gb : W2.heap[w.heap.size]? = some (.cells #[.pointer (some ⟨db, 0, none⟩)] 25 (0, 0)) := by rw [hW2, hget_past _ _ (by omega), hW1, hget_past _ _ (by simp; omega), hget_past _ _ (by simp), hget_at _ _ rfl]
  have gl : W2.heap[w.heap.size + 1]? = some (.cells #[.slice p L.length cap] 48 (0, 0)) := by rw [hW2, hget_past _ _ (by omega), hW1, hget_past _ _ (by simp), hget_at _ _ (by simp)]
  have gr : W2.heap[w.heap.size + 1 + 1]? = some (.cells (rootA gen size picks free next hint) 31 (0, 0)) := by rw [hW2, hget_past _ _ (by omega), hW1, hget_at _ _ (by simp), hA]
  have gs : W2.heap[w.heap.size + 1 + 1 + 1]? = some (.cells sA 119 (0, 0)) := by rw [hW2]; exact hget_at _ _ (by omega)
  rw [hsA] at gs
  have cb1 : W1.cell? ⟨w.heap.size, 0, none⟩ = some (.pointer (some ⟨db, 0, none⟩)) := by rw [cell_of_row _ _ 0 #[.pointer (some ⟨db, 0, none⟩)] 25 (0, 0) (by rw [hW1, hget_past _ _ (by simp; omega), hget_past _ _ (by simp), hget_at _ _ rfl])]; rfl
  have hst := steps_any db mb (w.heap.size + 1) (w.heap.size + 1 + 1) w.heap.size (w.heap.size + 1 + 1 + 1) cap p n hn G L hL hLa gen size picks free next hint hr W2 (hD.below hB2 hdl hml)
    (by rw [cell_of_row _ _ 0 _ _ _ gl]; rfl) (by rw [cell_of_row _ _ 0 _ _ _ gb]; rfl) (hP.kept (fun k hk _ => hB2.block k hk)) gr (by omega) (by omega) gs
  rw [← hA]
  have HW1 := hideIt hW1
  have HW2 := hideIt hW2
  have HSA := hideIt hsA
  clear hD hP hr hLa hA hW1 hW2 gb gl gr gs hsA
  go_enter Tryz.func27, Tryz.ntmps27
  go_wp2_with fail
  rw [← HW1.out, ← HSA.out, ← HW2.out]
  have HB2 := hideIt hB2
  clear hB1 hB2
  go_wp2_with (first
    | (go_at_call 56; (with_reducible refine hst.mono ?_); rintro e W3 ⟨rfl, hd3, hk3⟩))
  go_ret
  exact ⟨rfl, hd3, (Keeps.of_below HB2.out).trans hk3⟩

set_option maxHeartbeats 400000 in
theorem rnone_any (db mb : Nat) (n : Int) (hn : 1 ≤ n) (w : World) (h : w.cell? ⟨db, 1, none⟩ = some (.map (some mb))) (h0 : w.cell? ⟨db, 0, none⟩ = some (.int .u32 n)) :
    Calls Tryz.prog 22 #[.pointer (some ⟨db, 0, none⟩)] w fun e w' => e = .returned (.bool false) ∧ w = w' := by
  have hs := dsize_any db mb n w h h0
  have hn0 : (n == 0) = false := by simp; omega
  go_enter Tryz.func22, Tryz.ntmps22
  go_wp2_with (first
    | (go_at_call 24; refine hs.mono ?_; rintro e w' ⟨rfl, rfl⟩))
  go_ret
  exact ⟨by simp [hn0], rfl⟩
end Go.Proofs.YtnibehcgnhdcgaaGreatDoor
