/- A row of sets with its marks, as the caller hands it in: opened. (Printed by gen_sets2.py.) -/
import Derived.Test.YtnibehcgnhdcgaaGreatDoorM44
import Derived.WalkKit
import Derived.ProofKit
import Derived.OpenShut
import Derived.LaidMore
import Derived.Deep.Slices
import Derived.Carry
namespace Go.Proofs.YtnibehcgnhdcgaaGreatDoor
open Go.ChangeShapes Go.WideShapes Go.ChangeAt Go.RowKit

/-- The row of sets, as the caller has it; which of them seal. -/
structure SetsBt (w : World) (p : Option Addr) (len : Nat) (L : Nat → Int × Int) (M : Nat → Bool) : Prop where
  at_ : ∀ i, i < len → ∃ blk off, p = some ⟨blk, off, none⟩ ∧ blk < w.heap.size ∧ w.cell? ⟨blk, off + i * 260, none⟩ = some (.int .u32 (L i).1) ∧ w.cell? ⟨blk, off + i * 260 + 1, none⟩ = some (.int .u16 (L i).2) ∧ w.cell? ⟨blk, off + i * 260 + 2, none⟩ = some (.bool (M i))
  r1 : ∀ i, i < len → 0 ≤ (L i).1 ∧ (L i).1 < 4294967296
  r2 : ∀ i, i < len → 0 ≤ (L i).2 ∧ (L i).2 < 65536
/-- What a row of sets makes of the counts that are set. -/
def setsR (T : Tab) (L : Nat → Int × Int) : Nat → List (Int × Int)
  | 0 => []
  | i + 1 => T.setTo (setsR T L i) (L i).1 (L i).2
theorem setsR_ok {T : Tab} {L : Nat → Int × Int} {len : Nat} (h : ∀ i, i < len → 0 ≤ (L i).2 ∧ (L i).2 < 65536) : ∀ i, i ≤ len → SetOk T (setsR T L i) ∧ (setsR T L i).length ≤ i
  | 0, _ => ⟨setOk_nil T, by simp [setsR]⟩
  | i + 1, hi => by
    obtain ⟨h1, h2⟩ := setsR_ok h i (by omega)
    refine ⟨setTo_ok h1 _ _ (h i (by omega)), ?_⟩
    have := setTo_len T (setsR T L i) (L i).1 (L i).2
    rw [setsR]
    omega

theorem setsCells : Tryz.prog.cellsOf 43 = 260 := by kernel_rfl
theorem setsFields : ∃ fs : Array Field, Tryz.prog.underlying 43 = some (.struct fs) ∧ (fs[0]?).map (fun f => (f.offset, f.type)) = some (0, 22) ∧ (fs[1]?).map (fun f => (f.offset, f.type)) = some (1, 39) ∧ (fs[2]?).map (fun f => (f.offset, f.type)) = some (2, 4) :=
  ⟨_, Tryz.underlying43, rfl, rfl, rfl⟩
theorem one_of_take {cs : List Value} {i : Nat} {v : Value} (h : (cs.drop i).take 1 = [v]) : cs[i]? = some v := by
  have := congrArg (·[0]?) h
  simpa using this
set_option maxRecDepth 100000 in
/-- A row of sets opened. -/
theorem open_sets {H : Type} {enc : TypeId × Value → H} {W : World} {v : Value} {d : DataW H} {ps : List MemPlace} {b0 : Nat} (hval : Value.okWide Tryz.prog W .any b0 23 v)
    (h : DataW.Trod enc Tryz.prog W 0 (fun _ => true) true 23 v d ps) : ∃ p len cap L M, v = .slice p len cap ∧ SetsBt W p len L M := by
  obtain ⟨a0, len, cap, rfl⟩ := okWide_slice Tryz.underlying23 hval
  refine ⟨a0, len, cap, ?_⟩
  obtain ⟨fuel, hf⟩ := h
  obtain ⟨fs, hs, hf0, hf1, hf2⟩ := setsFields
  rcases Go.Deep.open_slice Tryz.underlying23 hf with ⟨hcs, _⟩ | ⟨a, len', cap', m, n, D, Pl, hcs, _, hl, hm, hmm, _, hx⟩
  · simp [Value.cells] at hcs
    obtain ⟨rfl, rfl, rfl⟩ := hcs
    exact ⟨fun _ => (0, 0), fun _ => false, rfl, fun i hi => absurd hi (by omega), fun i hi => absurd hi (by omega), fun i hi => absurd hi (by omega)⟩
  · simp [Value.cells] at hcs
    obtain ⟨rfl, rfl, rfl⟩ := hcs
    have hsp : 0 < len → a.spot = none := by
      intro h0
      obtain ⟨cs', h1, h2⟩ := hx 0 (by rw [hmm]; split <;> omega)
      rw [setsCells] at h1
      obtain ⟨_, hlen, hcell⟩ := World.cells?_some h1
      have k0 := hcell 0 (by omega)
      rw [List.getElem?_eq_getElem (by omega)] at k0
      simpa [Addr.add] using World.cell?_spot k0
    have each : ∀ i, i < len → ∃ q : (Int × Int) × Bool, (∃ blk off, some a = some (⟨blk, off, none⟩ : Addr) ∧ blk < W.heap.size ∧ W.cell? ⟨blk, off + i * 260, none⟩ = some (.int .u32 q.1.1) ∧ W.cell? ⟨blk, off + i * 260 + 1, none⟩ = some (.int .u16 q.1.2) ∧ W.cell? ⟨blk, off + i * 260 + 2, none⟩ = some (.bool q.2)) ∧
        (0 ≤ q.1.1 ∧ q.1.1 < 4294967296) ∧ (0 ≤ q.1.2 ∧ q.1.2 < 65536) := by
      intro i hi
      obtain ⟨cs', h1, h2⟩ := hx i (by rw [hmm]; split <;> omega)
      rw [setsCells] at h1
      obtain ⟨_, hlen, hcell⟩ := World.cells?_some h1
      obtain ⟨xs, k, hk, hxy, _, hxl, hfx⟩ := DataW.trod_struct hs h2
      cases g0 : fs[0]? with
      | none => rw [g0] at hf0; cases hf0
      | some f0 =>
      cases g1 : fs[1]? with
      | none => rw [g1] at hf1; cases hf1
      | some f1 =>
      cases g2 : fs[2]? with
      | none => rw [g2] at hf2; cases hf2
      | some f2 =>
      rw [g0] at hf0
      rw [g1] at hf1
      rw [g2] at hf2
      simp only [Option.map_some, Option.some.injEq, Prod.mk.injEq] at hf0 hf1 hf2
      have e0 := hfx 0 f0 g0
      have e1 := hfx 1 f1 g1
      have e2 := hfx 2 f2 g2
      have z0 : 0 < fs.size := (Array.getElem?_eq_some_iff.1 g0).1
      have z1 : 1 < fs.size := (Array.getElem?_eq_some_iff.1 g1).1
      have z2 : 2 < fs.size := (Array.getElem?_eq_some_iff.1 g2).1
      rw [hf0.1, hf0.2, List.getElem?_eq_getElem (by omega)] at e0
      rw [hf1.1, hf1.2, List.getElem?_eq_getElem (by omega)] at e1
      rw [hf2.1, hf2.2, List.getElem?_eq_getElem (by omega)] at e2
      obtain ⟨x2, c2, _⟩ := DataW.trod_bool Tryz.underlying4 e2
      rw [show Tryz.prog.cellsOf 4 = 1 by kernel_rfl] at c2
      obtain ⟨x0, c0, _, w0⟩ := DataW.trod_int Tryz.underlying22 e0
      obtain ⟨x1, c1, _, w1⟩ := DataW.trod_int Tryz.underlying39 e1
      rw [show Tryz.prog.cellsOf 22 = 1 by kernel_rfl] at c0
      rw [show Tryz.prog.cellsOf 39 = 1 by kernel_rfl] at c1
      have k0 := hcell 0 (by omega)
      have k1 := hcell 1 (by omega)
      have k2 := hcell 2 (by omega)
      rw [one_of_take c0] at k0
      rw [one_of_take c1] at k1
      rw [one_of_take c2] at k2
      obtain ⟨b, off, spot⟩ := a
      have hspot : spot = none := hsp (by omega)
      subst hspot
      rw [add_plain, add_plain] at k0 k1 k2
      rw [Nat.add_zero] at k0
      refine ⟨((x0, x1), x2), ⟨b, off, rfl, World.block_lt_of_cell? W _ k0, k0, k1, k2⟩, ?_, ?_⟩
      · have := bounds_u32 w0
        show 0 ≤ x0 ∧ x0 < 4294967296
        omega
      · have := bounds_u16 w1
        show 0 ≤ x1 ∧ x1 < 65536
        omega
    obtain ⟨q, hq⟩ : ∃ q : Nat → (Int × Int) × Bool, ∀ i, i < len → (∃ blk off, some a = some (⟨blk, off, none⟩ : Addr) ∧ blk < W.heap.size ∧ W.cell? ⟨blk, off + i * 260, none⟩ = some (.int .u32 (q i).1.1) ∧ W.cell? ⟨blk, off + i * 260 + 1, none⟩ = some (.int .u16 (q i).1.2) ∧ W.cell? ⟨blk, off + i * 260 + 2, none⟩ = some (.bool (q i).2)) ∧
        (0 ≤ (q i).1.1 ∧ (q i).1.1 < 4294967296) ∧ (0 ≤ (q i).1.2 ∧ (q i).1.2 < 65536) :=
      ⟨fun i => if h : i < len then (each i h).choose else ((0, 0), false), fun i hi => by simp only [dif_pos hi]; exact (each i hi).choose_spec⟩
    exact ⟨fun i => (q i).1, fun i => (q i).2, rfl, fun i hi => (hq i hi).1, fun i hi => (hq i hi).2.1, fun i hi => (hq i hi).2.2⟩
end Go.Proofs.YtnibehcgnhdcgaaGreatDoor
