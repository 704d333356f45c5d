/- A row of sets, as the caller hands it in: opened. -/
import Derived.Test.YtnibehcgnhdcgaaGreatDoorM37
import Derived.WalkKit
import Derived.ProofKit
import Derived.OpenShut
import Derived.LaidMore
import Derived.Deep.Slices
import Derived.Carry
import Derived.Test.YtnibehcgnhdcgaaGreatDoorRows
import Derived.Test.YtnibehcgnhdcgaaGreatDoorCards
import Derived.Test.YtnibehcgnhdcgaaGreatDoorTie
import Derived.Lay
import Derived.SevenTiedAt
import Derived.Stop.Joined
namespace Go.Proofs.YtnibehcgnhdcgaaGreatDoor
open Go.ChangeShapes Go.WideShapes Go.ChangeAt Go.RowKit

theorem setsCells : Tryz.prog.cellsOf 43 = 260 := by kernel_rfl
theorem setsFields : ∃ fs : Array Field, Tryz.prog.underlying 43 = some (.struct fs) ∧ (fs[0]?).map (fun f => (f.offset, f.type)) = some (0, 22) ∧ (fs[1]?).map (fun f => (f.offset, f.type)) = some (1, 39) :=
  ⟨_, Tryz.underlying43, rfl, rfl⟩
theorem one_of_take {cs : List Value} {i : Nat} {v : Value} (h : (cs.drop i).take 1 = [v]) : cs[i]? = some v := by
  have := congrArg (·[0]?) h
  simpa using this
set_option maxRecDepth 100000 in
/-- A row of sets opened. -/
theorem open_sets {H : Type} {enc : TypeId × Value → H} {W : World} {v : Value} {d : DataW H} {ps : List MemPlace} {b0 : Nat} (hval : Value.okWide Tryz.prog W .any b0 23 v)
    (h : DataW.Trod enc Tryz.prog W 0 (fun _ => true) true 23 v d ps) : ∃ p len cap L, v = .slice p len cap ∧ SetsAt W p len L := by
  obtain ⟨a0, len, cap, rfl⟩ := okWide_slice Tryz.underlying23 hval
  refine ⟨a0, len, cap, ?_⟩
  obtain ⟨fuel, hf⟩ := h
  obtain ⟨fs, hs, hf0, hf1⟩ := setsFields
  rcases Go.Deep.open_slice Tryz.underlying23 hf with ⟨hcs, _⟩ | ⟨a, len', cap', m, n, D, Pl, hcs, _, hl, hm, hmm, _, hx⟩
  · simp [Value.cells] at hcs
    obtain ⟨rfl, rfl, rfl⟩ := hcs
    exact ⟨fun _ => (0, 0), rfl, fun i hi => absurd hi (by omega), fun i hi => absurd hi (by omega), fun i hi => absurd hi (by omega)⟩
  · simp [Value.cells] at hcs
    obtain ⟨rfl, rfl, rfl⟩ := hcs
    have hsp : 0 < len → a.spot = none := by
      intro h0
      obtain ⟨cs', h1, h2⟩ := hx 0 (by rw [hmm]; split <;> omega)
      rw [setsCells] at h1
      obtain ⟨_, hlen, hcell⟩ := World.cells?_some h1
      have k0 := hcell 0 (by omega)
      rw [List.getElem?_eq_getElem (by omega)] at k0
      simpa [Addr.add] using World.cell?_spot k0
    have each : ∀ i, i < len → ∃ q : Int × Int, (∃ blk off, some a = some (⟨blk, off, none⟩ : Addr) ∧ blk < W.heap.size ∧ W.cell? ⟨blk, off + i * 260, none⟩ = some (.int .u32 q.1) ∧ W.cell? ⟨blk, off + i * 260 + 1, none⟩ = some (.int .u16 q.2)) ∧
        (0 ≤ q.1 ∧ q.1 < 4294967296) ∧ (0 ≤ q.2 ∧ q.2 < 65536) := by
      intro i hi
      obtain ⟨cs', h1, h2⟩ := hx i (by rw [hmm]; split <;> omega)
      rw [setsCells] at h1
      obtain ⟨_, hlen, hcell⟩ := World.cells?_some h1
      obtain ⟨xs, k, hk, hxy, _, hxl, hfx⟩ := DataW.trod_struct hs h2
      cases g0 : fs[0]? with
      | none => rw [g0] at hf0; cases hf0
      | some f0 =>
      cases g1 : fs[1]? with
      | none => rw [g1] at hf1; cases hf1
      | some f1 =>
      rw [g0] at hf0
      rw [g1] at hf1
      simp only [Option.map_some, Option.some.injEq, Prod.mk.injEq] at hf0 hf1
      have e0 := hfx 0 f0 g0
      have e1 := hfx 1 f1 g1
      have z0 : 0 < fs.size := (Array.getElem?_eq_some_iff.1 g0).1
      have z1 : 1 < fs.size := (Array.getElem?_eq_some_iff.1 g1).1
      rw [hf0.1, hf0.2, List.getElem?_eq_getElem (by omega)] at e0
      rw [hf1.1, hf1.2, List.getElem?_eq_getElem (by omega)] at e1
      obtain ⟨x0, c0, _, w0⟩ := DataW.trod_int Tryz.underlying22 e0
      obtain ⟨x1, c1, _, w1⟩ := DataW.trod_int Tryz.underlying39 e1
      rw [show Tryz.prog.cellsOf 22 = 1 by kernel_rfl] at c0
      rw [show Tryz.prog.cellsOf 39 = 1 by kernel_rfl] at c1
      have k0 := hcell 0 (by omega)
      have k1 := hcell 1 (by omega)
      rw [one_of_take c0] at k0
      rw [one_of_take c1] at k1
      obtain ⟨b, off, spot⟩ := a
      have hspot : spot = none := hsp (by omega)
      subst hspot
      rw [add_plain, add_plain] at k0 k1
      rw [Nat.add_zero] at k0
      refine ⟨(x0, x1), ⟨b, off, rfl, World.block_lt_of_cell? W _ k0, k0, k1⟩, ?_, ?_⟩
      · have := bounds_u32 w0
        show 0 ≤ x0 ∧ x0 < 4294967296
        omega
      · have := bounds_u16 w1
        show 0 ≤ x1 ∧ x1 < 65536
        omega
    obtain ⟨L, hL⟩ : ∃ L : Nat → Int × Int, ∀ i, i < len → (∃ blk off, some a = some (⟨blk, off, none⟩ : Addr) ∧ blk < W.heap.size ∧ W.cell? ⟨blk, off + i * 260, none⟩ = some (.int .u32 (L i).1) ∧ W.cell? ⟨blk, off + i * 260 + 1, none⟩ = some (.int .u16 (L i).2)) ∧
        (0 ≤ (L i).1 ∧ (L i).1 < 4294967296) ∧ (0 ≤ (L i).2 ∧ (L i).2 < 65536) :=
      ⟨fun i => if h : i < len then (each i h).choose else (0, 0), fun i hi => by simp only [dif_pos hi]; exact (each i hi).choose_spec⟩
    exact ⟨L, rfl, fun i hi => (hL i hi).1, fun i hi => (hL i hi).2.1, fun i hi => (hL i hi).2.2⟩
end Go.Proofs.YtnibehcgnhdcgaaGreatDoor
/- CountApart: for every input the law returns true, and its arguments read afterwards as they read before (no condition): the row, and its tied card. -/
namespace Go.Proofs.YtnibehcgnhdcgaaGreatDoor
open Go.ChangeShapes Go.WideShapes Go.ChangeAt Go.RowKit

theorem kept_of_below {W W' : World} (h : Below W.heap.size W W') (may : MemPlace → Prop) : W.keptBut W' may := by
  refine ⟨h.os, h.output, fun i hi => ?_⟩
  rw [h.block i hi]
  cases W.heap[i]? with
  | none => trivial
  | some o => cases o <;> simp
theorem laidOutT : laidOutB Tryz.prog = true := by kernel_rfl
theorem ownT : ownKnob Tryz.prog.godebug = none := by kernel_rfl

set_option maxRecDepth 100000 in
theorem apart_lifted (os : Os) (started : os.Started) (H : Type) (enc : TypeId × Value → H) :
    ReturnsInHanded {} Tryz.checked os 3 .any (fun w args => (Rows.countApartSpec.pre enc Tryz.prog Tryz.f3 Rows.countApartRow.domain false w args ∧ laidMetH Tryz.prog Rows.countApartRow.laid w) ∧ sizedMet enc Tryz.prog Tryz.f3 (OpenSpec.ofChange Rows.countApartSpec) false w args)
      (Rows.countApartSpec.post enc Tryz.prog Tryz.f3 false true false false) := by
  refine returnsInHanded_of_change_and (C := Tryz.checked) (X := fun w _ => laidMetH Tryz.prog Rows.countApartRow.laid w) (fun _ _ _ hh h => h.of_heap hh) ownT started (by kernel_rfl) Tryz.func3
    (ChangeSpec.witness_shaped (enc := enc) (C := Tryz.checked) (os := os) (X := fun w _ => laidMetH Tryz.prog Rows.countApartRow.laid w) false (World.laidAll Tryz.prog os Rows.countApartRow.laid) #[.int .u32 0, .slice none 0 0] 8 (World.laidAll_os _ _ _)
      (World.shaped_of_ZipB (by kernel_rfl) (by kernel_rfl)) (by kernel_rfl) (by kernel_rfl) (by kernel_rfl)
      (by rw [MakeChecks.laidMetH_plain _ _ _ (by kernel_rfl)]; exact laidMet_laidAll _ (by kernel_rfl) (by kernel_rfl))) ?_
  intro W base args ds gs before hval0 hW hc _ hL _
  have hval : ∀ (j : Nat) t v, Tryz.f3.params[j]? = some t → args[j]? = some v → Value.okWide Tryz.prog W .any base t v := hval0
  have hW' := hW
  obtain ⟨p, q, hA0, hV, rfl, hfz, hnd⟩ := hW
  have hA : DataW.TrodAll enc Tryz.prog W 0 (fun _ => true) true Tryz.f3.params.toList args.toList ds p := hA0
  rw [Tryz.params3] at hA hval
  obtain ⟨v0, vs0, d0, ds0, p0, q0, hargs, rfl, rfl, h0, r0⟩ := trodAll_cons hA
  obtain ⟨v1, vs1, d1, ds1, p1, q1, rfl, rfl, rfl, h1, r1⟩ := trodAll_cons r0
  obtain ⟨rfl, rfl, rfl⟩ := trodAll_nil r1
  obtain rfl : args = #[v0, v1] := by cases args; simp_all
  obtain ⟨rfl, rfl⟩ := trodVars_none hV
  obtain ⟨a0, rfl, rfl, rfl, w0⟩ := open_int Tryz.underlying22 (hval 0 22 v0 rfl rfl) h0
  obtain ⟨sp, len, cap, L, rfl, hL1⟩ := open_sets (hval 1 23 v1 rfl rfl) h1
  have hlt : ∀ x ∈ p1, x.block < W.heap.size := fun x hx => (DataW.TrodAll.lt hA) x (by simp [hx])
  obtain ⟨n0, rfl⟩ : ∃ n0 : Nat, a0 = n0 := ⟨a0.toNat, by have := bounds_u32 w0; omega⟩
  clear hA0 hval0
  simp only [List.append_nil] at hW'
  refine (apart_any n0 sp len cap L W hL1).mono fun e W' ⟨he, hg⟩ => ?_
  subst he
  refine ⟨_, rfl, _, _, _, [], [] ++ (p1 ++ []), [], hW', ?_, ?_, ?_, kept_of_below hg _, fun h => by cases h⟩
  · exact trodAll_cons_mk (shut_bool Tryz.underlying4 _) trodAll_mk0
  · exact trodAll_cons_mk (shut_int Tryz.underlying22 w0) (trodAll_cons_mk (Below.trod laidOutT (by kernel_rfl) (of_decide_eq_true (by kernel_rfl)) h1 hg hlt) trodAll_mk0)
  · rfl

theorem apart_row : Rows.CountApartSaid :=
  OpenClaim.holds_of_wide 3 Tryz.f3 rfl rfl rfl rfl rfl rfl rfl ⟨rfl, rfl, rfl, rfl, rfl⟩ rfl rfl rfl rfl rfl (by kernel_rfl) Tryz.func3 (by kernel_rfl)
    (of_decide_eq_true (by kernel_rfl)) (by unfold Func.isWrapper; first | (rw [if_pos (by decide +kernel)]; kernel_rfl) | (rw [if_neg (by decide +kernel)]; exact ⟨rfl, rfl⟩))
    (fun os started H enc _ => apart_lifted os started H enc)
theorem apart_card : Rows.CountApartCardSaid :=
  Claim7.holds_tied_plain_at .later [] [.data, .pinned] true (true, "6c1126f2dc6261b36a069b31f35023b8c902a731a8d6761d425291ee93adadf0") true apart_row (fun _ h => by cases h) (by kernel_rfl) (fun _ h => by cases h) countApart_row_tie rfl ⟨rfl, rfl⟩ (by kernel_rfl) rfl
    (fun f fn hf hfn => by
      obtain rfl : f = 3 := Option.some.inj ((show Tryz.prog.funcNamed "pantile/pantilelaw09.CountApart" = some 3 by kernel_rfl).symm.trans hf) |>.symm
      obtain rfl : fn = Tryz.f3 := (Option.some.inj (Tryz.func3.symm.trans hfn)).symm
      exact ⟨by kernel_rfl, fun j t ht => by
        rw [Tryz.params3] at ht
        have hm : t ∈ [22, 23] := by simpa using Array.mem_of_getElem? ht
        have hall : ([22, 23].all fun u => !Tryz.prog.wantsStandIn u) = true := by kernel_rfl
        exact (show Tryz.prog.wantsStandIn t = false by simpa using List.all_eq_true.1 hall t hm)⟩)
    (by kernel_rfl)
#print axioms apart_row
#print axioms apart_card
end Go.Proofs.YtnibehcgnhdcgaaGreatDoor
