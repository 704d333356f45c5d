/- Puts as rows of cells: how they are built. -/
import Derived.Test.YtnibehcgnhdcgaaGreatDoorM6
import Derived.Deep.RegionHeld3
import Derived.Deep.AppendLies
namespace Go.Proofs.YtnibehcgnhdcgaaGreatDoor
open Go.RowKit

/-- A row with another one laid over it from a place on. -/
def over (cs : Array Value) (off : Nat) (v : Array Value) : Array Value := (cs.toList.take off ++ (v.toList ++ cs.toList.drop (off + v.size))).toArray
theorem foldl_over (off : Nat) : ∀ (l : List Value) (k : Nat) (cs : Array Value), off + k + l.length ≤ cs.size →
    (l.zipIdx k).foldl (fun cs (p : Value × Nat) => cs.setIfInBounds (off + p.2) p.1) cs = (cs.toList.take (off + k) ++ (l ++ cs.toList.drop (off + k + l.length))).toArray
  | [], k, cs, h => by simp
  | x :: r, k, cs, h => by
    simp only [List.length_cons] at h
    rw [List.zipIdx_cons, List.foldl_cons, foldl_over off r (k + 1) _ (by simp; omega)]
    have hk : off + k < cs.size := by omega
    apply congrArg List.toArray
    apply List.ext_getElem?
    intro n
    simp only [Array.toList_setIfInBounds, List.getElem?_append, List.length_take, List.length_set, Array.length_toList, List.getElem?_take, List.getElem?_drop, List.getElem?_set, List.length_cons, List.getElem?_cons]
    have e1 : min (off + (k + 1)) cs.size = off + k + 1 := by omega
    have e2 : min (off + k) cs.size = off + k := by omega
    rw [e1, e2]
    by_cases c1 : n < off + k
    · simp only [show n < off + k + 1 by omega, if_true, c1, show n < off + (k + 1) by omega, show ¬(off + k = n) by omega, if_false]
    · by_cases c2 : n = off + k
      · subst c2
        simp [hk]
      · simp only [show ¬(n < off + k + 1) by omega, if_false, c1, show ¬(n - (off + k) = 0) by omega]
        have e3 : n - (off + k) - 1 = n - (off + k + 1) := by omega
        rw [e3]
        by_cases c3 : n - (off + k + 1) < r.length
        · simp only [c3, if_true, show n - (off + k) < r.length + 1 by omega]
        · simp only [c3, if_false, show ¬(n - (off + k) < r.length + 1) by omega]
          rw [show off + (k + 1) + r.length + (n - (off + k + 1) - r.length) = n by omega, show off + k + (r.length + 1) + (n - (off + k) - (r.length + 1)) = n by omega]
          simp only [show ¬(off + k = n) by omega, if_false]
theorem fill_step {place : Nat → Option (Nat × Nat)} {cells : Array Value} {i : Nat} {v : Value} {rest : List (Nat × Value)} {off size : Nat} (hp : place i = some (off, size)) (hs : v.cells.size = size) (hb : off + size ≤ cells.size) :
    Instr.fill place cells ((i, v) :: rest) = Instr.fill place (over cells off v.cells) rest := by
  have hf : v.cells.zipIdx.foldl (fun cs (p : Value × Nat) => cs.setIfInBounds (off + p.2) p.1) cells = over cells off v.cells := by
    rw [← Array.foldl_toList, Array.toList_zipIdx, foldl_over off v.cells.toList 0 cells (by simp; omega)]
    simp [over]
  rw [Instr.fill]
  simp only [hp]
  rw [if_neg (by simp [hs]; omega)]
  exact congrArg (fun c => Instr.fill place c rest) hf

/-- A put as a row of cells. -/
def putA (a : Int) (b : List UInt8) : Array Value := (.int .u32 a :: b.map byteV).toArray
theorem putA_size (a : Int) (b : List UInt8) : (putA a b).size = b.length + 1 := by simp [putA]
theorem putA_one (a : Int) (b : List UInt8) : (putA a b).all (·.oneCell') = true := by simp [putA, byteV, Value.oneCell']
theorem built52' (parts : List (Nat × Value)) : Tryz.prog.built 52 parts = Instr.fill (#[(0, 1), (1, 256)][·]?) (putA 0 zb) parts := by kernel_rfl
theorem built52 (a : Int) (b : List UInt8) (hb : b.length = 256) : Tryz.prog.built 52 [(0, .int .u32 a), (1, .agg (blkA b))] = some (putA a b) := by
  rw [built52', fill_step (off := 0) (size := 1) rfl rfl (by rw [putA_size, zb_length]; omega), fill_step (off := 1) (size := 256) rfl (by show (blkA b).size = 256; rw [blkA_size, hb]) (by simp [over, Value.cells, putA, zb_length]), Instr.fill]
  congr 1
  simp [over, putA, Value.cells, blkA, hb, zb_length]

theorem zero52 : ∀ w, (zeroValue 52).run Tryz.prog w = .ok (.agg (putA 0 zb)) w :=
  (zero_of_info (t := 52) (v := .agg (putA 0 zb)) (n := 257) (by kernel_rfl)).1
theorem size52 : (Tryz.prog.info? 52).map (·.size) = some 257 := by kernel_rfl
theorem size52' (a : Int) {b : List UInt8} (hb : b.length = 256) : (Tryz.prog.info? 52).map (·.size) = some (putA a b).size := by rw [putA_size, hb]; exact size52
theorem sizeOf52 : ∀ w, (sizeOf 52).run Tryz.prog w = .ok 257 w := fun w => by kernel_rfl
theorem info52 : (Tryz.prog.info? 52).map (fun i => (i.zero, i.size, i.bytes)) = some (some (.agg (putA 0 zb)), 257, 260) := by kernel_rfl
theorem run_bs48 (a : Int) (b : List UInt8) (hb : b.length = 256) (w : World) :
    (Instr.buildSlice 48 1 #[(0, .agg (putA a b))]).run Tryz.prog w = .ok (.slice (some ⟨w.heap.size, 0, none⟩) 1 1) (w.alloc (.cells (putA a b) 52)) := by
  have hf : ∀ base : Array Value, base.size = 257 → Instr.fill (fun i => some (i * 257, 257)) base [(0, .agg (putA a b))] = some (putA a b) := fun base hbs => by
    rw [fill_step (off := 0) (size := 257) rfl (by show (putA a b).size = 257; rw [putA_size, hb]) (by omega), Instr.fill]
    congr 1
    have h257 : (putA a b).size = 257 := by rw [putA_size, hb]
    have hd : base.toList.drop 257 = [] := List.drop_eq_nil_of_le (by simp [hbs])
    show (base.toList.take 0 ++ ((putA a b).toList ++ base.toList.drop (0 + (putA a b).size))).toArray = putA a b
    rw [h257, Nat.zero_add, hd]
    simp
  simp only [Instr.buildSlice, Sem.run_bind, run_underlying Tryz.underlying48, Result.andThen_ok, sizeOf52, zero52, Sem.run_pure]
  rw [if_neg (by decide), if_neg (by decide)]
  simp only [Sem.run_bind, zero52, Result.andThen_ok, Sem.run_pure]
  rw [hf _ (by simp)]
  rfl
end Go.Proofs.YtnibehcgnhdcgaaGreatDoor
/- Steps of regions that draw their order, under a condition on the world. -/
namespace Go.Proofs.YtnibehcgnhdcgaaGreatDoor
open Go.RowKit

/-- One operation alone may come up. -/
theorem anyH_step {P : Program} {md : Region.Mode} {ops : Array Oper} {Q : Exit → Act → World → Prop} {S : World → Prop} {i : Nat} {o : Oper} {fuel : Nat} {listed : Array Bool} {a : Act} {w : World}
    (hr : Region.ready md ops listed = [i]) (ho : ops.toList[i]? = some o) (hg : o.guard = none)
    (h : ∀ K : Act → World → Prop, (∀ a w, S w → wpAnyH P md ops Q S fuel (listed.setIfInBounds i true) a w → K a w) → Oper.wp P o a w K Q) : wpAnyH P md ops Q S (fuel + 1) listed a w :=
  wpAnyH_ready hr (by simp) (.cons (by simpa using ho) (fun K hK => by rw [if_pos (by simp [Region.wanted, hg])]; exact h K (fun a w hS hw => hK.out a w hS fun _ => hw)) .nil)
/-- Two operations may come up. -/
theorem anyH_two {P : Program} {md : Region.Mode} {ops : Array Oper} {Q : Exit → Act → World → Prop} {S : World → Prop} {i j : Nat} {o o' : Oper} {fuel : Nat} {listed : Array Bool} {a : Act} {w : World}
    (hr : Region.ready md ops listed = [i, j]) (ho : ops.toList[i]? = some o) (ho' : ops.toList[j]? = some o') (hg : o.guard = none) (hg' : o'.guard = none)
    (h : ∀ K : Act → World → Prop, (∀ a w, S w → wpAnyH P md ops Q S fuel (listed.setIfInBounds i true) a w → K a w) → Oper.wp P o a w K Q)
    (h' : ∀ K : Act → World → Prop, (∀ a w, S w → wpAnyH P md ops Q S fuel (listed.setIfInBounds j true) a w → K a w) → Oper.wp P o' a w K Q) : wpAnyH P md ops Q S (fuel + 1) listed a w :=
  wpAnyH_ready hr (by simp) (.cons (by simpa using ho) (fun K hK => by rw [if_pos (by simp [Region.wanted, hg])]; exact h K (fun a w hS hw => hK.out a w hS fun _ => hw))
    (.cons (by simpa using ho') (fun K hK => by rw [if_pos (by simp [Region.wanted, hg'])]; exact h' K (fun a w hS hw => hK.out a w hS fun _ => hw)) .nil))
/-- An operation is taken first. -/
theorem takeH {P : Program} {md : Region.Mode} {ops : Array Oper} {Q : Exit → Act → World → Prop} {S : World → Prop} (i : Nat) {d : Nat} {oi : Oper} {v : Value} {fuel : Nat} {listed : Array Bool} {T : Array Value} {D : List Deferred} {w : World} (hi : ops.toList[i]? = some oi) (hd : oi.dst = some d)
    (hs : Region.noSelect ops = true) (hf : Region.free md ops listed i = true) (hr : (Region.ready md ops listed).contains i = true)
    (hQ : ∀ c a w, Q (.panic c) (a.put oi.dst v) w → Q (.panic c) a w) (hS : S w) (hy : YieldsIf P ops S oi v ⟨T, D⟩)
    (h : wpAnyH P md ops Q S fuel (listed.setIfInBounds i true) ⟨T.setIfInBounds d v, D⟩ w) : wpAnyH P md ops Q S (fuel + 1) listed ⟨T, D⟩ w :=
  wpAnyH_take (by simpa using hi) hs hf hr hQ hy hS (by rw [hd]; exact h)
theorem yieldsIf_run {P : Program} {ops : Array Oper} {S : World → Prop} {o : Oper} {v : Value} {a : Act} (hg : o.guard = none) (h : ∀ w, S w → (execOp a.eval o).run P w = .ok (.value v) w) : YieldsIf P ops S o v a :=
  Or.inl ⟨by simp [Region.wanted, hg], h⟩
/-- A whole row is read, in every world that has it. -/
theorem yieldsIf_load_row {P : Program} {ops : Array Oper} {S : World → Prop} {o : Oper} {a : Act} (hgd : o.guard = none) {ty : TypeId} {x : Operand} (ho : o.op = .load ty x) (g : Nat)
    (hx : a.eval x = .pointer (some ⟨g, 0, none⟩)) {cs : Array Value} {t : TypeId} {fr : Nat × Nat} {d : TypeDesc} (hS : ∀ w, S w → w.heap[g]? = some (.cells cs t fr))
    (hu : P.underlying ty = some d) (hd : (match d with | .struct _ | .array _ _ => true | _ => false) = true) (hi : (P.info? ty).map (·.size) = some cs.size) :
    YieldsIf P ops S o (.agg cs) a := by
  refine Or.inl ⟨by simp [Region.wanted, hgd], fun w hw => ?_⟩
  unfold execOp
  simp only [ho, hx, Instr.loadAt, Instr.sureAddr, Sem.run_bind, Sem.run_pure, Result.andThen_ok, run_loadVar_row w g t ty cs fr d (hS w hw) hu hd hi]
/-- A row is built out of what stands in the temporaries. -/
theorem yieldsIf_build {P : Program} {ops : Array Oper} {S : World → Prop} {o : Oper} {a : Act} (hgd : o.guard = none) {ty : TypeId} {parts : Array (Nat × Operand)} (ho : o.op = .build ty parts)
    {cs : Array Value} {l : List (Nat × Value)} (hl : (parts.map fun (i, x) => (i, a.eval x)).toList = l) (hb : P.built ty l = some cs) : YieldsIf P ops S o (.agg cs) a := by
  refine Or.inl ⟨by simp [Region.wanted, hgd], fun w _ => ?_⟩
  subst hl
  unfold execOp
  rw [ho]
  simp only [ho]
  simp only [Sem.run_bind, run_build w ty _ cs hb, Result.andThen_ok, Sem.run_pure]
/-- A slice is built: its run is known. -/
theorem wp_bs {P : Program} {o : Oper} {a : Act} {w W' : World} {K : Act → World → Prop} {Q : Exit → Act → World → Prop} {t : TypeId} {n : Nat} {parts : Array (Nat × Operand)} {l : Array (Nat × Value)} {v : Value} (ho : o.op = .buildSlice t n parts)
    (hl : (parts.map fun (i, x) => (i, a.eval x)) = l) (hr : (Instr.buildSlice t n l).run P w = .ok v W') (h : K (a.put o.dst v) W') : o.wp P a w K Q := by
  subst hl
  unfold Oper.wp execOp
  simp only [ho, Sem.run_bind, hr, Result.andThen_ok]
  exact h
theorem wp_mapUpdate {P : Program} {o : Oper} {a : Act} {w W' : World} {K : Act → World → Prop} {Q : Exit → Act → World → Prop} {t : TypeId} {x y z : Operand} {m k v : Value} (ho : o.op = .mapUpdate t x y z)
    (hx : a.eval x = m) (hy : a.eval y = k) (hz : a.eval z = v) (hr : (Instr.mapUpdate t m k v).run P w = .ok () W') (h : K (a.put o.dst undef) W') : o.wp P a w K Q := by
  unfold Oper.wp
  simp [execOp, ho, hx, hy, hz, hr, Result.andThen]
  exact h
theorem wp_delete {P : Program} {o : Oper} {a : Act} {w W' : World} {K : Act → World → Prop} {Q : Exit → Act → World → Prop} {t k : TypeId} {x y : Operand} {m n : Value} (ho : o.op = Op.call { callee := Callee.builtin Builtin.delete, args := #[x, y], argTypes := #[t, k] })
    (hx : a.eval x = m) (hy : a.eval y = n) (hr : (Builtin.delete_ #[t, k] o.type #[m, n]).run P w = .ok (.tuple #[]) W') (h : K (a.put o.dst (.tuple #[])) W') : o.wp P a w K Q := by
  unfold Oper.wp
  simp [execOp, ho, resolve, invoke, builtin, hx, hy, hr, Result.andThen]
  exact h
/-- A row of one's own stays where no block from its base on is touched. -/
theorem own_blocks {w w' : World} {B : Nat} {e : TypeId} {size n : Nat} {v : Value} {xs : List Value} (h : w.ownsRow B e size v n xs) (hb : ∀ k, B ≤ k → k < w.heap.size → w'.heap[k]? = w.heap[k]?) : w'.ownsRow B e size v n xs := by
  refine ⟨h.1, ?_⟩
  rcases h.2 with hn | ⟨g, cap, cur, rfl, hbg, hgg, rest⟩
  · exact .inl hn
  · exact .inr ⟨g, cap, cur, rfl, hbg, (hb g hbg (Array.getElem?_eq_some_iff.1 hgg).1).trans hgg, rest⟩
theorem own_below {w w' : World} {B : Nat} {e : TypeId} {size n : Nat} {v : Value} {xs : List Value} (h : w.ownsRow B e size v n xs) (hb : Below w.heap.size w w') : w'.ownsRow B e size v n xs :=
  own_blocks h fun k _ hk => hb.block k hk
theorem Keeps.grown {F : Nat → Prop} {w a b : World} {row : Option Nat} (h : Keeps F w a) (g : a.grownBy b row) (hF : ∀ k, row = some k → F k ∨ w.heap.size ≤ k) : Keeps F w b :=
  ⟨g.os.trans h.os, g.tape.trans h.tape, g.output.trans h.output, Nat.le_trans h.size g.size, fun k hk hn => (g.block k (Nat.lt_of_lt_of_le hk h.size) (fun e => by rcases hF k e.symm with h1 | h1; exact hn h1; omega)).trans (h.block k hk hn)⟩
theorem news_row {w : World} {b : Nat} {cs : Array Value} {t : TypeId} {fr : Nat × Nat} (h : w.heap[b]? = some (.cells cs t fr)) : ∀ j u, cs.toList[j]? = some u → w.cell? ((⟨b, 0, none⟩ : Addr).add j) = some u := by
  intro j u hu
  rw [Addr.add_mid, cell_of_row w b _ _ _ _ h]
  simpa using hu
end Go.Proofs.YtnibehcgnhdcgaaGreatDoor
/- A device: a write. -/
namespace Go.Proofs.YtnibehcgnhdcgaaGreatDoor
open Go.RowKit

def rowsL (L : List (Int × List UInt8)) : List Value := L.flatMap fun p => (putA p.1 p.2).toList
/-- A device of n blocks; L is pending, its row lies from B on; no fuse. -/
structure DevP (w : World) (B db mb : Nat) (n : Int) (G L : List (Int × List UInt8)) : Prop where
  cells : ∃ sl wr, 0 ≤ wr ∧ wr < 18446744073709551616 ∧ w.heap[db]? = some (.cells (devA n mb sl wr) 81 (0, 0)) ∧ w.ownsRow B 52 257 sl L.length (rowsL L)
  map : MapAt w mb (encG G)
  good : ∀ p ∈ G, p.2.length = 256
  goodL : ∀ p ∈ L, p.2.length = 256
  hdb : db < B
  hmb : mb < B
  hB : B ≤ w.heap.size
theorem DevP.of_dev {w : World} {db mb B : Nat} {n : Int} {G : List (Int × List UInt8)} (h : DevAt w db mb n G) (h1 : db < B) (h2 : mb < B) (h3 : B ≤ w.heap.size) : DevP w B db mb n G [] := by
  obtain ⟨wr, a, b, c⟩ := h.cells
  exact ⟨⟨.slice none 0 0, wr, a, b, c, World.ownsRow_nil _ _ _ _⟩, h.map, h.good, by simp, h1, h2, h3⟩
theorem DevP.ne {w : World} {db mb B : Nat} {n : Int} {G L : List (Int × List UInt8)} (h : DevP w B db mb n G L) : mb ≠ db := by
  obtain ⟨sl, wr, a, b, c, d⟩ := h.cells
  obtain ⟨es, clock, e, _⟩ := h.map
  rintro rfl
  rw [c] at e
  cases e
/-- A world that keeps all blocks keeps a device with what is pending. -/
theorem DevP.below {w w' : World} {db mb B : Nat} {n : Int} {G L : List (Int × List UInt8)} (h : DevP w B db mb n G L) (hb : Below w.heap.size w w') : DevP w' B db mb n G L := by
  obtain ⟨sl, wr, a, b, c, d⟩ := h.cells
  have := h.hB
  have := h.hdb
  have := h.hmb
  exact ⟨⟨sl, wr, a, b, (hb.block db (by omega)).trans c, own_below d hb⟩, h.map.of_block (hb.block mb (by omega)), h.good, h.goodL, h.hdb, h.hmb, by have := hb.size; omega⟩

set_option maxRecDepth 100000 in
set_option maxHeartbeats 2000000 in
theorem write_any (B db mb : Nat) (n : Int) (G L : List (Int × List UInt8)) (a : Int) (ha : a < n) (b : List UInt8) (hb : b.length = 256) (hL : L.length ≤ 1000) (w : World) (hD : DevP w B db mb n G L) :
    Calls Tryz.prog 53 #[.pointer (some ⟨db, 0, none⟩), .int .u32 a, .agg (blkA b)] w fun e w' => e = .returned (.int .i64 0) ∧ DevP w' B db mb n G (L ++ [(a, b)]) ∧ Keeps (fun k => k = db ∨ B ≤ k) w w' := by
  obtain ⟨sl, wr, hw0, hw1, hg, hown⟩ := hD.cells
  have hdb := hD.hdb
  have hmb := hD.hmb
  have hB := hD.hB
  have hmd := hD.ne
  obtain ⟨i0, hi, hz0, hz1, hz2⟩ := info_parts info52
  obtain ⟨W0, hW0⟩ : ∃ W, W = w.alloc (.cells (blkA b) 41) := ⟨_, rfl⟩
  have hs0 : W0.heap.size = w.heap.size + 1 := by rw [hW0]; simp
  have hB0 : Below w.heap.size w W0 := by rw [hW0]; exact (Below.refl _ w).alloc (Nat.le_refl _) _
  have g0 : W0.heap[w.heap.size]? = some (.cells (blkA b) 41 (0, 0)) := by rw [hW0, hget_at _ _ rfl]
  have hfar := far_any db a W0
  rw [hs0] at hfar
  have c1 : ∀ W : World, Below w.heap.size w W → W.heap[db]? = some (.cells (devA n mb sl wr) 81 (0, 0)) := fun _ h => (h.block db (by omega)).trans hg
  have HC := hideIt c1
  have G0 := hideIt g0
  have HW0 := hideIt hW0
  have HO := hideIt hown
  have HD := hideIt hD
  clear hD hg hown hW0 g0 c1
  go_enter Tryz.func53, Tryz.ntmps53
  go_wp2_with (first
    | (go_at_call 51; rw [← HW0.out]; refine hfar.mono ?_; rintro e W1 ⟨rfl, hb1, hq0, hq1, hs1⟩
       have hb01 := hB0.trans (hb1.mono (by omega))
       have hd := HC.out _ (hb01.alloc (by omega) (.cells #[.int .i64 2, .func (.func 74) #[] #[.pointer (some ⟨w.heap.size + 1 + 1, 0, none⟩), .pointer (some ⟨w.heap.size + 1, 0, none⟩)]] 116))
       have hup := up_wr db mb (w.heap.size + 1 + 1) (w.heap.size + 1) W1.heap.size a n ha (W1.alloc (.cells #[.int .i64 2, .func (.func 74) #[] #[.pointer (some ⟨w.heap.size + 1 + 1, 0, none⟩), .pointer (some ⟨w.heap.size + 1, 0, none⟩)]] 116))
         (by rw [cell_of_row _ _ 1 _ _ _ hd]; rfl) (by rw [cell_of_row _ _ 0 _ _ _ hd]; rfl) (by rw [cell_of_row _ _ 4 _ _ _ hd]; rfl) (past_any hq1) (past_any hq0) (hget_at _ _ rfl)
       clear hd hq0 hq1)
    | (go_at_call 75; refine hup.mono ?_; rintro e W3 ⟨rfl, hb3⟩; clear hup))
  have hB3 : Below w.heap.size w W3 := (hb01.alloc (by omega) _).trans (hb3.mono (by simp; omega))
  have gb3 : W3.heap[w.heap.size]? = some (.cells (blkA b) 41 (0, 0)) := by
    rw [hb3.block _ (by simp; omega), hget_past _ _ (by omega), hb1.block _ (by omega), G0.out]
  have gd3 := HC.out _ hB3
  have own3 := own_below HO.out hB3
  have iB := size41' hb
  have hz3 : w.heap.size < W3.heap.size := (Array.getElem?_eq_some_iff.1 gb3).1
  -- the world behind the put's row
  obtain ⟨W4, hW4⟩ : ∃ W, W = W3.drew.alloc (.cells (putA a b) 52) := ⟨_, rfl⟩
  have gd4 : W4.heap[db]? = some (.cells (devA n mb sl wr) 81 (0, 0)) := by rw [hW4, hget_past _ _ (by show _ < W3.heap.size; omega), hget_drew, gd3]
  have gb4 : W4.heap[w.heap.size]? = some (.cells (blkA b) 41 (0, 0)) := by rw [hW4, hget_past _ _ (by show _ < W3.heap.size; omega), hget_drew, gb3]
  have gp4 : W4.heap[W3.heap.size]? = some (.cells (putA a b) 52 (0, 0)) := by rw [hW4]; exact hget_at _ _ rfl
  have own4 : W4.ownsRow B 52 257 sl L.length (rowsL L) := by rw [hW4]; exact (own3.drew).alloc _
  have hs4 : W4.heap.size = W3.heap.size + 1 := by rw [hW4]; simp
  have hB4 : Below w.heap.size w W4 := by rw [hW4]; exact (hB3.drew).alloc (by show _ ≤ W3.heap.size; omega) _
  have cs3 : W3.cell? ⟨db, 2, none⟩ = some sl := by rw [cell_of_row _ _ 2 _ _ _ gd3]; rfl
  have cs4 : W4.cell? ⟨db, 2, none⟩ = some sl := by rw [cell_of_row _ _ 2 _ _ _ gd4]; rfl
  have hnew := news_row gp4
  have hone : ∀ u ∈ (putA a b).toList, u.oneCell' = true := fun u hu => (Array.all_eq_true_iff_forall_mem.1 (putA_one a b)) u (by simpa using hu)
  have hsz : (putA a b).toList.length = 1 * 257 := by rw [Array.length_toList, putA_size, hb]
  have hbt := built52 a b hb
  have hbs : (Instr.buildSlice 48 1 #[(0, .agg (putA a b))]).run Tryz.prog W3.drew = .ok (.slice (some ⟨W3.heap.size, 0, none⟩) 1 1) W4 := by rw [run_bs48 a b hb, hW4]; rfl
  have hne : ∀ k, sl.ownBlock = some k → B ≤ k ∧ k < w.heap.size := by
    intro k hk
    rcases HO.out.2 with ⟨rfl, _⟩ | ⟨g, cap, cur, rfl, hbg, hgg, _⟩
    · cases hk
    · cases hk; exact ⟨hbg, (Array.getElem?_eq_some_iff.1 hgg).1⟩
  have K4 : Keeps (fun k => k = db ∨ B ≤ k) w W4 := Keeps.of_below hB4
  have fin : ∀ v' w1, w1.ownsRow B 52 257 v' (L.length + 1) (rowsL L ++ (putA a b).toList) → W4.grownBy w1 sl.ownBlock →
      w1.cell? ⟨db, 2, none⟩ = some sl ∧ w1.frozen? ⟨db, 2, none⟩ = false ∧ w1.heap[w.heap.size]? = some (.cells (blkA b) 41 (0, 0)) ∧
      Hid ((w1.setCell ⟨db, 2, none⟩ v').heap[db]? = some (.cells (devA n mb v' wr) 81 (0, 0))) ∧
      Hid (DevP ((w1.setCell ⟨db, 2, none⟩ v').setCell ⟨db, 5, none⟩ (.int .u64 ((wr + 1) % 18446744073709551616))) B db mb n G (L ++ [(a, b)]) ∧ Keeps (fun k => k = db ∨ B ≤ k) w ((w1.setCell ⟨db, 2, none⟩ v').setCell ⟨db, 5, none⟩ (.int .u64 ((wr + 1) % 18446744073709551616)))) := by
    intro v' w1 ho1 hg1
    have ed : w1.heap[db]? = some (.cells (devA n mb sl wr) 81 (0, 0)) := (hg1.block db (by omega) (fun e => by have := (hne _ e.symm).1; omega)).trans gd4
    have eb : w1.heap[w.heap.size]? = some (.cells (blkA b) 41 (0, 0)) := (hg1.block _ (by omega) (fun e => by have := (hne _ e.symm).2; omega)).trans gb4
    have ed2 : (w1.setCell ⟨db, 2, none⟩ v').heap[db]? = some (.cells (devA n mb v' wr) 81 (0, 0)) := hget_setCell_same db 2 _ _ v' ed
    have ed3 : ((w1.setCell ⟨db, 2, none⟩ v').setCell ⟨db, 5, none⟩ (.int .u64 ((wr + 1) % 18446744073709551616))).heap[db]? = some (.cells (devA n mb v' ((wr + 1) % 18446744073709551616)) 81 (0, 0)) := hget_setCell_same db 5 _ _ _ ed2
    have ek : ∀ k, k ≠ db → ((w1.setCell ⟨db, 2, none⟩ v').setCell ⟨db, 5, none⟩ (.int .u64 ((wr + 1) % 18446744073709551616))).heap[k]? = w1.heap[k]? := fun k hk => by rw [hget_setCell_other _ _ _ hk, hget_setCell_other _ _ _ hk]
    have K1 := K4.grown hg1 (fun k e => .inl (.inr (hne k e).1))
    have K5 : Keeps (fun k => k = db ∨ B ≤ k) w ((w1.setCell ⟨db, 2, none⟩ v').setCell ⟨db, 5, none⟩ (.int .u64 ((wr + 1) % 18446744073709551616))) := (K1.setCell (p := ⟨db, 2, none⟩) (.inr (.inl rfl)) _).setCell (p := ⟨db, 5, none⟩) (.inr (.inl rfl)) _
    refine ⟨by rw [cell_of_row _ _ 2 _ _ _ ed]; rfl, frozen_of_row _ _ _ _ _ ed, eb, ed2, ⟨⟨⟨v', _, by omega, by omega, ed3, ?_⟩, HD.out.map.of_block (K5.block mb (by omega) (by omega)), HD.out.good, ?_, hdb, hmb, by have := K5.size; omega⟩, K5⟩⟩
    · have e : rowsL (L ++ [(a, b)]) = rowsL L ++ (putA a b).toList := by simp [rowsL]
      rw [e, List.length_append]
      exact own_blocks ho1 (fun k hk _ => ek k (by omega))
    · intro p hp
      rcases List.mem_append.1 hp with hp | hp
      · exact HD.out.goodL p hp
      · simp at hp; subst hp; exact hb
  have FIN := hideIt fin
  have HIB := hideIt iB
  have G3 := hideIt gb3
  have OW4 := hideIt own4
  have HW4 := hideIt hW4
  have HNEW := hideIt hnew
  have HONE := hideIt hone
  have HSZ := hideIt hsz
  have HBT := hideIt hbt
  have HBS := hideIt hbs
  have GB4 := hideIt gb4
  clear fin iB gb3 gd3 own3 hW4 gd4 gb4 gp4 own4 hnew hone hsz hbt hbs hne hB3 hB4 hb3 hb01 hb1 hs1 HO HC G0 HW0
  refine wp_region_held (S := fun w' => w'.heap[w.heap.size]? = some (.cells (blkA b) 41 (0, 0))) (by kernel_rfl) ?_
  change wpAnyH _ _ _ _ _ _ _ _ (World.drew _)
  have hS : (fun w' : World => w'.heap[w.heap.size]? = some (.cells (blkA b) 41 (0, 0))) W3.drew := G3.out
  have HS := hideIt hS
  refine takeH 0 (v := ?_) rfl rfl (by kernel_rfl) (by kernel_rfl) (by kernel_rfl) (fun _ _ _ h => h) hS (yieldsIf_run rfl ?_) ?_
  rotate_left
  focus (intro w hSw; go_simp; try with_reducible rfl)
  simp only [List.setIfInBounds_toArray, List.set_cons_succ, List.set_cons_zero]
  refine takeH 1 (v := ?_) rfl rfl (by kernel_rfl) (by kernel_rfl) (by kernel_rfl) (fun _ _ _ h => h) hS (yieldsIf_run rfl ?_) ?_
  rotate_left
  focus (intro w hSw; go_simp; try with_reducible rfl)
  simp only [List.setIfInBounds_toArray, List.set_cons_succ, List.set_cons_zero]
  refine takeH 2 (v := ?_) rfl rfl (by kernel_rfl) (by kernel_rfl) (by kernel_rfl) (fun _ _ _ h => h) hS (yieldsIf_run rfl ?_) ?_
  rotate_left
  focus (intro w hSw; go_simp; try with_reducible rfl)
  simp only [List.setIfInBounds_toArray, List.set_cons_succ, List.set_cons_zero]
  refine takeH 3 (v := ?_) rfl rfl (by kernel_rfl) (by kernel_rfl) (by kernel_rfl) (fun _ _ _ h => h) hS (yieldsIf_run rfl ?_) ?_
  rotate_left
  focus (intro w hSw; go_simp; try with_reducible rfl)
  simp only [List.setIfInBounds_toArray, List.set_cons_succ, List.set_cons_zero]
  refine takeH 5 (v := ?_) rfl rfl (by kernel_rfl) (by kernel_rfl) (by kernel_rfl) (fun _ _ _ h => h) hS (yieldsIf_run rfl ?_) ?_
  rotate_left
  focus (intro w hSw; go_simp; try with_reducible rfl)
  simp only [List.setIfInBounds_toArray, List.set_cons_succ, List.set_cons_zero]
  refine takeH 6 rfl rfl (by kernel_rfl) (by kernel_rfl) (by kernel_rfl) (fun _ _ _ h => h) hS (yieldsIf_load_row rfl rfl w.heap.size rfl (fun _ h => h) Tryz.underlying41 rfl HIB.out) ?_
  simp only [List.setIfInBounds_toArray, List.set_cons_succ, List.set_cons_zero]
  refine takeH 7 rfl rfl (by kernel_rfl) (by kernel_rfl) (by kernel_rfl) (fun _ _ _ h => h) hS (yieldsIf_build (l := [(0, .int .u32 a), (1, .agg (blkA b))]) rfl rfl (by simp [Act.eval]) HBT.out) ?_
  simp only [List.setIfInBounds_toArray, List.set_cons_succ, List.set_cons_zero]
  refine anyH_two (i := 4) (j := 8) (by kernel_rfl) rfl rfl rfl rfl (fun K hK => ?ja) (fun K hK => ?jb)
  case' ja =>
    go_simp
    refine hK _ _ (HS.out) ?_
    clear hK K
    try simp only [Act.put, List.setIfInBounds_toArray, List.set_cons_succ, List.set_cons_zero]
    refine anyH_step (i := 8) (by kernel_rfl) rfl rfl (fun K hK => ?_)
    refine wp_bs (l := #[(0, .agg (putA a b))]) rfl (by simp [Act.eval]) HBS.out ?_
    refine hK _ _ (GB4.out) ?_
    clear hK K
    try simp only [Act.put, List.setIfInBounds_toArray, List.set_cons_succ, List.set_cons_zero]
  case' jb =>
    refine wp_bs (l := #[(0, .agg (putA a b))]) rfl (by simp [Act.eval]) HBS.out ?_
    refine hK _ _ (GB4.out) ?_
    clear hK K
    try simp only [Act.put, List.setIfInBounds_toArray, List.set_cons_succ, List.set_cons_zero]
    refine anyH_step (i := 4) (by kernel_rfl) rfl rfl (fun K hK => ?_)
    go_simp
    refine hK _ _ (GB4.out) ?_
    clear hK K
    try simp only [Act.put, List.setIfInBounds_toArray, List.set_cons_succ, List.set_cons_zero]
  all_goals
    clear hS
    refine anyH_step (i := 9) (by kernel_rfl) rfl rfl (fun K hK => ?_)
    refine wp_append_own _ _ _ _ rfl B 52 i0 (.agg (putA 0 zb)) 257 260 Tryz.underlying48 hi hz0 hz1 hz2 (putA_size 0 zb) (by decide) sl L.length (rowsL L) (by rfl) OW4.out ⟨W3.heap.size, 0, none⟩ 1 1 _ rfl HSZ.out HNEW.out HONE.out (by unfold maxLen; omega) (by omega) (by omega) ?_
    intro v1 w1 ho1 hg1 hn1
    obtain ⟨g1, p1, rfl⟩ : ∃ g c, v1 = .slice (some ⟨g, 0, none⟩) (L.length + 1) c := by
      rcases ho1.2 with ⟨_, h⟩ | ⟨g, cap, cur, rfl, _⟩
      · omega
      · exact ⟨g, cap, rfl⟩
    obtain ⟨c2, f2, hS, GD, FD⟩ := FIN.out _ w1 ho1 hg1
    clear ho1 hg1 hn1
    have HS1 := hideIt hS
    refine hK _ _ (HS1.out) ?_
    clear hK K
    try simp only [Act.put, List.setIfInBounds_toArray, List.set_cons_succ, List.set_cons_zero]
    refine takeH 10 (v := ?_) rfl rfl (by kernel_rfl) (by kernel_rfl) (by kernel_rfl) (fun _ _ _ h => h) hS (yieldsIf_run rfl ?_) ?_
    rotate_left
    focus (intro w hSw; go_simp; try with_reducible rfl)
    simp only [List.setIfInBounds_toArray, List.set_cons_succ, List.set_cons_zero]
    refine takeH 11 (v := ?_) rfl rfl (by kernel_rfl) (by kernel_rfl) (by kernel_rfl) (fun _ _ _ h => h) hS (yieldsIf_run rfl ?_) ?_
    rotate_left
    focus (intro w hSw; go_simp; try with_reducible rfl)
    simp only [List.setIfInBounds_toArray, List.set_cons_succ, List.set_cons_zero]
    clear hS
    refine anyH_step (i := 12) (by kernel_rfl) rfl rfl (fun K hK => ?_)
    go_simp
    refine hK _ _ ((hget_setCell_other ⟨db, 2, none⟩ _ w.heap.size (Nat.ne_of_gt (by show db < _; omega))).trans HS1.out) ?_
    clear hK K
    try simp only [Act.put, List.setIfInBounds_toArray, List.set_cons_succ, List.set_cons_zero]
    refine wpAnyH_done (by kernel_rfl) ?_ _
    have hbu := burn_any db mb n _ wr _ GD.out
    go_wp2_with fail
    go_wp2_with (first
      | (go_at_call 76; with_reducible refine hbu.mono ?_; rintro e w' ⟨rfl, rfl⟩))
    go_ret
    exact ⟨rfl, FD.out⟩
end Go.Proofs.YtnibehcgnhdcgaaGreatDoor
