/- Small lemmas on worlds, rows of cells and whole values, used by all walks of this claim. -/
import Derived.Test.YtnibehcgnhdcgaaGreatDoorProg
import Derived.WalkKit
import Derived.WalkSpells
import Derived.WalkLawsBesides
import Derived.Deep.LoopGhost
import Derived.Deep.QuietTactic
import Derived.Deep.WholeRow
import Derived.Deep.MidRow
import Derived.BigQuiet
import Derived.Handy
namespace Go.Proofs.YtnibehcgnhdcgaaGreatDoor
open Go.RowKit

/-- A fact laid aside, so that the walk does not rewrite by it. -/
theorem hideIt {p : Prop} (h : p) : Hid p := h

/-! ### bytes, blocks -/
def byteV (b : UInt8) : Value := .int .u8 (b.toNat : Int)
def blkA (b : List UInt8) : Array Value := (b.map byteV).toArray
def zb : List UInt8 := List.replicate 256 0

theorem blkA_size (b : List UInt8) : (blkA b).size = b.length := by simp [blkA]
theorem zb_length : zb.length = 256 := by rw [zb, List.length_replicate]
theorem zbA_size : (blkA zb).size = 256 := by rw [blkA_size, zb_length]
theorem blkA_get (b : List UInt8) (i : Nat) : (blkA b)[i]? = b[i]?.map byteV := by simp [blkA]
theorem blkA_one (b : List UInt8) : (blkA b).all (·.oneCell') = true := by
  simp [blkA, byteV, Value.oneCell']
theorem blkA_set (b : List UInt8) (i : Nat) (x : UInt8) : (blkA b).setIfInBounds i (byteV x) = blkA (b.set i x) := by
  apply Array.ext_getElem?
  intro k
  simp only [Array.getElem?_setIfInBounds, blkA_get, blkA_size, List.getElem?_set]
  by_cases h : i = k
  · subst h; by_cases h2 : i < b.length <;> simp [h2]
  · simp [h]

/-- The low byte of a number. -/
def toB (x : Int) : UInt8 := UInt8.ofNat (x % 256).toNat
theorem byteV_toB (x : Int) : byteV (toB x) = .int .u8 (x % 256) := by
  simp only [byteV, toB, UInt8.toNat_ofNat']
  congr 1
  omega
theorem toB_toNat (x : Int) : ((toB x).toNat : Int) = x % 256 := by
  simp only [toB, UInt8.toNat_ofNat']
  omega
theorem foldl_push (l : List UInt8) (s : ByteArray) :
    (l.map fun b => (b.toNat : Int)).foldl (fun r n => r.push (UInt8.ofNat n.toNat)) s = ⟨s.data ++ l.toArray⟩ := by
  induction l generalizing s with
  | nil => simp
  | cons b r ih =>
    simp only [List.map_cons, List.foldl_cons, Int.toNat_natCast, UInt8.ofNat_toNat, ih]
    congr 1
    simp [ByteArray.push]
/-- 'string(b[i:j])' -/
theorem run_string_of {P : Program} (w : World) (src dst e : TypeId) (a : Addr) (cap : Nat) (l : List UInt8)
    (hs : P.underlying src = some (.slice e)) (he : P.underlying e = some (.int .u8)) (hd : P.underlying dst = some .string)
    (hc : ∀ j v, (l.map byteV)[j]? = some v → w.cell? (a.add j) = some v) :
    (convert src dst (.slice (some a) l.length cap)).run P w = .ok (.string ⟨l.toArray⟩) w := by
  rw [run_convert_bytes_string w src dst e _ _ _ hs he hd]
  have hl := run_loadCells_list (P := P) w a (l.map byteV) hc
  have e1 : l.map byteV = (l.map fun b => (b.toNat : Int)).map (Value.int .u8) := by simp [byteV]
  rw [e1] at hl
  have hlen : ((l.map fun b => (b.toNat : Int)).map (Value.int .u8)).length = l.length := by simp
  rw [hlen] at hl
  rw [run_bytesToString w a _ cap _ hl, foldl_push]
  simp [ByteArray.empty, ByteArray.emptyWithCapacity]
  rfl

/-! ### the heap, block by block -/
section
variable {w : World}
theorem hget_at (o : Obj) (n : Nat) (hn : n = w.heap.size) : (w.alloc o).heap[n]? = some o := by
  subst hn
  show (w.heap.push o)[w.heap.size]? = some o
  simp
theorem hget_past (o : Obj) (n : Nat) (hn : n < w.heap.size) : (w.alloc o).heap[n]? = w.heap[n]? := by
  show (w.heap.push o)[n]? = w.heap[n]?
  rw [Array.getElem?_push, if_neg (Nat.ne_of_lt hn)]
theorem hget_drew (n : Nat) : w.drew.heap[n]? = w.heap[n]? := rfl
theorem hget_drewN (n k : Nat) : (w.drewN k).heap[n]? = w.heap[n]? := rfl
theorem hget_setCell_other (a : Addr) (v : Value) (n : Nat) (h : n ≠ a.block) : (w.setCell a v).heap[n]? = w.heap[n]? := heap_setCell_other w a n v h
theorem hget_setCell_same (n i : Nat) (cs : Array Value) (t : TypeId) (v : Value) (hg : w.heap[n]? = some (.cells cs t (0, 0))) :
    (w.setCell ⟨n, i, none⟩ v).heap[n]? = some (.cells (cs.setIfInBounds i v) t (0, 0)) := heap_setCell_same w n i cs t v hg
theorem hget_setRow_other (g n : Nat) (cs : Array Value) (h : n ≠ g) : (w.setRow g cs).heap[n]? = w.heap[n]? := setRow_other w g n cs h
theorem setRow_at (c c' : Array Value) (t : TypeId) (n : Nat) (hn : n = w.heap.size) : (w.alloc (.cells c t)).setRow n c' = w.alloc (.cells c' t) := by
  subst hn; exact World.setRow_alloc_new w c c' t
theorem setRow_past (o : Obj) (n : Nat) (c : Array Value) (hn : n < w.heap.size) : (w.alloc o).setRow n c = (w.setRow n c).alloc o := by
  unfold World.setRow World.alloc
  congr 1
  apply Array.ext_getElem?
  intro k
  simp only [Array.getElem?_modify, Array.getElem?_push, Array.size_modify]
  by_cases hk : k = w.heap.size
  · subst hk; simp [Nat.ne_of_lt hn]
  · simp [hk]
theorem setRow_drew (n : Nat) (c : Array Value) : w.drew.setRow n c = (w.setRow n c).drew := rfl
end

theorem below_setRow {B : Nat} {a w : World} (h : Below B a w) {g : Nat} (hg : B ≤ g) (c : Array Value) : Below B a (w.setRow g c) :=
  h.trans ⟨rfl, rfl, rfl, by simp, fun k hk => hget_setRow_other g k c (by omega)⟩
theorem below_drewN {B : Nat} {a w : World} (h : Below B a w) (n : Nat) : Below B a (w.drewN n) := ⟨h.os, h.tape, h.output, h.size, h.block⟩

/-! ### what a call keeps: all blocks that were there but those in F -/
structure Keeps (F : Nat → Prop) (w w' : World) : Prop where
  os : w'.os = w.os
  tape : w'.tape = w.tape
  output : w'.output = w.output
  size : w.heap.size ≤ w'.heap.size
  block : ∀ k, k < w.heap.size → ¬ F k → w'.heap[k]? = w.heap[k]?

theorem Keeps.refl (F : Nat → Prop) (w : World) : Keeps F w w := ⟨rfl, rfl, rfl, Nat.le_refl _, fun _ _ _ => rfl⟩
theorem Keeps.trans {F : Nat → Prop} {a b c : World} (h : Keeps F a b) (k : Keeps F b c) : Keeps F a c :=
  ⟨k.os.trans h.os, k.tape.trans h.tape, k.output.trans h.output, Nat.le_trans h.size k.size,
   fun i hi hF => (k.block i (Nat.lt_of_lt_of_le hi h.size) hF).trans (h.block i hi hF)⟩
theorem Keeps.mono {F G : Nat → Prop} {w w' : World} (h : Keeps F w w') (hFG : ∀ k, k < w.heap.size → F k → G k) : Keeps G w w' :=
  ⟨h.os, h.tape, h.output, h.size, fun k hk hG => h.block k hk fun hF => hG (hFG k hk hF)⟩
theorem Keeps.of_below {F : Nat → Prop} {w w' : World} (h : Below w.heap.size w w') : Keeps F w w' :=
  ⟨h.os, h.tape, h.output, h.size, fun k hk _ => h.block k hk⟩
theorem Keeps.below {F : Nat → Prop} {w w' : World} (h : Keeps F w w') {B : Nat} (hB : B ≤ w.heap.size) (hF : ∀ k, F k → B ≤ k) : Below B w w' :=
  ⟨h.os, h.tape, h.output, h.size, fun k hk => h.block k (by omega) fun hk' => by have := hF k hk'; omega⟩
theorem Keeps.cell {F : Nat → Prop} {w w' : World} (h : Keeps F w w') {p : Addr} (hp : p.block < w.heap.size) (hF : ¬ F p.block) : w'.cell? p = w.cell? p :=
  World.cell?_of_block (w := w) (h.block p.block hp hF)
theorem Keeps.frozen {F : Nat → Prop} {w w' : World} (h : Keeps F w w') {p : Addr} (hp : p.block < w.heap.size) (hF : ¬ F p.block) : w'.frozen? p = w.frozen? p :=
  World.frozen?_of_block (w := w) (h.block p.block hp hF)
theorem Keeps.alloc {F : Nat → Prop} {a w : World} (h : Keeps F a w) (o : Obj) : Keeps F a (w.alloc o) :=
  ⟨h.os, h.tape, h.output, by have := h.size; simp; omega, fun k hk hF => by
    rw [hget_past o k (by have := h.size; omega)]; exact h.block k hk hF⟩
theorem Keeps.drew {F : Nat → Prop} {a w : World} (h : Keeps F a w) : Keeps F a w.drew := ⟨h.os, h.tape, h.output, h.size, h.block⟩
theorem Keeps.drewN {F : Nat → Prop} {a w : World} (h : Keeps F a w) (n : Nat) : Keeps F a (w.drewN n) := ⟨h.os, h.tape, h.output, h.size, h.block⟩
theorem Keeps.setCell {F : Nat → Prop} {a w : World} (h : Keeps F a w) {p : Addr} (hp : a.heap.size ≤ p.block ∨ F p.block) (u : Value) : Keeps F a (w.setCell p u) :=
  ⟨h.os, h.tape, h.output, by have := h.size; simp [World.setCell]; omega, fun k hk hF => by
    rw [hget_setCell_other p u k (by rintro rfl; rcases hp with hp | hp; omega; exact hF hp)]; exact h.block k hk hF⟩
theorem Keeps.setRow {F : Nat → Prop} {a w : World} (h : Keeps F a w) {g : Nat} (hp : a.heap.size ≤ g ∨ F g) (c : Array Value) : Keeps F a (w.setRow g c) :=
  ⟨h.os, h.tape, h.output, by have := h.size; simp; omega, fun k hk hF => by
    rw [hget_setRow_other g k c (by rintro rfl; rcases hp with hp | hp; omega; exact hF hp)]; exact h.block k hk hF⟩

/-! ### steps of a list of operations at values of many cells -/
section
variable {P : Program} {ops : Array Oper} {Q : Exit → Act → World → Prop} {rest : List Oper} {w : World} {T : Array Value} {D : List Deferred}

/-- 'var x T' (its zero value) -/
theorem wl_alloc {d ty tt : Nat} {pos : String} {af : Array Edge} {zc : Array Value} (hz : ∀ w, (zeroValue ty).run P w = .ok (.agg zc) w)
    (h : wpList P ops Q rest (Act.put ⟨T, D⟩ (some d) (.pointer (some ⟨w.heap.size, 0, none⟩))) (w.alloc (.cells zc ty))) :
    wpList P ops Q ({ dst := some d, op := .alloc ty, type := tt, pos := pos, after := af, guard := none } :: rest) ⟨T, D⟩ w := by
  refine wpList_plain rfl fun K hK => ?_
  unfold Oper.wp execOp
  simp only [Instr.alloc, Sem.run_bind, hz, Result.andThen_ok, newVar, newRow]
  exact hK _ _ h
/-- 'T{}' (its zero value) -/
theorem wl_build0 {d ty tt : Nat} {pos : String} {af : Array Edge} {cs : Array Value} (hf : P.built ty [] = some cs)
    (h : wpList P ops Q rest (Act.put ⟨T, D⟩ (some d) (.agg cs)) w) :
    wpList P ops Q ({ dst := some d, op := .build ty #[], type := tt, pos := pos, after := af, guard := none } :: rest) ⟨T, D⟩ w := by
  refine wpList_build rfl ty #[] rfl (by simp [hf]) ?_
  simpa [hf] using h
/-- 'x := v', x a new variable of a row's type -/
theorem wl_alloc_store {d e ty tt tt' : Nat} {pos pos' : String} {af af' : Array Edge} {zc : Array Value} {cs : Array Value} (hz : ∀ w, (zeroValue ty).run P w = .ok (.agg zc) w)
    (hd : d < T.size) (hne : (e == d) = false) (hy : T.getD e undef = .agg cs) (hi : (P.info? ty).map (·.size) = some cs.size) (hs : zc.size = cs.size) (h1 : cs.all (·.oneCell') = true)
    (h : wpList P ops Q rest (Act.put ⟨T, D⟩ (some d) (.pointer (some ⟨w.heap.size, 0, none⟩))) (w.alloc (.cells cs ty))) :
    wpList P ops Q ({ dst := some d, op := .alloc ty, type := tt, pos := pos, after := af, guard := none } :: { dst := none, op := .store ty (.tmp d) (.tmp e), type := tt', pos := pos', after := af', guard := none } :: rest) ⟨T, D⟩ w := by
  refine wl_alloc hz ?_
  refine wpList_store_row rfl ty (.tmp d) (.tmp e) rfl w.heap.size cs ?_ ?_ ty zc (hget_at _ _ rfl) hi hs h1 ?_
  · simp [Act.eval, Act.put, hd]
  · have hne' : e ≠ d := by simpa using hne
    have hy' : T[e]?.getD undef = .agg cs := by simpa using hy
    simpa [Act.eval, Act.put, Array.getElem?_setIfInBounds, hne', Ne.symm hne'] using hy'
  · rw [setRow_at _ _ _ _ rfl]
    exact h
/-- a whole row read out of a variable -/
theorem wl_load {d ty tt x : Nat} {pos : String} {af : Array Edge} {g : Nat} {cs : Array Value} {t : TypeId} {fr : Nat × Nat} {dd : TypeDesc}
    (hx : T.getD x undef = .pointer (some ⟨g, 0, none⟩)) (hg : w.heap[g]? = some (.cells cs t fr)) (hu : P.underlying ty = some dd)
    (hd : (match dd with | .struct _ | .array _ _ => true | _ => false) = true) (hi : (P.info? ty).map (·.size) = some cs.size)
    (h : wpList P ops Q rest (Act.put ⟨T, D⟩ (some d) (.agg cs)) w) :
    wpList P ops Q ({ dst := some d, op := .load ty (.tmp x), type := tt, pos := pos, after := af, guard := none } :: rest) ⟨T, D⟩ w :=
  wpList_load_row rfl ty (.tmp x) rfl g hx t cs fr dd hg hu hd hi h
/-- a whole row into a variable -/
theorem wl_store {ty tt x : Nat} {y : Operand} {pos : String} {af : Array Edge} {g : Nat} {cs old : Array Value} {t : TypeId}
    (hx : T.getD x undef = .pointer (some ⟨g, 0, none⟩)) (hy : (Act.mk T D).eval y = .agg cs) (hg : w.heap[g]? = some (.cells old t (0, 0)))
    (hi : (P.info? ty).map (·.size) = some cs.size) (ho : old.size = cs.size) (h1 : cs.all (·.oneCell') = true)
    (h : wpList P ops Q rest ⟨T, D⟩ (w.setRow g cs)) :
    wpList P ops Q ({ dst := none, op := .store ty (.tmp x) y, type := tt, pos := pos, after := af, guard := none } :: rest) ⟨T, D⟩ w :=
  wpList_store_row rfl ty (.tmp x) y rfl g cs hx hy t old hg hi ho h1 h
/-- what a call has handed back: a field of a tuple -/
theorem wl_extract {d tt x i : Nat} {pos : String} {af : Array Edge} {vs : Array Value} {v : Value}
    (hx : T.getD x undef = .tuple vs) (hv : vs[i]? = some v) (h : wpList P ops Q rest (Act.put ⟨T, D⟩ (some d) v) w) :
    wpList P ops Q ({ dst := some d, op := .extract (.tmp x) i, type := tt, pos := pos, after := af, guard := none } :: rest) ⟨T, D⟩ w := by
  refine wpList_plain rfl fun K hK => ?_
  unfold Oper.wp execOp
  have e : (Act.mk T D).eval (.tmp x) = .tuple vs := hx
  simp only [e, Instr.extract, hv]
  exact hK _ _ h
end

/-! ### returns that hand a row back -/
theorem ret_cell {P : Program} {fn : Func} {R : Ending → World → Prop} {T : Array Value} {w : World} {p ty g : Nat} {t : TypeId} {cs : Array Value} {fr : Nat × Nat} {dd : TypeDesc}
    (hr : fn.results = #[.cell p ty]) (hp : T.getD p undef = .pointer (some ⟨g, 0, none⟩)) (hg : w.heap[g]? = some (.cells cs t fr)) (hu : P.underlying ty = some dd)
    (hd : (match dd with | .struct _ | .array _ _ => true | _ => false) = true) (hi : (P.info? ty).map (·.size) = some cs.size) (h : R (.returned (.agg cs)) w) :
    bodyPost P fn R .ret ⟨T, []⟩ w :=
  bodyPost_ret (results_cell_row hr T w g t cs fr dd hp hg hu hd hi) rfl h
theorem ret_cell_tmp {P : Program} {fn : Func} {R : Ending → World → Prop} {T : Array Value} {w : World} {p ty g q : Nat} {t : TypeId} {cs : Array Value} {fr : Nat × Nat} {dd : TypeDesc} {v : Value}
    (hr : fn.results = #[.cell p ty, .tmp q]) (hp : T.getD p undef = .pointer (some ⟨g, 0, none⟩)) (hq : T.getD q undef = v) (hg : w.heap[g]? = some (.cells cs t fr)) (hu : P.underlying ty = some dd)
    (hd : (match dd with | .struct _ | .array _ _ => true | _ => false) = true) (hi : (P.info? ty).map (·.size) = some cs.size) (h : R (.returned (.tuple #[.agg cs, v])) w) :
    bodyPost P fn R .ret ⟨T, []⟩ w := by
  have hp' : T[p]?.getD undef = .pointer (some ⟨g, 0, none⟩) := by simpa using hp
  have hq' : T[q]?.getD undef = v := by simpa using hq
  exact bodyPost_ret (v := .tuple #[.agg cs, v]) (by simp [results, hr, hp', hq', asAddr, run_loadVar_row w g t ty cs fr dd hg hu hd hi]) rfl h

/-! ### the types' rows of this program -/
theorem zero41 : ∀ w, (zeroValue 41).run Tryz.prog w = .ok (.agg (blkA zb)) w :=
  (zero_of_info (t := 41) (v := .agg (blkA zb)) (n := 256) (by kernel_rfl)).1
theorem size41 : (Tryz.prog.info? 41).map (·.size) = some 256 := by kernel_rfl
theorem size41' {b : List UInt8} (hb : b.length = 256) : (Tryz.prog.info? 41).map (·.size) = some (blkA b).size := by rw [blkA_size, hb]; exact size41
theorem built41 : Tryz.prog.built 41 [] = some (blkA zb) := by kernel_rfl

end Go.Proofs.YtnibehcgnhdcgaaGreatDoor
/- Checksums: what the program's table, sum, seal and tests of blocks compute. -/
namespace Go.Proofs.YtnibehcgnhdcgaaGreatDoor
open Go.RowKit

/-- One bit of a table's entry. -/
def stepI (x : Int) : Int := if 0 < bits .and .u32 x 2147483648 then bits .xor .u32 (x * 2 % 4294967296) 79764919 else x * 2 % 4294967296
def stepN : Nat → Int → Int
  | 0, x => x
  | n + 1, x => stepI (stepN n x)
theorem stepN_succ (n : Nat) (x : Int) : stepN (n + 1) x = stepI (stepN n x) := rfl
def tabF (i : Nat) : Int := stepN 4 ((i : Int) * 268435456)
/-- The table with its first i entries. -/
def tabA (i : Nat) : Array Value := (Array.range 16).map fun j => .int .u32 (if j < i then tabF j else 0)
theorem tabA_size (i : Nat) : (tabA i).size = 16 := by simp [tabA]
theorem tabA_get (i j : Nat) (h : j < 16) : (tabA i)[j]? = some (.int .u32 (if j < i then tabF j else 0)) := by simp [tabA, h]
theorem tabA_set (i : Nat) (h : i < 16) : (tabA i).setIfInBounds i (.int .u32 (tabF i)) = tabA (i + 1) := by
  apply Array.ext_getElem?
  intro k
  rw [Array.getElem?_setIfInBounds]
  by_cases hk : k < 16
  · rw [tabA_get i k hk, tabA_get (i + 1) k hk, tabA_size]
    by_cases h2 : i = k
    · subst h2; simp [h]
    · simp [h2, show (k < i + 1) = (k < i) from by simp; omega]
  · rw [Array.getElem?_eq_none (by simp [tabA_size]; omega), Array.getElem?_eq_none (by simp [tabA_size]; omega)]
    split
    · omega
    · rfl
theorem tabA_zero : tabA 0 = #[.int .u32 0, .int .u32 0, .int .u32 0, .int .u32 0, .int .u32 0, .int .u32 0, .int .u32 0, .int .u32 0, .int .u32 0, .int .u32 0, .int .u32 0, .int .u32 0, .int .u32 0, .int .u32 0, .int .u32 0, .int .u32 0] := by kernel_rfl
theorem size188 : (Tryz.prog.info? 188).map (·.size) = some 16 := by kernel_rfl
theorem zero188 : ∀ w, (zeroValue 188).run Tryz.prog w = .ok (.agg (tabA 0)) w :=
  (zero_of_info (t := 188) (v := .agg (tabA 0)) (n := 16) (by kernel_rfl)).1

set_option maxHeartbeats 1000000 in
theorem table_any (w : World) :
    Calls Tryz.prog 121 #[] w fun e w' => e = .returned (.agg (tabA 16)) ∧ Below w.heap.size w w' := by
  go_enter Tryz.func121, Tryz.ntmps121
  go_wp2
  go_loopw [4] (fun v4 w1 => ∃ (i : Nat), i ≤ 16 ∧ v4 = .int .i64 i ∧ w1 = w.alloc (.cells (tabA i) 188)) (fun v4 _ => 16 - (intOf v4).toNat)
  case atStart => exact ⟨0, by omega, rfl, by rw [tabA_zero]⟩
  case round =>
    obtain ⟨i, hi, rfl, rfl⟩ := hrel
    by_cases h16 : i < 16
    · have hsz := tabA_size i
      go_wp2
      go_loop [10, 2] (fun v10 v2 => ∃ (k : Nat), k ≤ 4 ∧ v10 = .int .i64 k ∧ v2 = .int .u32 (stepN k ((i : Int) * 268435456))) (fun v10 _ => 4 - (intOf v10).toNat)
      case atStart => exact ⟨0, by omega, rfl, rfl⟩
      case round =>
        obtain ⟨k, hk, rfl, rfl⟩ := hrel
        have hst := stepN_succ k ((i : Int) * 268435456)
        have Hst := hideIt hst
        clear hst
        generalize hx : stepN k ((i : Int) * 268435456) = x at Hst ⊢
        have Hx := hideIt hx
        clear hx
        by_cases hk4 : k < 4
        · go_wp2
          · have hb : 0 < bits BinOp.and IntKind.u32 x 2147483648 := by assumption
            go_round
            case rel => exact ⟨k + 1, by omega, by go_num, by rw [Hst.out, stepI, if_pos hb]⟩
            case measure => simp [intOf]; omega
          · have hb : bits BinOp.and IntKind.u32 x 2147483648 ≤ 0 := by assumption
            go_round
            case rel => exact ⟨k + 1, by omega, by go_num, by rw [Hst.out, stepI, if_neg (by omega)]⟩
            case measure => simp [intOf]; omega
        · have hk4' : k = 4 := by omega
          have hxf : x = tabF i := by rw [← Hx.out, hk4']; rfl
          clear Hst Hx
          go_wp2
          go_roundw
          case rel => exact ⟨i + 1, by omega, by go_num, by rw [tabA_set i h16]⟩
          case measure => simp [intOf]; omega
    · have h16' : i = 16 := by omega
      subst h16'
      have hsz := tabA_size 16
      have hone : (tabA 16).all (·.oneCell') = true := by kernel_rfl
      obtain ⟨cs, hcs⟩ : ∃ cs, cs = tabA 16 := ⟨_, rfl⟩
      rw [← hcs] at hsz hone ⊢
      have Hcs := hideIt hcs
      clear hcs
      have hg : (w.alloc (.cells cs 188)).heap[w.heap.size]? = some (.cells cs 188 (0, 0)) := hget_at _ _ rfl
      go_wp2_with (first
        | (with_reducible refine wl_load rfl hg Tryz.underlying188 rfl (by rw [hsz]; exact size188) ?_)
        | (with_reducible refine wl_store rfl rfl hg (by rw [hsz]; exact size188) rfl hone ?_))
      rw [setRow_at _ _ _ _ rfl]
      exact ret_cell rfl rfl hg Tryz.underlying188 rfl (by rw [hsz]; exact size188) ⟨by rw [Hcs.out], (Below.refl _ _).alloc (Nat.le_refl _) _⟩

/-- Half a byte. -/
def nibI (x v : Int) : Int := bits .xor .u32 (x * 16 % 4294967296) (tabF (bits .xor .u8 (x / 268435456) v).toNat)
def byteI (x : Int) (b : UInt8) : Int := nibI (nibI x ((b.toNat : Int) / 16)) ((b.toNat : Int) % 16)
def crcI (x : Int) : List UInt8 → Int
  | [] => x
  | b :: r => crcI (byteI x b) r
theorem crcI_snoc (x : Int) (l : List UInt8) (b : UInt8) : crcI x (l ++ [b]) = byteI (crcI x l) b := by
  induction l generalizing x with
  | nil => rfl
  | cons c r ih => exact ih _

/-- The checksum. -/
def crcSum (l : List UInt8) : Int := bits .xor .u32 4294967295 (crcI 4294967295 l)
theorem xor_u32_range (a b : Int) : 0 ≤ bits .xor .u32 a b ∧ bits .xor .u32 a b < 4294967296 := by
  simp only [bits, IntKind.wrap_u32]
  omega
theorem nibI_range (x v : Int) : 0 ≤ nibI x v ∧ nibI x v < 4294967296 := xor_u32_range _ _
theorem crcI_range (x : Int) (h : 0 ≤ x ∧ x < 4294967296) (l : List UInt8) : 0 ≤ crcI x l ∧ crcI x l < 4294967296 := by
  induction l generalizing x with
  | nil => exact h
  | cons b r ih => exact ih _ (nibI_range _ _)
theorem xor_u8_16 (a b : Int) (ha : 0 ≤ a ∧ a < 16) (hb : 0 ≤ b ∧ b < 16) : 0 ≤ bits .xor .u8 a b ∧ bits .xor .u8 a b < 16 := by
  have key : ∀ m n : Fin 16, 0 ≤ bits .xor .u8 (m.val : Int) (n.val : Int) ∧ bits .xor .u8 (m.val : Int) (n.val : Int) < 16 := by decide +kernel
  have := key ⟨a.toNat, by omega⟩ ⟨b.toNat, by omega⟩
  simpa [Int.toNat_of_nonneg ha.1, Int.toNat_of_nonneg hb.1] using this

set_option maxRecDepth 100000 in
set_option maxHeartbeats 1000000 in
theorem sum_any (s : ByteArray) (w : World) (hs : s.size ≤ 1000) :
    Calls Tryz.prog 108 #[.string s] w fun e w' => e = .returned (.int .u32 (crcSum s.data.toList)) ∧ Below w.heap.size w w' := by
  have ht := fun w => table_any w
  have hone : (tabA 16).all (·.oneCell') = true := by kernel_rfl
  go_enter Tryz.func108, Tryz.ntmps108
  go_wp2_with (first
    | (go_at_call 121; refine (ht _).mono ?_; rintro e w1 ⟨rfl, hb⟩)
    | (with_reducible refine wl_alloc_store zero188 (by simp) rfl rfl (size188.trans (congrArg some (tabA_size 16).symm)) ((tabA_size 0).trans (tabA_size 16).symm) hone ?_))
  have hsz : ∀ q, ((w1.alloc (.cells (tabA 16) 188)).drewN q).heap[w1.heap.size]? = some (.cells (tabA 16) 188 (0, 0)) := fun q => hget_at _ _ rfl
  generalize hW : w1.alloc (.cells (tabA 16) 188) = W at hsz ⊢
  have hB : Below w.heap.size w W := by rw [← hW]; exact hb.alloc hb.size _
  have HW := hideIt hW
  clear hW ht hone
  have Hsz := hideIt hsz
  clear hsz
  go_loopw [11, 4] (fun v11 v4 wr => ∃ (k : Nat) (q : Nat), k ≤ s.size ∧ v11 = .int .i64 k ∧ v4 = .int .u32 (crcI 4294967295 (s.data.toList.take k)) ∧ wr = W.drewN q) (fun v11 _ _ => s.size - (intOf v11).toNat)
  case atStart => exact ⟨0, 0, by omega, rfl, rfl, rfl⟩
  case round =>
    obtain ⟨k, q, hk, rfl, rfl, rfl⟩ := hrel
    generalize hx : crcI 4294967295 (s.data.toList.take k) = x
    have Hx := hideIt hx
    clear hx
    by_cases hlt : k < s.size
    · have hb1 : 0 ≤ (s[k].toNat : Int) := by omega
      have hb2 : (s[k].toNat : Int) < 256 := by have := s[k].toNat_lt; omega
      have hx1 : 0 ≤ x ∧ x < 4294967296 := by rw [← Hx.out]; exact crcI_range _ (by omega) _
      obtain ⟨hx1, hx2⟩ := hx1
      go_wp2_with fail
      go_quiet (fail)
      go_wp2_with fail
      have hv1 : 0 ≤ (s[k].toNat : Int) / 16 := by omega
      have hv2 : (s[k].toNat : Int) / 16 < 16 := by omega
      have hw1 : 0 ≤ (s[k].toNat : Int) % 16 := by omega
      have hw2 : (s[k].toNat : Int) % 16 < 16 := by omega
      generalize hv : (s[k].toNat : Int) / 16 = v at hv1 hv2 ⊢
      generalize hw : (s[k].toNat : Int) % 16 = v' at hw1 hw2 ⊢
      have Hv := hideIt hv
      have Hw := hideIt hw
      clear hv hw
      clear hb1 hb2
      have i0 : ∀ w, (Instr.index 190 (.agg #[.int .u8 v, .int .u8 v']) (.int .i64 0)).run Tryz.prog w = .ok (.int .u8 v) w := fun _ => by kernel_rfl
      have i1 : ∀ w, (Instr.index 190 (.agg #[.int .u8 v, .int .u8 v']) (.int .i64 1)).run Tryz.prog w = .ok (.int .u8 v') w := fun _ => by kernel_rfl
      obtain ⟨y, hy⟩ : ∃ y, nibI x v = y := ⟨_, rfl⟩
      obtain ⟨z, hz⟩ : ∃ z, nibI y v' = z := ⟨_, rfl⟩
      have hy1 : 0 ≤ y := by rw [← hy]; exact (nibI_range x v).1
      have hy2 : y < 4294967296 := by rw [← hy]; exact (nibI_range x v).2
      obtain ⟨ha1, ha2⟩ := xor_u8_16 (x / 268435456) v (by omega) ⟨hv1, hv2⟩
      obtain ⟨hc1, hc2⟩ := xor_u8_16 (y / 268435456) v' (by omega) ⟨hw1, hw2⟩
      have hcell : ∀ q j, j < 16 → (W.drewN q).cell? ⟨w1.heap.size, j, none⟩ = some (.int .u32 (tabF j)) := fun q j hj => by
        rw [cell_of_row _ _ j _ _ _ (Hsz.out q), tabA_get 16 j hj, if_pos hj]
      have hj1 : (bits BinOp.xor IntKind.u8 (x / 268435456) v).toNat < 16 := by omega
      have hj2 : (bits BinOp.xor IntKind.u8 (y / 268435456) v').toNat < 16 := by omega
      have hyz : crcI 4294967295 (s.data.toList.take (k + 1)) = z := by
        have e : s.data.toList.take (k + 1) = s.data.toList.take k ++ [s[k]] := by
          rw [List.take_succ_eq_append_getElem (by simpa using hlt)]; rfl
        rw [e, crcI_snoc, Hx.out, byteI, Hv.out, Hw.out, hy, hz]
      have Hyz := hideIt hyz
      clear hyz
      have Hy := hideIt hy
      have Hz := hideIt hz
      unfold nibI at hy hz
      refine wp_loop_rounds 3 ?_
      rw [rounds_succ]
      go_wp2_with fail
      rw [rounds_succ]
      go_wp2_with fail
      rw [rounds_succ]
      go_wp2_with fail
      go_roundw
      case rel => exact ⟨k + 1, q + nq, by omega, by go_num, by rw [Hyz.out], rfl⟩
      case measure => simp [intOf]; omega
    · have hk' : k = s.size := by omega
      go_wp2
      go_ret
      refine ⟨?_, ?_⟩
      · show Ending.returned (.int .u32 (bits .xor .u32 IntKind.u32.max x)) = _
        rw [crcSum, ← Hx.out, hk', List.take_of_length_le (by simp)]
        rfl
      · exact ⟨hB.os, hB.tape, hB.output, hB.size, hB.block⟩

end Go.Proofs.YtnibehcgnhdcgaaGreatDoor
