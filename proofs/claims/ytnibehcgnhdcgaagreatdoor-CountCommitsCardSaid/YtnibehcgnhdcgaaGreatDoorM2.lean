/- Sealed blocks. -/
import Derived.Test.YtnibehcgnhdcgaaGreatDoorM1
import Derived.Stop.BytesEq
import Derived.ScopeJumps
import Derived.Laws.CopyOwn
import Derived.Deep.RegionLaw
namespace Go.Proofs.YtnibehcgnhdcgaaGreatDoor
open Go.RowKit

/-- A block with its checksum. -/
def sealB (b : List UInt8) : List UInt8 :=
  let x := crcSum (b.take 252)
  (((b.set 252 (toB (x / 16777216))).set 253 (toB (x / 65536))).set 254 (toB (x / 256))).set 255 (toB x)
theorem sealB_length (b : List UInt8) : (sealB b).length = b.length := by simp [sealB]
theorem crcSum_range (l : List UInt8) : 0 ≤ crcSum l ∧ crcSum l < 4294967296 := xor_u32_range _ _
theorem string_of_block (w : World) (g : Nat) (b : List UInt8) (n : Nat) (hn : (b.take n).length = n) (t : TypeId) (fr : Nat × Nat) (cap : Nat) (hg : w.heap[g]? = some (.cells (blkA b) t fr)) :
    (convert 156 9 (.slice (some ⟨g, 0, none⟩) n cap)).run Tryz.prog w = .ok (.string ⟨(b.take n).toArray⟩) w := by
  have h := run_string_of (P := Tryz.prog) w 156 9 5 ⟨g, 0, none⟩ cap (b.take n) Tryz.underlying156 Tryz.underlying5 Tryz.underlying9 (fun j v hv => by
    have hadd : (⟨g, 0, none⟩ : Addr).add j = ⟨g, j, none⟩ := by unfold Addr.add; split <;> simp_all
    rw [hadd, cell_of_row w g j _ t fr hg, blkA_get]
    rw [List.getElem?_map, List.getElem?_take] at hv
    split at hv
    · exact hv
    · simp at hv)
  rw [hn] at h
  exact h

set_option maxRecDepth 100000 in
set_option maxHeartbeats 1000000 in
theorem seal_any (b : List UInt8) (hb : b.length = 256) (w : World) :
    Calls Tryz.prog 92 #[.agg (blkA b)] w fun e w' => e = .returned (.agg (blkA (sealB b))) ∧ Below w.heap.size w w' := by
  have hsz : (blkA b).size = 256 := by rw [blkA_size, hb]
  have hz := blkA_size zb
  go_enter Tryz.func92, Tryz.ntmps92
  have hn : (b.take 252).length = 252 := by rw [List.length_take, hb]; rfl
  have hc := string_of_block ((w.alloc (.cells (blkA b) 41)).alloc (.cells (blkA zb) 41)) w.heap.size b 252 hn 41 (0, 0) 256 (by rw [hget_past _ _ (by simp), hget_at _ _ rfl])
  have hcs := fun W => sum_any ⟨(b.take 252).toArray⟩ W (by show (b.take 252).toArray.size ≤ 1000; rw [List.size_toArray, hn]; decide)
  clear hz hn
  go_wp2_with (first
    | (with_reducible refine wl_alloc zero41 ?_)
    | (go_at_call 108; refine (hcs _).mono ?_; rintro e w1 ⟨rfl, hb1⟩))
  have hA : w1.heap[w.heap.size]? = some (.cells (blkA b) 41 (0, 0)) := by rw [hb1.block _ (by simp; omega), hget_past _ _ (by simp), hget_at _ _ rfl]
  have hZ : w1.heap[w.heap.size + 1]? = some (.cells (blkA zb) 41 (0, 0)) := by rw [hb1.block _ (by simp), hget_at _ _ (by simp)]
  have hB : Below w.heap.size w w1 := (((Below.refl _ w).alloc (Nat.le_refl _) _).alloc (by simp) _).trans (hb1.mono (by simp; omega))
  have hx := crcSum_range (b.take 252)
  generalize hX : crcSum (b.take 252) = x at hx ⊢
  obtain ⟨hx1, hx2⟩ := hx
  have HX := hideIt hX
  have hf : ∀ j, w1.frozen? ⟨w.heap.size, j, none⟩ = false := fun j => frozen_of_row w1 _ j _ _ hA
  have hcl : ∀ j, j < 256 → ∃ v, w1.cell? ⟨w.heap.size, j, none⟩ = some v := fun j hj => by
    rw [cell_of_row w1 _ j _ _ _ hA]
    exact ⟨(blkA b)[j]'(by omega), Array.getElem?_eq_getElem (by omega)⟩
  obtain ⟨v0, hv0⟩ := hcl 252 (by omega)
  obtain ⟨v1, hv1⟩ := hcl 253 (by omega)
  obtain ⟨v2, hv2⟩ := hcl 254 (by omega)
  obtain ⟨v3, hv3⟩ := hcl 255 (by omega)
  have HA := hideIt hA
  have HZ := hideIt hZ
  clear hA hZ hcl hcs hc hX hsz hb1
  refine wp_loop_rounds 5 ?_
  rw [rounds_succ]
  go_wp2_with fail
  rw [rounds_succ]
  go_wp2_with fail
  rw [rounds_succ]
  go_wp2_with fail
  rw [rounds_succ]
  go_wp2_with fail
  rw [show Value.int .u8 (x / 16777216) = byteV (toB (x / 16777216)) from by rw [byteV_toB]; congr 1; omega, ← byteV_toB, ← byteV_toB, ← byteV_toB]
  obtain ⟨W4, hW4⟩ : ∃ W, W = (((w1.setCell ⟨w.heap.size, 252, none⟩ (byteV (toB (x / 16777216)))).setCell ⟨w.heap.size, 253, none⟩ (byteV (toB (x / 65536)))).setCell ⟨w.heap.size, 254, none⟩ (byteV (toB (x / 256)))).setCell ⟨w.heap.size, 255, none⟩ (byteV (toB x)) := ⟨_, rfl⟩
  rw [← hW4]
  have g1 := hget_setCell_same w.heap.size 252 _ _ (byteV (toB (x / 16777216))) HA.out
  have g2 := hget_setCell_same w.heap.size 253 _ _ (byteV (toB (x / 65536))) g1
  have g3 := hget_setCell_same w.heap.size 254 _ _ (byteV (toB (x / 256))) g2
  have g4 := hget_setCell_same w.heap.size 255 _ _ (byteV (toB x)) g3
  rw [blkA_set, blkA_set, blkA_set, blkA_set, ← hW4, ← HX.out] at g4
  change W4.heap[w.heap.size]? = some (.cells (blkA (sealB b)) 41 (0, 0)) at g4
  have gz : W4.heap[w.heap.size + 1]? = some (.cells (blkA zb) 41 (0, 0)) := by
    rw [hW4, hget_setCell_other _ _ _ (by simp), hget_setCell_other _ _ _ (by simp), hget_setCell_other _ _ _ (by simp), hget_setCell_other _ _ _ (by simp)]
    exact HZ.out
  have hB4 : Below w.heap.size w W4 := by
    rw [hW4]
    exact (((hB.setCell (Nat.le_refl _) _).setCell (Nat.le_refl _) _).setCell (Nat.le_refl _) _).setCell (Nat.le_refl _) _
  have hs4 : (blkA (sealB b)).size = 256 := by rw [blkA_size, sealB_length, hb]
  have h14 := blkA_one (sealB b)
  generalize hS : blkA (sealB b) = cs at g4 hs4 h14
  have HS := hideIt hS
  have Hb := hideIt hb
  have i4 := size41.trans (congrArg some hs4.symm)
  have e4 : (blkA zb).size = cs.size := by rw [hs4, zbA_size]
  clear hS g1 g2 g3 hW4 hv0 hv1 hv2 hv3 hf hB hb hs4
  rw [rounds_succ]
  go_wp2_with (first
    | (with_reducible refine wl_load rfl g4 Tryz.underlying41 rfl i4 ?_)
    | (with_reducible refine wl_store rfl rfl gz i4 e4 h14 ?_))
  exact ret_cell rfl rfl (setRow_heap W4 _ _ cs _ _ gz) Tryz.underlying41 rfl i4 ⟨by rw [HS.out], below_setRow hB4 (by omega) _⟩

theorem sizeOf5 : ∀ w, (sizeOf 5).run Tryz.prog w = .ok 1 w := fun w => by kernel_rfl
/-- '==' on two blocks -/
theorem wl_eql41 {ops : Array Oper} {Q : Exit → Act → World → Prop} {rest : List Oper} {w : World} {T : Array Value} {D : List Deferred} {d tt ty x y : Nat} {pos : String} {af : Array Edge} {a b : List UInt8}
    (hx : T.getD x undef = .agg (blkA a)) (hy : T.getD y undef = .agg (blkA b)) (ha : a.length = 256) (hb : b.length = 256)
    (h : wpList Tryz.prog ops Q rest (Act.put ⟨T, D⟩ (some d) (.bool (a == b))) w) :
    wpList Tryz.prog ops Q ({ dst := some d, op := .binOp .eql 41 (.tmp x) (.tmp y) ty, type := tt, pos := pos, after := af, guard := none } :: rest) ⟨T, D⟩ w := by
  refine wpList_plain rfl fun K hK => ?_
  unfold Oper.wp execOp
  have e1 : (Act.mk T D).eval (.tmp x) = .agg (blkA a) := hx
  have e2 : (Act.mk T D).eval (.tmp y) = .agg (blkA b) := hy
  have r1 := run_eqGuard_agg (P := Tryz.prog) w .eql 41 (.tmp x) (.tmp y) (blkA a) (blkA b) (by kernel_rfl)
  have r2 : (binOp .eql 41 (.agg (blkA a)) (.agg (blkA b))).run Tryz.prog w = .ok (.bool (a == b)) w :=
    run_eql_bytes w 41 5 256 Tryz.underlying41 Tryz.underlying5 sizeOf5 a b ha hb
  simp only [e1, e2, Sem.run_bind, r1, r2, Result.andThen_ok]
  exact hK _ _ h

set_option maxHeartbeats 1000000 in
theorem zero_any (b : List UInt8) (hb : b.length = 256) (w : World) :
    Calls Tryz.prog 26 #[.agg (blkA b)] w fun e w' => e = .returned (.bool (b == zb)) ∧ Below w.heap.size w w' := by
  have hg : (w.alloc (.cells (blkA b) 41)).heap[w.heap.size]? = some (.cells (blkA b) 41 (0, 0)) := hget_at _ _ rfl
  have Hb := hideIt hb
  have hi := size41' hb
  clear hb
  go_enter Tryz.func26, Tryz.ntmps26
  go_wp2_with (first
    | (with_reducible refine wl_load rfl hg Tryz.underlying41 rfl hi ?_)
    | (with_reducible refine wl_build0 built41 ?_)
    | (with_reducible refine wl_eql41 rfl rfl Hb.out zb_length ?_))
  go_ret
  exact ⟨rfl, (Below.refl _ _).alloc (Nat.le_refl _) _⟩
theorem ref_zero_any (b : List UInt8) (hb : b.length = 256) (w : World) :
    Calls Tryz.prog 46 #[.agg (blkA b)] w fun e w' => e = .returned (.bool (b == zb)) ∧ Below w.heap.size w w' := by
  have hg : (w.alloc (.cells (blkA b) 41)).heap[w.heap.size]? = some (.cells (blkA b) 41 (0, 0)) := hget_at _ _ rfl
  have Hb := hideIt hb
  have hi := size41' hb
  clear hb
  go_enter Tryz.func46, Tryz.ntmps46
  go_wp2_with (first
    | (with_reducible refine wl_load rfl hg Tryz.underlying41 rfl hi ?_)
    | (with_reducible refine wl_build0 built41 ?_)
    | (with_reducible refine wl_eql41 rfl rfl Hb.out zb_length ?_))
  go_ret
  exact ⟨rfl, (Below.refl _ _).alloc (Nat.le_refl _) _⟩
end Go.Proofs.YtnibehcgnhdcgaaGreatDoor
/- The writer of a block's fields. -/
namespace Go.Proofs.YtnibehcgnhdcgaaGreatDoor
open Go.RowKit

/-- The low bytes of a number, the lowest one first. -/
def leB : Nat → Int → List UInt8
  | 0, _ => []
  | k + 1, n => toB n :: leB k (n / 256)
theorem leB_length (k : Nat) (n : Int) : (leB k n).length = k := by
  induction k generalizing n with
  | zero => rfl
  | succ k ih => simp [leB, ih]

/-- A row of bytes. -/
def u8row (w : World) (b : Nat) : Prop := ∃ cur fr, w.heap[b]? = some (.cells cur 5 fr)
/-- A writer at block wb that has the bytes L; its row of bytes lies from B on. -/
def Wr (w : World) (B wb : Nat) (L : List UInt8) : Prop :=
  B ≤ wb ∧ ∃ v, w.heap[wb]? = some (.cells #[v, .bool true, .bool false] 159 (0, 0)) ∧ w.ownsRow B 5 1 v L.length (L.map byteV)
/-- What a writer's method leaves: all blocks but the writer's and rows of bytes. -/
structure KeepsW (B wb : Nat) (w w' : World) : Prop where
  below : Below B w w'
  block : ∀ k, k < w.heap.size → k ≠ wb → ¬ u8row w k → w'.heap[k]? = w.heap[k]?
theorem KeepsW.refl (B wb : Nat) (w : World) : KeepsW B wb w w := ⟨Below.refl _ _, fun _ _ _ _ => rfl⟩
theorem KeepsW.trans {B wb : Nat} {a b c : World} (h : KeepsW B wb a b) (k : KeepsW B wb b c) : KeepsW B wb a c :=
  ⟨h.below.trans k.below, fun i hi hn hu => by
    have e := h.block i hi hn hu
    rw [k.block i (Nat.lt_of_lt_of_le hi h.below.size) hn (fun ⟨cur, fr, hc⟩ => hu ⟨cur, fr, by rw [← e]; exact hc⟩), e]⟩

theorem info5 : (Tryz.prog.info? 5).map (fun i => (i.zero, i.size, i.bytes)) = some (some (.int .u8 0), 1, 1) := by kernel_rfl

set_option maxHeartbeats 400000 in
theorem wnew_any (w : World) :
    Calls Tryz.prog 77 #[] w fun e w' => e = .returned (.pointer (some ⟨w.heap.size, 0, none⟩)) ∧ w' = w.alloc (.cells #[.slice none 0 0, .bool true, .bool false] 159) := by
  go_enter Tryz.func77, Tryz.ntmps77
  go_wp2
  go_ret
  exact ⟨rfl, rfl⟩

theorem Wr_new (w : World) : Wr (w.alloc (.cells #[.slice none 0 0, .bool true, .bool false] 159)) w.heap.size w.heap.size [] :=
  ⟨Nat.le_refl _, _, hget_at _ _ rfl, World.ownsRow_nil _ _ _ _⟩

set_option maxHeartbeats 400000 in
theorem wnone_any (wb : Nat) (w : World) (h : w.cell? ⟨wb, 1, none⟩ = some (.bool true)) :
    Calls Tryz.prog 89 #[.pointer (some ⟨wb, 0, none⟩)] w fun e w' => e = .returned (.bool false) ∧ w = w' := by
  go_enter Tryz.func89, Tryz.ntmps89
  go_wp2
  go_ret
  exact ⟨rfl, rfl⟩

set_option maxHeartbeats 400000 in
theorem width_any (k : Nat) (hk : k = 1 ∨ k = 2 ∨ k = 4 ∨ k = 8) (w : World) :
    Calls Tryz.prog 90 #[.int .i64 k] w fun e w' => e = .returned (.bool true) ∧ w = w' := by
  rcases hk with rfl | rfl | rfl | rfl
  all_goals
    go_enter Tryz.func90, Tryz.ntmps90
    go_wp2
    go_ret
    exact ⟨rfl, rfl⟩

theorem new1 (w : World) (ty : TypeId) (x : Value) : ∀ j u, [x][j]? = some u → (w.alloc (.cells #[x] ty)).cell? ((⟨w.heap.size, 0, none⟩ : Addr).add j) = some u := by
  intro j u hj
  match j, hj with
  | 0, hj =>
    simp at hj
    subst hj
    show (w.alloc (.cells #[x] ty)).cell? ⟨w.heap.size, 0, none⟩ = some x
    rw [cell_of_row _ _ _ _ _ _ (hget_at _ _ rfl)]
    rfl

/-- A row of another type lies elsewhere. -/
theorem own_ne {w : World} {B : Nat} {e : TypeId} {size n : Nat} {v : Value} {xs : List Value} (h : w.ownsRow B e size v n xs) {k : Nat} {o : Obj} (hk : w.heap[k]? = some o)
    (ho : ∀ cur, o ≠ .cells cur e (0, 0)) : v.ownBlock ≠ some k := by
  intro hv
  rcases h.2 with ⟨rfl, _⟩ | ⟨g, cap, cur, rfl, _, hgg, _⟩
  · simp [Value.ownBlock] at hv
  · simp [Value.ownBlock] at hv
    subst hv
    rw [hk] at hgg
    exact ho cur (Option.some.inj hgg)
theorem own_setCell {w : World} {B : Nat} {e : TypeId} {size n : Nat} {v : Value} {xs : List Value} (h : w.ownsRow B e size v n xs) {p : Addr} (hp : v.ownBlock ≠ some p.block) (u : Value) :
    (w.setCell p u).ownsRow B e size v n xs := by
  refine ⟨h.1, ?_⟩
  rcases h.2 with hn | ⟨g, cap, cur, rfl, hb, hgg, rest⟩
  · exact .inl hn
  · refine .inr ⟨g, cap, cur, rfl, hb, ?_, rest⟩
    rw [hget_setCell_other p u g (fun e => hp (by simp [Value.ownBlock, e]))]
    exact hgg
theorem own_u8row {w : World} {B : Nat} {size n : Nat} {v : Value} {xs : List Value} (h : w.ownsRow B 5 size v n xs) {k : Nat} (hk : v.ownBlock = some k) : u8row w k := by
  rcases h.2 with ⟨rfl, _⟩ | ⟨g, cap, cur, rfl, _, hgg, _⟩
  · simp [Value.ownBlock] at hk
  · simp [Value.ownBlock] at hk
    subst hk
    exact ⟨cur, _, hgg⟩

theorem Wr_step {w w1 : World} {B wb : Nat} {L : List UInt8} {v v1 : Value} {x : Int} {o : Obj} (hB : B ≤ wb)
    (hg : w.heap[wb]? = some (.cells #[v, .bool true, .bool false] 159 (0, 0))) (hown : w.ownsRow B 5 1 v L.length (L.map byteV))
    (hown1 : w1.ownsRow B 5 1 v1 (L.length + 1) (L.map byteV ++ [.int .u8 (x % 256)])) (hgrow : (w.alloc o).grownBy w1 v.ownBlock) :
    (∃ g c, v1 = .slice (some ⟨g, 0, none⟩) (L.length + 1) c) ∧ w1.cell? ⟨wb, 0, none⟩ = some v ∧ w1.frozen? ⟨wb, 0, none⟩ = false ∧ Wr (w1.setCell ⟨wb, 0, none⟩ v1) B wb (L ++ [toB x]) ∧ KeepsW B wb w (w1.setCell ⟨wb, 0, none⟩ v1) := by
  have hwb : wb < w.heap.size := (Array.getElem?_eq_some_iff.1 hg).1
  have hT : ∀ (r cur : Array Value), Obj.cells r 159 (0, 0) ≠ .cells cur 5 (0, 0) := by
    intro r cur hh
    injection hh with _ hh _
    exact absurd hh (by decide)
  have hne : v.ownBlock ≠ some wb := own_ne hown hg (fun cur => hT _ cur)
  have hg1 : w1.heap[wb]? = some (.cells #[v, .bool true, .bool false] 159 (0, 0)) := by
    rw [hgrow.block wb (by simp; omega) (Ne.symm hne), hget_past o wb hwb, hg]
  have hne1 : v1.ownBlock ≠ some wb := own_ne hown1 hg1 (fun cur => hT _ cur)
  refine ⟨by
    rcases hown1.2 with ⟨_, h⟩ | ⟨g, cap, cur, h, _⟩
    · omega
    · exact ⟨g, cap, h⟩, by rw [cell_of_row w1 wb 0 _ _ _ hg1]; rfl, by rw [frozen_of_row w1 wb 0 _ _ hg1], ⟨hB, v1, ?_, ?_⟩, ⟨?_, ?_⟩⟩
  · rw [hget_setCell_same wb 0 _ _ v1 hg1]
    rfl
  · have := own_setCell hown1 (p := ⟨wb, 0, none⟩) hne1 v1
    simpa [byteV_toB] using this
  · exact (((Below.refl B w).alloc (by omega) o).grown hgrow (by simp; omega) (fun k hk => (hown.lt k hk).1)).setCell hB v1
  · intro k hk hkw hku
    rw [hget_setCell_other _ _ _ hkw, hgrow.block k (by simp; omega) (fun e => hku (own_u8row hown e.symm)), hget_past o k hk]

/-- The writer's state at its label. -/
def NumAt (B wb : Nat) (S : List UInt8) (len : Nat) (w : World) (a : Act) (w1 : World) : Prop :=
  ∃ (m : Nat) (n1 : Int) (L1 : List UInt8) (u6 u7 u8 u9 u10 u11 u12 u13 u14 u15 u16 u17 u18 u19 u20 u21 u22 u23 u24 u25 u26 u27 u28 u29 u30 : Value),
      a = ⟨#[.pointer (some ⟨wb, 0, none⟩), .int .u64 n1, .int .i64 m, undef, undef, undef, u6, u7, u8, u9, u10, u11, u12, u13, u14, u15, u16, u17, u18, u19, u20, u21, u22, u23, u24, u25, u26, u27, u28, u29, u30], []⟩ ∧ 1 ≤ m ∧ m ≤ 8 ∧ 0 ≤ n1 ∧ n1 < 18446744073709551616 ∧ L1.length + m ≤ len ∧ L1 ++ leB m n1 = S ∧ Wr w1 B wb L1 ∧ KeepsW B wb w w1

set_option maxRecDepth 100000 in
set_option maxHeartbeats 1000000 in
theorem num_any (B wb k : Nat) (hk : k = 1 ∨ k = 2 ∨ k = 4 ∨ k = 8) (n : Int) (hn1 : 0 ≤ n) (hn2 : n < 18446744073709551616) (L : List UInt8) (hL : L.length ≤ 100000) (w : World) (hw : Wr w B wb L) :
    Calls Tryz.prog 78 #[.pointer (some ⟨wb, 0, none⟩), .int .u64 n, .int .i64 k] w fun e w' => e = .returned (.tuple #[]) ∧ Wr w' B wb (L ++ leB k n) ∧ KeepsW B wb w w' := by
  obtain ⟨i0, hi, hz0, hz1, hz2⟩ := info_parts info5
  have hwd := fun W => width_any k hk W
  obtain ⟨hBw, v, hg, hown⟩ := hw
  have hwb : wb < w.heap.size := (Array.getElem?_eq_some_iff.1 hg).1
  have hc1 := fun (h : w.cell? ⟨wb, 1, none⟩ = some (.bool true)) => wnone_any wb w h
  have hc0 : w.cell? ⟨wb, 0, none⟩ = some v := by rw [cell_of_row w wb 0 _ _ _ hg]; rfl
  have hcn := hc1 (by rw [cell_of_row w wb 1 _ _ _ hg]; rfl)
  have hk1 : 1 ≤ k := by omega
  have hk8 : k ≤ 8 := by omega
  have Hg := hideIt hg
  have Hk := hideIt hk
  clear hk hg hc1
  go_enter Tryz.func78, Tryz.ntmps78
  go_wp2_with fail
  refine wp_scope_jumps 0 (fun a w1 => NumAt B wb (L ++ leB k n) (L.length + k) w a w1)
    (fun a _ => (intOf (a.tmps.getD 2 undef)).toNat) rfl ?first ?pass
  case first =>
    go_wp2_with (first
      | (go_at_call 89; refine hcn.mono ?_; rintro e w' ⟨rfl, rfl⟩)
      | (go_at_call 90; refine (hwd _).mono ?_; rintro e w' ⟨rfl, rfl⟩)
      | (at_builtin; refine wpList_append_own _ rfl _ _ 156 rfl B 5 i0 (.int .u8 0) 1 1 Tryz.underlying156 hi hz0 hz1 hz2 rfl (by decide) _ _ _ rfl (hown.alloc _) ⟨w.heap.size, 0, none⟩ 1 1 [.int .u8 (n % 256)] rfl rfl (new1 _ _ _) (fun x hx => by simp at hx; subst hx; rfl) (by unfold maxLen; omega) (by omega) (by simp; omega) ?_; intro v1 w1 hown1 hgrow1 hnil1; clear hnil1; obtain ⟨⟨g1, c1, rfl⟩, hq0, hq1, hq2, hq3⟩ := Wr_step hBw Hg.out hown hown1 hgrow1; clear hown1 hgrow1)
      | go_step3)
    · rename_i hpos
      have ek : (k : Int) - 1 = ((k - 1 : Nat) : Int) := by omega
      rw [ek]
      try go_step3
      refine ⟨rfl, ?_⟩
      unfold NumAt
      refine ⟨k - 1, _, L ++ [toB n], _, _, _, _, _, _, _, _, _, _, _, _, _, _, _, _, _, _, _, _, _, _, _, _, _, rfl, by omega, by omega, by omega, by omega, by simp; omega, ?_, hq2, hq3⟩
      obtain ⟨j, rfl⟩ : ∃ j, k = j + 1 := ⟨k - 1, by omega⟩
      simp [leB]
    · rename_i hneg
      simp only [Exit.jump]
      go_wp2
      obtain rfl : k = 1 := by omega
      exact bodyPost_end (results_none rfl _ _ _) rfl ⟨rfl, hq2, hq3⟩
  case pass =>
    clear hown hc0 hcn Hg
    rintro a' w2 ⟨m, n1, L1, u6, u7, u8, u9, u10, u11, u12, u13, u14, u15, u16, u17, u18, u19, u20, u21, u22, u23, u24, u25, u26, u27, u28, u29, u30, rfl, hm1, hm8, hp1, hp2, hL1, hLk, hW2, hK2⟩
    obtain ⟨_, v2, hg, hown⟩ := hW2
    have hwb2 : wb < w2.heap.size := (Array.getElem?_eq_some_iff.1 hg).1
    have hc0 : w2.cell? ⟨wb, 0, none⟩ = some v2 := by rw [cell_of_row w2 wb 0 _ _ _ hg]; rfl
    have Hg := hideIt hg
    have HLk := hideIt hLk
    clear hg hLk
    go_wp2_with (first
      | (go_at_call 89; refine hcn.mono ?_; rintro e w' ⟨rfl, rfl⟩)
      | (go_at_call 90; refine (hwd _).mono ?_; rintro e w' ⟨rfl, rfl⟩)
      | (at_builtin; refine wpList_append_own _ rfl _ _ 156 rfl B 5 i0 (.int .u8 0) 1 1 Tryz.underlying156 hi hz0 hz1 hz2 rfl (by decide) _ _ _ rfl (hown.alloc _) ⟨w2.heap.size, 0, none⟩ 1 1 [.int .u8 (n1 % 256)] rfl rfl (new1 _ _ _) (fun x hx => by simp at hx; subst hx; rfl) (by unfold maxLen; omega) (by omega) (by simp; omega) ?_; intro v1 w1 hown1 hgrow1 hnil1; clear hnil1; obtain ⟨⟨g1, c1, rfl⟩, hq0, hq1, hq2, hq3⟩ := Wr_step hBw Hg.out hown hown1 hgrow1; clear hown1 hgrow1)
      | go_step3)
    · rename_i hpos
      have ek : (m : Int) - 1 = ((m - 1 : Nat) : Int) := by omega
      rw [ek]
      try go_step3
      refine ⟨rfl, ?_, ?_⟩
      · unfold NumAt
        refine ⟨m - 1, _, L1 ++ [toB n1], _, _, _, _, _, _, _, _, _, _, _, _, _, _, _, _, _, _, _, _, _, _, _, _, _, rfl, by omega, by omega, by omega, by omega, by simp; omega, ?_, hq2, hK2.trans hq3⟩
        rw [← HLk.out]
        obtain ⟨j, rfl⟩ : ∃ j, m = j + 1 := ⟨m - 1, by omega⟩
        simp [leB]
      · simp [intOf]
        omega
    · rename_i hneg
      simp only [Exit.jump]
      go_wp2
      obtain rfl : m = 1 := by omega
      rw [← HLk.out]
      exact bodyPost_end (results_none rfl _ _ _) rfl ⟨rfl, hq2, hK2.trans hq3⟩
theorem num1_any (B wb : Nat) (n : Int) (hn1 : 0 ≤ n) (hn2 : n < 18446744073709551616) (L : List UInt8) (hL : L.length ≤ 100000) (w : World) (hw : Wr w B wb L) :
    Calls Tryz.prog 78 #[.pointer (some ⟨wb, 0, none⟩), .int .u64 n, .int .i64 1] w fun e w' => e = .returned (.tuple #[]) ∧ Wr w' B wb (L ++ leB 1 n) ∧ KeepsW B wb w w' :=
  num_any B wb 1 (by decide) n hn1 hn2 L hL w hw
theorem num2_any (B wb : Nat) (n : Int) (hn1 : 0 ≤ n) (hn2 : n < 18446744073709551616) (L : List UInt8) (hL : L.length ≤ 100000) (w : World) (hw : Wr w B wb L) :
    Calls Tryz.prog 78 #[.pointer (some ⟨wb, 0, none⟩), .int .u64 n, .int .i64 2] w fun e w' => e = .returned (.tuple #[]) ∧ Wr w' B wb (L ++ leB 2 n) ∧ KeepsW B wb w w' :=
  num_any B wb 2 (by decide) n hn1 hn2 L hL w hw
theorem num4_any (B wb : Nat) (n : Int) (hn1 : 0 ≤ n) (hn2 : n < 18446744073709551616) (L : List UInt8) (hL : L.length ≤ 100000) (w : World) (hw : Wr w B wb L) :
    Calls Tryz.prog 78 #[.pointer (some ⟨wb, 0, none⟩), .int .u64 n, .int .i64 4] w fun e w' => e = .returned (.tuple #[]) ∧ Wr w' B wb (L ++ leB 4 n) ∧ KeepsW B wb w w' :=
  num_any B wb 4 (by decide) n hn1 hn2 L hL w hw
theorem num8_any (B wb : Nat) (n : Int) (hn1 : 0 ≤ n) (hn2 : n < 18446744073709551616) (L : List UInt8) (hL : L.length ≤ 100000) (w : World) (hw : Wr w B wb L) :
    Calls Tryz.prog 78 #[.pointer (some ⟨wb, 0, none⟩), .int .u64 n, .int .i64 8] w fun e w' => e = .returned (.tuple #[]) ∧ Wr w' B wb (L ++ leB 8 n) ∧ KeepsW B wb w w' :=
  num_any B wb 8 (by decide) n hn1 hn2 L hL w hw
end Go.Proofs.YtnibehcgnhdcgaaGreatDoor
/- The block that a writer makes. -/
namespace Go.Proofs.YtnibehcgnhdcgaaGreatDoor
open Go.RowKit

/-- The bytes of a block ahead of its sum. -/
def rawB (m : UInt8) (L : List UInt8) : List UInt8 := m :: (L ++ List.replicate (255 - L.length) 0)
theorem rawB_length (m : UInt8) (L : List UInt8) (h : L.length ≤ 251) : (rawB m L).length = 256 := by
  simp [rawB]
  omega
theorem set0 (m : UInt8) : (blkA zb).setIfInBounds 0 (byteV m) = blkA (m :: List.replicate 255 0) := by
  rw [blkA_set]
  rfl
theorem splice_raw (m : UInt8) (L : List UInt8) : (splice (blkA (m :: List.replicate 255 0)).toList 1 (L.map byteV)).toArray = blkA (rawB m L) := by
  simp only [splice, blkA, rawB, List.map_cons, List.map_append, List.length_map, List.take_succ_cons, List.take_zero, Nat.add_comm 1 L.length, List.drop_succ_cons, List.map_replicate, List.drop_replicate,
    List.cons_append, List.nil_append]

theorem add_blk (a : Addr) (n : Nat) : (a.add n).block = a.block := by unfold Addr.add; split <;> rfl

set_option maxRecDepth 100000 in
set_option maxHeartbeats 1000000 in
theorem done_any (B wb : Nat) (m : UInt8) (L : List UInt8) (hL : L.length ≤ 251) (hL0 : 0 < L.length) (w : World) (hw : Wr w B wb L) :
    Calls Tryz.prog 80 #[.pointer (some ⟨wb, 0, none⟩), .int .u8 m.toNat] w fun e w' => e = .returned (.tuple #[.agg (blkA (sealB (rawB m L))), .int .i64 0]) ∧ Below w.heap.size w w' := by
  obtain ⟨hBw, v, hg, hown⟩ := hw
  have hwb : wb < w.heap.size := (Array.getElem?_eq_some_iff.1 hg).1
  obtain ⟨g, cap, rfl⟩ : ∃ g c, v = .slice (some ⟨g, 0, none⟩) L.length c := by
    rcases hown.2 with ⟨_, h⟩ | ⟨g, cap, cur, h, _⟩
    · omega
    · exact ⟨g, cap, h⟩
  have hgb : g < w.heap.size := (hown.lt g rfl).2
  have hcs := hown.cells (g := g) rfl
  obtain ⟨W1, hW1⟩ : ∃ W, W = (w.alloc (.cells (blkA zb) 41)).alloc (.cells (blkA zb) 41) := ⟨_, rfl⟩
  have k1 : ∀ k, k < w.heap.size → W1.heap[k]? = w.heap[k]? := fun k hk => by rw [hW1, hget_past _ _ (by simp; omega), hget_past _ _ hk]
  have hgw : W1.heap[wb]? = some (.cells #[.slice (some ⟨g, 0, none⟩) L.length cap, .bool true, .bool false] 159 (0, 0)) := (k1 wb hwb).trans hg
  have hn1 := wnone_any wb W1 (by rw [cell_of_row W1 wb 1 _ _ _ hgw]; rfl)
  have c2 : W1.cell? ⟨wb, 2, none⟩ = some (.bool false) := by rw [cell_of_row W1 wb 2 _ _ _ hgw]; rfl
  have c0 : W1.cell? ⟨wb, 0, none⟩ = some (.slice (some ⟨g, 0, none⟩) L.length cap) := by rw [cell_of_row W1 wb 0 _ _ _ hgw]; rfl
  have g1 : W1.heap[w.heap.size + 1]? = some (.cells (blkA zb) 41 (0, 0)) := by rw [hW1, hget_at _ _ (by simp)]
  have g0 : W1.heap[w.heap.size]? = some (.cells (blkA zb) 41 (0, 0)) := by rw [hW1, hget_past _ _ (by simp), hget_at _ _ rfl]
  have c3 : W1.cell? ⟨w.heap.size + 1, 0, none⟩ = some (.int .u8 0) := by rw [cell_of_row _ _ 0 _ _ _ g1]; rfl
  have f3 : W1.frozen? ⟨w.heap.size + 1, 0, none⟩ = false := by rw [frozen_of_row _ _ 0 _ _ g1]
  have hB1 : Below w.heap.size w W1 := by rw [hW1]; exact ((Below.refl _ w).alloc (Nat.le_refl _) _).alloc (by simp) _
  have hz := zbA_size
  have hW := hideIt hW1
  have G1 := hideIt g1
  have G0 := hideIt g0
  have HC := hideIt hcs
  have HK := hideIt k1
  clear hg hW1 hown g1 g0 hgw hcs k1
  go_enter Tryz.func80, Tryz.ntmps80
  go_wp2_with (first
    | (with_reducible refine wl_alloc zero41 ?_)
    | (go_at_call 89; rw [← hW.out]; refine hn1.mono ?_; rintro e w' ⟨rfl, rfl⟩))
  have g2 : (W1.setCell ⟨w.heap.size + 1, 0, none⟩ (byteV m)).heap[w.heap.size + 1]? = some (.cells (blkA (m :: List.replicate 255 0)) 41 (0, 0)) := by
    rw [hget_setCell_same _ 0 _ _ _ G1.out, set0]
  have g20 : (W1.setCell ⟨w.heap.size + 1, 0, none⟩ (byteV m)).heap[w.heap.size]? = some (.cells (blkA zb) 41 (0, 0)) := by
    rw [hget_setCell_other _ _ _ (by simp), G0.out]
  have c02 : (W1.setCell ⟨w.heap.size + 1, 0, none⟩ (byteV m)).cell? ⟨wb, 0, none⟩ = some (.slice (some ⟨g, 0, none⟩) L.length cap) := by
    rw [World.cell?_of_block (w := W1) (hget_setCell_other _ _ _ (by simp; omega)), c0]
  have cs2 : ∀ (j : Nat) (u : Value), (List.map byteV L)[j]? = some u → (W1.setCell ⟨w.heap.size + 1, 0, none⟩ (byteV m)).cell? ((⟨g, 0, none⟩ : Addr).add j) = some u := by
    intro j u hu
    rw [World.cell?_of_block (w := w) ((hget_setCell_other _ _ _ (by rw [add_blk]; simp; omega)).trans (HK.out _ (by rw [add_blk]; exact hgb)))]
    exact HC.out j u hu
  have hB2 : Below w.heap.size w (W1.setCell ⟨w.heap.size + 1, 0, none⟩ (byteV m)) := hB1.setCell (by simp) _
  have hs2 : w.heap.size + 2 ≤ (W1.setCell ⟨w.heap.size + 1, 0, none⟩ (byteV m)).heap.size := by rw [hW.out]; simp [World.setCell]
  change Code.wp _ _ _ _ (W1.setCell ⟨w.heap.size + 1, 0, none⟩ (byteV m))
  generalize (W1.setCell ⟨w.heap.size + 1, 0, none⟩ (byteV m)) = W2 at g2 g20 c02 cs2 hB2 hs2 ⊢
  have G2 := hideIt g2
  have G20 := hideIt g20
  have CS2 := hideIt cs2
  clear g2 g20 cs2 hB1 c0 c2 c3 f3 hn1
  go_region_law (refine step_copy_splice rfl _ _ _ _ rfl 5 Tryz.underlying156 (by kernel_rfl) _ _ _ _ _ _ rfl rfl (w.heap.size + 1) 1 (blkA (m :: List.replicate 255 0)).toList _ G2.out (L.map byteV) (by rw [List.length_map]; exact (Nat.min_eq_left (by omega)).symm) (fun _ => ⟨rfl, _, rfl, CS2.out⟩) (by simp [blkA]; omega) (fun x hx => by simp [byteV] at hx; obtain ⟨_, _, rfl⟩ := hx; rfl) (w.heap.size + 1) W2 (Below.refl _ _).drew (Nat.le_refl _) ?_; intro W3 hq1 hq2)
  have g3 : W3.heap[w.heap.size + 1]? = some (.cells (blkA (rawB m L)) 41 (0, 0)) := by rw [hq1.out, splice_raw]
  have g30 : W3.heap[w.heap.size]? = some (.cells (blkA zb) 41 (0, 0)) := by rw [hq2.block _ (by omega), G20.out]
  have hB3 : Below w.heap.size w W3 := hB2.trans (hq2.mono (by omega))
  have hs3 : w.heap.size + 2 ≤ W3.heap.size := by have := hq2.size; omega
  have hlen := rawB_length m L hL
  have hseal := seal_any (rawB m L) hlen W3
  have i3 := size41' hlen
  have G3 := hideIt g3
  have G30 := hideIt g30
  have HL := hideIt hlen
  clear g3 g30 hq1 hq2 hlen
  have hl4 := sealB_length (rawB m L)
  have i4 := size41' (hl4.trans HL.out)
  have e4 : (blkA zb).size = (blkA (sealB (rawB m L))).size := by rw [zbA_size, blkA_size, hl4, HL.out]
  have h14 := blkA_one (sealB (rawB m L))
  generalize hS : sealB (rawB m L) = S at hseal hl4 i4 e4 h14 ⊢
  have HS := hideIt hS
  clear hS hl4
  go_wp2_with (first
    | (with_reducible refine wl_load rfl G3.out Tryz.underlying41 rfl i3 ?_)
    | (go_at_call 92; refine hseal.mono ?_; rintro e W4 ⟨rfl, hb4⟩; have g4 := (hb4.block _ (by omega)).trans G30.out; have G4 := hideIt g4; clear g4)
    | (with_reducible refine wl_store rfl rfl G4.out i4 e4 h14 ?_))
  exact ret_cell_tmp rfl rfl rfl (setRow_heap W4 _ _ (blkA S) _ _ G4.out) Tryz.underlying41 rfl i4 ⟨by rw [HS.out]; rfl, below_setRow (hB3.trans (hb4.mono (by omega))) (Nat.le_refl _) _⟩
end Go.Proofs.YtnibehcgnhdcgaaGreatDoor
/- Pages of numbers, put. -/
namespace Go.Proofs.YtnibehcgnhdcgaaGreatDoor
open Go.RowKit

/-- Numbers' bytes, one number behind the other. -/
def rowB (k : Nat) : List Int → List UInt8
  | [] => []
  | n :: r => leB k n ++ rowB k r
theorem rowB_snoc (k : Nat) (l : List Int) (n : Int) : rowB k (l ++ [n]) = rowB k l ++ leB k n := by
  induction l with
  | nil => simp [rowB]
  | cons a r ih => simp [rowB, ih]
theorem rowB_length (k : Nat) (l : List Int) : (rowB k l).length = k * l.length := by
  induction l with
  | nil => simp [rowB]
  | cons a r ih => simp [rowB, leB_length, ih, Nat.mul_add, Nat.add_comm]
/-- The block of a page of numbers. -/
def putB (m : UInt8) (idx : Int) (k : Nat) (cs : List Int) : List UInt8 := sealB (rawB m (leB 4 idx ++ rowB k cs))

set_option maxRecDepth 100000 in
set_option maxHeartbeats 1000000 in
theorem put16_any (m : UInt8) (idx en : Int) (hi0 : 0 ≤ idx) (hi1 : idx < en) (hen : en < 4294967296) (cs : List Int) (hlen : cs.length = 64) (hcs : ∀ x ∈ cs, 0 ≤ x ∧ x < 65536) (tb : Nat) (w : World) (htb : tb < w.heap.size)
    (hcell : ∀ j x, cs[j]? = some x → w.cell? ⟨tb, 1 + j, none⟩ = some (.int .u16 x)) :
    Calls Tryz.prog 61 #[.int .u8 m.toNat, .int .u32 idx, .int .u32 en, .slice (some ⟨tb, 1, none⟩) 64 64, .int .i64 2] w
      fun e w' => e = .returned (.tuple #[.agg (blkA (putB m idx 2 cs)), .int .i64 0]) ∧ Below w.heap.size w w' := by
  have hnw := fun W => wnew_any W
  obtain ⟨W0, hW0⟩ : ∃ W, W = w.alloc (.cells (blkA zb) 41) := ⟨_, rfl⟩
  have hs0 : W0.heap.size = w.heap.size + 1 := by rw [hW0]; simp
  have g0 : W0.heap[w.heap.size]? = some (.cells (blkA zb) 41 (0, 0)) := by rw [hW0, hget_at _ _ rfl]
  have hB0 : Below w.heap.size w W0 := by rw [hW0]; exact (Below.refl _ w).alloc (Nat.le_refl _) _
  have HW0 := hideIt hW0
  have HC := hideIt hcell
  have HS := hideIt hcs
  have HL := hideIt hlen
  have G0 := hideIt g0
  clear hW0 hcell hcs hlen g0
  go_enter Tryz.func61, Tryz.ntmps61
  go_wp2_with (first
    | (with_reducible refine wl_alloc zero41 ?_)
    | (go_at_call 77; rw [← HW0.out]; refine (hnw _).mono ?_; rintro e w' ⟨rfl, rfl⟩; have hwn := Wr_new W0; have kn : ∀ k, k < W0.heap.size → (W0.alloc (.cells #[.slice none 0 0, .bool true, .bool false] 159)).heap[k]? = W0.heap[k]? := (fun k hk => hget_past _ k hk); have bn : Below W0.heap.size W0 (W0.alloc (.cells #[.slice none 0 0, .bool true, .bool false] 159)) := (Below.refl _ _).alloc (Nat.le_refl _) _; generalize W0.alloc (.cells #[.slice none 0 0, .bool true, .bool false] 159) = W1 at hwn kn bn ⊢; rw [hs0] at hwn kn bn; have KN := hideIt kn; have HWN := hideIt hwn; clear kn hwn)
    | (go_at_call 78; refine (num4_any _ _ idx hi0 (by omega) [] (by simp) _ HWN.out).mono ?_; rintro e W2 ⟨rfl, hw2, hk2⟩))
  rw [List.nil_append] at hw2
  have hB2 : Below w.heap.size w W2 := hB0.trans ((bn.trans hk2.below).mono (by omega))
  have g2 : W2.heap[w.heap.size]? = some (.cells (blkA zb) 41 (0, 0)) := by rw [hk2.below.block _ (by omega), KN.out _ (by omega), G0.out]
  have G2 := hideIt g2
  have cell2 : ∀ j x, cs[j]? = some x → W2.cell? ⟨tb, 1 + j, none⟩ = some (.int .u16 x) := fun j x hx => by
    rw [World.cell?_of_block (w := w) (hB2.block tb htb), HC.out j x hx]
  have C2 := hideIt cell2
  have hs2 : w.heap.size + 2 ≤ W2.heap.size := by have := hk2.below.size; have : w.heap.size + 1 < W1.heap.size := (Array.getElem?_eq_some_iff.1 HWN.out.2.choose_spec.1).1; omega
  clear g2 cell2 KN bn hk2 HWN
  have hbase : Wr W2 (w.heap.size + 1) (w.heap.size + 1) (leB 4 idx ++ rowB 2 (cs.take 0)) := by simpa [rowB] using hw2
  have HB2 := hideIt hbase
  clear hw2 hbase
  go_loopw [26] (fun v26 wr => ∃ (i : Nat), i ≤ 64 ∧ v26 = .int .i64 i ∧ Wr wr (w.heap.size + 1) (w.heap.size + 1) (leB 4 idx ++ rowB 2 (cs.take i)) ∧ Below (w.heap.size + 1) W2 wr) (fun v26 _ => 64 - (intOf v26).toNat)
  case atStart => exact ⟨0, by omega, rfl, HB2.out, Below.refl _ _⟩
  case round =>
    obtain ⟨i, hi, rfl, hwr, hbr⟩ := hrel
    by_cases hlt : i < 64
    · obtain ⟨x, hx⟩ : ∃ x, cs[i]? = some x := ⟨cs[i]'(by rw [HL.out]; exact hlt), List.getElem?_eq_getElem _⟩
      have hcx : wr.cell? ⟨tb, 1 + i, none⟩ = some (.int .u16 x) := by
        rw [World.cell?_of_block (w := W2) (hbr.block tb (by omega)), C2.out i x hx]
      obtain ⟨hx0, hx1⟩ := HS.out x (List.mem_of_getElem? hx)
      have hnx := num2_any _ _ x hx0 (by omega) _ (by simp [leB_length, rowB_length]; omega) _ hwr
      have HX := hideIt hx
      clear hx
      go_wp2_with (first
        | (go_at_call 78; refine hnx.mono ?_; rintro e W3 ⟨rfl, hw3, hk3⟩))
      go_roundw
      case rel =>
        refine ⟨i + 1, by omega, by go_num, ?_, hbr.trans hk3.below⟩
        rw [List.take_add_one, HX.out, Option.toList_some, rowB_snoc, ← List.append_assoc]
        exact hw3
      case measure => simp [intOf]; omega
    · obtain rfl : i = 64 := by omega
      rw [List.take_of_length_le (by rw [HL.out]; exact Nat.le_refl _)] at hwr
      have hlr : (leB 4 idx ++ rowB 2 cs).length = 132 := by rw [List.length_append, leB_length, rowB_length, HL.out]
      have hdn := done_any _ _ m _ (by rw [hlr]; decide) (by rw [hlr]; decide) wr hwr
      have hlS : (putB m idx 2 cs).length = 256 := (sealB_length _).trans (rawB_length _ _ (by rw [hlr]; decide))
      have gr : wr.heap[w.heap.size]? = some (.cells (blkA zb) 41 (0, 0)) := (hbr.block _ (by omega)).trans G2.out
      have iS := size41' hlS
      have eS : (blkA zb).size = (blkA (putB m idx 2 cs)).size := by rw [zbA_size, blkA_size, hlS]
      have h1S := blkA_one (putB m idx 2 cs)
      have hsr : w.heap.size + 2 ≤ wr.heap.size := by have := hbr.size; omega
      have hBr : Below w.heap.size w wr := hB2.trans (hbr.mono (by omega))
      change Calls _ _ _ _ (fun e w' => e = .returned (.tuple #[.agg (blkA (putB m idx 2 cs)), .int .i64 0]) ∧ Below wr.heap.size wr w') at hdn
      have HGR := hideIt gr
      have HlS := hideIt hlS
      clear gr hlr hwr hlS
      generalize hS : putB m idx 2 cs = S at hdn iS eS h1S ⊢
      go_wp2_with (first
        | (go_at_call 80; refine hdn.mono ?_; rintro e W4 ⟨rfl, hb4⟩; have g4 := (hb4.block _ (by omega)).trans HGR.out; have G4 := hideIt g4; clear g4)
        | (with_reducible refine wl_extract rfl rfl ?_)
        | (with_reducible refine wl_store rfl rfl G4.out iS eS h1S ?_))
      exact ret_cell_tmp rfl rfl rfl (setRow_heap W4 _ _ (blkA S) _ _ G4.out) Tryz.underlying41 rfl iS ⟨by rw [hS]; rfl, below_setRow (hBr.trans (hb4.mono (by omega))) (Nat.le_refl _) _⟩

set_option maxRecDepth 100000 in
set_option maxHeartbeats 1000000 in
theorem put64_any (m : UInt8) (idx en : Int) (hi0 : 0 ≤ idx) (hi1 : idx < en) (hen : en < 4294967296) (cs : List Int) (hlen : cs.length = 16) (hcs : ∀ x ∈ cs, 0 ≤ x ∧ x < 18446744073709551616) (tb : Nat) (w : World) (htb : tb < w.heap.size)
    (hcell : ∀ j x, cs[j]? = some x → w.cell? ⟨tb, 1 + j, none⟩ = some (.int .u64 x)) :
    Calls Tryz.prog 67 #[.int .u8 m.toNat, .int .u32 idx, .int .u32 en, .slice (some ⟨tb, 1, none⟩) 16 16, .int .i64 8] w
      fun e w' => e = .returned (.tuple #[.agg (blkA (putB m idx 8 cs)), .int .i64 0]) ∧ Below w.heap.size w w' := by
  have hnw := fun W => wnew_any W
  obtain ⟨W0, hW0⟩ : ∃ W, W = w.alloc (.cells (blkA zb) 41) := ⟨_, rfl⟩
  have hs0 : W0.heap.size = w.heap.size + 1 := by rw [hW0]; simp
  have g0 : W0.heap[w.heap.size]? = some (.cells (blkA zb) 41 (0, 0)) := by rw [hW0, hget_at _ _ rfl]
  have hB0 : Below w.heap.size w W0 := by rw [hW0]; exact (Below.refl _ w).alloc (Nat.le_refl _) _
  have HW0 := hideIt hW0
  have HC := hideIt hcell
  have HS := hideIt hcs
  have HL := hideIt hlen
  have G0 := hideIt g0
  clear hW0 hcell hcs hlen g0
  go_enter Tryz.func67, Tryz.ntmps67
  go_wp2_with (first
    | (with_reducible refine wl_alloc zero41 ?_)
    | (go_at_call 77; rw [← HW0.out]; refine (hnw _).mono ?_; rintro e w' ⟨rfl, rfl⟩; have hwn := Wr_new W0; have kn : ∀ k, k < W0.heap.size → (W0.alloc (.cells #[.slice none 0 0, .bool true, .bool false] 159)).heap[k]? = W0.heap[k]? := (fun k hk => hget_past _ k hk); have bn : Below W0.heap.size W0 (W0.alloc (.cells #[.slice none 0 0, .bool true, .bool false] 159)) := (Below.refl _ _).alloc (Nat.le_refl _) _; generalize W0.alloc (.cells #[.slice none 0 0, .bool true, .bool false] 159) = W1 at hwn kn bn ⊢; rw [hs0] at hwn kn bn; have KN := hideIt kn; have HWN := hideIt hwn; clear kn hwn)
    | (go_at_call 78; refine (num4_any _ _ idx hi0 (by omega) [] (by simp) _ HWN.out).mono ?_; rintro e W2 ⟨rfl, hw2, hk2⟩))
  rw [List.nil_append] at hw2
  have hB2 : Below w.heap.size w W2 := hB0.trans ((bn.trans hk2.below).mono (by omega))
  have g2 : W2.heap[w.heap.size]? = some (.cells (blkA zb) 41 (0, 0)) := by rw [hk2.below.block _ (by omega), KN.out _ (by omega), G0.out]
  have G2 := hideIt g2
  have cell2 : ∀ j x, cs[j]? = some x → W2.cell? ⟨tb, 1 + j, none⟩ = some (.int .u64 x) := fun j x hx => by
    rw [World.cell?_of_block (w := w) (hB2.block tb htb), HC.out j x hx]
  have C2 := hideIt cell2
  have hs2 : w.heap.size + 2 ≤ W2.heap.size := by have := hk2.below.size; have : w.heap.size + 1 < W1.heap.size := (Array.getElem?_eq_some_iff.1 HWN.out.2.choose_spec.1).1; omega
  clear g2 cell2 KN bn hk2 HWN
  have hbase : Wr W2 (w.heap.size + 1) (w.heap.size + 1) (leB 4 idx ++ rowB 8 (cs.take 0)) := by simpa [rowB] using hw2
  have HB2 := hideIt hbase
  clear hw2 hbase
  go_loopw [26] (fun v26 wr => ∃ (i : Nat), i ≤ 16 ∧ v26 = .int .i64 i ∧ Wr wr (w.heap.size + 1) (w.heap.size + 1) (leB 4 idx ++ rowB 8 (cs.take i)) ∧ Below (w.heap.size + 1) W2 wr) (fun v26 _ => 16 - (intOf v26).toNat)
  case atStart => exact ⟨0, by omega, rfl, HB2.out, Below.refl _ _⟩
  case round =>
    obtain ⟨i, hi, rfl, hwr, hbr⟩ := hrel
    by_cases hlt : i < 16
    · obtain ⟨x, hx⟩ : ∃ x, cs[i]? = some x := ⟨cs[i]'(by rw [HL.out]; exact hlt), List.getElem?_eq_getElem _⟩
      have hcx : wr.cell? ⟨tb, 1 + i, none⟩ = some (.int .u64 x) := by
        rw [World.cell?_of_block (w := W2) (hbr.block tb (by omega)), C2.out i x hx]
      obtain ⟨hx0, hx1⟩ := HS.out x (List.mem_of_getElem? hx)
      have hnx := num8_any _ _ x hx0 (by omega) _ (by simp [leB_length, rowB_length]; omega) _ hwr
      have HX := hideIt hx
      clear hx
      go_wp2_with (first
        | (go_at_call 78; refine hnx.mono ?_; rintro e W3 ⟨rfl, hw3, hk3⟩))
      go_roundw
      case rel =>
        refine ⟨i + 1, by omega, by go_num, ?_, hbr.trans hk3.below⟩
        rw [List.take_add_one, HX.out, Option.toList_some, rowB_snoc, ← List.append_assoc]
        exact hw3
      case measure => simp [intOf]; omega
    · obtain rfl : i = 16 := by omega
      rw [List.take_of_length_le (by rw [HL.out]; exact Nat.le_refl _)] at hwr
      have hlr : (leB 4 idx ++ rowB 8 cs).length = 132 := by rw [List.length_append, leB_length, rowB_length, HL.out]
      have hdn := done_any _ _ m _ (by rw [hlr]; decide) (by rw [hlr]; decide) wr hwr
      have hlS : (putB m idx 8 cs).length = 256 := (sealB_length _).trans (rawB_length _ _ (by rw [hlr]; decide))
      have gr : wr.heap[w.heap.size]? = some (.cells (blkA zb) 41 (0, 0)) := (hbr.block _ (by omega)).trans G2.out
      have iS := size41' hlS
      have eS : (blkA zb).size = (blkA (putB m idx 8 cs)).size := by rw [zbA_size, blkA_size, hlS]
      have h1S := blkA_one (putB m idx 8 cs)
      have hsr : w.heap.size + 2 ≤ wr.heap.size := by have := hbr.size; omega
      have hBr : Below w.heap.size w wr := hB2.trans (hbr.mono (by omega))
      change Calls _ _ _ _ (fun e w' => e = .returned (.tuple #[.agg (blkA (putB m idx 8 cs)), .int .i64 0]) ∧ Below wr.heap.size wr w') at hdn
      have HGR := hideIt gr
      have HlS := hideIt hlS
      clear gr hlr hwr hlS
      generalize hS : putB m idx 8 cs = S at hdn iS eS h1S ⊢
      go_wp2_with (first
        | (go_at_call 80; refine hdn.mono ?_; rintro e W4 ⟨rfl, hb4⟩; have g4 := (hb4.block _ (by omega)).trans HGR.out; have G4 := hideIt g4; clear g4)
        | (with_reducible refine wl_extract rfl rfl ?_)
        | (with_reducible refine wl_store rfl rfl G4.out iS eS h1S ?_))
      exact ret_cell_tmp rfl rfl rfl (setRow_heap W4 _ _ (blkA S) _ _ G4.out) Tryz.underlying41 rfl iS ⟨by rw [hS]; rfl, below_setRow (hBr.trans (hb4.mono (by omega))) (Nat.le_refl _) _⟩
end Go.Proofs.YtnibehcgnhdcgaaGreatDoor
