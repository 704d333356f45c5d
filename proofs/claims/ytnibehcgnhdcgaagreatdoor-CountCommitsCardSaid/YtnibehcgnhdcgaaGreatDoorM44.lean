/- A device is copied. -/
import Derived.Test.YtnibehcgnhdcgaaGreatDoorM43
import Derived.Shelf.SlMaps.Clone
import Derived.Test.YtnibehcgnhdcgaaGreatDoorM36
import Derived.Laws.Bits64b
import Derived.Test.YtnibehcgnhdcgaaGreatDoorM42
namespace Go.Proofs.YtnibehcgnhdcgaaGreatDoor
open Go.RowKit

set_option maxRecDepth 100000 in
set_option maxHeartbeats 2000000 in
theorem mclone_any (b : Nat) (es : Array MapEntry) (clock : Nat) (w : World) (hb : w.heap[b]? = some (.map es clock)) :
    Calls Tryz.prog 41 #[.map (some b)] w fun e w' => e = .returned (.map (some w.heap.size)) ∧ w' = w.alloc (.map es clock) := by
  have hq := fun w => run_eql_map_nil_sl (P := Tryz.prog) w 78 _ _ (some b) Tryz.underlying78
  go_enter Tryz.func41, Tryz.ntmps41
  go_wp2
  rw [run_callFunc_extern Tryz.func69 (by kernel_rfl) (by kernel_rfl) (by kernel_rfl) (e := Extern.MapsClone.clone) (by kernel_rfl), run_maps_clone_sl w 78 hb]
  simp only [Result.andThen]
  rw [Oper.upon_value]
  go_wp2
  rw [run_typeAssert_map_sl _ 78 _ _ _ _ Tryz.underlying78]
  simp only [Result.andThen]
  rw [Oper.upon_value]
  go_wp2
  go_ret
  exact ⟨rfl, rfl⟩
theorem run_equalIn_slice_none {P : Program} (w : World) (d : Nat) (t e : TypeId) (h : P.underlying t = some (.slice e)) : (Op.equalIn (d + 1) t (.slice none 0 0) (.slice none 0 0)).run P w = .ok true w := by
  simp [Op.equalIn, run_underlying h]
theorem run_eql_slice_none {P : Program} (w : World) (t e : TypeId) (h : P.underlying t = some (.slice e)) : (binOp .eql t (.slice none 0 0) (.slice none 0 0)).run P w = .ok (.bool true) w := by
  simp only [binOp]
  simp [show Op.equal t (.slice none 0 0) (.slice none 0 0) = Op.equalIn (9999 + 1) t (.slice none 0 0) (.slice none 0 0) from rfl, run_equalIn_slice_none w 9999 t e h]
set_option maxRecDepth 100000 in
set_option maxHeartbeats 1000000 in
theorem sclone_nil (w : World) :
    Calls Tryz.prog 42 #[.slice none 0 0] w fun e w' => e = .returned (.slice none 0 0) ∧ w' = w := by
  have hq := fun w => run_eql_slice_none (P := Tryz.prog) w 48 _ Tryz.underlying48
  go_enter Tryz.func42, Tryz.ntmps42
  go_wp2
  go_ret
  exact ⟨rfl, rfl⟩
def CopyPost (n : Int) (G : List (Int × List UInt8)) (w : World) (e : Ending) (w' : World) : Prop :=
  ∃ cb cm, e = .returned (.pointer (some ⟨cb, 0, none⟩)) ∧ DevAt w' cb cm n G ∧ Below w.heap.size w w' ∧ w.heap.size ≤ cb ∧ w.heap.size ≤ cm
set_option maxRecDepth 100000 in
set_option maxHeartbeats 4000000 in
theorem copy_any (db mb : Nat) (n : Int) (G : List (Int × List UInt8)) (w : World) (hD : DevAt w db mb n G) :
    Calls Tryz.prog 17 #[.pointer (some ⟨db, 0, none⟩)] w (CopyPost n G w) := by
  obtain ⟨wr, hw1, hw2, hg⟩ := hD.cells
  obtain ⟨es, clock, hm, hst, hes⟩ := hD.map
  have hgood := hD.good
  have hdl := hD.lt
  have hml := hD.map.lt
  have hno := dnone_any db mb w hD.c1
  have c0 := hD.c0
  have c1 := hD.c1
  have c2 := hD.c2
  have c3 := hD.c3
  have c4 := hD.c4
  have c5 : w.cell? ⟨db, 5, none⟩ = some (.int .u64 wr) := by rw [cell_of_row w db 5 _ _ _ hg]; rfl
  obtain ⟨W1, hW1⟩ : ∃ W, W = w.alloc (.cells #[.int .u32 n, .map (some mb), .slice none 0 0, .pointer none, .bool false, .int .u64 wr] 81) := ⟨_, rfl⟩
  have hs1 : W1.heap.size = w.heap.size + 1 := by rw [hW1]; simp
  have g1 : W1.heap[w.heap.size]? = some (.cells #[.int .u32 n, .map (some mb), .slice none 0 0, .pointer none, .bool false, .int .u64 wr] 81 (0, 0)) := by rw [hW1, hget_at _ _ rfl]
  have gd : W1.heap[db]? = some (.cells #[.int .u32 n, .map (some mb), .slice none 0 0, .pointer none, .bool false, .int .u64 wr] 81 (0, 0)) := by rw [hW1, hget_past _ _ hdl]; exact hg
  have hm1 : W1.heap[mb]? = some (.map es clock) := by rw [hW1, hget_past _ _ hml]; exact hm
  have hb1 : Below w.heap.size w W1 := by rw [hW1]; exact (Below.refl _ _).alloc (Nat.le_refl _) _
  have HM := hideIt (And.intro hst hes)
  have HGD := hideIt hgood
  have HW1 := hideIt hW1
  have HB1 := hideIt hb1
  clear hD hg hm hst hes hgood hW1 hb1
  go_enter Tryz.func17, Tryz.ntmps17
  go_upto_region 4 with (first
    | (go_at_call 40; (with_reducible refine hno.mono ?_); rintro e w' ⟨rfl, rfl⟩))
  rw [← HW1.out]
  clear c0 c1 c2 c3 c4 c5 hno
  have hcl := mclone_any mb es clock W1.drew hm1
  have hsc := fun W => sclone_nil W
  have d1 : W1.cell? ⟨db, 1, none⟩ = some (.map (some mb)) := by rw [cell_of_row _ _ _ _ _ _ gd]; rfl
  have d2 : W1.cell? ⟨db, 2, none⟩ = some (.slice none 0 0) := by rw [cell_of_row _ _ _ _ _ _ gd]; rfl
  have d3 : W1.cell? ⟨db, 3, none⟩ = some (.pointer none) := by rw [cell_of_row _ _ _ _ _ _ gd]; rfl
  have e1 : W1.cell? ⟨w.heap.size, 1, none⟩ = some (.map (some mb)) := by rw [cell_of_row _ _ _ _ _ _ g1]; rfl
  have e2 : W1.cell? ⟨w.heap.size, 2, none⟩ = some (.slice none 0 0) := by rw [cell_of_row _ _ _ _ _ _ g1]; rfl
  have f1 : W1.frozen? ⟨w.heap.size, 1, none⟩ = false := by unfold World.frozen?; rw [g1]; rfl
  have f2 : W1.frozen? ⟨w.heap.size, 2, none⟩ = false := by unfold World.frozen?; rw [g1]; rfl
  have G1 := hideIt g1
  have GD := hideIt gd
  have HM1 := hideIt hm1
  clear g1 gd hm1
  go_region_with (first
    | (go_at_call 41; (with_reducible refine hcl.mono ?_); rintro e w1 ⟨rfl, rfl⟩)
    | (go_at_call 42; (with_reducible refine (hsc _).mono ?_); rintro e w1 ⟨rfl, rfl⟩))
  all_goals
    obtain ⟨W2, hW2⟩ : ∃ W, W = (((W1.setCell ⟨w.heap.size, 1, none⟩ (.map (some (w.heap.size + 1)))).setCell ⟨w.heap.size, 2, none⟩ (.slice none 0 0)).alloc (.map es clock)).drew := ⟨_, rfl⟩
    rw [← hW2]
    have hz0 : ((W1.setCell ⟨w.heap.size, 1, none⟩ (.map (some (w.heap.size + 1)))).setCell ⟨w.heap.size, 2, none⟩ (.slice none 0 0)).heap.size = w.heap.size + 1 := by simp [World.setCell]; omega
    have gc : W2.heap[w.heap.size]? = some (.cells #[.int .u32 n, .map (some (w.heap.size + 1)), .slice none 0 0, .pointer none, .bool false, .int .u64 wr] 81 (0, 0)) := by
      rw [hW2, hget_drew, hget_past _ _ (by rw [hz0]; omega), hget_setCell_same _ 2 _ _ _ (hget_setCell_same _ 1 _ _ _ G1.out)]
      rfl
    have gm : W2.heap[w.heap.size + 1]? = some (.map es clock) := by rw [hW2, hget_drew, hget_at _ _ hz0.symm]
    have gd2 : W2.heap[db]? = W1.heap[db]? := by
      rw [hW2, hget_drew, hget_past _ _ (by rw [hz0]; omega), hget_setCell_other _ _ _ (by show db ≠ w.heap.size; omega), hget_setCell_other _ _ _ (by show db ≠ w.heap.size; omega)]
    have hb2 : Below w.heap.size w W2 := by
      refine ⟨?_, ?_, ?_, ?_, fun k hk => ?_⟩
      · rw [hW2]; exact HB1.out.os
      · rw [hW2]; exact HB1.out.tape
      · rw [hW2]; exact HB1.out.output
      · have : w.heap.size + 1 < W2.heap.size := (Array.getElem?_eq_some_iff.1 gm).1
        omega
      · rw [hW2, hget_drew, hget_past _ _ (by rw [hz0]; omega), hget_setCell_other _ _ _ (by show k ≠ w.heap.size; omega), hget_setCell_other _ _ _ (by show k ≠ w.heap.size; omega)]
        exact HB1.out.block k hk
    have hD2 : DevAt W2 w.heap.size (w.heap.size + 1) n G := ⟨⟨wr, hw1, hw2, gc⟩, ⟨es, clock, gm, HM.out.1, HM.out.2⟩, HGD.out⟩
    have d3' : W2.cell? ⟨db, 3, none⟩ = some (.pointer none) := (World.cell?_of_block (w := W1) gd2).trans d3
    have HD2 := hideIt hD2
    have HB2 := hideIt hb2
    clear hW2 gc gm gd2 hD2 hb2 hz0
    go_wp2
    go_ret
    exact ⟨_, _, rfl, HD2.out, HB2.out, Nat.le_refl _, by omega⟩
end Go.Proofs.YtnibehcgnhdcgaaGreatDoor
/- A device's blocks, as rows of pairs: what stands where behind writes. (Printed by gen_cl.py.) -/
namespace Go.Proofs.YtnibehcgnhdcgaaGreatDoor
open Go.RowKit

def lookG (S : List (Int × List UInt8)) (a : Int) : Option (List UInt8) := (S.find? (fun p => a == p.1)).map (·.2)
theorem dblk_look (G : List (Int × List UInt8)) (a : Int) : dblk G a = (lookG G a).getD zb := rfl
theorem lookG_cons (p : Int × List UInt8) (r : List (Int × List UInt8)) (a : Int) : lookG (p :: r) a = if a == p.1 then some p.2 else lookG r a := by
  unfold lookG
  rw [List.find?_cons]
  cases h : a == p.1 <;> simp
theorem lookG_nil (a : Int) : lookG [] a = none := rfl
theorem lookG_put (S : List (Int × List UInt8)) (k : Int) (v : List UInt8) (a : Int) : lookG (putG S k v) a = if a = k then some v else lookG S a := by
  induction S with
  | nil =>
    rw [putG, lookG_cons, lookG_nil]
    by_cases h : a = k <;> simp [h]
  | cons p r ih =>
    rw [putG]
    by_cases hk : k = p.1
    · rw [if_pos (by simpa using hk), lookG_cons, lookG_cons]
      by_cases h : a = k
      · simp [h]
      · have h' : a ≠ p.1 := by rw [← hk]; exact h
        simp [h, h']
    · rw [if_neg (by simpa using hk), lookG_cons, ih, lookG_cons]
      by_cases h : a = p.1
      · have h' : a ≠ k := by rw [h]; exact fun e => hk e.symm
        simp [h]
        intro e; exact absurd e.symm hk
      · simp [h]
theorem lookG_none {S : List (Int × List UInt8)} {a : Int} : lookG S a = none ↔ a ∉ S.map (·.1) := by
  induction S with
  | nil => simp [lookG_nil]
  | cons p r ih =>
    rw [lookG_cons]
    by_cases h : a = p.1
    · simp [h]
    · simp only [List.map_cons, List.mem_cons, not_or]
      rw [if_neg (by simpa using h), ih]
      simp [h]
theorem lookG_del {S : List (Int × List UInt8)} (hn : (S.map (·.1)).Nodup) (k a : Int) : lookG (delG S k) a = if a = k then none else lookG S a := by
  induction S with
  | nil => simp [delG, lookG_nil]
  | cons p r ih =>
    simp only [List.map_cons, List.nodup_cons] at hn
    rw [delG]
    by_cases hk : k = p.1
    · rw [if_pos (by simpa using hk), lookG_cons]
      by_cases h : a = k
      · rw [if_pos h, lookG_none, h, hk]; exact hn.1
      · have h' : a ≠ p.1 := by rw [← hk]; exact h
        rw [if_neg h, if_neg (by simpa using h')]
    · rw [if_neg (by simpa using hk), lookG_cons, ih hn.2, lookG_cons]
      by_cases h : a = p.1
      · have h' : a ≠ k := by rw [h]; exact fun e => hk e.symm
        rw [if_neg h']
        simp [h]
        exact fun e => hk e.symm
      · simp [h]
theorem putG_keys {S : List (Int × List UInt8)} {k : Int} {v : List UInt8} (x : Int) : x ∈ (putG S k v).map (·.1) ↔ x = k ∨ x ∈ S.map (·.1) := by
  rw [← Decidable.not_iff_not, ← lookG_none, lookG_put, not_or, ← lookG_none]
  by_cases h : x = k <;> simp [h]
theorem putG_nodup {S : List (Int × List UInt8)} {k : Int} {v : List UInt8} (hn : (S.map (·.1)).Nodup) : ((putG S k v).map (·.1)).Nodup := by
  induction S with
  | nil => simp [putG]
  | cons p r ih =>
    have hn' := hn
    simp only [List.map_cons, List.nodup_cons] at hn'
    rw [putG]
    by_cases hk : k = p.1
    · rw [if_pos (by simpa using hk)]
      simp only [List.map_cons, List.nodup_cons]
      rw [hk]
      exact hn'
    · rw [if_neg (by simpa using hk)]
      simp only [List.map_cons, List.nodup_cons]
      refine ⟨fun h => ?_, ih hn'.2⟩
      rcases (putG_keys p.1).1 h with h | h
      · exact hk h.symm
      · exact hn'.1 h
theorem delG_nodup {S : List (Int × List UInt8)} {k : Int} (hn : (S.map (·.1)).Nodup) : ((delG S k).map (·.1)).Nodup := by
  induction S with
  | nil => simp [delG]
  | cons p r ih =>
    have hn' := hn
    simp only [List.map_cons, List.nodup_cons] at hn'
    rw [delG]
    by_cases hk : k == p.1
    · rw [if_pos hk]; exact hn'.2
    · rw [if_neg hk]
      simp only [List.map_cons, List.nodup_cons]
      refine ⟨fun h => ?_, ih hn'.2⟩
      obtain ⟨q, hq, e⟩ := List.mem_map.1 h
      exact hn'.1 (List.mem_map.2 ⟨q, delG_mem q hq, e⟩)

/-- A device's keys are each there once. -/
def KeysOnce (G : List (Int × List UInt8)) : Prop := (G.map (·.1)).Nodup
theorem dblk_put {G : List (Int × List UInt8)} (hn : KeysOnce G) (a : Int) (b : List UInt8) (c : Int) : dblk (putD G a b) c = if c = a then b else dblk G c := by
  rw [dblk_look, dblk_look]
  unfold putD
  by_cases hb : b == zb
  · rw [if_pos hb, lookG_del (putG_nodup hn), lookG_put]
    by_cases h : c = a
    · rw [if_pos h, if_pos h]; exact (beq_iff_eq.1 hb).symm
    · rw [if_neg h, if_neg h, if_neg h]
  · rw [if_neg hb, lookG_put]
    by_cases h : c = a
    · rw [if_pos h, if_pos h]; rfl
    · rw [if_neg h, if_neg h]
theorem putD_once {G : List (Int × List UInt8)} (hn : KeysOnce G) (a : Int) (b : List UInt8) : KeysOnce (putD G a b) := by
  unfold putD
  split
  · exact delG_nodup (putG_nodup hn)
  · exact putG_nodup hn
theorem flushG_once : ∀ {L G : List (Int × List UInt8)}, KeysOnce G → KeysOnce (flushG G L)
  | [], _, h => h
  | p :: r, _, h => flushG_once (L := r) (putD_once h p.1 p.2)
theorem dblk_flush_no : ∀ {L G : List (Int × List UInt8)} {c : Int}, KeysOnce G → (∀ p ∈ L, p.1 ≠ c) → dblk (flushG G L) c = dblk G c
  | [], _, _, _, _ => rfl
  | p :: r, G, c, hn, h => by
    have e : flushG G (p :: r) = flushG (putD G p.1 p.2) r := rfl
    rw [e, dblk_flush_no (putD_once hn _ _) (fun q hq => h q (List.mem_cons_of_mem _ hq)), dblk_put hn, if_neg (fun e => h p List.mem_cons_self e.symm)]
theorem dblk_flush_yes : ∀ {L G : List (Int × List UInt8)} {c : Int} {b : List UInt8}, KeysOnce G → (L.map (·.1)).Nodup → (c, b) ∈ L → dblk (flushG G L) c = b
  | [], _, _, _, _, _, h => by simp at h
  | p :: r, G, c, b, hn, hd, h => by
    have e : flushG G (p :: r) = flushG (putD G p.1 p.2) r := rfl
    simp only [List.map_cons, List.nodup_cons] at hd
    rw [e]
    rcases List.mem_cons.1 h with h | h
    · subst h
      rw [dblk_flush_no (putD_once hn _ _) (fun q hq e => hd.1 (List.mem_map.2 ⟨q, hq, e⟩)), dblk_put hn, if_pos rfl]
    · exact dblk_flush_yes (putD_once hn _ _) hd.2 h
end Go.Proofs.YtnibehcgnhdcgaaGreatDoor
/- What is sealed, page by page; the bits of a pick that is turned. -/
namespace Go.Proofs.YtnibehcgnhdcgaaGreatDoor
open Go.RowKit

/-! ### bits -/
theorem bit_turn (cs : List Int) (i j : Nat) (hi : i / 64 < cs.length) (hcs : ∀ x ∈ cs, 0 ≤ x ∧ x < 18446744073709551616) :
    bitI (turnL cs i) j = if j = i then 1 - bitI cs j else bitI cs j := by
  have e1 : ∀ k : Nat, ((k : Int) / 64).toNat = k / 64 := fun k => by omega
  have e2 : ∀ k : Nat, ((k : Int) % 64).toNat = k % 64 := fun k => by omega
  unfold bitI
  rw [e1, e2]
  by_cases hw : j / 64 = i / 64
  · obtain ⟨x, hx⟩ : ∃ x, cs[i / 64]? = some x := ⟨cs[i / 64], List.getElem?_eq_getElem hi⟩
    obtain ⟨h0, h1⟩ := hcs x (List.mem_of_getElem? hx)
    obtain ⟨X, hX⟩ : ∃ X : Nat, x = X := ⟨x.toNat, by omega⟩
    have hp : (2 : Nat) ^ (i % 64) < 18446744073709551616 := Nat.pow_lt_pow_right (by decide) (show i % 64 < 64 by omega)
    have hwr : IntKind.u64.wrap ((2 : Int) ^ (i % 64)) = ((2 ^ (i % 64) : Nat) : Int) := by
      rw [IntKind.wrap_u64, show ((2 : Int) ^ (i % 64)) = ((2 ^ (i % 64) : Nat) : Int) by push_cast; rfl]
      generalize (2 : Nat) ^ (i % 64) = p at hp
      omega
    have hb : bits .xor .u64 x (IntKind.u64.wrap ((2 : Int) ^ (i % 64))) = ((X ^^^ 2 ^ (i % 64) : Nat) : Int) := by
      rw [hwr, hX, bits_xor_u64_nat _ _ (by omega) hp]
    have g1 : cs.getD (i / 64) 0 = x := by rw [List.getD_eq_getElem?_getD, hx]; rfl
    unfold turnL
    rw [hw, g1, hb, List.getD_eq_getElem?_getD, List.getElem?_set_self hi, Option.getD_some, hX]
    have tb : ∀ Y t : Nat, ((Y : Int) / 2 ^ t % 2) = (if Y.testBit t then 1 else 0) := fun Y t => by
      rw [show ((Y : Int) / 2 ^ t % 2) = ((Y / 2 ^ t % 2 : Nat) : Int) by push_cast; rfl, Nat.testBit_eq_decide_div_mod_eq]
      by_cases h : Y / 2 ^ t % 2 = 1
      · simp [h]
      · have : Y / 2 ^ t % 2 = 0 := by omega
        simp [this]
    rw [tb, tb, Nat.testBit_xor, Nat.testBit_two_pow]
    by_cases hj : j = i
    · subst hj
      rw [if_pos rfl]
      cases X.testBit (j % 64) <;> simp
    · have : ¬ i % 64 = j % 64 := fun e => hj (by omega)
      rw [if_neg hj]
      simp [this]
  · have hj : ¬ j = i := fun e => hw (by rw [e])
    rw [if_neg hj]
    unfold turnL
    rw [List.getD_eq_getElem?_getD, List.getElem?_set_ne (fun e => hw e.symm), ← List.getD_eq_getElem?_getD]
def turnAll (cs : List Int) (Q : List Int) : List Int := Q.foldl (fun cs p => turnL cs p.toNat) cs
theorem turnAll_ok : ∀ (Q : List Int) (cs : List Int), cs.length = 16 → (∀ x ∈ cs, 0 ≤ x ∧ x < 18446744073709551616) → Rises Q → (∀ p ∈ Q, 0 ≤ p ∧ p < 1024) →
    (turnAll cs Q).length = 16 ∧ (∀ x ∈ turnAll cs Q, 0 ≤ x ∧ x < 18446744073709551616) ∧ ∀ j : Nat, bitI (turnAll cs Q) j = if (j : Int) ∈ Q then 1 - bitI cs j else bitI cs j
  | [], cs, hl, hc, _, _ => ⟨hl, hc, fun j => by rw [if_neg (by simp)]; rfl⟩
  | p :: r, cs, hl, hc, hr, hp => by
    obtain ⟨h0, h1⟩ := hp p List.mem_cons_self
    have hr' := List.pairwise_cons.1 hr
    obtain ⟨k1, k2, k3⟩ := turnAll_ok r (turnL cs p.toNat) (by rw [turnL_len]; exact hl) (turnL_mem cs _ hc) hr'.2 (fun q hq => hp q (List.mem_cons_of_mem _ hq))
    refine ⟨k1, k2, fun j => ?_⟩
    have e : turnAll cs (p :: r) = turnAll (turnL cs p.toNat) r := rfl
    rw [e, k3, bit_turn cs p.toNat j (by omega) hc]
    by_cases hj : (j : Int) = p
    · have hn : ¬ (j : Int) ∈ r := fun hm => by have := hr'.1 _ hm; omega
      rw [if_neg hn, if_pos (by omega : j = p.toNat), if_pos (by rw [hj]; exact List.mem_cons_self)]
    · have hne : ¬ j = p.toNat := by omega
      rw [if_neg hne]
      by_cases hm : (j : Int) ∈ r
      · rw [if_pos hm, if_pos (List.mem_cons_of_mem _ hm)]
      · rw [if_neg hm, if_neg (by simp [hj, hm])]

/-! ### a page's counts, those that are set laid in -/
def newC (T : Tab) (S : List (Int × Int)) (p : Int) : List Int := (List.range 64).map fun k : Nat => (lookS S (64 * p + k)).getD ((T.tl p).getD k 0)
theorem newC_len (T : Tab) (S : List (Int × Int)) (p : Int) : (newC T S p).length = 64 := by simp [newC]
theorem newC_get (T : Tab) (S : List (Int × Int)) (p : Int) {k : Nat} (h : k < 64) : (newC T S p).getD k 0 = (lookS S (64 * p + k)).getD ((T.tl p).getD k 0) := by
  unfold newC
  rw [List.getD_eq_getElem?_getD, List.getElem?_map, List.getElem?_range h]
  rfl
theorem fillP_get (S : List (Int × Int)) (p : Int) : ∀ (l cs : List Int), Rises l → (∀ b ∈ l, p ≤ b / 64) → cs.length = 64 → ∀ k : Nat, k < 64 →
    (fillP S p cs l).1.getD k 0 = if 64 * p + (k : Int) ∈ l then valS S (64 * p + k) else cs.getD k 0
  | [], cs, _, _, _, k, _ => by rw [if_neg (by simp)]; rfl
  | a :: r, cs, hr, hp, hl, k, hk => by
    have hr' := List.pairwise_cons.1 hr
    rw [fillP]
    by_cases ha : a / 64 = p
    · rw [if_pos ha, fillP_get S p r _ hr'.2 (fun b hb => hp b (List.mem_cons_of_mem _ hb)) (by rw [List.length_set]; exact hl) k hk]
      by_cases hm : 64 * p + (k : Int) ∈ r
      · rw [if_pos hm, if_pos (List.mem_cons_of_mem _ hm)]
      · rw [if_neg hm]
        by_cases he : 64 * p + (k : Int) = a
        · rw [if_pos (by rw [he]; exact List.mem_cons_self), List.getD_eq_getElem?_getD, show (a % 64).toNat = k by omega, List.getElem?_set_self (by omega), he]
          rfl
        · rw [if_neg (by simp [he, hm]), List.getD_eq_getElem?_getD, List.getElem?_set_ne (by omega), ← List.getD_eq_getElem?_getD]
    · rw [if_neg ha, if_neg]
      intro hm
      have hge : ∀ b ∈ a :: r, p < b / 64 := fun b hb => by
        have h1 := hp a List.mem_cons_self
        rcases List.mem_cons.1 hb with e | e
        · omega
        · have := hr'.1 b e; omega
      have := hge _ hm
      omega
theorem list64_ext {a b : List Int} (ha : a.length = 64) (hb : b.length = 64) (h : ∀ k : Nat, k < 64 → a.getD k 0 = b.getD k 0) : a = b := by
  apply List.ext_getElem?
  intro k
  by_cases hk : k < 64
  · have := h k hk
    rw [List.getD_eq_getElem?_getD, List.getD_eq_getElem?_getD, List.getElem?_eq_getElem (by omega), List.getElem?_eq_getElem (by omega)] at this
    rw [List.getElem?_eq_getElem (by omega), List.getElem?_eq_getElem (by omega)]
    simpa using this
  · rw [List.getElem?_eq_none (by omega), List.getElem?_eq_none (by omega)]
theorem fillP_new {T : Tab} (hT : TabOk T) {S : List (Int × Int)} (p : Int) {l : List Int} (hl : Rises l) (hp : ∀ b ∈ l, p ≤ b / 64) (hS : ∀ b, b / 64 = p → (b ∈ l ↔ lookS S b ≠ none)) :
    (fillP S p (T.tl p) l).1 = newC T S p := by
  refine list64_ext (by rw [fillP_len]; exact hT.tlen p) (newC_len _ _ _) fun k hk => ?_
  rw [fillP_get S p l _ hl hp (hT.tlen p) k hk, newC_get _ _ _ hk]
  have h := hS (64 * p + k) (by omega)
  by_cases hm : 64 * p + (k : Int) ∈ l
  · rw [if_pos hm]
    obtain ⟨v, hv⟩ := Option.ne_none_iff_exists'.1 (h.1 hm)
    unfold valS
    rw [hv]; rfl
  · rw [if_neg hm]
    have : lookS S (64 * p + k) = none := Decidable.byContradiction fun e => hm (h.2 e)
    rw [this]; rfl
/-- The pages that are sealed, one by one. -/
theorem sealG_all (T : Tab) (hT : TabOk T) (S : List (Int × Int)) : ∀ (k : Nat) (l : List Int), Rises l → l.length < k →  (∀ b c, b ∈ l → c / 64 = b / 64 → (c ∈ l ↔ lookS S c ≠ none)) → ∀ (o : Option (List Int)) (acc : List (Int × List UInt8)),
    ∃ Q : List Int, Rises Q ∧ (∀ p, p ∈ Q ↔ ∃ a ∈ l, a / 64 = p) ∧
      sealG T S k l o acc = ((if Q = [] then o else some (turnAll (o.getD T.pk) Q)), acc ++ Q.map fun p => (otherI (T.at p), putB 84 p 2 (newC T S p))) := by
  intro k
  induction k with
  | zero => intro l _ h; omega
  | succ k ih =>
    intro l hl hk hs o acc
    cases l with
    | nil => exact ⟨[], List.Pairwise.nil, by simp, by simp [sealG]⟩
    | cons a r =>
      obtain ⟨h1, h2, h3⟩ := dropPage hl
      have hlen : ((a :: r).dropWhile (fun b => decide (b / 64 = a / 64))).length < k := by
        have : ((a :: r).dropWhile (fun b => decide (b / 64 = a / 64))).length ≤ r.length := by
          rw [List.dropWhile_cons, if_pos (by simp)]
          exact (List.dropWhile_sublist _).length_le
        simp only [List.length_cons] at hk
        omega
      have hfill : (fillP S (a / 64) (T.tl (a / 64)) (a :: r)).1 = newC T S (a / 64) :=
        fillP_new hT (a / 64) hl (fun b hb => by have := h3 b hb; omega) (fun b hb => hs a b List.mem_cons_self hb)
      obtain ⟨Q, q1, q2, q3⟩ := ih _ h1 hlen
        (fun b c hb hc => by
          have hb' := (h2 b).1 hb
          rw [h2 c, ← hs b c hb'.1 hc]
          exact ⟨fun h => h.1, fun h => ⟨h, by omega⟩⟩)
        (some (turnL (o.getD T.pk) (a / 64).toNat)) (acc ++ [(otherI (T.at (a / 64)), putB 84 (a / 64) 2 (newC T S (a / 64)))])
      refine ⟨a / 64 :: Q, ?_, ?_, ?_⟩
      · refine List.pairwise_cons.2 ⟨fun p hp => ?_, q1⟩
        obtain ⟨b, hb, e⟩ := (q2 p).1 hp
        have hb' := (h2 b).1 hb
        have := h3 b hb'.1
        omega
      · intro p
        rw [List.mem_cons, q2]
        constructor
        · rintro (e | ⟨b, hb, e⟩)
          · exact ⟨a, List.mem_cons_self, e.symm⟩
          · exact ⟨b, ((h2 b).1 hb).1, e⟩
        · rintro ⟨b, hb, e⟩
          by_cases hp : b / 64 = a / 64
          · exact Or.inl (by omega)
          · exact Or.inr ⟨b, (h2 b).2 ⟨hb, hp⟩, e⟩
      · rw [sealG, hfill, fillP_left_eq, q3, if_neg (show ¬ (a / 64 :: Q = []) by simp)]
        refine Prod.ext ?_ ?_
        · show (if Q = [] then _ else _) = _
          by_cases hQ : Q = []
          · rw [if_pos hQ, hQ]; rfl
          · rw [if_neg hQ]; rfl
        · simp
/-- What is sealed. -/
theorem seal_all (T : Tab) (hT : TabOk T) {S : List (Int × Int)} (hS : SetOk T S) :
    ∃ Q : List Int, Rises Q ∧ (∀ p, p ∈ Q ↔ ∃ a, lookS S a ≠ none ∧ a / 64 = p) ∧
      sealPuts T S = (Q.map fun p => (otherI (T.at p), putB 84 p 2 (newC T S p))) ++ (if Q = [] then [] else [(otherI (2 + T.picks), putB 80 0 8 (turnAll T.pk Q))]) ∧
      sealPicks T S = if Q = [] then T.picks else 1 - T.picks := by
  obtain ⟨Q, q1, q2, q3⟩ := sealG_all T hT S ((keyL S).length + 1) (keyL S) (keyL_rises hS.nodup) (by omega) (fun b c _ _ => keyL_mem S c) none []
  refine ⟨Q, q1, fun p => ?_, ?_, ?_⟩
  · rw [q2]
    constructor
    · rintro ⟨a, ha, e⟩; exact ⟨a, (keyL_mem S a).1 ha, e⟩
    · rintro ⟨a, ha, e⟩; exact ⟨a, (keyL_mem S a).2 ha, e⟩
  · unfold sealPuts
    rw [q3]
    by_cases hQ : Q = []
    · rw [if_pos hQ, if_pos hQ]; simp
    · rw [if_neg hQ, if_neg hQ]; simp
  · unfold sealPicks
    rw [q3]
    by_cases hQ : Q = []
    · rw [if_pos hQ, if_pos hQ]
    · rw [if_neg hQ, if_neg hQ]
end Go.Proofs.YtnibehcgnhdcgaaGreatDoor
/- A table behind a commit: the new one, the old one. -/
namespace Go.Proofs.YtnibehcgnhdcgaaGreatDoor
open Go.RowKit

theorem rises_len : ∀ (l : List Int) (a b : Int), a ≤ b → Rises l → (∀ x ∈ l, a ≤ x ∧ x < b) → (l.length : Int) ≤ b - a
  | [], a, b, h, _, _ => by simp; omega
  | x :: r, a, b, _, hr, h => by
    have hr' := List.pairwise_cons.1 hr
    have hx := h x List.mem_cons_self
    have := rises_len r (x + 1) b (by omega) hr'.2 (fun y hy => ⟨by have := hr'.1 y hy; omega, (h y (List.mem_cons_of_mem _ hy)).2⟩)
    simp only [List.length_cons]
    omega
theorem at_range (T : Tab) (p : Int) : 4 + 2 * p ≤ T.at p ∧ T.at p < 6 + 2 * p := by
  have := bitI_range T.pk p
  unfold Tab.at
  omega
theorem other_at (T : Tab) (p : Int) : otherI (T.at p) = 4 + 2 * p + (1 - bitI T.pk p) := by
  have := bitI_range T.pk p
  unfold otherI Tab.at
  split <;> omega
theorem other_pick {k : Int} (h0 : 0 ≤ k) (h1 : k < 2) : otherI (2 + k) = 2 + (1 - k) := by
  unfold otherI
  split <;> omega

/-- What a commit of what was sealed makes of a table. -/
structure Next (T : Tab) (S : List (Int × Int)) (Q : List Int) : Prop where
  ok : TabOk T
  set : SetOk T S
  once : KeysOnce T.G
  rises : Rises Q
  mem : ∀ p, p ∈ Q ↔ ∃ a, lookS S a ≠ none ∧ a / 64 = p
  puts : sealPuts T S = (Q.map fun p => (otherI (T.at p), putB 84 p 2 (newC T S p))) ++ (if Q = [] then [] else [(otherI (2 + T.picks), putB 80 0 8 (turnAll T.pk Q))])
  picks : sealPicks T S = if Q = [] then T.picks else 1 - T.picks
theorem next_of {T : Tab} (hT : TabOk T) {S : List (Int × Int)} (hS : SetOk T S) (hn : KeysOnce T.G) : ∃ Q, Next T S Q := by
  obtain ⟨Q, q1, q2, q3, q4⟩ := seal_all T hT hS
  exact ⟨Q, hT, hS, hn, q1, q2, q3, q4⟩
section
variable {T : Tab} {S : List (Int × Int)} {Q : List Int} (h : Next T S Q)
include h
theorem Next.page {p : Int} (hp : p ∈ Q) : 0 ≤ p ∧ p < planTl T.n ∧ p < 79 := by
  obtain ⟨a, ha, e⟩ := (h.mem p).1 hp
  obtain ⟨x, hx⟩ := Option.ne_none_iff_exists'.1 ha
  have hk := h.set.key _ (mem_of_look hx)
  have hf := planFi_lt T.n h.ok.n1 (by have := h.ok.n2; omega)
  have h5 := plan5 T.n h.ok.n1 h.ok.n2
  unfold Tab.fi at hk
  simp only at hk
  omega
theorem Next.addr {x : Int × List UInt8} (hx : x ∈ sealPuts T S) : (∃ p ∈ Q, x = (otherI (T.at p), putB 84 p 2 (newC T S p))) ∨ (Q ≠ [] ∧ x = (otherI (2 + T.picks), putB 80 0 8 (turnAll T.pk Q))) := by
  rw [h.puts] at hx
  rcases List.mem_append.1 hx with hx | hx
  · obtain ⟨p, hp, e⟩ := List.mem_map.1 hx
    exact Or.inl ⟨p, hp, e.symm⟩
  · by_cases hQ : Q = []
    · rw [if_pos hQ] at hx; simp at hx
    · rw [if_neg hQ] at hx
      exact Or.inr ⟨hQ, List.mem_singleton.1 hx⟩
theorem Next.turned : (turnAll T.pk Q).length = 16 ∧ (∀ x ∈ turnAll T.pk Q, 0 ≤ x ∧ x < 18446744073709551616) ∧ ∀ j : Nat, bitI (turnAll T.pk Q) j = if (j : Int) ∈ Q then 1 - bitI T.pk j else bitI T.pk j :=
  turnAll_ok Q T.pk h.ok.plen h.ok.pb h.rises (fun p hp => by have := h.page hp; omega)
theorem Next.putsOk : ∀ x ∈ sealPuts T S, 2 ≤ x.1 ∧ x.1 < T.n ∧ x.2.length = 256 := by
  intro x hx
  have h5 := plan5 T.n h.ok.n1 h.ok.n2
  have hf := planFi_lt T.n h.ok.n1 (by have := h.ok.n2; omega)
  rcases h.addr hx with ⟨p, hp, e⟩ | ⟨_, e⟩
  · have hpg := h.page hp
    have hb := bitI_range T.pk p
    rw [e]
    refine ⟨?_, ?_, ?_⟩
    · show 2 ≤ otherI (T.at p); rw [other_at]; omega
    · show otherI (T.at p) < T.n; rw [other_at]; omega
    · exact putB_len 84 p 2 _ (by rw [newC_len]; omega)
  · rw [e]
    have h0 := h.ok.p0
    have h1 := h.ok.p1
    refine ⟨?_, ?_, ?_⟩
    · show 2 ≤ otherI (2 + T.picks); rw [other_pick h0 h1]; omega
    · show otherI (2 + T.picks) < T.n; rw [other_pick h0 h1]; have := h.ok.n1; omega
    · exact putB_len 80 0 8 _ (by rw [h.turned.1]; omega)
theorem Next.putsLen : (sealPuts T S).length ≤ 80 := by
  have hl := rises_len Q 0 79 (by omega) h.rises (fun p hp => by have := h.page hp; omega)
  rw [h.puts, List.length_append, List.length_map]
  split <;> simp <;> omega
theorem Next.distinct : ((sealPuts T S).map (·.1)).Nodup := by
  rw [h.puts, List.map_append, List.map_map]
  have h1 : (Q.map ((fun x => x.1) ∘ fun p => (otherI (T.at p), putB 84 p 2 (newC T S p)))).Nodup := by
    refine List.Pairwise.map _ (fun p q (hpq : p < q) e => ?_) h.rises
    have e : otherI (T.at p) = otherI (T.at q) := e
    rw [other_at, other_at] at e
    have := bitI_range T.pk p
    have := bitI_range T.pk q
    omega
  by_cases hQ : Q = []
  · rw [if_pos hQ, List.map_nil, List.append_nil]; exact h1
  · rw [if_neg hQ, List.map_cons, List.map_nil]
    refine List.nodup_append.2 ⟨h1, by simp, fun a ha b hb e => ?_⟩
    obtain ⟨p, hp, rfl⟩ := List.mem_map.1 ha
    have hb := List.mem_singleton.1 hb
    have e : otherI (T.at p) = b := e
    rw [other_at] at e
    rw [hb] at e
    have e : _ = otherI (2 + T.picks) := e
    rw [other_pick h.ok.p0 h.ok.p1] at e
    have := bitI_range T.pk p
    have := h.page hp
    have := h.ok.p0
    omega
/-- The blocks behind the commit. -/
def afterG (T : Tab) (S : List (Int × Int)) (r : Int) (b : List UInt8) : List (Int × List UInt8) := putD (flushG T.G (sealPuts T S)) r b
theorem Next.once' (r : Int) (b : List UInt8) : KeysOnce (afterG T S r b) := putD_once (flushG_once h.once) r b
theorem Next.yes {r : Int} (hr : r < 2) (b : List UInt8) {a : Int} {x : List UInt8} (hx : (a, x) ∈ sealPuts T S) : dblk (afterG T S r b) a = x := by
  unfold afterG
  have ha := (h.putsOk _ hx).1
  simp only at ha
  rw [dblk_put (flushG_once h.once), if_neg (by omega), dblk_flush_yes h.once h.distinct hx]
theorem Next.no {r : Int} (hr : r < 2) (b : List UInt8) {a : Int} (ha : 2 ≤ a) (hx : ∀ x ∈ sealPuts T S, x.1 ≠ a) : dblk (afterG T S r b) a = dblk T.G a := by
  unfold afterG
  rw [dblk_put (flushG_once h.once), if_neg (by omega), dblk_flush_no h.once hx]
/-- A place of the old table is none that is put. -/
theorem Next.oldPage {p : Int} (hp : 0 ≤ p) : ∀ x ∈ sealPuts T S, x.1 ≠ T.at p := by
  intro x hx e
  have hb := bitI_range T.pk p
  rcases h.addr hx with ⟨q, hq, e2⟩ | ⟨_, e2⟩
  · rw [e2] at e
    have e : otherI (T.at q) = T.at p := e
    rw [other_at] at e
    have hb2 := bitI_range T.pk q
    unfold Tab.at at e
    have : q = p := by omega
    subst this
    omega
  · rw [e2] at e
    have e : otherI (2 + T.picks) = T.at p := e
    rw [other_pick h.ok.p0 h.ok.p1] at e
    have := (at_range T p).1
    have := h.ok.p0
    omega
theorem Next.oldPick : ∀ x ∈ sealPuts T S, x.1 ≠ 2 + T.picks := by
  intro x hx e
  have h0 := h.ok.p0
  have h1 := h.ok.p1
  rcases h.addr hx with ⟨q, hq, e2⟩ | ⟨_, e2⟩
  · rw [e2] at e
    have e : otherI (T.at q) = 2 + T.picks := e
    rw [other_at] at e
    have hb2 := bitI_range T.pk q
    have := h.page hq
    omega
  · rw [e2] at e
    have e : otherI (2 + T.picks) = 2 + T.picks := e
    rw [other_pick h0 h1] at e
    omega
/-- The old root's table, on the new blocks. -/
theorem Next.old {r : Int} (hr : r < 2) (b : List UInt8) {T' : Tab} (en : T'.n = T.n) (ep : T'.picks = T.picks) (eG : T'.G = afterG T S r b) (ek : T'.pk = T.pk) (et : T'.tl = T.tl) : TabOk T' := by
  have eat : ∀ p, T'.at p = T.at p := fun p => by unfold Tab.at; rw [ek]
  refine ⟨by rw [en]; exact h.ok.n1, by rw [en]; exact h.ok.n2, by rw [ep]; exact h.ok.p0, by rw [ep]; exact h.ok.p1, ?_, by rw [ek]; exact h.ok.plen, by rw [ek]; exact h.ok.pb, fun p h0 h1 => ?_, by rw [et]; exact h.ok.tlen, by rw [et]; exact h.ok.tb⟩
  · rw [eG, ep, ek, h.no hr b (by have := h.ok.p0; omega) h.oldPick]
    exact h.ok.pick
  · rw [eG, eat, et, h.no hr b (by have := (at_range T p).1; omega) (h.oldPage h0)]
    rw [en] at h1
    exact h.ok.tally p h0 h1
theorem Next.untouched {p : Int} (hp : p ∉ Q) : newC T S p = T.tl p := by
  refine list64_ext (newC_len _ _ _) (h.ok.tlen p) fun k hk => ?_
  rw [newC_get _ _ _ hk]
  have : lookS S (64 * p + k) = none := Decidable.byContradiction fun e => hp ((h.mem p).2 ⟨64 * p + k, e, by omega⟩)
  rw [this]; rfl
theorem Next.newBounds (p : Int) : ∀ x ∈ newC T S p, 0 ≤ x ∧ x < 65536 := by
  intro x hx
  unfold newC at hx
  obtain ⟨k, _, e⟩ := List.mem_map.1 hx
  rw [← e]
  cases hl : lookS S (64 * p + k) with
  | some v => exact h.set.val _ (mem_of_look hl)
  | none =>
    show 0 ≤ (T.tl p).getD k 0 ∧ (T.tl p).getD k 0 < 65536
    rw [List.getD_eq_getElem?_getD]
    cases hg : (T.tl p)[k]? with
    | none => exact ⟨by simp, by simp⟩
    | some v => exact h.ok.tb p v (List.mem_of_getElem? hg)
/-- The new root's table. -/
theorem Next.new {r : Int} (hr : r < 2) (b : List UInt8) {T' : Tab} (en : T'.n = T.n) (ep : T'.picks = sealPicks T S) (eG : T'.G = afterG T S r b) (ek : T'.pk = turnAll T.pk Q) (et : T'.tl = newC T S) : TabOk T' := by
  obtain ⟨t1, t2, t3⟩ := h.turned
  have h0 := h.ok.p0
  have h1 := h.ok.p1
  have epk : T'.picks = if Q = [] then T.picks else 1 - T.picks := ep.trans h.picks
  refine ⟨by rw [en]; exact h.ok.n1, by rw [en]; exact h.ok.n2, by rw [epk]; split <;> omega, by rw [epk]; split <;> omega, ?_, by rw [ek]; exact t1, by rw [ek]; exact t2, fun p p0 p1 => ?_, fun p => by rw [et]; exact newC_len _ _ _, fun p => by rw [et]; exact h.newBounds p⟩
  · rw [eG, ek, epk]
    by_cases hQ : Q = []
    · rw [if_pos hQ, h.no hr b (by omega) h.oldPick, hQ]
      exact h.ok.pick
    · rw [if_neg hQ, ← other_pick h0 h1, h.yes hr b (a := otherI (2 + T.picks)) (x := putB 80 0 8 (turnAll T.pk Q)) (by rw [h.puts, if_neg hQ]; simp)]
      exact fun W => pget_put 0 (by omega) (by omega) _ t1 t2 W
  · rw [en] at p1
    have hj : p = ((p.toNat : Nat) : Int) := by omega
    have hbit := t3 p.toNat
    rw [← hj] at hbit
    have hat : T'.at p = if p ∈ Q then otherI (T.at p) else T.at p := by
      unfold Tab.at
      rw [ek, hbit]
      have e := other_at T p
      unfold Tab.at at e
      split
      · rw [e]
      · rfl
    rw [eG, et, hat]
    by_cases hp : p ∈ Q
    · rw [if_pos hp, h.yes hr b (a := otherI (T.at p)) (x := putB 84 p 2 (newC T S p)) (by rw [h.puts]; exact List.mem_append_left _ (List.mem_map.2 ⟨p, hp, rfl⟩))]
      have h5 := plan5 T.n h.ok.n1 h.ok.n2
      exact fun W => tget_put p p0 (by omega) _ (newC_len _ _ _) (h.newBounds p) W
    · rw [if_neg hp, h.untouched hp, h.no hr b (by have := (at_range T p).1; omega) (h.oldPage p0)]
      exact h.ok.tally p p0 p1
theorem Next.newOld {T' : Tab} (en : T'.n = T.n) (et : T'.tl = newC T S) (a : Int) (ha : a < T.n) : T'.old a = T.now S a := by
  have hfi : T'.fi = T.fi := by unfold Tab.fi; rw [en]
  unfold Tab.old Tab.now
  rw [hfi, en, et, if_neg (show ¬ T.n ≤ a by omega)]
  by_cases hc : a < T.fi ∨ T.n ≤ a
  · rw [if_pos hc]
    have hl : lookS S a = none := by
      cases hl : lookS S a with
      | none => rfl
      | some v => have := h.set.key _ (mem_of_look hl); simp only at this; omega
    rw [hl]
    show 0 = T.old a
    unfold Tab.old
    rw [if_pos hc]
  · rw [if_neg hc, newC_get _ _ _ (by omega), show 64 * (a / 64) + (((a % 64).toNat : Nat) : Int) = a by omega]
    unfold Tab.old
    rw [if_neg hc]
end
end Go.Proofs.YtnibehcgnhdcgaaGreatDoor
