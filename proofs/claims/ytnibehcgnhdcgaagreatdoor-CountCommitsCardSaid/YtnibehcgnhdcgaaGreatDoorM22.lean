/- The checksum bit by bit is the checksum by a table: the plain law. -/
import Derived.Test.YtnibehcgnhdcgaaGreatDoorM1
import Derived.Test.YtnibehcgnhdcgaaGreatDoorM2
import Derived.Deep.DeepCutAuto
import Derived.Deep.CutBlock
namespace Go.Proofs.YtnibehcgnhdcgaaGreatDoor
open Go.RowKit

/-- One step of the checksum bit by bit. -/
def rstepI (x b : Int) : Int := if (2147483648 ≤ x) ↔ (b = 1) then x * 2 % 4294967296 else bits .xor .u32 (x * 2 % 4294967296) 79764919
def rnibI (x v : Int) : Int := rstepI (rstepI (rstepI (rstepI x (v / 8 % 2)) (v / 4 % 2)) (v / 2 % 2)) (v % 2)

def sB (X : BitVec 32) : BitVec 32 := (X <<< 1) ^^^ (if X.msb then 79764919#32 else 0#32)
def tB (b : Bool) : BitVec 32 := if b then 2147483648#32 else 0#32

theorem bits_xor_bv (X Y : BitVec 32) : bits .xor .u32 (X.toNat : Int) (Y.toNat : Int) = ((X ^^^ Y).toNat : Int) := by
  simp only [bits, IntKind.wrap_u32]
  show ((BitVec.ofInt 32 (X.toNat : Int) ^^^ BitVec.ofInt 32 (Y.toNat : Int)).toNat : Int) % 4294967296 = _
  rw [BitVec.ofInt_natCast, BitVec.ofInt_natCast, BitVec.ofNat_toNat, BitVec.ofNat_toNat, BitVec.setWidth_eq, BitVec.setWidth_eq]
  have := (X ^^^ Y).isLt
  omega
theorem bits_and_bv (X Y : BitVec 32) : bits .and .u32 (X.toNat : Int) (Y.toNat : Int) = ((X &&& Y).toNat : Int) := by
  simp only [bits, IntKind.wrap_u32]
  show ((BitVec.ofInt 32 (X.toNat : Int) &&& BitVec.ofInt 32 (Y.toNat : Int)).toNat : Int) % 4294967296 = _
  rw [BitVec.ofInt_natCast, BitVec.ofInt_natCast, BitVec.ofNat_toNat, BitVec.ofNat_toNat, BitVec.setWidth_eq, BitVec.setWidth_eq]
  have := (X &&& Y).isLt
  omega
theorem shl1_toNat (X : BitVec 32) : ((X <<< 1).toNat : Int) = (X.toNat : Int) * 2 % 4294967296 := by
  rw [BitVec.toNat_shiftLeft, Nat.shiftLeft_eq]
  omega
theorem msb_iff (X : BitVec 32) : X.msb = true ↔ 2147483648 ≤ X.toNat := by
  rw [BitVec.msb_eq_decide]
  simp
theorem and_top (X : BitVec 32) : 0 < bits .and .u32 (X.toNat : Int) 2147483648 ↔ X.msb = true := by
  have h := bits_and_bv X 2147483648#32
  rw [show ((2147483648#32).toNat : Int) = 2147483648 from rfl] at h
  rw [h]
  have e : X &&& 2147483648#32 = if X.msb then 2147483648#32 else 0#32 := by
    apply BitVec.eq_of_getLsbD_eq
    intro i hi
    rw [BitVec.getLsbD_and]
    by_cases h31 : i = 31
    · subst h31
      rw [BitVec.msb_eq_getLsbD_last]
      cases h : X.getLsbD 31 <;> simp [h] <;> decide
    · have e0 : (2147483648#32).getLsbD i = false := by
        have key : ∀ i : Fin 32, i.val ≠ 31 → (2147483648#32).getLsbD i.val = false := by decide
        exact key ⟨i, hi⟩ h31
      rw [e0, Bool.and_false]
      cases X.msb
      · simp
      · simp only [if_true]; rw [e0]
  rw [e]
  cases X.msb <;> simp
theorem stepI_bv (X : BitVec 32) : stepI (X.toNat : Int) = ((sB X).toNat : Int) := by
  unfold stepI sB
  have h := and_top X
  by_cases hm : X.msb = true
  · rw [if_pos (h.2 hm), if_pos hm, ← bits_xor_bv, shl1_toNat]
    rfl
  · rw [if_neg (fun k => hm (h.1 k)), if_neg hm, BitVec.xor_zero, shl1_toNat]
theorem rstepI_bv (X : BitVec 32) (b : Bool) : rstepI (X.toNat : Int) (if b then 1 else 0) = ((sB (X ^^^ tB b)).toNat : Int) := by
  unfold rstepI sB tB
  have hm := msb_iff X
  have hl : (X ^^^ 2147483648#32) <<< 1 = X <<< 1 := by
    rw [BitVec.shiftLeft_xor_distrib, show (2147483648#32) <<< 1 = 0#32 from by decide, BitVec.xor_zero]
  cases b
  · simp only [Bool.false_eq_true, if_false, BitVec.xor_zero]
    by_cases h : X.msb = true
    · rw [if_neg (by have := hm.1 h; simp; omega), if_pos h, ← bits_xor_bv, shl1_toNat]
      rfl
    · rw [if_pos (by have : ¬ 2147483648 ≤ X.toNat := fun k => h (hm.2 k); simp; omega), if_neg h, BitVec.xor_zero, shl1_toNat]
  · simp only [if_true, BitVec.msb_xor, hl]
    rw [show (2147483648#32).msb = true from by decide]
    by_cases h : X.msb = true
    · rw [if_pos (by have := hm.1 h; simp; omega), h]
      simp only [Bool.xor_self, Bool.false_eq_true, if_false, BitVec.xor_zero, shl1_toNat]
    · rw [if_neg (by have : ¬ 2147483648 ≤ X.toNat := fun k => h (hm.2 k); simp; omega)]
      have h' : X.msb = false := by simpa using h
      rw [h']
      simp only [Bool.false_xor, if_true]
      rw [← bits_xor_bv, shl1_toNat]
      rfl
theorem sB_xor (X Y : BitVec 32) : sB (X ^^^ Y) = sB X ^^^ sB Y := by
  unfold sB
  rw [BitVec.shiftLeft_xor_distrib, BitVec.msb_xor]
  generalize X <<< 1 = a
  generalize Y <<< 1 = b
  cases X.msb <;> cases Y.msb <;> simp only [Bool.xor_self, Bool.false_xor, Bool.xor_false, Bool.false_eq_true, if_false, if_true, BitVec.xor_zero]
  · ac_rfl
  · ac_rfl
  · rw [show a ^^^ 79764919#32 ^^^ (b ^^^ 79764919#32) = (a ^^^ b) ^^^ (79764919#32 ^^^ 79764919#32) from by ac_rfl, BitVec.xor_self, BitVec.xor_zero]

def s4 (X : BitVec 32) : BitVec 32 := sB (sB (sB (sB X)))
theorem s4_xor (X Y : BitVec 32) : s4 (X ^^^ Y) = s4 X ^^^ s4 Y := by simp only [s4, sB_xor]
theorem sB_low (X : BitVec 32) (h : X.toNat < 2147483648) : sB X = X <<< 1 ∧ (X <<< 1).toNat = X.toNat * 2 := by
  have hm : X.msb = false := by
    rw [BitVec.msb_eq_decide]
    simp; omega
  refine ⟨by unfold sB; rw [hm]; simp, ?_⟩
  rw [BitVec.toNat_shiftLeft, Nat.shiftLeft_eq]
  omega
theorem s4_low (X : BitVec 32) (h : X.toNat < 268435456) : (s4 X).toNat = X.toNat * 16 := by
  obtain ⟨e1, t1⟩ := sB_low X (by omega)
  obtain ⟨e2, t2⟩ := sB_low (X <<< 1) (by omega)
  obtain ⟨e3, t3⟩ := sB_low (X <<< 1 <<< 1) (by omega)
  obtain ⟨e4, t4⟩ := sB_low (X <<< 1 <<< 1 <<< 1) (by omega)
  rw [s4, e1, e2, e3, e4, t4, t3, t2, t1]
  omega
/-- The bits of half a byte, as they come. -/
def kB (n : Nat) : BitVec 32 := sB (sB (sB (sB (tB (n / 8 % 2 == 1)) ^^^ tB (n / 4 % 2 == 1)) ^^^ tB (n / 2 % 2 == 1)) ^^^ tB (n % 2 == 1))
theorem kB_eq (n : Nat) (h : n < 16) : kB n = s4 (BitVec.ofNat 32 (n * 268435456)) := by
  have key : ∀ n : Fin 16, kB n.val = s4 (BitVec.ofNat 32 (n.val * 268435456)) := by decide +kernel
  exact key ⟨n, h⟩
theorem top_xor (a b : Nat) (ha : a < 16) (hb : b < 16) : BitVec.ofNat 32 ((a ^^^ b) * 268435456) = BitVec.ofNat 32 (a * 268435456) ^^^ BitVec.ofNat 32 (b * 268435456) := by
  have key : ∀ a b : Fin 16, BitVec.ofNat 32 ((a.val ^^^ b.val) * 268435456) = BitVec.ofNat 32 (a.val * 268435456) ^^^ BitVec.ofNat 32 (b.val * 268435456) := by decide +kernel
  exact key ⟨a, ha⟩ ⟨b, hb⟩
theorem split_bv (X : BitVec 32) : X = BitVec.ofNat 32 (X.toNat / 268435456 * 268435456) ^^^ BitVec.ofNat 32 (X.toNat % 268435456) := by
  apply BitVec.eq_of_getLsbD_eq
  intro i hi
  rw [BitVec.getLsbD_xor, BitVec.getLsbD_ofNat, BitVec.getLsbD_ofNat, BitVec.getLsbD]
  simp only [hi, decide_true, Bool.true_and]
  rw [show (268435456 : Nat) = 2 ^ 28 from rfl, Nat.testBit_mul_two_pow, Nat.testBit_div_two_pow, Nat.testBit_mod_two_pow]
  by_cases h : i < 28
  · rw [decide_eq_true h, decide_eq_false (by omega)]; simp
  · rw [decide_eq_false h, decide_eq_true (by omega)]; simp
    rw [show i - 28 + 28 = i from by omega]
theorem stepN4_bv (X : BitVec 32) : stepN 4 (X.toNat : Int) = ((s4 X).toNat : Int) := by
  simp only [stepN, stepI_bv, s4]
theorem tabF_bv (n : Nat) (h : n < 16) : tabF n = ((s4 (BitVec.ofNat 32 (n * 268435456))).toNat : Int) := by
  rw [← stepN4_bv, BitVec.toNat_ofNat, tabF]
  congr 1
  omega
theorem xor8_nat (a b : Nat) (ha : a < 16) (hb : b < 16) : (bits .xor .u8 (a : Int) (b : Int)).toNat = a ^^^ b := by
  have key : ∀ a b : Fin 16, (bits .xor .u8 (a.val : Int) (b.val : Int)).toNat = a.val ^^^ b.val := by decide +kernel
  exact key ⟨a, ha⟩ ⟨b, hb⟩
theorem rnib_bv (X : BitVec 32) (n : Nat) : rnibI (X.toNat : Int) (n : Int) = ((s4 X ^^^ kB n).toNat : Int) := by
  have hb : ∀ m : Nat, ((m : Int) % 2) = if (m % 2 == 1) then 1 else 0 := by
    intro m
    by_cases h : m % 2 = 1
    · simp [h]; omega
    · simp [h]; omega
  unfold rnibI
  rw [show (n : Int) / 8 = ((n / 8 : Nat) : Int) from by omega, show (n : Int) / 4 = ((n / 4 : Nat) : Int) from by omega, show (n : Int) / 2 = ((n / 2 : Nat) : Int) from by omega, hb, hb, hb, hb]
  rw [rstepI_bv, rstepI_bv, rstepI_bv, rstepI_bv]
  simp only [s4, kB, sB_xor]
  congr 1
  ac_rfl
theorem nib_bv (X : BitVec 32) (n : Nat) (hn : n < 16) : nibI (X.toNat : Int) (n : Int) = rnibI (X.toNat : Int) (n : Int) := by
  rw [rnib_bv X n]
  have hX := X.isLt
  have hh : X.toNat / 268435456 < 16 := by omega
  unfold nibI
  rw [show (X.toNat : Int) / 268435456 = ((X.toNat / 268435456 : Nat) : Int) from by omega, xor8_nat _ _ hh hn, tabF_bv _ (Nat.xor_lt_two_pow (n := 4) hh hn), top_xor _ _ hh hn, s4_xor, ← kB_eq n hn]
  have e1 : s4 X = s4 (BitVec.ofNat 32 (X.toNat / 268435456 * 268435456)) ^^^ s4 (BitVec.ofNat 32 (X.toNat % 268435456)) := by
    rw [← s4_xor, ← split_bv]
  have e2 : (X.toNat : Int) * 16 % 4294967296 = ((s4 (BitVec.ofNat 32 (X.toNat % 268435456))).toNat : Int) := by
    rw [s4_low _ (by rw [BitVec.toNat_ofNat]; omega), BitVec.toNat_ofNat]
    omega
  rw [e1, e2, bits_xor_bv]
  congr 1
  congr 1
  ac_rfl
theorem nib_ref (x v : Int) (hx : 0 ≤ x ∧ x < 4294967296) (hv : 0 ≤ v ∧ v < 16) : nibI x v = rnibI x v := by
  have h := nib_bv (BitVec.ofNat 32 x.toNat) v.toNat (by omega)
  rw [BitVec.toNat_ofNat, Nat.mod_eq_of_lt (by omega), Int.toNat_of_nonneg hx.1, Int.toNat_of_nonneg hv.1] at h
  exact h
theorem rstepI_range (x b : Int) : 0 ≤ rstepI x b ∧ rstepI x b < 4294967296 := by
  unfold rstepI
  split
  · omega
  · exact xor_u32_range _ _
/-- A byte, bit by bit, the highest one first. -/
def rbits (x : Int) (b : UInt8) : Nat → Int
  | 0 => x
  | k + 1 => rstepI (rbits x b k) ((b.toNat : Int) / 2 ^ (7 - k) % 2)
theorem rbits8 (x : Int) (b : UInt8) (hx : 0 ≤ x ∧ x < 4294967296) : rbits x b 8 = byteI x b := by
  have hb := b.toNat_lt
  unfold byteI
  rw [nib_ref x _ hx (by omega), nib_ref _ _ (by unfold rnibI; exact rstepI_range _ _) (by omega)]
  unfold rnibI
  simp only [rbits, Nat.sub_zero, Nat.reduceSub, Int.reducePow]
  have e : ∀ k : Int, (b.toNat : Int) / k = ((b.toNat : Int) / k) := fun _ => rfl
  rw [show (b.toNat : Int) / 16 / 8 = (b.toNat : Int) / 128 from by omega, show (b.toNat : Int) / 16 / 4 = (b.toNat : Int) / 64 from by omega, show (b.toNat : Int) / 16 / 2 = (b.toNat : Int) / 32 from by omega,
    show (b.toNat : Int) % 16 / 8 % 2 = (b.toNat : Int) / 8 % 2 from by omega, show (b.toNat : Int) % 16 / 4 % 2 = (b.toNat : Int) / 4 % 2 from by omega, show (b.toNat : Int) % 16 / 2 % 2 = (b.toNat : Int) / 2 % 2 from by omega,
    show (b.toNat : Int) % 16 % 2 = (b.toNat : Int) / 1 % 2 from by omega]
theorem rbits_range (x : Int) (b : UInt8) (hx : 0 ≤ x ∧ x < 4294967296) (k : Nat) : 0 ≤ rbits x b k ∧ rbits x b k < 4294967296 := by
  cases k with
  | zero => exact hx
  | succ k => exact rstepI_range _ _
/-- The end: all bits turned. -/
theorem crc_end (x : Int) (hx : 0 ≤ x ∧ x < 4294967296) : bits .xor .u32 4294967295 x = 4294967295 - x := by
  have h := bits_xor_bv 4294967295#32 (BitVec.ofNat 32 x.toNat)
  rw [BitVec.toNat_ofNat x.toNat, Nat.mod_eq_of_lt (by omega), Int.toNat_of_nonneg hx.1, show ((4294967295#32).toNat : Int) = 4294967295 from rfl] at h
  rw [h, show (4294967295#32 : BitVec 32) = BitVec.allOnes 32 from by decide, BitVec.allOnes_xor, BitVec.toNat_not, BitVec.toNat_ofNat]
  omega
end Go.Proofs.YtnibehcgnhdcgaaGreatDoor
/- The document's checksum and seal compute what the program's do. -/
namespace Go.Proofs.YtnibehcgnhdcgaaGreatDoor
open Go.RowKit

set_option maxHeartbeats 1000000 in
theorem rstep_any (x b : Int) (w : World) :
    Calls Tryz.prog 120 #[.int .u32 x, .int .u8 b] w fun e w' => e = .returned (.int .u32 (rstepI x b)) ∧ w = w' := by
  have hr : ((2147483648 ≤ x) ↔ (b = 1)) → rstepI x b = x * 2 % 4294967296 := fun h => if_pos h
  have hn : ¬ ((2147483648 ≤ x) ↔ (b = 1)) → rstepI x b = bits .xor .u32 (x * 2 % 4294967296) 79764919 := fun h => if_neg h
  have Hr := hideIt hr
  have Hn := hideIt hn
  clear hr hn
  go_enter Tryz.func120, Tryz.ntmps120
  go_wp2
  all_goals go_ret
  · rename_i h
    refine ⟨?_, rfl⟩
    rw [Hn.out (by intro k; by_cases h1 : 2147483648 ≤ x <;> by_cases h2 : b = 1 <;> simp [h1, h2] at h k)]
    rfl
  · rename_i h
    refine ⟨?_, rfl⟩
    rw [Hr.out (by by_cases h1 : 2147483648 ≤ x <;> by_cases h2 : b = 1 <;> simp [h1, h2] at h ⊢)]
    rfl

set_option maxRecDepth 100000 in
set_option maxHeartbeats 1000000 in
theorem rsum_any (s : ByteArray) (w : World) (hs : s.size ≤ 1000) :
    Calls Tryz.prog 107 #[.string s] w fun e w' => e = .returned (.int .u32 (crcSum s.data.toList)) ∧ w = w' := by
  go_enter Tryz.func107, Tryz.ntmps107
  go_wp2
  go_loopw [3, 4] (fun v3 v4 wr => ∃ (k : Nat), k ≤ s.size ∧ v4 = .int .i64 k ∧ v3 = .int .u32 (crcI 4294967295 (s.data.toList.take k)) ∧ w = wr) (fun _ v4 _ => s.size - (intOf v4).toNat)
  case atStart => exact ⟨0, by omega, rfl, rfl, rfl⟩
  case round =>
    obtain ⟨k, hk, rfl, rfl, rfl⟩ := hrel
    have hx1 : 0 ≤ crcI 4294967295 (s.data.toList.take k) ∧ crcI 4294967295 (s.data.toList.take k) < 4294967296 := crcI_range _ (by omega) _
    generalize hx : crcI 4294967295 (s.data.toList.take k) = x at hx1
    have Hx := hideIt hx
    clear hx
    by_cases hlt : k < s.size
    · obtain ⟨b, hb⟩ : ∃ b, b = s[k] := ⟨_, rfl⟩
      have Hb := hideIt hb
      have hb8 : (b.toNat : Int) < 256 := by have := b.toNat_lt; omega
      go_wp2_with fail
      go_loopw [3, 5] (fun v3 v5 wr => ∃ (m : Nat), m ≤ 8 ∧ v5 = .int .i64 ((m : Int) - 1) ∧ v3 = .int .u32 (rbits x b (8 - m)) ∧ w = wr) (fun _ v5 _ => (intOf v5 + 1).toNat)
      case atStart => exact ⟨8, by omega, rfl, rfl, rfl⟩
      case round =>
        obtain ⟨m, hm, rfl, rfl, rfl⟩ := hrel
        have hy := rbits_range x b hx1 (8 - m)
        by_cases h0 : m = 0
        · subst h0
          go_wp2_with fail
          go_roundw
          case rel =>
            refine ⟨k + 1, by omega, by go_num, ?_, trivial⟩
            rw [rbits8 x b hx1]
            have e : s.data.toList.take (k + 1) = s.data.toList.take k ++ [s[k]] := by
              rw [List.take_succ_eq_append_getElem (by simpa using hlt)]; rfl
            rw [e, crcI_snoc, Hx.out, Hb.out]
          case measure => simp [intOf]; omega
        · obtain ⟨j, rfl⟩ : ∃ j, m = j + 1 := ⟨m - 1, by omega⟩
          have hst : rbits x b (8 - j) = rstepI (rbits x b (8 - (j + 1))) ((b.toNat : Int) / 2 ^ j % 2) := by
            obtain ⟨i, hi⟩ : ∃ i, i = 8 - (j + 1) := ⟨_, rfl⟩
            rw [show 8 - j = i + 1 from by omega, ← hi, rbits, show 7 - i = j from by omega]
          have Hst := hideIt hst
          clear hst
          generalize hyy : rbits x b (8 - (j + 1)) = y at hy Hst
          have hc := fun b' W => rstep_any y b' W
          rw [show (((j + 1 : Nat) : Int) - 1) = (j : Int) from by omega]
          go_wp2_with (go_at_call 120; (with_reducible refine (hc _ _).mono ?_); rintro e w' ⟨rfl, rfl⟩)
          go_roundw
          case rel => exact ⟨j, by omega, by go_num, by rw [Hst.out, Hb.out, Int.tmod_eq_emod_of_nonneg (Int.ediv_nonneg (by omega) (Int.pow_nonneg (by decide)))], trivial⟩
          case measure => simp [intOf]
    · have hk' : k = s.size := by omega
      go_wp2
      go_ret
      refine ⟨?_, rfl⟩
      rw [crcSum, crc_end _ (crcI_range _ (by omega) _)]
      rw [hk', List.take_of_length_le (by simp)] at Hx
      rw [Hx.out]
      rfl
end Go.Proofs.YtnibehcgnhdcgaaGreatDoor
/- The document's seal. -/
namespace Go.Proofs.YtnibehcgnhdcgaaGreatDoor
open Go.RowKit

set_option maxRecDepth 100000 in
set_option maxHeartbeats 1000000 in
theorem rseal_any (b : List UInt8) (hb : b.length = 256) (w : World) :
    Calls Tryz.prog 87 #[.agg (blkA b)] w fun e w' => e = .returned (.agg (blkA (sealB b))) ∧ Below w.heap.size w w' := by
  have hsz : (blkA b).size = 256 := by rw [blkA_size, hb]
  have hz := blkA_size zb
  go_enter Tryz.func87, Tryz.ntmps87
  have hn : (b.take 252).length = 252 := by rw [List.length_take, hb]; rfl
  have hc := string_of_block ((w.alloc (.cells (blkA b) 41)).alloc (.cells (blkA zb) 41)) w.heap.size b 252 hn 41 (0, 0) 256 (by rw [hget_past _ _ (by simp), hget_at _ _ rfl])
  have hcs := fun W => rsum_any ⟨(b.take 252).toArray⟩ W (by show (b.take 252).toArray.size ≤ 1000; rw [List.size_toArray, hn]; decide)
  clear hz hn
  go_upto_region 2 with (first
    | (with_reducible refine wl_alloc zero41 ?_)
    | (go_at_call 107; refine (hcs _).mono ?_; rintro e w1 ⟨rfl, hb1⟩))
  have hA : w1.heap[w.heap.size]? = some (.cells (blkA b) 41 (0, 0)) := by rw [← hb1, hget_past _ _ (by simp), hget_at _ _ rfl]
  have hZ : w1.heap[w.heap.size + 1]? = some (.cells (blkA zb) 41 (0, 0)) := by rw [← hb1, hget_at _ _ (by simp)]
  have hB : Below w.heap.size w w1 := by rw [← hb1]; exact ((Below.refl _ w).alloc (Nat.le_refl _) _).alloc (by simp) _
  have hx := crcSum_range (b.take 252)
  generalize hX : crcSum (b.take 252) = x at hx ⊢
  obtain ⟨hx1, hx2⟩ := hx
  have HX := hideIt hX
  have hf : ∀ j, w1.frozen? ⟨w.heap.size, j, none⟩ = false := fun j => frozen_of_row w1 _ j _ _ hA
  have hcl : ∀ j, j < 256 → ∃ v, w1.cell? ⟨w.heap.size, j, none⟩ = some v := fun j hj => by
    rw [cell_of_row w1 _ j _ _ _ hA]
    exact ⟨(blkA b)[j]'(by omega), Array.getElem?_eq_getElem (by omega)⟩
  obtain ⟨v0, hv0⟩ := hcl 252 (by omega)
  obtain ⟨v1, hv1⟩ := hcl 253 (by omega)
  obtain ⟨v2, hv2⟩ := hcl 254 (by omega)
  obtain ⟨v3, hv3⟩ := hcl 255 (by omega)
  have HA := hideIt hA
  have HZ := hideIt hZ
  clear hA hZ hcl hcs hc hX hsz hb1
  go_upto_region 6 with fail
  rw [show Value.int .u8 (x / 16777216) = byteV (toB (x / 16777216)) from by rw [byteV_toB]; congr 1; omega]
  rw [← byteV_toB, ← byteV_toB, ← byteV_toB]
  obtain ⟨W4, hW4⟩ : ∃ W, W = (((w1.setCell ⟨w.heap.size, 252, none⟩ (byteV (toB (x / 16777216)))).setCell ⟨w.heap.size, 253, none⟩ (byteV (toB (x / 65536)))).setCell ⟨w.heap.size, 254, none⟩ (byteV (toB (x / 256)))).setCell ⟨w.heap.size, 255, none⟩ (byteV (toB x)) := ⟨_, rfl⟩
  rw [← hW4]
  have g1 := hget_setCell_same w.heap.size 252 _ _ (byteV (toB (x / 16777216))) HA.out
  have g2 := hget_setCell_same w.heap.size 253 _ _ (byteV (toB (x / 65536))) g1
  have g3 := hget_setCell_same w.heap.size 254 _ _ (byteV (toB (x / 256))) g2
  have g4 := hget_setCell_same w.heap.size 255 _ _ (byteV (toB x)) g3
  rw [blkA_set, blkA_set, blkA_set, blkA_set, ← hW4, ← HX.out] at g4
  change W4.heap[w.heap.size]? = some (.cells (blkA (sealB b)) 41 (0, 0)) at g4
  have gz : W4.heap[w.heap.size + 1]? = some (.cells (blkA zb) 41 (0, 0)) := by
    rw [hW4, hget_setCell_other _ _ _ (by simp), hget_setCell_other _ _ _ (by simp), hget_setCell_other _ _ _ (by simp), hget_setCell_other _ _ _ (by simp)]
    exact HZ.out
  have hB4 : Below w.heap.size w W4 := by
    rw [hW4]
    exact (((hB.setCell (Nat.le_refl _) _).setCell (Nat.le_refl _) _).setCell (Nat.le_refl _) _).setCell (Nat.le_refl _) _
  have hs4 : (blkA (sealB b)).size = 256 := by rw [blkA_size, sealB_length, hb]
  have h14 := blkA_one (sealB b)
  generalize hS : blkA (sealB b) = cs at g4 hs4 h14
  have HS := hideIt hS
  have Hb := hideIt hb
  have i4 := size41.trans (congrArg some hs4.symm)
  have e4 : (blkA zb).size = cs.size := by rw [hs4, zbA_size]
  clear hS g1 g2 g3 hW4 hv0 hv1 hv2 hv3 hf hB hb hs4
  go_wp2_with (first
    | (with_reducible refine wl_load rfl g4 Tryz.underlying41 rfl i4 ?_)
    | (with_reducible refine wl_store rfl rfl gz i4 e4 h14 ?_))
  exact ret_cell rfl rfl (setRow_heap W4 _ _ cs _ _ gz) Tryz.underlying41 rfl i4 ⟨by rw [HS.out], below_setRow hB4 (by omega) _⟩

end Go.Proofs.YtnibehcgnhdcgaaGreatDoor
