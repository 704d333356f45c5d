/- A block's reader: numbers of two, four, eight bytes. -/
import Derived.Test.YtnibehcgnhdcgaaGreatDoorM39
import Derived.Test.YtnibehcgnhdcgaaGreatDoorM2
import Derived.Test.YtnibehcgnhdcgaaGreatDoorM3
namespace Go.Proofs.YtnibehcgnhdcgaaGreatDoor
open Go.RowKit

theorem getB {b : List UInt8} (hb : b.length = 256) {n : Nat} (h : n < 256) : ∃ x, b[n]? = some x := ⟨b[n]'(by omega), List.getElem?_eq_getElem (by omega)⟩
theorem cell_blk {W : World} {bb : Nat} {b : List UInt8} (hW : W.heap[bb]? = some (.cells (blkA b) 41 (0, 0))) {j : Nat} {x : UInt8} (hx : b[j]? = some x) : W.cell? ⟨bb, j, none⟩ = some (byteV x) := by
  rw [cell_of_row _ _ _ _ _ _ hW, blkA_get, hx]; rfl
theorem drop_cons {b : List UInt8} {n : Nat} {x : UInt8} (h : b[n]? = some x) : b.drop n = x :: b.drop (n + 1) := by
  obtain ⟨hn, e⟩ := List.getElem?_eq_some_iff.1 h
  rw [List.drop_eq_getElem_cons hn, e]
theorem drop_take2 {b : List UInt8} {n : Nat} {x0 x1 : UInt8} (h0 : b[n]? = some x0) (h1 : b[n + 1]? = some x1) : (b.drop n).take 2 = [x0, x1] := by
  rw [drop_cons h0]
  rw [drop_cons h1]
  rfl

theorem drop_take4 {b : List UInt8} {n : Nat} {x0 x1 x2 x3 : UInt8} (h0 : b[n]? = some x0) (h1 : b[n + 1]? = some x1) (h2 : b[n + 2]? = some x2) (h3 : b[n + 3]? = some x3) : (b.drop n).take 4 = [x0, x1, x2, x3] := by
  rw [drop_cons h0]
  rw [drop_cons h1]
  rw [drop_cons h2]
  rw [drop_cons h3]
  rfl

theorem drop_take8 {b : List UInt8} {n : Nat} {x0 x1 x2 x3 x4 x5 x6 x7 : UInt8} (h0 : b[n]? = some x0) (h1 : b[n + 1]? = some x1) (h2 : b[n + 2]? = some x2) (h3 : b[n + 3]? = some x3) (h4 : b[n + 4]? = some x4) (h5 : b[n + 5]? = some x5) (h6 : b[n + 6]? = some x6) (h7 : b[n + 7]? = some x7) : (b.drop n).take 8 = [x0, x1, x2, x3, x4, x5, x6, x7] := by
  rw [drop_cons h0]
  rw [drop_cons h1]
  rw [drop_cons h2]
  rw [drop_cons h3]
  rw [drop_cons h4]
  rw [drop_cons h5]
  rw [drop_cons h6]
  rw [drop_cons h7]
  rfl
set_option maxRecDepth 100000 in
set_option maxHeartbeats 1000000 in
theorem rdnum2_any (rb bb at_ : Nat) (b : List UInt8) (hb : b.length = 256) (hn : at_ + 2 ≤ 252) (w : World) (hR : Rd w rb bb b at_) :
    Calls Tryz.prog 94 #[.pointer (some ⟨rb, 0, none⟩), .int .i64 2] w fun e w' => e = .returned (.int .u64 (leV ((b.drop at_).take 2))) ∧ Rd w' rb bb b ((at_ + 2 : Nat) : Int) ∧ Keeps (fun k => k = rb) w w' := by
  obtain ⟨x0, h0⟩ := getB hb (show at_ < 256 by omega)
  obtain ⟨x1, h1⟩ := getB hb (show at_ + 1 < 256 by omega)
  rw [drop_take2 h0 h1]
  have ht := take_any rb bb at_ 2 b (leV [x0, x1]) hn (by omega) w hR (fun W hW => num1c2 bb at_ _ x0 x1 W (cell_blk hW h0) (cell_blk hW h1))
  rw [show ((2 : Nat) : Int) = 2 from rfl] at ht
  have hwd := width_any 2 (by simp) w
  rw [show ((2 : Nat) : Int) = 2 from rfl] at hwd
  have HR := hideIt hR
  clear hR h0 h1
  go_enter Tryz.func94, Tryz.ntmps94
  go_wp2_with (first
    | (go_at_call 90; (with_reducible refine hwd.mono ?_); rintro e w' ⟨rfl, rfl⟩)
    | (go_at_call 110; (with_reducible refine ht.mono ?_); rintro e w' ⟨rfl, hR1, hk1⟩))
  go_ret
  exact ⟨rfl, hR1, hk1⟩

set_option maxRecDepth 100000 in
set_option maxHeartbeats 1000000 in
theorem rdnum4_any (rb bb at_ : Nat) (b : List UInt8) (hb : b.length = 256) (hn : at_ + 4 ≤ 252) (w : World) (hR : Rd w rb bb b at_) :
    Calls Tryz.prog 94 #[.pointer (some ⟨rb, 0, none⟩), .int .i64 4] w fun e w' => e = .returned (.int .u64 (leV ((b.drop at_).take 4))) ∧ Rd w' rb bb b ((at_ + 4 : Nat) : Int) ∧ Keeps (fun k => k = rb) w w' := by
  obtain ⟨x0, h0⟩ := getB hb (show at_ < 256 by omega)
  obtain ⟨x1, h1⟩ := getB hb (show at_ + 1 < 256 by omega)
  obtain ⟨x2, h2⟩ := getB hb (show at_ + 2 < 256 by omega)
  obtain ⟨x3, h3⟩ := getB hb (show at_ + 3 < 256 by omega)
  rw [drop_take4 h0 h1 h2 h3]
  have ht := take_any rb bb at_ 4 b (leV [x0, x1, x2, x3]) hn (by omega) w hR (fun W hW => num1c4 bb at_ _ x0 x1 x2 x3 W (cell_blk hW h0) (cell_blk hW h1) (cell_blk hW h2) (cell_blk hW h3))
  rw [show ((4 : Nat) : Int) = 4 from rfl] at ht
  have hwd := width_any 4 (by simp) w
  rw [show ((4 : Nat) : Int) = 4 from rfl] at hwd
  have HR := hideIt hR
  clear hR h0 h1 h2 h3
  go_enter Tryz.func94, Tryz.ntmps94
  go_wp2_with (first
    | (go_at_call 90; (with_reducible refine hwd.mono ?_); rintro e w' ⟨rfl, rfl⟩)
    | (go_at_call 110; (with_reducible refine ht.mono ?_); rintro e w' ⟨rfl, hR1, hk1⟩))
  go_ret
  exact ⟨rfl, hR1, hk1⟩

set_option maxRecDepth 100000 in
set_option maxHeartbeats 1000000 in
theorem rdnum8_any (rb bb at_ : Nat) (b : List UInt8) (hb : b.length = 256) (hn : at_ + 8 ≤ 252) (w : World) (hR : Rd w rb bb b at_) :
    Calls Tryz.prog 94 #[.pointer (some ⟨rb, 0, none⟩), .int .i64 8] w fun e w' => e = .returned (.int .u64 (leV ((b.drop at_).take 8))) ∧ Rd w' rb bb b ((at_ + 8 : Nat) : Int) ∧ Keeps (fun k => k = rb) w w' := by
  obtain ⟨x0, h0⟩ := getB hb (show at_ < 256 by omega)
  obtain ⟨x1, h1⟩ := getB hb (show at_ + 1 < 256 by omega)
  obtain ⟨x2, h2⟩ := getB hb (show at_ + 2 < 256 by omega)
  obtain ⟨x3, h3⟩ := getB hb (show at_ + 3 < 256 by omega)
  obtain ⟨x4, h4⟩ := getB hb (show at_ + 4 < 256 by omega)
  obtain ⟨x5, h5⟩ := getB hb (show at_ + 5 < 256 by omega)
  obtain ⟨x6, h6⟩ := getB hb (show at_ + 6 < 256 by omega)
  obtain ⟨x7, h7⟩ := getB hb (show at_ + 7 < 256 by omega)
  rw [drop_take8 h0 h1 h2 h3 h4 h5 h6 h7]
  have ht := take_any rb bb at_ 8 b (leV [x0, x1, x2, x3, x4, x5, x6, x7]) hn (by omega) w hR (fun W hW => num1c8 bb at_ _ x0 x1 x2 x3 x4 x5 x6 x7 W (cell_blk hW h0) (cell_blk hW h1) (cell_blk hW h2) (cell_blk hW h3) (cell_blk hW h4) (cell_blk hW h5) (cell_blk hW h6) (cell_blk hW h7))
  rw [show ((8 : Nat) : Int) = 8 from rfl] at ht
  have hwd := width_any 8 (by simp) w
  rw [show ((8 : Nat) : Int) = 8 from rfl] at hwd
  have HR := hideIt hR
  clear hR h0 h1 h2 h3 h4 h5 h6 h7
  go_enter Tryz.func94, Tryz.ntmps94
  go_wp2_with (first
    | (go_at_call 90; (with_reducible refine hwd.mono ?_); rintro e w' ⟨rfl, rfl⟩)
    | (go_at_call 110; (with_reducible refine ht.mono ?_); rintro e w' ⟨rfl, hR1, hk1⟩))
  go_ret
  exact ⟨rfl, hR1, hk1⟩
end Go.Proofs.YtnibehcgnhdcgaaGreatDoor
/- A block's reader: its end. -/
namespace Go.Proofs.YtnibehcgnhdcgaaGreatDoor
open Go.RowKit

def slLen : Value → Nat | .slice _ n _ => n | _ => 0
set_option maxHeartbeats 1000000 in
theorem trimR_any (bb at_ n cap : Nat) (hn : n ≤ 256) (hc : n ≤ cap) (hcap : cap ≤ 256) (w : World) (h : ∀ j, j < n → w.cell? ⟨bb, at_ + j, none⟩ = some (.int .u8 0)) :
    Calls Tryz.prog 126 #[.slice (some ⟨bb, at_, none⟩) n cap, .int .u8 0] w fun e w' => e = .returned (.slice (some ⟨bb, at_, none⟩) 0 cap) ∧ w' = w := by
  have H := hideIt h
  clear h
  go_enter Tryz.func126, Tryz.ntmps126
  go_wp2
  go_loopw [0] (fun v wr => ∃ k : Nat, v = .slice (some ⟨bb, at_, none⟩) k cap ∧ k ≤ n ∧ wr = w) (fun v _ => slLen v)
  case atStart => exact ⟨n, rfl, Nat.le_refl _, rfl⟩
  case round =>
    obtain ⟨k, rfl, hk, rfl⟩ := hrel
    by_cases hk0 : k = 0
    · subst hk0
      go_wp2
      go_ret
      exact ⟨rfl, rfl⟩
    · obtain ⟨m, rfl⟩ : ∃ m, k = m + 1 := ⟨k - 1, by omega⟩
      have c := H.out m (by omega)
      go_wp2
      exact ⟨⟨m, rfl, by omega, trivial⟩, by simp [slLen]⟩
set_option maxHeartbeats 1000000 in
theorem trimL_any (p : Option Addr) (cap : Nat) (w : World) :
    Calls Tryz.prog 125 #[.slice p 0 cap, .int .u8 0] w fun e w' => e = .returned (.slice none 0 0) ∧ w' = w := by
  go_enter Tryz.func125, Tryz.ntmps125
  go_wp2
  refine wp_loop_rounds 1 ?_
  rw [rounds_succ]
  go_wp2
  go_ret
  exact ⟨rfl, rfl⟩
set_option maxRecDepth 100000 in
set_option maxHeartbeats 1000000 in
theorem trim_any (bb at_ n cap : Nat) (hn1 : 1 ≤ n) (hn : n ≤ 256) (hc : n ≤ cap) (hcap : cap ≤ 256) (w : World) (h : ∀ j, j < n → w.cell? ⟨bb, at_ + j, none⟩ = some (.int .u8 0)) :
    Calls Tryz.prog 123 #[.slice (some ⟨bb, at_, none⟩) n cap, .string ⟨#[0]⟩] w fun e w' => e = .returned (.slice none 0 0) ∧ ∃ k, w' = w.drewN k := by
  have hr := fun k => trimR_any bb at_ n cap hn hc hcap (w.drewN k) h
  have hr1 := trimR_any bb at_ n cap hn hc hcap w.drew h
  have hl := fun W => trimL_any (some ⟨bb, at_, none⟩) cap W
  have hn0 : ¬ n = 0 := by omega
  clear h
  go_enter Tryz.func123, Tryz.ntmps123
  go_upto_region 6 with fail
  go_quiet (first
    | (go_at_call 126; first | exact Calls.quiet_of_same (hr _) | exact Calls.quiet_of_same hr1)
    | (go_at_call 125; exact Calls.quiet_of_same (hl _)))
  go_wp2
  go_ret
  exact ⟨rfl, nq, rfl⟩
set_option maxHeartbeats 1000000 in
theorem blank_any (bb at_ n cap : Nat) (hn1 : 1 ≤ n) (hn : n ≤ 256) (hc : n ≤ cap) (hcap : cap ≤ 256) (w : World) (h : ∀ j, j < n → w.cell? ⟨bb, at_ + j, none⟩ = some (.int .u8 0)) :
    Calls Tryz.prog 113 #[.slice (some ⟨bb, at_, none⟩) n cap] w fun e w' => e = .returned (.bool true) ∧ ∃ k, w' = w.drewN k := by
  have ht := trim_any bb at_ n cap hn1 hn hc hcap w h
  clear h
  go_enter Tryz.func113, Tryz.ntmps113
  go_wp2_with (first
    | (go_at_call 123; (with_reducible refine ht.mono ?_); rintro e w' ⟨rfl, k, rfl⟩))
  go_ret
  exact ⟨rfl, k, rfl⟩
set_option maxRecDepth 100000 in
set_option maxHeartbeats 2000000 in
theorem rdend_any (rb bb at_ : Nat) (b : List UInt8) (hn : at_ < 252) (w : World) (hR : Rd w rb bb b at_) (h : ∀ j, at_ ≤ j → j < 252 → b[j]? = some 0) :
    Calls Tryz.prog 95 #[.pointer (some ⟨rb, 0, none⟩)] w fun e w' => e = .returned (.int .i64 0) ∧ ∃ k, w' = w.drewN k := by
  have hcell : ∀ j, j < 252 - at_ → w.cell? ⟨bb, at_ + j, none⟩ = some (.int .u8 0) := fun j hj => hR.cb (h (at_ + j) (by omega) (by omega))
  have hbl := fun k => blank_any bb at_ (252 - at_) (256 - at_) (by omega) (by omega) (by omega) (by omega) (w.drewN k) hcell
  have hbl1 := blank_any bb at_ (252 - at_) (256 - at_) (by omega) (by omega) (by omega) (by omega) w.drew hcell
  have hf := fun k => rfine_any rb bb b at_ (w.drewN k) (hR.of_blocks rfl rfl)
  have hf1 := rfine_any rb bb b at_ w.drew (hR.of_blocks rfl rfl)
  have c0 := hR.c0
  have c1 := hR.c1
  have hle : (at_ : Int) ≤ 252 := by omega
  have hle2 : ¬ (252 : Int) < at_ := by omega
  have hle3 : at_ ≤ 252 := by omega
  clear hR h hcell
  go_enter Tryz.func95, Tryz.ntmps95
  go_upto_region 1 with fail
  go_quiet (first
    | (go_at_call 112; first | exact Calls.quiet_of_same (hf _) | exact Calls.quiet_of_same hf1)
    | (go_at_call 113; first | exact Calls.quiet_of (hbl _) | exact Calls.quiet_of hbl1))
  go_wp2
  go_ret
  exact ⟨rfl, nq, rfl⟩
end Go.Proofs.YtnibehcgnhdcgaaGreatDoor
/- The bytes of a page that was put. -/
namespace Go.Proofs.YtnibehcgnhdcgaaGreatDoor
open Go.RowKit

theorem leV_leB (k : Nat) : ∀ n : Int, 0 ≤ n → n < 256 ^ k → leV (leB k n) = n := by
  induction k with
  | zero => intro n h1 h2; simp at h2; simp [leB, leV]; omega
  | succ k ih =>
    intro n h1 h2
    rw [leB, leV, ih (n / 256) (by omega) (by rw [Int.pow_succ] at h2; omega), toB_toNat]
    omega
theorem sealB_low (b : List UInt8) {i : Nat} (h : i < 252) : (sealB b)[i]? = b[i]? := by
  unfold sealB
  simp only [List.getElem?_set_ne (show 255 ≠ i by omega), List.getElem?_set_ne (show 254 ≠ i by omega), List.getElem?_set_ne (show 253 ≠ i by omega), List.getElem?_set_ne (show 252 ≠ i by omega)]
theorem sealB_mid (b : List UInt8) {a c : Nat} (h : a + c ≤ 252) : ((sealB b).drop a).take c = (b.drop a).take c := by
  apply List.ext_getElem?
  intro i
  rw [List.getElem?_take, List.getElem?_take]
  by_cases hi : i < c
  · rw [if_pos hi, if_pos hi, List.getElem?_drop, List.getElem?_drop, sealB_low _ (by omega)]
  · rw [if_neg hi, if_neg hi]
theorem rowB_drop (k : Nat) : ∀ (j : Nat) (cs : List Int), (rowB k cs).drop (k * j) = rowB k (cs.drop j)
  | 0, cs => by simp
  | j + 1, [] => by simp [rowB]
  | j + 1, n :: r => by
    rw [rowB, List.drop_succ_cons, ← rowB_drop k j r, Nat.mul_succ, Nat.add_comm, ← List.drop_drop, List.drop_left' (leB_length k n)]
section
variable (m : UInt8) (idx : Int) (k : Nat) (cs : List Int)
theorem putL_len : (leB 4 idx ++ rowB k cs).length = 4 + k * cs.length := by rw [List.length_append, leB_length, rowB_length]
variable (hk : 4 + k * cs.length ≤ 251)
include hk
theorem putB_len : (putB m idx k cs).length = 256 := by
  unfold putB
  rw [sealB_length, rawB_length _ _ (by rw [putL_len]; exact hk)]
theorem putB_good : sealB (putB m idx k cs) = putB m idx k cs := by
  unfold putB
  exact sealB_sealB _ (rawB_length _ _ (by rw [putL_len]; exact hk))
omit hk in
theorem putB_first : (putB m idx k cs)[0]? = some m := by
  unfold putB
  rw [sealB_low _ (by omega)]
  rfl
omit hk in
theorem putB_idx : ((putB m idx k cs).drop 1).take 4 = leB 4 idx := by
  unfold putB
  rw [sealB_mid _ (by omega)]
  unfold rawB
  rw [List.drop_succ_cons, List.drop_zero, List.append_assoc, List.take_left' (leB_length 4 idx)]
theorem putB_row {j : Nat} {n : Int} (hj : cs[j]? = some n) : ((putB m idx k cs).drop (5 + k * j)).take k = leB k n := by
  have hjl : j < cs.length := (List.getElem?_eq_some_iff.1 hj).1
  have hm : k * (j + 1) ≤ k * cs.length := Nat.mul_le_mul_left k hjl
  rw [Nat.mul_succ] at hm
  unfold putB
  rw [sealB_mid _ (by omega)]
  unfold rawB
  rw [show 5 + k * j = (4 + k * j) + 1 by omega, List.drop_succ_cons, List.append_assoc, ← List.drop_drop, List.drop_left' (leB_length 4 idx), List.drop_append_of_le_length (by rw [rowB_length]; omega), rowB_drop]
  obtain ⟨_, e⟩ := List.getElem?_eq_some_iff.1 hj
  rw [List.drop_eq_getElem_cons hjl, e, rowB, List.append_assoc, List.take_left' (leB_length k n)]
theorem putB_tail {j : Nat} (h1 : 5 + k * cs.length ≤ j) (h2 : j < 252) : (putB m idx k cs)[j]? = some 0 := by
  unfold putB
  rw [sealB_low _ h2]
  unfold rawB
  obtain ⟨i, rfl⟩ : ∃ i, j = i + 1 := ⟨j - 1, by omega⟩
  rw [List.getElem?_cons_succ, List.getElem?_append_right (by rw [putL_len]; omega), List.getElem?_replicate, if_pos (by rw [putL_len]; omega)]
omit hk in
theorem putB_ne (hm : m ≠ 0) : (putB m idx k cs == zb) = false := by
  have h : putB m idx k cs ≠ zb := fun e => by
    have h1 := putB_first m idx k cs
    rw [e, zb, List.getElem?_replicate, if_pos (by omega)] at h1
    exact hm (Option.some.inj h1).symm
  simpa using h
end
end Go.Proofs.YtnibehcgnhdcgaaGreatDoor
