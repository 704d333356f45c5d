/- CountCommits: a round of the sets. -/
import Derived.Test.YtnibehcgnhdcgaaGreatDoorM46
import Derived.Test.YtnibehcgnhdcgaaGreatDoorM45
import Derived.Test.YtnibehcgnhdcgaaGreatDoorM35
import Derived.Test.YtnibehcgnhdcgaaGreatDoorM26
import Derived.Test.YtnibehcgnhdcgaaGreatDoorM44
import Derived.CellFam
import Derived.Deep.Cut
namespace Go.Proofs.YtnibehcgnhdcgaaGreatDoor
open Go.RowKit Go.Maps
set_option maxRecDepth 100000 in
set_option maxHeartbeats 8000000 in
theorem commits_body (n : Nat) (h1 : 64 ≤ n) (h2 : n ≤ 5000) (p : Option Addr) (len cap : Nat) (L : Nat → Int × Int) (M : Nat → Bool) (w : World) (hL : SetsBt w p len L M) : (commits_part n h1 h2 p len cap L M w hL).p := by
  delta commits_part
  refine fromTwo_p ?_
  set_option tactic.hygienic false in intros
  revert wr_1
  intro wr
  set_option tactic.hygienic false in intros
  revert rA_1
  intro rA
  set_option tactic.hygienic false in intros
  -- BODY2
  obtain ⟨hb1, hb2, hb3⟩ := hb
  have hb1' : (k : Int) < (len : Int) := by omega
  have hb2' : (k : Int) < 60 := by omega
  obtain ⟨blk, off, rfl, hblk, ca0, cx0, cm0⟩ := HL.out.at_ k hb1
  have hBr : Below w.heap.size w wr := HB4.out.trans (hK.below hw4 (fun k hk => by have := HFF.out k hk; omega))
  have hca : ∀ W, Below w.heap.size w W → W.cell? ⟨blk, off + k * 260, none⟩ = some (.int .u32 (L k).1) := fun W h => (World.cell?_of_block (w := w) (h.block _ hblk)).trans ca0
  have hcx : ∀ W, Below w.heap.size w W → W.cell? ⟨blk, off + k * 260 + 1, none⟩ = some (.int .u16 (L k).2) := fun W h => (World.cell?_of_block (w := w) (h.block _ hblk)).trans cx0
  have cm : wr.cell? ⟨blk, off + k * 260 + 2, none⟩ = some (.bool (M k)) := (World.cell?_of_block (w := w) (hBr.block _ hblk)).trans cm0
  obtain ⟨a, hae⟩ : ∃ a : Nat, (L k).1 = a := ⟨(L k).1.toNat, by have := HL.out.r1 k hb1; omega⟩
  have ha : a < 4294967296 := by have := HL.out.r1 k hb1; omega
  have ca := hca wr hBr
  have cx := hcx wr hBr
  obtain ⟨x, hxe⟩ : ∃ x, (L k).2 = x := ⟨_, rfl⟩
  rw [hae] at ca hca
  rw [hxe] at cx hcx
  have hset := tset_any T HTK.out wr.drew (setsR T L' (k - i)) (hA.of_blocks fun _ _ => rfl) a ha x
  have hnext : T.setTo (setsR T L' (k - i)) a x = setsR T L' (k + 1 - i) := by
    rw [show k + 1 - i = (k - i) + 1 by omega, setsR, HL'.out, show i + (k - i) = k by omega, hae, hxe]
  rw [etb, hnext] at hset
  have HBR := hideIt hBr
  have HCA := hideIt hca
  have HCX := hideIt hcx
  have HK := hideIt hK
  clear hA hBr hca hcx hK ca0 cx0 cm0 hae hxe hnext
  go_upto_region 13 with fail
  go_cut [95] from 75 to 129 (fun s95 wx => s95 = .bool true ∧ wx = wr)
  case first =>
    by_cases hki : k = i
    · have hki' : (k : Int) = (i : Int) := by omega
      have HKI := hideIt hki
      clear hki
      go_wp2_with fail
      go_meet
      case rel => exact ⟨by simp [hki'], rfl⟩
    · have hki' : ¬ (k : Int) = (i : Int) := by omega
      have hM : M k = false := by rcases hb3 with h | h; exact absurd h hki; exact h
      rw [hM] at cm
      clear hb3 hM
      go_wp2_with fail
      go_meet
      case rel => exact ⟨by simp [hki'], rfl⟩
  case rest =>
  obtain ⟨rfl, rfl⟩ := hcut
  go_upto_region 14 with fail
  go_cut [13] from 75 to 129 (fun s13 wx => s13 = .int .i64 (T.setErr a) ∧ TabAt T wx (setsR T L' (k + 1 - i)) ∧ Keeps (fun k => k = T.pm ∨ k = T.tm ∨ k = T.sm) W4 wx)
  case first =>
    go_region_with (go_at_call 10; (with_reducible refine hset.mono ?_); rintro e w1 ⟨rfl, hA1, hk1⟩)
    all_goals
      go_wp2_with fail
      go_meet
      case rel => exact ⟨rfl, hA1, HK.out.trans ((Keeps.refl _ _).drew.trans hk1)⟩
  case rest =>
    obtain ⟨rfl, hA1, hK1⟩ := hcut
    obtain ⟨w1, hw1⟩ : ∃ w1, w1 = wc := ⟨_, rfl⟩
    rw [← hw1] at hA1 hK1 ⊢
    clear hw1 HBR HK
    have hB1 : Below w.heap.size w w1 := HB4.out.trans (hK1.below hw4 (fun k hk => by have := HFF.out k hk; omega))
    have ca1 := HCA.out w1 hB1
    have hfirst := fun q => (tfirst_any T (w1.drewN q) _ (hA1.of_blocks fun _ _ => rfl)).mono (fun e w' (h : _ ∧ w1.drewN q = w') => (⟨h.1, h.2.symm⟩ : _ ∧ w' = w1.drewN q))
    have hfirst1 := (tfirst_any T w1.drew _ (hA1.of_blocks fun _ _ => rfl)).mono (fun e w' (h : _ ∧ w1.drew = w') => (⟨h.1, h.2.symm⟩ : _ ∧ w' = w1.drew))
    simp only [etb, HFE.out] at hfirst hfirst1
    have hse : T.setErr (a : Int) = if (a : Int) < F ∨ (n : Int) ≤ a then 2 else 0 := by unfold Tab.setErr; rw [HFE.out, HETN.out]
    have HA1 := hideIt hA1
    have HK1 := hideIt hK1
    clear hA1 hK1 hB1 hset ca cx cm
    by_cases haF : a < F
    · have he : T.setErr (a : Int) = 2 := by rw [hse, if_pos (by omega)]
      have q1 : ¬ (F : Int) ≤ (a : Int) := by omega
      have q2 : ¬ F ≤ a := by omega
      clear hse
      go_upto_region 15 with fail
      go_quiet (first | (go_at_call 11; first | exact Calls.quiet_of_same (hfirst _) | exact Calls.quiet_of_same hfirst1))
      go_wp2
      go_roundw
      case rel => exact ⟨k + 1, by go_num, by omega, by omega, by omega, HA1.out.of_blocks (fun _ _ => rfl), HK1.out.drewN _⟩
      case measure => simp [intOf]; omega
    · by_cases han : a < n
      · have he : T.setErr (a : Int) = 0 := by rw [hse, if_neg (by omega)]
        have q1 : (F : Int) ≤ (a : Int) := by omega
        have q2 : F ≤ a := by omega
        have q3 : (a : Int) < (n : Int) := by omega
        clear hse
        go_upto_region 15 with fail
        go_quiet (first | (go_at_call 11; first | exact Calls.quiet_of_same (hfirst _) | exact Calls.quiet_of_same hfirst1))
        go_wp2
        go_roundw
        case rel => exact ⟨k + 1, by go_num, by omega, by omega, by omega, HA1.out.of_blocks (fun _ _ => rfl), HK1.out.drewN _⟩
        case measure => simp [intOf]; omega
      · have he : T.setErr (a : Int) = 2 := by rw [hse, if_pos (by omega)]
        have q1 : (F : Int) ≤ (a : Int) := by omega
        have q2 : F ≤ a := by omega
        have q3 : ¬ (a : Int) < (n : Int) := by omega
        clear hse
        go_upto_region 15 with fail
        go_quiet (first | (go_at_call 11; first | exact Calls.quiet_of_same (hfirst _) | exact Calls.quiet_of_same hfirst1))
        go_wp2
        go_roundw
        case rel => exact ⟨k + 1, by go_num, by omega, by omega, by omega, HA1.out.of_blocks (fun _ _ => rfl), HK1.out.drewN _⟩
        case measure => simp [intOf]; omega
end Go.Proofs.YtnibehcgnhdcgaaGreatDoor
