/- CountCommits: a round of the sets. -/
import Derived.Test.YtnibehcgnhdcgaaGreatDoorM46
import Derived.Test.YtnibehcgnhdcgaaGreatDoorM45
import Derived.Test.YtnibehcgnhdcgaaGreatDoorM35
import Derived.Test.YtnibehcgnhdcgaaGreatDoorM26
import Derived.Test.YtnibehcgnhdcgaaGreatDoorM44
import Derived.CellFam
import Derived.Deep.Cut
namespace Go.Proofs.YtnibehcgnhdcgaaGreatDoor
open Go.RowKit Go.Maps
set_option maxRecDepth 100000 in
set_option maxHeartbeats 8000000 in
theorem commits_body (n : Nat) (h1 : 64 ≤ n) (h2 : n ≤ 5000) (p : Option Addr) (len cap : Nat) (L : Nat → Int × Int) (M : Nat → Bool) (w : World) (hL : SetsBt w p len L M) : (commits_part n h1 h2 p len cap L M w hL).p := by
  delta commits_part
  refine fromTwo_p ?_
  intro _ _ _ _ rA wr u4 u13 u75 u76 u77 u78 u79 u80 u81 u82 u83 u84 u85 u86 u87 u88 u89 u90 u91 u92 u93 u94
  intro u95 u96 u97 u98 u99 u100 u101 u102 u103 u104 u105 u106 u107 u108 u109 u110 u111 u112 u113 u114 u115
  intro u116 u117 u118 u119 u120 u121 u122 u123 u124 u125 u126 u127 u128 u129 d1 d2 W1 hs1 W2 b W3 hs2 hs3 rb
  intro db mb kd1 kd2 kd3 kd4 kd5 HL u10 u11 u12 u14 u15 u16 u17 u18 u19 u20 u21 u22 u23 u24 u25 u26 u27 u28
  intro u29 u30 u31 u32 u33 u34 u54 u55 u56 u57 u58 u59 u60 u61 u62 u63 u64 u65 u66 u67 u68 u69 u70 u71 u72
  intro u73 u74 u130 u131 u132 u133 u134 u135 u136 u137 u138 u139 u140 u141 u142 u143 u144 u145 u146 u147 u148
  intro u149 u150 u151 u152 u153 u154 u155 u156 u157 u158 u159 u160 u161 u162 u163 u164 u165 u166 u167 u168
  intro u169 u170 u171 u172 u173 u174 u175 u176 u177 u178 u179 u180 u181 u182 u183 u184 u185 u186 u187 u188
  intro u189 u190 u191 u192 u193 u194 u195 u196 u197 u198 u199 u200 u201 u202 u203 u204 u205 u206 u207 u208
  intro u209 u210 u211 u212 u213 u214 u215 u216 u217 u218 u219 u220 u221 u222 u223 u224 u225 u226 u227 u228
  intro u229 u230 u231 u232 u233 u234 u235 u236 u237 u238 u239 u240 u241 u242 u243 u244 u245 u246 i hil hi60
  intro hc1 hc2 hc1' hc2' gen picks G pk tl hg1 hg2 rA IR HRA _ W4 tb pm tm sm T etb hw4 F hFn L' z hrz hdz
  intro hmz hwz hz4 HR4 HD4 htz HTE HTK HA4 HFF HB4 HFE HL' HLR HN HETN _ wr u4 u13 u75 u76 u77 u78 u79 u80
  intro u81 u82 u83 u84 u85 u86 u87 u88 u89 u90 u91 u92 u93 u94 u95 u96 u97 u98 u99 u100 u101 u102 u103 u104
  intro u105 u106 u107 u108 u109 u110 u111 u112 u113 u114 u115 u116 u117 u118 u119 u120 u121 u122 u123 u124
  intro u125 u126 u127 u128 u129 k hik hkl hk60 hA hK hb
  -- BODY2
  obtain ⟨hb1, hb2, hb3⟩ := hb
  have hb1' : (k : Int) < (len : Int) := by omega
  have hb2' : (k : Int) < 60 := by omega
  obtain ⟨blk, off, rfl, hblk, ca0, cx0, cm0⟩ := HL.out.at_ k hb1
  have hBr : Below w.heap.size w wr := HB4.out.trans (hK.below hw4 (fun k hk => by have := HFF.out k hk; omega))
  have hca : ∀ W, Below w.heap.size w W → W.cell? ⟨blk, off + k * 260, none⟩ = some (.int .u32 (L k).1) := fun W h => (World.cell?_of_block (w := w) (h.block _ hblk)).trans ca0
  have hcx : ∀ W, Below w.heap.size w W → W.cell? ⟨blk, off + k * 260 + 1, none⟩ = some (.int .u16 (L k).2) := fun W h => (World.cell?_of_block (w := w) (h.block _ hblk)).trans cx0
  have cm : wr.cell? ⟨blk, off + k * 260 + 2, none⟩ = some (.bool (M k)) := (World.cell?_of_block (w := w) (hBr.block _ hblk)).trans cm0
  obtain ⟨a, hae⟩ : ∃ a : Nat, (L k).1 = a := ⟨(L k).1.toNat, by have := HL.out.r1 k hb1; omega⟩
  have ha : a < 4294967296 := by have := HL.out.r1 k hb1; omega
  have ca := hca wr hBr
  have cx := hcx wr hBr
  obtain ⟨x, hxe⟩ : ∃ x, (L k).2 = x := ⟨_, rfl⟩
  rw [hae] at ca hca
  rw [hxe] at cx hcx
  have hset := tset_any T HTK.out wr.drew (setsR T L' (k - i)) (hA.of_blocks fun _ _ => rfl) a ha x
  have hnext : T.setTo (setsR T L' (k - i)) a x = setsR T L' (k + 1 - i) := by
    rw [show k + 1 - i = (k - i) + 1 by omega, setsR, HL'.out, show i + (k - i) = k by omega, hae, hxe]
  rw [etb, hnext] at hset
  have HBR := hideIt hBr
  have HCA := hideIt hca
  have HCX := hideIt hcx
  have HK := hideIt hK
  clear hA hBr hca hcx hK ca0 cx0 cm0 hae hxe hnext
  go_upto_region 13 with fail
  go_cut [95] from 75 to 129 (fun s95 wx => s95 = .bool true ∧ wx = wr)
  case first =>
    by_cases hki : k = i
    · have hki' : (k : Int) = (i : Int) := by omega
      have HKI := hideIt hki
      clear hki
      go_wp2_with fail
      go_meet
      case rel => exact ⟨by simp [hki'], rfl⟩
    · have hki' : ¬ (k : Int) = (i : Int) := by omega
      have hM : M k = false := by rcases hb3 with h | h; exact absurd h hki; exact h
      rw [hM] at cm
      clear hb3 hM
      go_wp2_with fail
      go_meet
      case rel => exact ⟨by simp [hki'], rfl⟩
  case rest =>
  obtain ⟨rfl, rfl⟩ := hcut
  go_upto_region 14 with fail
  go_cut [13] from 75 to 129 (fun s13 wx => s13 = .int .i64 (T.setErr a) ∧ TabAt T wx (setsR T L' (k + 1 - i)) ∧ Keeps (fun k => k = T.pm ∨ k = T.tm ∨ k = T.sm) W4 wx)
  case first =>
    go_region_with (go_at_call 10; (with_reducible refine hset.mono ?_); rintro e w1 ⟨rfl, hA1, hk1⟩)
    all_goals
      go_wp2_with fail
      go_meet
      case rel => exact ⟨rfl, hA1, HK.out.trans ((Keeps.refl _ _).drew.trans hk1)⟩
  case rest =>
    obtain ⟨rfl, hA1, hK1⟩ := hcut
    obtain ⟨w1, hw1⟩ : ∃ w1, w1 = wc := ⟨_, rfl⟩
    rw [← hw1] at hA1 hK1 ⊢
    clear hw1 HBR HK
    have hB1 : Below w.heap.size w w1 := HB4.out.trans (hK1.below hw4 (fun k hk => by have := HFF.out k hk; omega))
    have ca1 := HCA.out w1 hB1
    have hfirst := fun q => (tfirst_any T (w1.drewN q) _ (hA1.of_blocks fun _ _ => rfl)).mono (fun e w' (h : _ ∧ w1.drewN q = w') => (⟨h.1, h.2.symm⟩ : _ ∧ w' = w1.drewN q))
    have hfirst1 := (tfirst_any T w1.drew _ (hA1.of_blocks fun _ _ => rfl)).mono (fun e w' (h : _ ∧ w1.drew = w') => (⟨h.1, h.2.symm⟩ : _ ∧ w' = w1.drew))
    simp only [etb, HFE.out] at hfirst hfirst1
    have hse : T.setErr (a : Int) = if (a : Int) < F ∨ (n : Int) ≤ a then 2 else 0 := by unfold Tab.setErr; rw [HFE.out, HETN.out]
    have HA1 := hideIt hA1
    have HK1 := hideIt hK1
    clear hA1 hK1 hB1 hset ca cx cm
    by_cases haF : a < F
    · have he : T.setErr (a : Int) = 2 := by rw [hse, if_pos (by omega)]
      have q1 : ¬ (F : Int) ≤ (a : Int) := by omega
      have q2 : ¬ F ≤ a := by omega
      clear hse
      go_upto_region 15 with fail
      go_quiet (first | (go_at_call 11; first | exact Calls.quiet_of_same (hfirst _) | exact Calls.quiet_of_same hfirst1))
      go_wp2
      go_roundw
      case rel => exact ⟨k + 1, by go_num, by omega, by omega, by omega, HA1.out.of_blocks (fun _ _ => rfl), HK1.out.drewN _⟩
      case measure => simp [intOf]; omega
    · by_cases han : a < n
      · have he : T.setErr (a : Int) = 0 := by rw [hse, if_neg (by omega)]
        have q1 : (F : Int) ≤ (a : Int) := by omega
        have q2 : F ≤ a := by omega
        have q3 : (a : Int) < (n : Int) := by omega
        clear hse
        go_upto_region 15 with fail
        go_quiet (first | (go_at_call 11; first | exact Calls.quiet_of_same (hfirst _) | exact Calls.quiet_of_same hfirst1))
        go_wp2
        go_roundw
        case rel => exact ⟨k + 1, by go_num, by omega, by omega, by omega, HA1.out.of_blocks (fun _ _ => rfl), HK1.out.drewN _⟩
        case measure => simp [intOf]; omega
      · have he : T.setErr (a : Int) = 2 := by rw [hse, if_pos (by omega)]
        have q1 : (F : Int) ≤ (a : Int) := by omega
        have q2 : F ≤ a := by omega
        have q3 : ¬ (a : Int) < (n : Int) := by omega
        clear hse
        go_upto_region 15 with fail
        go_quiet (first | (go_at_call 11; first | exact Calls.quiet_of_same (hfirst _) | exact Calls.quiet_of_same hfirst1))
        go_wp2
        go_roundw
        case rel => exact ⟨k + 1, by go_num, by omega, by omega, by omega, HA1.out.of_blocks (fun _ _ => rfl), HK1.out.drewN _⟩
        case measure => simp [intOf]; omega
end Go.Proofs.YtnibehcgnhdcgaaGreatDoor
