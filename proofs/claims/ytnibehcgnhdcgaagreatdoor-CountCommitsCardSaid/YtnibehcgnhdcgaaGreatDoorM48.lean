/- CountCommits: the rest of its walk. -/
import Derived.Test.YtnibehcgnhdcgaaGreatDoorM46
import Derived.Test.YtnibehcgnhdcgaaGreatDoorM45
import Derived.Test.YtnibehcgnhdcgaaGreatDoorM35
import Derived.Test.YtnibehcgnhdcgaaGreatDoorM26
import Derived.Test.YtnibehcgnhdcgaaGreatDoorM44
import Derived.CellFam
import Derived.Deep.Cut
namespace Go.Proofs.YtnibehcgnhdcgaaGreatDoor
open Go.RowKit Go.Maps
set_option maxRecDepth 100000 in
set_option maxHeartbeats 8000000 in
theorem commits_rest (n : Nat) (h1 : 64 ≤ n) (h2 : n ≤ 5000) (p : Option Addr) (len cap : Nat) (L : Nat → Int × Int) (M : Nat → Bool) (w : World) (hL : SetsBt w p len L M) : (commits_part n h1 h2 p len cap L M w hL).q := by
  delta commits_part
  refine fromTwo_q ?_
  intro _ _ _ _ rA wr u4 u13 u75 u76 u77 u78 u79 u80 u81 u82 u83 u84 u85 u86 u87 u88 u89 u90 u91 u92 u93 u94
  intro u95 u96 u97 u98 u99 u100 u101 u102 u103 u104 u105 u106 u107 u108 u109 u110 u111 u112 u113 u114 u115
  intro u116 u117 u118 u119 u120 u121 u122 u123 u124 u125 u126 u127 u128 u129 d1 d2 W1 hs1 W2 b W3 hs2 hs3 rb
  intro db mb kd1 kd2 kd3 kd4 kd5 HL u10 u11 u12 u14 u15 u16 u17 u18 u19 u20 u21 u22 u23 u24 u25 u26 u27 u28
  intro u29 u30 u31 u32 u33 u34 u54 u55 u56 u57 u58 u59 u60 u61 u62 u63 u64 u65 u66 u67 u68 u69 u70 u71 u72
  intro u73 u74 u130 u131 u132 u133 u134 u135 u136 u137 u138 u139 u140 u141 u142 u143 u144 u145 u146 u147 u148
  intro u149 u150 u151 u152 u153 u154 u155 u156 u157 u158 u159 u160 u161 u162 u163 u164 u165 u166 u167 u168
  intro u169 u170 u171 u172 u173 u174 u175 u176 u177 u178 u179 u180 u181 u182 u183 u184 u185 u186 u187 u188
  intro u189 u190 u191 u192 u193 u194 u195 u196 u197 u198 u199 u200 u201 u202 u203 u204 u205 u206 u207 u208
  intro u209 u210 u211 u212 u213 u214 u215 u216 u217 u218 u219 u220 u221 u222 u223 u224 u225 u226 u227 u228
  intro u229 u230 u231 u232 u233 u234 u235 u236 u237 u238 u239 u240 u241 u242 u243 u244 u245 u246 i hil hi60
  intro hc1 hc2 hc1' hc2' gen picks G pk tl hg1 hg2 rA IR HRA _ W4 tb pm tm sm T etb hw4 F hFn L' z hrz hdz
  intro hmz hwz hz4 HR4 HD4 htz HTE HTK HA4 HFF HB4 HFE HL' HLR HN HETN _ wr u4 u13 u75 u76 u77 u78 u79 u80
  intro u81 u82 u83 u84 u85 u86 u87 u88 u89 u90 u91 u92 u93 u94 u95 u96 u97 u98 u99 u100 u101 u102 u103 u104
  intro u105 u106 u107 u108 u109 u110 u111 u112 u113 u114 u115 u116 u117 u118 u119 u120 u121 u122 u123 u124
  intro u125 u126 u127 u128 u129 k hik hkl hk60 hA hK hb
  -- OUT2: the sets of a commit are done
  have hki : i < k := by
    by_cases h : k = i
    · exact absurd ⟨by omega, by omega, Or.inl h⟩ hb
    · omega
  have hwt : ¬ (k < len ∧ k < 60) ∨ M k = true := by
    by_cases h : k < len ∧ k < 60
    · right
      cases hm : M k
      · exact absurd ⟨h.1, h.2, Or.inr hm⟩ hb
      · rfl
    · exact Or.inl h
  have hBr : Below w.heap.size w wr := HB4.out.trans (hK.below hw4 (fun k hk => by have := HFF.out k hk; omega))
  have hkz : ¬ (k : Int) = (i : Int) := by omega
  have hcm : k < len → ∃ blk off, p = some ⟨blk, off, none⟩ ∧ wr.cell? ⟨blk, off + k * 260 + 2, none⟩ = some (.bool (M k)) := fun h => by
    obtain ⟨blk, off, e, hblk, _, _, cm0⟩ := HL.out.at_ k h
    exact ⟨blk, off, e, (World.cell?_of_block (w := w) (hBr.block _ hblk)).trans cm0⟩
  obtain ⟨S, hSe⟩ : ∃ S, S = setsR T L' (k - i) := ⟨_, rfl⟩
  obtain ⟨hS, hSl⟩ := setsR_ok (T := T) HLR.out (k - i) (by omega)
  rw [← hSe] at hA hS hSl
  have HA := hideIt hA
  have HK := hideIt hK
  have HS := hideIt hS
  have HWT := hideIt hwt
  clear hA hK hS hb hSe hBr hwt HA4
  go_upto_region 13 with fail
  go_cut [95] from 75 to 129 (fun s95 wx => s95 = .bool false ∧ wx = wr)
  case first =>
    by_cases h3 : k < len
    · obtain ⟨blk, off, rfl, cm⟩ := hcm h3
      have h3' : (k : Int) < (len : Int) := by omega
      by_cases h4 : k < 60
      · have h4' : (k : Int) < 60 := by omega
        have hM : M k = true := by rcases HWT.out with h | h; exact absurd ⟨h3, h4⟩ h; exact h
        rw [hM] at cm
        go_wp2_with fail
        go_meet
        case rel => exact ⟨by simp [hkz], rfl⟩
      · have h4' : ¬ (k : Int) < 60 := by omega
        clear cm
        go_wp2_with fail
        go_meet
        case rel => exact ⟨rfl, rfl⟩
    · have h3' : ¬ (k : Int) < (len : Int) := by omega
      go_wp2_with fail
      go_meet
      case rel => exact ⟨rfl, rfl⟩
  case rest =>
  obtain ⟨rfl, rfl⟩ := hcut
  clear hcm HWT
  have hsl := tseal_any 60 (fun m => sortsAll m 60 (by omega)) (by omega) (by omega) T HTK.out wc S HS.out (by omega) HA.out
  rw [etb] at hsl
  go_upto_region 19 with (first
    | (go_at_call 13; (with_reducible refine hsl.mono ?_); rintro e W7 ⟨v7, rfl, ho7, hl7, hA7, hk7⟩)
    | (with_reducible refine wl_extract rfl rfl ?_))
  obtain ⟨p7, c7, rfl⟩ := own_slice ho7
  obtain ⟨Q, hNx⟩ := next_of HTK.out HS.out (by rw [HTE.out]; exact HN.out)
  have hK7 : Keeps (fun k => k = T.pm ∨ k = T.tm ∨ k = T.sm) W4 W7 := HK.out.trans (hk7.mono fun k _ hk => by rcases hk with h | h <;> simp [h])
  have hz7 : z ≤ W7.heap.size := by have := hK7.size; omega
  have hzc : z ≤ wc.heap.size := by have := HK.out.size; omega
  have hr7 : W7.heap[rb]? = some (.cells rA 31 (0, 0)) := (hK7.block rb (by omega) (fun hk => by have := HFF.out _ hk; omega)).trans HR4.out
  have hD7 : DevAt W7 db mb n G := HD4.out.of_blocks (hK7.block db (by omega) (fun hk => by have := HFF.out _ hk; omega)) (hK7.block mb (by omega) (fun hk => by have := HFF.out _ hk; omega))
  have hB7 : Below w.heap.size w W7 := HB4.out.trans (hK7.below hw4 (fun k hk => by have := HFF.out k hk; omega))
  have hPut7 : PutsAt W7 db p7 (sealPuts T S) := fun j a b hj => by
    obtain ⟨g, e, hr⟩ := own_range hl7 ho7 hj
    refine ⟨g, e, ?_, hr⟩
    rcases ho7.2 with ⟨e0, _⟩ | ⟨g', cap', cur, e0, hbg, _⟩
    · rw [e] at e0; cases e0
    · rw [e] at e0
      injection e0 with e0 _ _
      injection e0 with e0
      injection e0 with e0 _ _
      omega
  obtain ⟨K, hKe⟩ : ∃ K, K = (sealPuts T S).length := ⟨_, rfl⟩
  obtain ⟨P, hPe⟩ : ∃ P, P = sealPicks T S := ⟨_, rfl⟩
  have hP0 : 0 ≤ P ∧ P < 2 := by
    rw [hPe, hNx.picks]
    have := HTK.out.p0
    have := HTK.out.p1
    split <;> omega
  rw [← hKe, ← hPe]
  have eR : (rootA 0 0 0 0 0 0).size = rA.size := by rw [HRA.out]; rfl
  have oR : rA.all (·.oneCell') = true := by rw [HRA.out]; exact rootA_one _ _ _ _ _ _
  have hPutZ : ∀ (j : Nat) (a : Int) (b : List UInt8), (sealPuts T S)[j]? = some (a, b) → ∀ g : Nat, p7 = some ⟨g, 0, none⟩ → z ≤ g := fun j a b hj g e => by
    rcases ho7.2 with ⟨e0, _⟩ | ⟨g', cap', cur, e0, hbg, _⟩
    · rw [e] at e0; cases e0
    · rw [e] at e0
      injection e0 with e0 _ _
      injection e0 with e0
      injection e0 with e0 _ _
      omega
  have HPZ := hideIt hPutZ
  clear hPutZ
  have HKE := hideIt hKe
  have HPE := hideIt hPe
  have HNX := hideIt hNx
  have HA7 := hideIt hA7
  have HR7 := hideIt hr7
  have HD7 := hideIt hD7
  have HB7 := hideIt hB7
  have HP7 := hideIt hPut7
  have ER := hideIt eR
  have OR := hideIt oR
  have hg3 : gen < 100 := by omega
  clear hsl ho7 hl7 hA7 hk7 hK7 hr7 hD7 hB7 hPut7 hKe hPe hNx eR oR HA HK HR4 HD4
  go_upto_region 20 with (first
    | (with_reducible refine wl_load rfl HR7.out Tryz.underlying31 rfl IR.out ?_)
    | (with_reducible refine wl_alloc_store zero31 (by simp [Act.put]) rfl rfl IR.out ER.out OR.out ?_))
  obtain ⟨W8, hW8⟩ : ∃ W, W = W7.alloc (.cells rA 31) := ⟨_, rfl⟩
  obtain ⟨ob, hob⟩ : ∃ ob, ob = W7.heap.size := ⟨_, rfl⟩
  rw [← hW8, ← hob]
  have hrb7 : rb < W7.heap.size := by omega
  have g8 : W8.heap[rb]? = some (.cells rA 31 (0, 0)) := by rw [hW8, hget_past _ _ hrb7]; exact HR7.out
  have go8 : W8.heap[ob]? = some (.cells rA 31 (0, 0)) := by rw [hW8, hget_at _ _ hob]
  have c80 : W8.cell? ⟨rb, 0, none⟩ = some (.int .u64 gen) := by rw [cell_of_row _ _ _ _ _ _ g8, HRA.out]; rfl
  have c82 : W8.cell? ⟨rb, 2, none⟩ = some (.int .u32 picks) := by rw [cell_of_row _ _ _ _ _ _ g8, HRA.out]; rfl
  have f80 : W8.frozen? ⟨rb, 0, none⟩ = false := by unfold World.frozen?; rw [g8]; rfl
  have f82 : W8.frozen? ⟨rb, 2, none⟩ = false := by unfold World.frozen?; rw [g8]; rfl
  have hzo : z ≤ ob := by omega
  have hs8 : W8.heap.size = W7.heap.size + 1 := by rw [hW8]; simp
  have hb78 : Below W7.heap.size W7 W8 := by rw [hW8]; exact (Below.refl _ _).alloc (Nat.le_refl _) _
  have HB78 := hideIt hb78
  have G8 := hideIt g8
  have GO8 := hideIt go8
  have HOB := hideIt hob
  clear hW8 g8 go8 hob hb78 HR7 ER OR
  go_upto_region 22 with fail
  obtain ⟨W9, hW9⟩ : ∃ W, W = (W8.setCell ⟨rb, 0, none⟩ (.int .u64 (gen + 1))).setCell ⟨rb, 2, none⟩ (.int .u32 P) := ⟨_, rfl⟩
  rw [← hW9]
  obtain ⟨rB, hrB⟩ : ∃ r, r = rootA (gen + 1) n P (n - planFi n) 1 (planFi n) := ⟨_, rfl⟩
  have g9 : W9.heap[rb]? = some (.cells rB 31 (0, 0)) := by
    rw [hW9, hget_setCell_same rb 2 _ _ _ (hget_setCell_same rb 0 _ _ _ G8.out), HRA.out, hrB]
    rfl
  have hoth : ∀ q, q ≠ rb → W9.heap[q]? = W8.heap[q]? := fun q hq => by
    rw [hW9, hget_setCell_other _ _ _ (by show q ≠ rb; exact hq), hget_setCell_other _ _ _ (by show q ≠ rb; exact hq)]
  have hs9 : W9.heap.size = W8.heap.size := by rw [hW9]; simp [World.setCell]
  have ho9 : W9.os = W7.os ∧ W9.tape = W7.tape ∧ W9.output = W7.output := by
    refine ⟨?_, ?_, ?_⟩
    · rw [hW9]; exact HB78.out.os
    · rw [hW9]; exact HB78.out.tape
    · rw [hW9]; exact HB78.out.output
  -- what stood in W7 but the root's variable
  have h79 : ∀ q, q < W7.heap.size → q ≠ rb → W9.heap[q]? = W7.heap[q]? := fun q hq hne => (hoth q hne).trans (HB78.out.block q hq)
  have g9o : W9.heap[ob]? = some (.cells rA 31 (0, 0)) := (hoth ob (by omega)).trans GO8.out
  have hD9 : DevAt W9 db mb n G := HD7.out.of_blocks (h79 db (by omega) (by omega)) (h79 mb (by omega) (by omega))
  have hB9 : Below w.heap.size w W9 := ⟨ho9.1.trans HB7.out.os, ho9.2.1.trans HB7.out.tape, ho9.2.2.trans HB7.out.output, by have := HB7.out.size; omega, fun q hq => (h79 q (by omega) (by omega)).trans (HB7.out.block q hq)⟩
  have hP9 : PutsAt W9 db p7 (sealPuts T S) := fun j a b hj => by
    obtain ⟨g, e, hg, hr⟩ := HP7.out j a b hj
    refine ⟨g, e, hg, fun q v hv => ?_⟩
    have hc7 := hr q v hv
    have hlt := World.block_lt_of_cell? W7 _ hc7
    have hgz : z ≤ g := HPZ.out j a b hj g e
    rw [World.cell?_of_block (w := W7) (h79 g hlt (by omega))]
    exact hc7
  have hA9 : TabAt T W9 S := HA7.out.of_blocks fun q hq => by
    have hl := HA7.out.lt
    have hq' : q ≠ rb := by
      rcases hq with h | h | h | h | h | h
      · rw [h, etb]; omega
      · rw [h, HTE.out]; exact fun e => kd4 e.symm
      · rw [h, HTE.out]; exact fun e => kd5 e.symm
      · have := HFF.out q (Or.inl h); omega
      · have := HFF.out q (Or.inr (Or.inl h)); omega
      · have := HFF.out q (Or.inr (Or.inr h)); omega
    exact h79 q (by rcases hq with rfl | rfl | rfl | rfl | rfl | rfl <;> omega) hq'
  have hs79 : W9.heap.size = ob + 1 := by have := HOB.out; omega
  have HOBN := HOB
  have hcp := copy_any db mb n G W9 hD9
  have HD9 := hideIt hD9
  have HB9 := hideIt hB9
  have HP9 := hideIt hP9
  have HA9 := hideIt hA9
  have HG9 := hideIt g9
  have HO9 := hideIt g9o
  have HRB := hideIt hrB
  clear hW9 g9 hoth hs9 ho9 h79 g9o hD9 hB9 hP9 hA9 hrB HB7 HP7 HA7 HD7 HB78 G8 GO8 HPZ c80 c82 f80 f82 HOB hs8
  go_upto_region 23 with (first
    | (go_at_call 17; (with_reducible refine hcp.mono ?_); rintro e W10 ⟨cb, cm, rfl, hDc, hb10, k1, k2⟩))
  have hz9 : z < W9.heap.size := by omega
  have hD10 : DevAt W10 db mb n G := HD9.out.below hb10 (by omega) (by omega)
  have hP10 : PutsAt W10 db p7 (sealPuts T S) := HP9.out.kept (fun q hq _ => hb10.block q hq)
  have hg10 : W10.heap[rb]? = some (.cells rB 31 (0, 0)) := (hb10.block _ (by omega)).trans HG9.out
  have hcm := commit_any db mb c7 p7 n (gen + 1) P (by omega) (by omega) (by omega) (by omega) hP0.1 hP0.2 G (sealPuts T S) (by have := HNX.out.putsLen; omega) (fun x hx => by have := HNX.out.putsOk x hx; rw [HETN.out] at this; exact this) W10 hD10 hP10
  obtain ⟨f0, hf0⟩ : ∃ f0, f0 = planFi n := ⟨_, rfl⟩
  rw [show rootA (gen + 1) n P (n - planFi n) 1 (planFi n) = #[.int .u64 (gen + 1), .int .u32 n, .int .u32 P, .int .u32 0, .int .u32 (n - f0), .int .u32 1, .int .u32 f0, .int .u8 0] by rw [hf0]; rfl, ← HKE.out] at hcm
  have hrBe : rB = #[.int .u64 (gen + 1), .int .u32 n, .int .u32 P, .int .u32 0, .int .u32 (n - f0), .int .u32 1, .int .u32 f0, .int .u8 0] := by rw [HRB.out, hf0]; rfl
  have e0 : W10.cell? ⟨rb, 0, none⟩ = some (.int .u64 (gen + 1)) := by rw [cell_of_row _ _ _ _ _ _ hg10, hrBe]; rfl
  have e1 : W10.cell? ⟨rb, 1, none⟩ = some (.int .u32 n) := by rw [cell_of_row _ _ _ _ _ _ hg10, hrBe]; rfl
  have e2 : W10.cell? ⟨rb, 2, none⟩ = some (.int .u32 P) := by rw [cell_of_row _ _ _ _ _ _ hg10, hrBe]; rfl
  have e3 : W10.cell? ⟨rb, 3, none⟩ = some (.int .u32 0) := by rw [cell_of_row _ _ _ _ _ _ hg10, hrBe]; rfl
  have e4 : W10.cell? ⟨rb, 4, none⟩ = some (.int .u32 (n - f0)) := by rw [cell_of_row _ _ _ _ _ _ hg10, hrBe]; rfl
  have e5 : W10.cell? ⟨rb, 5, none⟩ = some (.int .u32 1) := by rw [cell_of_row _ _ _ _ _ _ hg10, hrBe]; rfl
  have e6 : W10.cell? ⟨rb, 6, none⟩ = some (.int .u32 f0) := by rw [cell_of_row _ _ _ _ _ _ hg10, hrBe]; rfl
  have e7 : W10.cell? ⟨rb, 7, none⟩ = some (.int .u8 0) := by rw [cell_of_row _ _ _ _ _ _ hg10, hrBe]; rfl
  have HB10 := hideIt hb10
  have HDC := hideIt hDc
  have HG10 := hideIt hg10
  clear hb10 hDc hg10 hD10 hP10 hcp hf0 hrBe
  go_upto_region 25 with (first
    | (go_at_call 18; (with_reducible refine hcm.mono ?_); rintro e W11 ⟨rfl, hD11, hk11⟩))
  obtain ⟨b', hlb', hD11⟩ := hD11.out
  obtain ⟨G', hG'⟩ : ∃ G', G' = afterG T S ((gen + 1) % 2) b' := ⟨_, rfl⟩
  rw [show putD (flushG G (sealPuts T S)) ((gen + 1) % 2) b' = G' by rw [hG']; unfold afterG; rw [HTE.out]] at hD11
  have hs10 := HB10.out.size
  have hs11 := hk11.size
  have hltA := HA9.out.lt
  have h911 : ∀ q, q < W9.heap.size → q ≠ db → q ≠ mb → W11.heap[q]? = W9.heap[q]? := fun q hq h1 h2 => (hk11.block q (by omega) (fun hc => by rcases hc with hc | hc; exact h1 hc; exact h2 hc)).trans (HB10.out.block q hq)
  have hg11 : W11.heap[rb]? = some (.cells rB 31 (0, 0)) := (h911 rb (by omega) kd4 kd5).trans HG9.out
  have hgo11 : W11.heap[ob]? = some (.cells rA 31 (0, 0)) := (h911 ob (by omega) (by omega) (by omega)).trans HO9.out
  have hDc11 : DevAt W11 cb cm n G := HDC.out.of_blocks (hk11.block cb HDC.out.lt (by omega)) (hk11.block cm HDC.out.map.lt (by omega))
  have hB11 : Below w.heap.size w W11 := (HB9.out.trans (HB10.out.mono HB9.out.size)).trans (hk11.below (by have := HB9.out.size; omega) (by intro q hq; omega))
  obtain ⟨Tt, hTt⟩ : ∃ Tt : Tab, Tt = { T with G := G' } := ⟨_, rfl⟩
  have hpmz := HFF.out T.pm (Or.inl rfl)
  have htmz := HFF.out T.tm (Or.inr (Or.inl rfl))
  have hsmz := HFF.out T.sm (Or.inr (Or.inr rfl))
  have hAt : TabAt Tt W11 S := by
    obtain ⟨lp, hp, hp2⟩ := HA9.out.mp
    obtain ⟨lt, ht, ht2⟩ := HA9.out.mt
    rw [hTt]
    refine ⟨(h911 T.tb hltA.1 (by omega) (by omega)).trans HA9.out.row, ?_, ⟨lp, hp.of_block (h911 T.pm (by omega) (by omega) (by omega)), hp2⟩, ⟨lt, ht.of_block (h911 T.tm (by omega) (by omega) (by omega)), ht2⟩, HA9.out.ms.of_block (h911 T.sm (by omega) (by omega) (by omega)), HA9.out.d1⟩
    show DevAt W11 T.db T.mb T.n G'
    rw [HETN.out, HTE.out]
    exact hD11
  have hrr : (gen + 1) % 2 < 2 := by omega
  have hTtok : TabOk Tt := HNX.out.old hrr b' (by rw [hTt]) (by rw [hTt]) (by rw [hTt]; exact hG') (by rw [hTt]) (by rw [hTt])
  have hn' : KeysOnce G' := by rw [hG']; exact HNX.out.once' _ b'
  have iRB : (Tryz.prog.info? 31).map (·.size) = some rB.size := by rw [HRB.out]; exact size31 _ _ _ _ _ _
  have hopU := open_any db mb n (gen + 1) P (by omega) (by omega) G' W11 hD11
  rw [← HRB.out] at hopU
  have HGP := hideIt hG'
  have HD11 := hideIt hD11
  have HG11 := hideIt hg11
  have HGO11 := hideIt hgo11
  have HDC11 := hideIt hDc11
  have HB11 := hideIt hB11
  have HAT := hideIt hAt
  have HTT := hideIt hTtok
  have HTTE := hideIt hTt
  have HN' := hideIt hn'
  have IRB := hideIt iRB
  clear hG' hD11 hg11 hgo11 hDc11 hB11 hAt hTtok hTt hn' iRB h911 hk11 HD9 HB9 HP9 HG9 HO9 HB10 HDC HG10 e0 e1 e2 e3 e4 e5 e6 e7 hcm
  go_upto_region 26 with (first
    | (with_reducible refine wl_load rfl HG11.out Tryz.underlying31 rfl IRB.out ?_)
    | (go_at_call 9; (with_reducible refine hopU.mono ?_); rintro e W12 ⟨tb2, pm2, tm2, sm2, rfl, hb12, u1, u2, u3, u4', hT12⟩)
    | (with_reducible refine wl_extract rfl rfl ?_))
  have hs12 := hb12.size
  have hD12 : DevAt W12 db mb n G' := HD11.out.below hb12 (by omega) (by omega)
  have hgo12 := (hb12.block ob (by omega)).trans HGO11.out
  have hopV := open_any db mb n gen picks (by omega) (by omega) G' W12 hD12
  rw [← HRA.out] at hopV
  have HGO12 := hideIt hgo12
  clear hopU hgo12 hD12
  go_upto_region 27 with (first
    | (with_reducible refine wl_load rfl HGO12.out Tryz.underlying31 rfl IR.out ?_)
    | (go_at_call 9; (with_reducible refine hopV.mono ?_); rintro e W13 ⟨tb3, pm3, tm3, sm3, rfl, hb13, v1, v2, v3, v4, hT13⟩)
    | (with_reducible refine wl_extract rfl rfl ?_))
  have hs13 := hb13.size
  have hbc13 : Below W11.heap.size W11 W13 := hb12.trans (hb13.mono (by omega))
  have hDc13 : DevAt W13 cb cm n G := HDC11.out.below hbc13 HDC11.out.lt HDC11.out.map.lt
  have hgo13 := (hbc13.block ob (by omega)).trans HGO11.out
  have hopW := open_any cb cm n gen picks (by omega) (by omega) G W13 hDc13
  rw [← HRA.out] at hopW
  have HGO13 := hideIt hgo13
  clear hopV hgo13 hDc13
  go_upto_region 28 with (first
    | (with_reducible refine wl_load rfl HGO13.out Tryz.underlying31 rfl IR.out ?_)
    | (go_at_call 9; (with_reducible refine hopW.mono ?_); rintro e W14 ⟨tb4, pm4, tm4, sm4, rfl, hb14, x1, x2, x3, x4, hT14⟩)
    | (with_reducible refine wl_extract rfl rfl ?_))
  have hs14 := hb14.size
  have hltC1 := HDC11.out.lt
  have hltC2 := HDC11.out.map.lt
  obtain ⟨Tu, hTu⟩ : ∃ X : Tab, X = { tb := tb2, db := db, mb := mb, pm := pm2, tm := tm2, sm := sm2, n := n, gen := gen + 1, picks := P, G := G', pk := turnAll T.pk Q, tl := newC T S } := ⟨_, rfl⟩
  obtain ⟨Tv, hTv⟩ : ∃ X : Tab, X = { tb := tb3, db := db, mb := mb, pm := pm3, tm := tm3, sm := sm3, n := n, gen := gen, picks := picks, G := G', pk := T.pk, tl := T.tl } := ⟨_, rfl⟩
  obtain ⟨Tw, hTw⟩ : ∃ X : Tab, X = { tb := tb4, db := cb, mb := cm, pm := pm4, tm := tm4, sm := sm4, n := n, gen := gen, picks := picks, G := G, pk := T.pk, tl := T.tl } := ⟨_, rfl⟩
  have hAu : TabAt Tu W12 [] := by rw [hTu]; exact hT12 _ _
  have hAv : TabAt Tv W13 [] := by rw [hTv]; exact hT13 _ _
  have hAw : TabAt Tw W14 [] := by rw [hTw]; exact hT14 _ _
  have hTuok : TabOk Tu := HNX.out.new hrr b' (by rw [hTu]; exact HETN.out.symm) (by rw [hTu]; exact HPE.out) (by rw [hTu]; exact HGP.out) (by rw [hTu]) (by rw [hTu])
  have hTvok : TabOk Tv := HNX.out.old hrr b' (by rw [hTv]; exact HETN.out.symm) (by rw [hTv, HTE.out]) (by rw [hTv]; exact HGP.out) (by rw [hTv]) (by rw [hTv])
  have hTwok : TabOk Tw := TabOk.congr HTK.out (by rw [hTw]; exact HETN.out.symm) (by rw [hTw, HTE.out]) (by rw [hTw, HTE.out]) (by rw [hTw]) (by rw [hTw])
  have eU : Tu.tb = tb2 ∧ Tu.db = db ∧ Tu.mb = mb ∧ Tu.pm = pm2 ∧ Tu.tm = tm2 ∧ Tu.sm = sm2 ∧ Tu.n = n := by rw [hTu]; exact ⟨rfl, rfl, rfl, rfl, rfl, rfl, rfl⟩
  have eV : Tv.tb = tb3 ∧ Tv.db = db ∧ Tv.mb = mb ∧ Tv.pm = pm3 ∧ Tv.tm = tm3 ∧ Tv.sm = sm3 ∧ Tv.n = n := by rw [hTv]; exact ⟨rfl, rfl, rfl, rfl, rfl, rfl, rfl⟩
  have eW : Tw.tb = tb4 ∧ Tw.db = cb ∧ Tw.mb = cm ∧ Tw.pm = pm4 ∧ Tw.tm = tm4 ∧ Tw.sm = sm4 ∧ Tw.n = n := by rw [hTw]; exact ⟨rfl, rfl, rfl, rfl, rfl, rfl, rfl⟩
  have eT : Tt.tb = tb ∧ Tt.db = db ∧ Tt.mb = mb ∧ Tt.pm = T.pm ∧ Tt.tm = T.tm ∧ Tt.sm = T.sm ∧ Tt.n = n := by
    rw [HTTE.out]; exact ⟨etb, by show T.db = db; rw [HTE.out], by show T.mb = mb; rw [HTE.out], rfl, rfl, rfl, HETN.out⟩
  -- what the counts are
  have vU : ∀ a : Nat, a < n → Tu.old a = T.now S a := fun a ha => HNX.out.newOld (by rw [hTu]; exact HETN.out.symm) (by rw [hTu]) a (by rw [HETN.out]; omega)
  have vT : ∀ a : Nat, Tt.now S a = T.now S a := fun a => by rw [HTTE.out]; rfl
  have vV : ∀ a : Nat, Tv.old a = T.old a := fun a => old_congr (by rw [hTv]; exact HETN.out.symm) (by rw [hTv]) a
  have vW : ∀ a : Nat, Tw.old a = T.old a := fun a => old_congr (by rw [hTw]; exact HETN.out.symm) (by rw [hTw]) a
  have bU := hAu.lt
  have bV := hAv.lt
  have bW := hAw.lt
  have hAt14 : TabAt Tt W14 S := HAT.out.below ((hb12.trans (hb13.mono (by omega))).trans (hb14.mono (by omega)))
  have hAu14 : TabAt Tu W14 [] := hAu.below (hb13.trans (hb14.mono (by omega)))
  have hAv14 : TabAt Tv W14 [] := hAv.below hb14
  have hB14 : Below w.heap.size w W14 := HB11.out.trans (((hb12.trans (hb13.mono (by omega))).trans (hb14.mono (by omega))).mono (by have := HB11.out.size; omega))
  have hg14 : W14.heap[rb]? = some (.cells rB 31 (0, 0)) := (((hb12.trans (hb13.mono (by omega))).trans (hb14.mono (by omega))).block rb (by omega)).trans HG11.out
  -- the tables lie apart
  have nU : pm2 < W12.heap.size ∧ tm2 < W12.heap.size ∧ sm2 < W12.heap.size ∧ tb2 < W12.heap.size := by rw [eU.1, eU.2.2.2.1, eU.2.2.2.2.1, eU.2.2.2.2.2.1] at bU; omega
  have nV : pm3 < W13.heap.size ∧ tm3 < W13.heap.size ∧ sm3 < W13.heap.size ∧ tb3 < W13.heap.size := by rw [eV.1, eV.2.2.2.1, eV.2.2.2.2.1, eV.2.2.2.2.2.1] at bV; omega
  have nW : pm4 < W14.heap.size ∧ tm4 < W14.heap.size ∧ sm4 < W14.heap.size ∧ tb4 < W14.heap.size := by rw [eW.1, eW.2.2.2.1, eW.2.2.2.2.1, eW.2.2.2.2.2.1] at bW; omega
  have nT : T.pm < W9.heap.size ∧ T.tm < W9.heap.size ∧ T.sm < W9.heap.size ∧ tb < W9.heap.size := by rw [← etb]; omega
  have dT := HAT.out.d1
  rw [HTTE.out] at dT
  have dT : T.pm ≠ T.tm ∧ T.pm ≠ T.sm ∧ T.tm ≠ T.sm := ⟨dT.2.1, dT.2.2.1, dT.2.2.2.2.1⟩
  have hL0 : TabAt Tt W14 S ∧ TabAt Tu W14 [] ∧ TabAt Tv W14 [] ∧ TabAt Tw W14 [] ∧ Keeps (fun q => q = T.pm ∨ q = T.tm ∨ W11.heap.size ≤ q) W14 W14 := ⟨hAt14, hAu14, hAv14, hAw, Keeps.refl _ _⟩
  obtain ⟨dUT, dVT, dWT, dTU, dVU, dWU, dTV, dUV, dWV, dTW, dUW, dVW⟩ := lie_apart (z := z) (db := db) (mb := mb) (pm := T.pm) (tm := T.tm) (sm := T.sm) (tb := tb) (cb := cb) (cm := cm) (s9 := W9.heap.size) (s11 := W11.heap.size) (s12 := W12.heap.size) (s13 := W13.heap.size) (s14 := W14.heap.size) ⟨by omega, by omega⟩ ⟨by omega, by omega⟩ nT ⟨by omega, by omega, by omega, by omega⟩ ⟨by omega, by omega, by omega, by omega⟩ ⟨u1, u2, u3, u4'⟩ nU ⟨v1, v2, v3, v4⟩ nV ⟨x1, x2, x3, x4⟩
  have DUT := hideIt dUT
  have DVT := hideIt dVT
  have DWT := hideIt dWT
  have DTU := hideIt dTU
  have DVU := hideIt dVU
  have DWU := hideIt dWU
  have DTV := hideIt dTV
  have DUV := hideIt dUV
  have DWV := hideIt dWV
  have DTW := hideIt dTW
  have DUW := hideIt dUW
  have DVW := hideIt dVW
  clear dUT dVT dWT dTU dVU dWU dTV dUV dWV dTW dUW dVW
  have HL0 := hideIt hL0
  have HTU := hideIt hTuok
  have HTV := hideIt hTvok
  have HTW := hideIt hTwok
  have HTUE := hideIt hTu
  have EU := hideIt eU
  have EV := hideIt eV
  have EW := hideIt eW
  have ET := hideIt eT
  have VU := hideIt vU
  have VT := hideIt vT
  have VV := hideIt vV
  have VW := hideIt vW
  have HB14 := hideIt hB14
  have HG14 := hideIt hg14
  clear hL0 hTuok hTvok hTwok hTu hTv hTw eU eV eW eT vU vT vV vW hB14 hg14 hAu hAv hAw hAt14 hAu14 hAv14 bU bV bW hopW hb12 hb13 hb14 hT12 hT13 hT14 hbc13 hltA HGO11 HGO12 HGO13 HAT HD11 HG11 HDC11 HOBN
  go_upto_region 30 with fail
  go_wp2
  go_loopw [25] (fun vj wr => ∃ j : Nat, vj = .int .i64 j ∧ j ≤ k ∧ TabAt Tt wr S ∧ TabAt Tu wr [] ∧ TabAt Tv wr [] ∧ TabAt Tw wr [] ∧ Keeps (fun q => q = T.pm ∨ q = T.tm ∨ W11.heap.size ≤ q) W14 wr) (fun vj _ => k - (intOf vj).toNat)
  case atStart => exact ⟨0, rfl, Nat.zero_le _, HL0.out⟩
  case round =>
    obtain ⟨j, rfl, hjk, hAt, hAu, hAv, hAw, hKj⟩ := hrel
    by_cases hj : j < k
    · have hj' : (j : Int) < (k : Int) := by omega
      have hBj : Below w.heap.size w wr := HB14.out.trans (hKj.below (by have := HB14.out.size; omega) (fun q hq => by omega))
      obtain ⟨blk, off, rfl, hblk, ca0, _, _⟩ := HL.out.at_ j (by omega)
      obtain ⟨a0, ha0⟩ : ∃ a0 : Nat, (L j).1 = a0 := ⟨(L j).1.toNat, by have := HL.out.r1 j (by omega); omega⟩
      have ca := (World.cell?_of_block (w := w) (hBj.block _ hblk)).trans ca0
      rw [ha0] at ca
      obtain ⟨a, ha⟩ : ∃ a : Nat, (a0 : Int) % (n : Int) = a := ⟨a0 % n, by omega⟩
      have han : a < n := by
        have := Int.emod_lt_of_pos (a0 : Int) (show (0 : Int) < n by omega)
        omega
      have hmod' : (a0 : Int).tmod (n : Int) = a := by rw [Int.tmod_eq_emod_of_nonneg (by omega)]; exact ha
      have hn0 : ¬ n = 0 := by omega
      have hget := tgetc_any Tt HTT.out wr S hAt a (by omega)
      have her : Tt.err (a : Int) = 0 := by unfold Tab.err; rw [ET.out.2.2.2.2.2.2, if_neg (by omega)]
      rw [ET.out.1, her, VT.out a, ET.out.2.2.2.1, ET.out.2.2.2.2.1] at hget
      obtain ⟨X, hX⟩ : ∃ X, X = T.now S a := ⟨_, rfl⟩
      obtain ⟨Y, hY⟩ : ∃ Y, Y = T.old a := ⟨_, rfl⟩
      rw [← hX] at hget
      have HX := hideIt hX
      have HY := hideIt hY
      have HKJ := hideIt hKj
      have HAu := hideIt hAu
      have HAv := hideIt hAv
      have HAw := hideIt hAw
      clear hAt hAu hAv hAw hKj hX hY ca0 ha0 hBj her
      go_upto_region 35 with (first
        | (go_at_call 12; (with_reducible refine hget.mono ?_); rintro e w15 ⟨rfl, hAt15, hk15⟩)
        | (with_reducible refine wl_extract rfl rfl ?_))
      have hAu15 := HAu.out.keeps hk15 (by rw [EU.out.1, EU.out.2.1, EU.out.2.2.1, EU.out.2.2.2.1, EU.out.2.2.2.2.1, EU.out.2.2.2.2.2.1]; exact DUT.out)
      have hAv15 := HAv.out.keeps hk15 (by rw [EV.out.1, EV.out.2.1, EV.out.2.2.1, EV.out.2.2.2.1, EV.out.2.2.2.2.1, EV.out.2.2.2.2.2.1]; exact DVT.out)
      have hAw15 := HAw.out.keeps hk15 (by rw [EW.out.1, EW.out.2.1, EW.out.2.2.1, EW.out.2.2.2.1, EW.out.2.2.2.2.1, EW.out.2.2.2.2.2.1]; exact DWT.out)
      have hK15 : Keeps (fun q => q = T.pm ∨ q = T.tm ∨ W11.heap.size ≤ q) W14 w15 := HKJ.out.trans (hk15.mono (fun q _ hq => by rcases hq with h | h; exact Or.inl h; exact Or.inr (Or.inl h)))
      have hou := told_any Tu HTU.out w15 [] hAu15 a (by omega)
      have heu : Tu.err (a : Int) = 0 := by unfold Tab.err; rw [EU.out.2.2.2.2.2.2, if_neg (by omega)]
      rw [EU.out.1, heu, VU.out a han, EU.out.2.2.2.1, EU.out.2.2.2.2.1, ← HX.out] at hou
      have HAT15 := hideIt hAt15
      have HAV15 := hideIt hAv15
      have HAW15 := hideIt hAw15
      have HK15 := hideIt hK15
      clear hAt15 hAu15 hAv15 hAw15 hk15 hK15 hget heu HAu HAv HAw HKJ
      go_upto_region 36 with (first
        | (go_at_call 15; (with_reducible refine hou.mono ?_); rintro e w16 ⟨rfl, hAu16, hk16⟩)
        | (with_reducible refine wl_extract rfl rfl ?_))
      have hAt16 := HAT15.out.keeps hk16 (by rw [ET.out.1, ET.out.2.1, ET.out.2.2.1, ET.out.2.2.2.1, ET.out.2.2.2.2.1, ET.out.2.2.2.2.2.1]; exact DTU.out)
      have hAv16 := HAV15.out.keeps hk16 (by rw [EV.out.1, EV.out.2.1, EV.out.2.2.1, EV.out.2.2.2.1, EV.out.2.2.2.2.1, EV.out.2.2.2.2.2.1]; exact DVU.out)
      have hAw16 := HAW15.out.keeps hk16 (by rw [EW.out.1, EW.out.2.1, EW.out.2.2.1, EW.out.2.2.2.1, EW.out.2.2.2.2.1, EW.out.2.2.2.2.2.1]; exact DWU.out)
      have hK16 : Keeps (fun q => q = T.pm ∨ q = T.tm ∨ W11.heap.size ≤ q) W14 w16 := HK15.out.trans (hk16.mono (fun q _ hq => by rcases hq with rfl | rfl; exact Or.inr (Or.inr u2); exact Or.inr (Or.inr u3)))
      have hov := told_any Tv HTV.out w16 [] hAv16 a (by omega)
      have hev : Tv.err (a : Int) = 0 := by unfold Tab.err; rw [EV.out.2.2.2.2.2.2, if_neg (by omega)]
      rw [EV.out.1, hev, VV.out a, EV.out.2.2.2.1, EV.out.2.2.2.2.1, ← HY.out] at hov
      have HAT16 := hideIt hAt16
      have HAU16 := hideIt hAu16
      have HAW16 := hideIt hAw16
      have HK16 := hideIt hK16
      clear hAt16 hAu16 hAv16 hAw16 hk16 hK16 hou hev HAT15 HAV15 HAW15 HK15
      go_upto_region 37 with (first
        | (go_at_call 15; (with_reducible refine hov.mono ?_); rintro e w17 ⟨rfl, hAv17, hk17⟩)
        | (with_reducible refine wl_extract rfl rfl ?_))
      have hAt17 := HAT16.out.keeps hk17 (by rw [ET.out.1, ET.out.2.1, ET.out.2.2.1, ET.out.2.2.2.1, ET.out.2.2.2.2.1, ET.out.2.2.2.2.2.1]; exact DTV.out)
      have hAu17 := HAU16.out.keeps hk17 (by rw [EU.out.1, EU.out.2.1, EU.out.2.2.1, EU.out.2.2.2.1, EU.out.2.2.2.2.1, EU.out.2.2.2.2.2.1]; exact DUV.out)
      have hAw17 := HAW16.out.keeps hk17 (by rw [EW.out.1, EW.out.2.1, EW.out.2.2.1, EW.out.2.2.2.1, EW.out.2.2.2.2.1, EW.out.2.2.2.2.2.1]; exact DWV.out)
      have hK17 : Keeps (fun q => q = T.pm ∨ q = T.tm ∨ W11.heap.size ≤ q) W14 w17 := HK16.out.trans (hk17.mono (fun q _ hq => by rcases hq with rfl | rfl; exact Or.inr (Or.inr (Nat.le_trans hs12 v2)); exact Or.inr (Or.inr (Nat.le_trans hs12 v3))))
      have how := told_any Tw HTW.out w17 [] hAw17 a (by omega)
      have hew : Tw.err (a : Int) = 0 := by unfold Tab.err; rw [EW.out.2.2.2.2.2.2, if_neg (by omega)]
      rw [EW.out.1, hew, VW.out a, EW.out.2.2.2.1, EW.out.2.2.2.2.1, ← HY.out] at how
      have HAT17 := hideIt hAt17
      have HAU17 := hideIt hAu17
      have HAV17 := hideIt hAv17
      have HK17 := hideIt hK17
      clear hAt17 hAu17 hAv17 hAw17 hk17 hK17 hov hew HAT16 HAU16 HAW16 HK16
      go_upto_region 38 with (first
        | (go_at_call 15; (with_reducible refine how.mono ?_); rintro e w18 ⟨rfl, hAw18, hk18⟩)
        | (with_reducible refine wl_extract rfl rfl ?_))
      have hAt18 := HAT17.out.keeps hk18 (by rw [ET.out.1, ET.out.2.1, ET.out.2.2.1, ET.out.2.2.2.1, ET.out.2.2.2.2.1, ET.out.2.2.2.2.2.1]; exact DTW.out)
      have hAu18 := HAU17.out.keeps hk18 (by rw [EU.out.1, EU.out.2.1, EU.out.2.2.1, EU.out.2.2.2.1, EU.out.2.2.2.2.1, EU.out.2.2.2.2.2.1]; exact DUW.out)
      have hAv18 := HAV17.out.keeps hk18 (by rw [EV.out.1, EV.out.2.1, EV.out.2.2.1, EV.out.2.2.2.1, EV.out.2.2.2.2.1, EV.out.2.2.2.2.2.1]; exact DVW.out)
      have hK18 : Keeps (fun q => q = T.pm ∨ q = T.tm ∨ W11.heap.size ≤ q) W14 w18 := HK17.out.trans (hk18.mono (fun q _ hq => by rcases hq with rfl | rfl; exact Or.inr (Or.inr (Nat.le_trans (Nat.le_trans hs12 hs13) x2)); exact Or.inr (Or.inr (Nat.le_trans (Nat.le_trans hs12 hs13) x3))))
      clear how hk18 HAT17 HAU17 HAV17 HK17
      go_wp2
      go_roundw
      case rel => exact ⟨j + 1, by go_num, by omega, hAt18, hAu18, hAv18, hAw18, hK18⟩
      case measure => simp [intOf]; omega
    · -- OUT3: the counts are held against one another
      obtain rfl : j = k := by omega
      have hdv := hAu.dev
      rw [EU.out.2.1, EU.out.2.2.1, EU.out.2.2.2.2.2.2, show Tu.G = G' by rw [HTUE.out]] at hdv
      have hgr : wr.heap[rb]? = some (.cells (rootA (gen + 1) n P (n - planFi n) 1 (planFi n)) 31 (0, 0)) := by
        rw [← HRB.out]
        exact (hKj.block rb (Array.getElem?_eq_some_iff.1 HG14.out).1 (fun hc => by rcases hc with h | h | h <;> omega)).trans HG14.out
      have hBj : Below w.heap.size w wr := HB14.out.trans (hKj.below (by have := HB14.out.size; omega) (fun q hq => by rcases hq with h | h | h <;> omega))
      have hCS : CSt n rb db mb w j wr := ⟨gen + 1, P, G', turnAll T.pk Q, newC T S, by omega, by omega, hdv, HN'.out, hgr,
        TabOk.congr HTU.out (by rw [HTUE.out]; rfl) (by rw [HTUE.out]; rfl) (by rw [HTUE.out]; rfl) (by rw [HTUE.out]; rfl) (by rw [HTUE.out]; rfl), hBj⟩
      have HCS := hideIt hCS
      clear hAt hAu hAv hAw hKj hdv hgr hBj hCS HL0
      go_wp2
      go_roundw
      case rel => exact ⟨j, rfl, hkl, hk60, HCS.out⟩
      case measure => simp [intOf]; omega
end Go.Proofs.YtnibehcgnhdcgaaGreatDoor
