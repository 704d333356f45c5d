/- CountCommits: its walk. -/
import Derived.Test.YtnibehcgnhdcgaaGreatDoorM45
import Derived.Test.YtnibehcgnhdcgaaGreatDoorM35
import Derived.Test.YtnibehcgnhdcgaaGreatDoorM26
import Derived.Test.YtnibehcgnhdcgaaGreatDoorM44
import Derived.CellFam
import Derived.Deep.Cut
namespace Go.Proofs.YtnibehcgnhdcgaaGreatDoor
open Go.RowKit Go.Maps

theorem TabOk.congr {T T' : Tab} (h : TabOk T) (en : T'.n = T.n) (ep : T'.picks = T.picks) (eG : T'.G = T.G) (ek : T'.pk = T.pk) (et : T'.tl = T.tl) : TabOk T' := by
  have eat : ∀ p, T'.at p = T.at p := fun p => by unfold Tab.at; rw [ek]
  exact ⟨by rw [en]; exact h.n1, by rw [en]; exact h.n2, by rw [ep]; exact h.p0, by rw [ep]; exact h.p1, by rw [eG, ep, ek]; exact h.pick, by rw [ek]; exact h.plen, by rw [ek]; exact h.pb,
    fun p h0 h1 => by rw [eG, eat, et]; rw [en] at h1; exact h.tally p h0 h1, by rw [et]; exact h.tlen, by rw [et]; exact h.tb⟩
theorem old_congr {T T' : Tab} (en : T'.n = T.n) (et : T'.tl = T.tl) (a : Int) : T'.old a = T.old a := by
  unfold Tab.old Tab.fi
  rw [en, et]
theorem TabAt.keeps {T : Tab} {w w' : World} {S : List (Int × Int)} {F : Nat → Prop} (h : TabAt T w S) (hk : Keeps F w w') (hF : ∀ k, (k = T.tb ∨ k = T.db ∨ k = T.mb ∨ k = T.pm ∨ k = T.tm ∨ k = T.sm) → ¬ F k) : TabAt T w' S :=
  h.of_blocks fun k hq => hk.block k (by have := h.lt; rcases hq with rfl | rfl | rfl | rfl | rfl | rfl <;> omega) (hF k hq)
/-- A table that lies nowhere. -/
def tabZ (n gen picks : Int) (G : List (Int × List UInt8)) (pk : List Int) (tl : Int → List Int) : Tab :=
  { tb := 0, db := 0, mb := 0, pm := 0, tm := 0, sm := 0, n := n, gen := gen, picks := picks, G := G, pk := pk, tl := tl }
/-- What holds ahead of each table that is opened. -/
structure CSt (n : Nat) (rb db mb : Nat) (w : World) (i : Nat) (wr : World) : Prop where
  out : ∃ (gen picks : Int) (G : List (Int × List UInt8)) (pk : List Int) (tl : Int → List Int), 1 ≤ gen ∧ gen ≤ i + 1 ∧ DevAt wr db mb n G ∧ KeysOnce G ∧
    wr.heap[rb]? = some (.cells (rootA gen n picks (n - planFi n) 1 (planFi n)) 31 (0, 0)) ∧ TabOk (tabZ n gen picks G pk tl) ∧ Below w.heap.size w wr

/-- The tables' blocks lie apart. -/
theorem lie_apart {z s9 s11 s12 s13 s14 tb db mb pm tm sm tb2 pm2 tm2 sm2 tb3 pm3 tm3 sm3 tb4 pm4 tm4 sm4 cb cm : Nat}
    (hd : db < z ∧ mb < z) (hz : z ≤ pm ∧ z ≤ tm) (ht : pm < s9 ∧ tm < s9 ∧ sm < s9 ∧ tb < s9) (hs : s9 ≤ s11 ∧ s11 ≤ s12 ∧ s12 ≤ s13 ∧ s13 ≤ s14)
    (hc : s9 ≤ cb ∧ s9 ≤ cm ∧ cb < s11 ∧ cm < s11)
    (hu : s11 ≤ tb2 ∧ s11 ≤ pm2 ∧ s11 ≤ tm2 ∧ s11 ≤ sm2) (hu' : pm2 < s12 ∧ tm2 < s12 ∧ sm2 < s12 ∧ tb2 < s12)
    (hv : s12 ≤ tb3 ∧ s12 ≤ pm3 ∧ s12 ≤ tm3 ∧ s12 ≤ sm3) (hv' : pm3 < s13 ∧ tm3 < s13 ∧ sm3 < s13 ∧ tb3 < s13)
    (hw : s13 ≤ tb4 ∧ s13 ≤ pm4 ∧ s13 ≤ tm4 ∧ s13 ≤ sm4) :
    (∀ q : Nat, (q = tb2 ∨ q = db ∨ q = mb ∨ q = pm2 ∨ q = tm2 ∨ q = sm2) → ¬ (q = pm ∨ q = tm)) ∧
    (∀ q : Nat, (q = tb3 ∨ q = db ∨ q = mb ∨ q = pm3 ∨ q = tm3 ∨ q = sm3) → ¬ (q = pm ∨ q = tm)) ∧
    (∀ q : Nat, (q = tb4 ∨ q = cb ∨ q = cm ∨ q = pm4 ∨ q = tm4 ∨ q = sm4) → ¬ (q = pm ∨ q = tm)) ∧
    (∀ q : Nat, (q = tb ∨ q = db ∨ q = mb ∨ q = pm ∨ q = tm ∨ q = sm) → ¬ (q = pm2 ∨ q = tm2)) ∧
    (∀ q : Nat, (q = tb3 ∨ q = db ∨ q = mb ∨ q = pm3 ∨ q = tm3 ∨ q = sm3) → ¬ (q = pm2 ∨ q = tm2)) ∧
    (∀ q : Nat, (q = tb4 ∨ q = cb ∨ q = cm ∨ q = pm4 ∨ q = tm4 ∨ q = sm4) → ¬ (q = pm2 ∨ q = tm2)) ∧
    (∀ q : Nat, (q = tb ∨ q = db ∨ q = mb ∨ q = pm ∨ q = tm ∨ q = sm) → ¬ (q = pm3 ∨ q = tm3)) ∧
    (∀ q : Nat, (q = tb2 ∨ q = db ∨ q = mb ∨ q = pm2 ∨ q = tm2 ∨ q = sm2) → ¬ (q = pm3 ∨ q = tm3)) ∧
    (∀ q : Nat, (q = tb4 ∨ q = cb ∨ q = cm ∨ q = pm4 ∨ q = tm4 ∨ q = sm4) → ¬ (q = pm3 ∨ q = tm3)) ∧
    (∀ q : Nat, (q = tb ∨ q = db ∨ q = mb ∨ q = pm ∨ q = tm ∨ q = sm) → ¬ (q = pm4 ∨ q = tm4)) ∧
    (∀ q : Nat, (q = tb2 ∨ q = db ∨ q = mb ∨ q = pm2 ∨ q = tm2 ∨ q = sm2) → ¬ (q = pm4 ∨ q = tm4)) ∧
    (∀ q : Nat, (q = tb3 ∨ q = db ∨ q = mb ∨ q = pm3 ∨ q = tm3 ∨ q = sm3) → ¬ (q = pm4 ∨ q = tm4)) := by
  obtain ⟨hd1, hd2⟩ := hd
  obtain ⟨hz1, hz2⟩ := hz
  refine ⟨?_, ?_, ?_, ?_, ?_, ?_, ?_, ?_, ?_, ?_, ?_, ?_⟩ <;> (intro q hq hc'; rcases hq with h | h | h | h | h | h <;> rcases hc' with h' | h' <;> omega)

/-- A statement that follows from two. -/
structure FromTwo (G : Prop) where
  p : Prop
  q : Prop
  go : p → q → G
theorem fromTwo_p {G P Q : Prop} {g : P → Q → G} (x : P) : (FromTwo.mk P Q g).p := x
theorem fromTwo_q {G P Q : Prop} {g : P → Q → G} (x : Q) : (FromTwo.mk P Q g).q := x
set_option maxRecDepth 100000 in
set_option maxHeartbeats 8000000 in
noncomputable def commits_part (n : Nat) (h1 : 64 ≤ n) (h2 : n ≤ 5000) (p : Option Addr) (len cap : Nat) (L : Nat → Int × Int) (M : Nat → Bool) (w : World) (hL : SetsBt w p len L M) :
    FromTwo (Calls Tryz.prog 5 #[.int .u32 n, .slice p len cap] w fun e w' => e = .returned (.bool true) ∧ Below w.heap.size w w') := by
  apply FromTwo.mk
  focus
  intro hP0 hQ0
  have hP := hideIt hP0
  have hQ := hideIt hQ0
  clear hP0 hQ0
  have hnew := dnew_any n (by omega) (by omega) w
  obtain ⟨rA, hA⟩ : ∃ r, r = rootA 1 n 0 (n - planFi n) 1 (planFi n) := ⟨_, rfl⟩
  have hfm := fun db mb W h => format_any db mb n (by omega) (by omega) W h
  have iR : (Tryz.prog.info? 31).map (·.size) = some rA.size := by rw [hA]; exact size31 _ _ _ _ _ _
  have eR : (rootA 0 0 0 0 0 0).size = rA.size := by rw [hA]; rfl
  have oR : rA.all (·.oneCell') = true := by rw [hA]; exact rootA_one _ _ _ _ _ _
  simp only [← hA] at hfm
  have IR := hideIt iR
  have ER := hideIt eR
  have OR := hideIt oR
  have HA := hideIt hA
  have d1 : decide ((n : Int) < 64) = false := decide_eq_false (by omega)
  have d2 : decide ((5000 : Int) < n) = false := decide_eq_false (by omega)
  clear iR eR oR hA
  go_enter Tryz.func5, Tryz.ntmps5
  go_upto_region 4 with (first
    | (go_at_call 7; (with_reducible refine hnew.mono ?_); rintro e W1 ⟨rfl, hD1, hb1, hs1⟩)
    | (with_reducible refine wl_extract rfl rfl ?_))
  have HD1 := hideIt hD1
  have hf1 := hfm _ _ W1 hD1
  clear hD1 hnew hfm
  go_upto_region 5 with (first
    | (go_at_call 8; (with_reducible refine hf1.mono ?_); rintro e W2 ⟨rfl, hD2, hk2⟩)
    | (with_reducible refine wl_extract rfl rfl ?_)
    | (with_reducible refine wl_alloc_store zero31 (by simp [Act.put]) rfl rfl IR.out ER.out OR.out ?_))
  obtain ⟨b, hlb, hD2⟩ := hD2.out
  obtain ⟨W3, hW3⟩ : ∃ W, W = W2.alloc (.cells rA 31) := ⟨_, rfl⟩
  have hs2 := hk2.size
  have g3 : W3.heap[W2.heap.size]? = some (.cells rA 31 (0, 0)) := by rw [hW3, hget_at _ _ rfl]
  have hs3 : W3.heap.size = W2.heap.size + 1 := by rw [hW3]; simp
  have hB3 : Below w.heap.size w W3 := by
    rw [hW3]
    exact (hb1.trans (hk2.below hb1.size (by intro k hk; omega))).alloc (by omega) _
  have hD3 := hD2.below (show Below W2.heap.size W2 W3 by rw [hW3]; exact (Below.refl _ _).alloc (Nat.le_refl _) _) hD2.lt hD2.map.lt
  rw [← hW3]
  have hC0 : CSt n W2.heap.size (w.heap.size + 1) w.heap.size w 0 W3 := by
    refine ⟨1, 0, _, z16, fun _ => z64, by omega, by omega, hD3, ?_, ?_, ?_, hB3⟩
    · exact putD_once (by simp [KeysOnce]) 1 b
    · rw [g3, HA.out]
    · exact new_ok 0 0 0 0 0 0 n (by omega) (by omega) b
  obtain ⟨rb, hrb⟩ : ∃ rb, rb = W2.heap.size := ⟨_, rfl⟩
  obtain ⟨db, hdb⟩ : ∃ db, db = w.heap.size + 1 := ⟨_, rfl⟩
  obtain ⟨mb, hmb⟩ : ∃ mb, mb = w.heap.size := ⟨_, rfl⟩
  rw [← hrb, ← hdb, ← hmb] at hC0
  rw [← hrb, ← hdb]
  have kd1 : w.heap.size ≤ db := by omega
  have kd2 : w.heap.size ≤ mb := by omega
  have kd3 : w.heap.size ≤ rb := by omega
  have kd4 : rb ≠ db := by omega
  have kd5 : rb ≠ mb := by omega
  have HC0 := hideIt hC0
  have HL := hideIt hL
  clear hrb hdb hmb hC0 hD2 hD3 hW3 g3 hB3 hlb hf1 hk2 HD1 hb1 IR ER OR HA
  go_upto_region 7 with fail
  go_wp2
  go_loopw [9] (fun vi wr => ∃ i : Nat, vi = .int .i64 i ∧ i ≤ len ∧ i ≤ 60 ∧ CSt n rb db mb w i wr) (fun vi _ => 60 - (intOf vi).toNat)
  case atStart => exact ⟨0, rfl, Nat.zero_le _, by omega, HC0.out⟩
  case round =>
    obtain ⟨i, rfl, hil, hi60, hC⟩ := hrel
    by_cases hc : i < len ∧ i < 60
    · obtain ⟨hc1, hc2⟩ := hc
      have hc1' : (i : Int) < (len : Int) := by omega
      have hc2' : (i : Int) < 60 := by omega
      obtain ⟨gen, picks, G, pk, tl, hg1, hg2, hD, hn, hr, hT, hB⟩ := hC.out
      have hop := open_any db mb n gen picks (by omega) (by omega) G wr hD
      obtain ⟨rA, hrA⟩ : ∃ r, r = rootA gen n picks (n - planFi n) 1 (planFi n) := ⟨_, rfl⟩
      rw [← hrA] at hop hr
      have iR : (Tryz.prog.info? 31).map (·.size) = some rA.size := by rw [hrA]; exact size31 _ _ _ _ _ _
      have HR := hideIt hr
      have IR := hideIt iR
      have HRA := hideIt hrA
      clear hC hr iR hrA HC0
      go_upto_region 10 with (first
        | (with_reducible refine wl_load rfl HR.out Tryz.underlying31 rfl IR.out ?_)
        | (go_at_call 9; (with_reducible refine hop.mono ?_); rintro e W4 ⟨tb, pm, tm, sm, rfl, hb4, l1, l2, l3, l4, hT4⟩)
        | (with_reducible refine wl_extract rfl rfl ?_))
      obtain ⟨T, hTe⟩ : ∃ T : Tab, T = { tb := tb, db := db, mb := mb, pm := pm, tm := tm, sm := sm, n := n, gen := gen, picks := picks, G := G, pk := pk, tl := tl } := ⟨_, rfl⟩
      have hTok : TabOk T := TabOk.congr hT (by rw [hTe]; rfl) (by rw [hTe]; rfl) (by rw [hTe]; rfl) (by rw [hTe]; rfl) (by rw [hTe]; rfl)
      have hA4 : TabAt T W4 [] := by rw [hTe]; exact hT4 pk tl
      have etb : T.tb = tb := by rw [hTe]
      have eTn : T.n = n := by rw [hTe]
      have hfF : ∀ k, (k = T.pm ∨ k = T.tm ∨ k = T.sm) → wr.heap.size ≤ k := by
        rw [hTe]
        rintro k (rfl | rfl | rfl)
        · exact l2
        · exact l3
        · exact l4
      have hB4 : Below w.heap.size w W4 := hB.trans (hb4.mono hB.size)
      have hw4 := hB4.size
      have hwr := hB.size
      obtain ⟨F, hFe⟩ : ∃ F : Nat, T.fi = F := ⟨T.fi.toNat, by have := planFi_lt n (by omega) (by omega); unfold Tab.fi; rw [eTn]; omega⟩
      have hFn : F < n := by have := planFi_lt n (by omega) (by omega); unfold Tab.fi at hFe; rw [eTn] at hFe; omega
      obtain ⟨L', hL'⟩ : ∃ L' : Nat → Int × Int, ∀ j, L' j = L (i + j) := ⟨fun j => L (i + j), fun _ => rfl⟩
      have hLr : ∀ j, j < len - i → 0 ≤ (L' j).2 ∧ (L' j).2 < 65536 := fun j hj => by rw [hL']; exact HL.out.r2 _ (by omega)
      obtain ⟨z, hz⟩ : ∃ z, z = wr.heap.size := ⟨_, rfl⟩
      rw [← hz] at hfF l1
      have hrz : rb < z := by rw [hz]; exact (Array.getElem?_eq_some_iff.1 HR.out).1
      have hdz : db < z := by rw [hz]; exact hD.lt
      have hmz : mb < z := by rw [hz]; exact hD.map.lt
      have hwz : w.heap.size ≤ z := by rw [hz]; exact hB.size
      have hz4 : z ≤ W4.heap.size := by rw [hz]; exact hb4.size
      have hr4 : W4.heap[rb]? = some (.cells rA 31 (0, 0)) := (hb4.block _ (by omega)).trans HR.out
      have hD4 : DevAt W4 db mb n G := hD.below hb4 (by omega) (by omega)
      have HR4 := hideIt hr4
      have HD4 := hideIt hD4
      have htz : z ≤ tb := l1
      have HTE := hideIt hTe
      have HTK := hideIt hTok
      have HA4 := hideIt hA4
      have HFF := hideIt hfF
      have HB4 := hideIt hB4
      have HFE := hideIt hFe
      have HL' := hideIt hL'
      have HLR := hideIt hLr
      have HN := hideIt hn
      have HETN := hideIt eTn
      clear hz hr4 hD4 HR hwr hTe hTok hA4 hfF hB4 hFe hL' hLr hD hn hT hB hb4 hT4 l1 l2 l3 l4 hop hD2 eTn
      go_upto_region 12 with fail
      go_wp2
      go_loopw [12] (fun vk wr => ∃ k : Nat, vk = .int .i64 k ∧ i ≤ k ∧ k ≤ len ∧ k ≤ 60 ∧ TabAt T wr (setsR T L' (k - i)) ∧ Keeps (fun k => k = T.pm ∨ k = T.tm ∨ k = T.sm) W4 wr) (fun vk _ => 60 - (intOf vk).toNat)
      case atStart => exact ⟨i, rfl, Nat.le_refl _, hil, hi60, by rw [Nat.sub_self]; exact HA4.out, Keeps.refl _ _⟩
      case round =>
        obtain ⟨k, rfl, hik, hkl, hk60, hA, hK⟩ := hrel
        by_cases hb : k < len ∧ k < 60 ∧ (k = i ∨ M k = false)
        · revert rA d1 d2 W1 hs1 W2 b W3 hs2 hs3 rb db mb kd1 kd2 kd3 kd4 kd5 HL wr u4 u10 u11 u12 u13 u14 u15 u16 u17 u18 u19 u20 u21 u22 u23 u24 u25 u26 u27 u28 u29 u30 u31 u32 u33 u34 u54 u55 u56 u57 u58 u59 u60 u61 u62 u63 u64 u65 u66 u67 u68 u69 u70 u71 u72 u73 u74 u75 u76 u77 u78 u79 u80 u81 u82 u83 u84 u85 u86 u87 u88 u89 u90 u91 u92 u93 u94 u95 u96 u97 u98 u99 u100 u101 u102 u103 u104 u105 u106 u107 u108 u109 u110 u111 u112 u113 u114 u115 u116 u117 u118 u119 u120 u121 u122 u123 u124 u125 u126 u127 u128 u129 u130 u131 u132 u133 u134 u135 u136 u137 u138 u139 u140 u141 u142 u143 u144 u145 u146 u147 u148 u149 u150 u151 u152 u153 u154 u155 u156 u157 u158 u159 u160 u161 u162 u163 u164 u165 u166 u167 u168 u169 u170 u171 u172 u173 u174 u175 u176 u177 u178 u179 u180 u181 u182 u183 u184 u185 u186 u187 u188 u189 u190 u191 u192 u193 u194 u195 u196 u197 u198 u199 u200 u201 u202 u203 u204 u205 u206 u207 u208 u209 u210 u211 u212 u213 u214 u215 u216 u217 u218 u219 u220 u221 u222 u223 u224 u225 u226 u227 u228 u229 u230 u231 u232 u233 u234 u235 u236 u237 u238 u239 u240 u241 u242 u243 u244 u245 u246 i hil hi60 hc1 hc2 hc1' hc2' gen picks G pk tl hg1 hg2 IR HRA W4 tb pm tm sm T etb hw4 F hFn L' z hrz hdz hmz hwz hz4 HR4 HD4 htz HTE HTK HA4 HFF HB4 HFE HL' HLR HN HETN k hik hkl hk60 hA hK hb
          revert rA wr u4 u13 u75 u76 u77 u78 u79 u80 u81 u82 u83 u84 u85 u86 u87 u88 u89 u90 u91 u92 u93 u94 u95 u96 u97 u98 u99 u100 u101 u102 u103 u104 u105 u106 u107 u108 u109 u110 u111 u112 u113 u114 u115 u116 u117 u118 u119 u120 u121 u122 u123 u124 u125 u126 u127 u128 u129
          repeat (rename_i xx; revert xx)
          exact hP.out
        · revert rA d1 d2 W1 hs1 W2 b W3 hs2 hs3 rb db mb kd1 kd2 kd3 kd4 kd5 HL wr u4 u10 u11 u12 u13 u14 u15 u16 u17 u18 u19 u20 u21 u22 u23 u24 u25 u26 u27 u28 u29 u30 u31 u32 u33 u34 u54 u55 u56 u57 u58 u59 u60 u61 u62 u63 u64 u65 u66 u67 u68 u69 u70 u71 u72 u73 u74 u75 u76 u77 u78 u79 u80 u81 u82 u83 u84 u85 u86 u87 u88 u89 u90 u91 u92 u93 u94 u95 u96 u97 u98 u99 u100 u101 u102 u103 u104 u105 u106 u107 u108 u109 u110 u111 u112 u113 u114 u115 u116 u117 u118 u119 u120 u121 u122 u123 u124 u125 u126 u127 u128 u129 u130 u131 u132 u133 u134 u135 u136 u137 u138 u139 u140 u141 u142 u143 u144 u145 u146 u147 u148 u149 u150 u151 u152 u153 u154 u155 u156 u157 u158 u159 u160 u161 u162 u163 u164 u165 u166 u167 u168 u169 u170 u171 u172 u173 u174 u175 u176 u177 u178 u179 u180 u181 u182 u183 u184 u185 u186 u187 u188 u189 u190 u191 u192 u193 u194 u195 u196 u197 u198 u199 u200 u201 u202 u203 u204 u205 u206 u207 u208 u209 u210 u211 u212 u213 u214 u215 u216 u217 u218 u219 u220 u221 u222 u223 u224 u225 u226 u227 u228 u229 u230 u231 u232 u233 u234 u235 u236 u237 u238 u239 u240 u241 u242 u243 u244 u245 u246 i hil hi60 hc1 hc2 hc1' hc2' gen picks G pk tl hg1 hg2 IR HRA W4 tb pm tm sm T etb hw4 F hFn L' z hrz hdz hmz hwz hz4 HR4 HD4 htz HTE HTK HA4 HFF HB4 HFE HL' HLR HN HETN k hik hkl hk60 hA hK hb
          revert rA wr u4 u13 u75 u76 u77 u78 u79 u80 u81 u82 u83 u84 u85 u86 u87 u88 u89 u90 u91 u92 u93 u94 u95 u96 u97 u98 u99 u100 u101 u102 u103 u104 u105 u106 u107 u108 u109 u110 u111 u112 u113 u114 u115 u116 u117 u118 u119 u120 u121 u122 u123 u124 u125 u126 u127 u128 u129
          repeat (rename_i xx; revert xx)
          exact hQ.out
    · -- OUT1: all sets are done
      clear hP hQ
      obtain ⟨_, _, _, _, _, _, _, _, _, _, _, hB⟩ := hC.out
      have HB := hideIt hB
      clear hC hB HC0
      go_upto_region 8 with fail
      go_cut [61] from 54 to 246 (fun s61 wx => s61 = .bool false ∧ wx = wr)
      case first =>
        by_cases h : i < len
        · have h' : ¬ (i : Int) < 60 := by omega
          go_wp2_with fail
          go_meet
          case rel => exact ⟨rfl, rfl⟩
        · have h' : ¬ (i : Int) < (len : Int) := by omega
          go_wp2_with fail
          go_meet
          case rel => exact ⟨rfl, rfl⟩
      case rest =>
      obtain ⟨rfl, rfl⟩ := hcut
      go_wp2_with (first
        | (go_at_call 6; (with_reducible refine (head_any _).mono ?_); rintro e W11 ⟨rfl, hb11⟩))
      go_ret
      exact ⟨rfl, HB.out.trans (hb11.mono HB.out.size)⟩
end Go.Proofs.YtnibehcgnhdcgaaGreatDoor
