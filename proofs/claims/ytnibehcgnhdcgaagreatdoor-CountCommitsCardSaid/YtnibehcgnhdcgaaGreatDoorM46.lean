/- CountCommits: its walk. -/
import Derived.Test.YtnibehcgnhdcgaaGreatDoorM45
import Derived.Test.YtnibehcgnhdcgaaGreatDoorM35
import Derived.Test.YtnibehcgnhdcgaaGreatDoorM26
import Derived.Test.YtnibehcgnhdcgaaGreatDoorM44
import Derived.CellFam
import Derived.Deep.Cut
namespace Go.Proofs.YtnibehcgnhdcgaaGreatDoor
open Go.RowKit Go.Maps

theorem TabOk.congr {T T' : Tab} (h : TabOk T) (en : T'.n = T.n) (ep : T'.picks = T.picks) (eG : T'.G = T.G) (ek : T'.pk = T.pk) (et : T'.tl = T.tl) : TabOk T' := by
  have eat : ∀ p, T'.at p = T.at p := fun p => by unfold Tab.at; rw [ek]
  exact ⟨by rw [en]; exact h.n1, by rw [en]; exact h.n2, by rw [ep]; exact h.p0, by rw [ep]; exact h.p1, by rw [eG, ep, ek]; exact h.pick, by rw [ek]; exact h.plen, by rw [ek]; exact h.pb,
    fun p h0 h1 => by rw [eG, eat, et]; rw [en] at h1; exact h.tally p h0 h1, by rw [et]; exact h.tlen, by rw [et]; exact h.tb⟩
theorem old_congr {T T' : Tab} (en : T'.n = T.n) (et : T'.tl = T.tl) (a : Int) : T'.old a = T.old a := by
  unfold Tab.old Tab.fi
  rw [en, et]
theorem TabAt.keeps {T : Tab} {w w' : World} {S : List (Int × Int)} {F : Nat → Prop} (h : TabAt T w S) (hk : Keeps F w w') (hF : ∀ k, (k = T.tb ∨ k = T.db ∨ k = T.mb ∨ k = T.pm ∨ k = T.tm ∨ k = T.sm) → ¬ F k) : TabAt T w' S :=
  h.of_blocks fun k hq => hk.block k (by have := h.lt; rcases hq with rfl | rfl | rfl | rfl | rfl | rfl <;> omega) (hF k hq)
/-- A table that lies nowhere. -/
def tabZ (n gen picks : Int) (G : List (Int × List UInt8)) (pk : List Int) (tl : Int → List Int) : Tab :=
  { tb := 0, db := 0, mb := 0, pm := 0, tm := 0, sm := 0, n := n, gen := gen, picks := picks, G := G, pk := pk, tl := tl }
/-- What holds ahead of each table that is opened. -/
structure CSt (n : Nat) (rb db mb : Nat) (w : World) (i : Nat) (wr : World) : Prop where
  out : ∃ (gen picks : Int) (G : List (Int × List UInt8)) (pk : List Int) (tl : Int → List Int), 1 ≤ gen ∧ gen ≤ i + 1 ∧ DevAt wr db mb n G ∧ KeysOnce G ∧
    wr.heap[rb]? = some (.cells (rootA gen n picks (n - planFi n) 1 (planFi n)) 31 (0, 0)) ∧ TabOk (tabZ n gen picks G pk tl) ∧ Below w.heap.size w wr

/-- The tables' blocks lie apart. -/
theorem lie_apart {z s9 s11 s12 s13 s14 tb db mb pm tm sm tb2 pm2 tm2 sm2 tb3 pm3 tm3 sm3 tb4 pm4 tm4 sm4 cb cm : Nat}
    (hd : db < z ∧ mb < z) (hz : z ≤ pm ∧ z ≤ tm) (ht : pm < s9 ∧ tm < s9 ∧ sm < s9 ∧ tb < s9) (hs : s9 ≤ s11 ∧ s11 ≤ s12 ∧ s12 ≤ s13 ∧ s13 ≤ s14)
    (hc : s9 ≤ cb ∧ s9 ≤ cm ∧ cb < s11 ∧ cm < s11)
    (hu : s11 ≤ tb2 ∧ s11 ≤ pm2 ∧ s11 ≤ tm2 ∧ s11 ≤ sm2) (hu' : pm2 < s12 ∧ tm2 < s12 ∧ sm2 < s12 ∧ tb2 < s12)
    (hv : s12 ≤ tb3 ∧ s12 ≤ pm3 ∧ s12 ≤ tm3 ∧ s12 ≤ sm3) (hv' : pm3 < s13 ∧ tm3 < s13 ∧ sm3 < s13 ∧ tb3 < s13)
    (hw : s13 ≤ tb4 ∧ s13 ≤ pm4 ∧ s13 ≤ tm4 ∧ s13 ≤ sm4) :
    (∀ q : Nat, (q = tb2 ∨ q = db ∨ q = mb ∨ q = pm2 ∨ q = tm2 ∨ q = sm2) → ¬ (q = pm ∨ q = tm)) ∧
    (∀ q : Nat, (q = tb3 ∨ q = db ∨ q = mb ∨ q = pm3 ∨ q = tm3 ∨ q = sm3) → ¬ (q = pm ∨ q = tm)) ∧
    (∀ q : Nat, (q = tb4 ∨ q = cb ∨ q = cm ∨ q = pm4 ∨ q = tm4 ∨ q = sm4) → ¬ (q = pm ∨ q = tm)) ∧
    (∀ q : Nat, (q = tb ∨ q = db ∨ q = mb ∨ q = pm ∨ q = tm ∨ q = sm) → ¬ (q = pm2 ∨ q = tm2)) ∧
    (∀ q : Nat, (q = tb3 ∨ q = db ∨ q = mb ∨ q = pm3 ∨ q = tm3 ∨ q = sm3) → ¬ (q = pm2 ∨ q = tm2)) ∧
    (∀ q : Nat, (q = tb4 ∨ q = cb ∨ q = cm ∨ q = pm4 ∨ q = tm4 ∨ q = sm4) → ¬ (q = pm2 ∨ q = tm2)) ∧
    (∀ q : Nat, (q = tb ∨ q = db ∨ q = mb ∨ q = pm ∨ q = tm ∨ q = sm) → ¬ (q = pm3 ∨ q = tm3)) ∧
    (∀ q : Nat, (q = tb2 ∨ q = db ∨ q = mb ∨ q = pm2 ∨ q = tm2 ∨ q = sm2) → ¬ (q = pm3 ∨ q = tm3)) ∧
    (∀ q : Nat, (q = tb4 ∨ q = cb ∨ q = cm ∨ q = pm4 ∨ q = tm4 ∨ q = sm4) → ¬ (q = pm3 ∨ q = tm3)) ∧
    (∀ q : Nat, (q = tb ∨ q = db ∨ q = mb ∨ q = pm ∨ q = tm ∨ q = sm) → ¬ (q = pm4 ∨ q = tm4)) ∧
    (∀ q : Nat, (q = tb2 ∨ q = db ∨ q = mb ∨ q = pm2 ∨ q = tm2 ∨ q = sm2) → ¬ (q = pm4 ∨ q = tm4)) ∧
    (∀ q : Nat, (q = tb3 ∨ q = db ∨ q = mb ∨ q = pm3 ∨ q = tm3 ∨ q = sm3) → ¬ (q = pm4 ∨ q = tm4)) := by
  obtain ⟨hd1, hd2⟩ := hd
  obtain ⟨hz1, hz2⟩ := hz
  refine ⟨?_, ?_, ?_, ?_, ?_, ?_, ?_, ?_, ?_, ?_, ?_, ?_⟩ <;> (intro q hq hc'; rcases hq with h | h | h | h | h | h <;> rcases hc' with h' | h' <;> omega)

set_option maxRecDepth 100000 in
set_option maxHeartbeats 8000000 in
theorem commits_go (n : Nat) (h1 : 64 ≤ n) (h2 : n ≤ 5000) (p : Option Addr) (len cap : Nat) (L : Nat → Int × Int) (M : Nat → Bool) (w : World) (hL : SetsBt w p len L M) :
    Calls Tryz.prog 5 #[.int .u32 n, .slice p len cap] w fun e w' => e = .returned (.bool true) ∧ Below w.heap.size w w' := by
  have hnew := dnew_any n (by omega) (by omega) w
  obtain ⟨rA, hA⟩ : ∃ r, r = rootA 1 n 0 (n - planFi n) 1 (planFi n) := ⟨_, rfl⟩
  have hfm := fun db mb W h => format_any db mb n (by omega) (by omega) W h
  have iR : (Tryz.prog.info? 31).map (·.size) = some rA.size := by rw [hA]; exact size31 _ _ _ _ _ _
  have eR : (rootA 0 0 0 0 0 0).size = rA.size := by rw [hA]; rfl
  have oR : rA.all (·.oneCell') = true := by rw [hA]; exact rootA_one _ _ _ _ _ _
  simp only [← hA] at hfm
  have IR := hideIt iR
  have ER := hideIt eR
  have OR := hideIt oR
  have HA := hideIt hA
  have d1 : decide ((n : Int) < 64) = false := decide_eq_false (by omega)
  have d2 : decide ((5000 : Int) < n) = false := decide_eq_false (by omega)
  clear iR eR oR hA
  go_enter Tryz.func5, Tryz.ntmps5
  go_upto_region 4 with (first
    | (go_at_call 7; (with_reducible refine hnew.mono ?_); rintro e W1 ⟨rfl, hD1, hb1, hs1⟩)
    | (with_reducible refine wl_extract rfl rfl ?_))
  have HD1 := hideIt hD1
  have hf1 := hfm _ _ W1 hD1
  clear hD1 hnew hfm
  go_upto_region 5 with (first
    | (go_at_call 8; (with_reducible refine hf1.mono ?_); rintro e W2 ⟨rfl, hD2, hk2⟩)
    | (with_reducible refine wl_extract rfl rfl ?_)
    | (with_reducible refine wl_alloc_store zero31 (by simp [Act.put]) rfl rfl IR.out ER.out OR.out ?_))
  obtain ⟨b, hlb, hD2⟩ := hD2.out
  obtain ⟨W3, hW3⟩ : ∃ W, W = W2.alloc (.cells rA 31) := ⟨_, rfl⟩
  have hs2 := hk2.size
  have g3 : W3.heap[W2.heap.size]? = some (.cells rA 31 (0, 0)) := by rw [hW3, hget_at _ _ rfl]
  have hs3 : W3.heap.size = W2.heap.size + 1 := by rw [hW3]; simp
  have hB3 : Below w.heap.size w W3 := by
    rw [hW3]
    exact (hb1.trans (hk2.below hb1.size (by intro k hk; omega))).alloc (by omega) _
  have hD3 := hD2.below (show Below W2.heap.size W2 W3 by rw [hW3]; exact (Below.refl _ _).alloc (Nat.le_refl _) _) hD2.lt hD2.map.lt
  rw [← hW3]
  have hC0 : CSt n W2.heap.size (w.heap.size + 1) w.heap.size w 0 W3 := by
    refine ⟨1, 0, _, z16, fun _ => z64, by omega, by omega, hD3, ?_, ?_, ?_, hB3⟩
    · exact putD_once (by simp [KeysOnce]) 1 b
    · rw [g3, HA.out]
    · exact new_ok 0 0 0 0 0 0 n (by omega) (by omega) b
  obtain ⟨rb, hrb⟩ : ∃ rb, rb = W2.heap.size := ⟨_, rfl⟩
  obtain ⟨db, hdb⟩ : ∃ db, db = w.heap.size + 1 := ⟨_, rfl⟩
  obtain ⟨mb, hmb⟩ : ∃ mb, mb = w.heap.size := ⟨_, rfl⟩
  rw [← hrb, ← hdb, ← hmb] at hC0
  rw [← hrb, ← hdb]
  have kd1 : w.heap.size ≤ db := by omega
  have kd2 : w.heap.size ≤ mb := by omega
  have kd3 : w.heap.size ≤ rb := by omega
  have kd4 : rb ≠ db := by omega
  have kd5 : rb ≠ mb := by omega
  have HC0 := hideIt hC0
  have HL := hideIt hL
  clear hrb hdb hmb hC0 hL hD2 hD3 hW3 g3 hB3 hlb hf1 hk2 HD1 hb1 IR ER OR HA
  go_upto_region 7 with fail
  go_wp2
  go_loopw [9] (fun vi wr => ∃ i : Nat, vi = .int .i64 i ∧ i ≤ len ∧ i ≤ 60 ∧ CSt n rb db mb w i wr) (fun vi _ => 60 - (intOf vi).toNat)
  case atStart => exact ⟨0, rfl, Nat.zero_le _, by omega, HC0.out⟩
  case round =>
    obtain ⟨i, rfl, hil, hi60, hC⟩ := hrel
    by_cases hc : i < len ∧ i < 60
    · obtain ⟨hc1, hc2⟩ := hc
      have hc1' : (i : Int) < (len : Int) := by omega
      have hc2' : (i : Int) < 60 := by omega
      obtain ⟨gen, picks, G, pk, tl, hg1, hg2, hD, hn, hr, hT, hB⟩ := hC.out
      have hop := open_any db mb n gen picks (by omega) (by omega) G wr hD
      obtain ⟨rA, hrA⟩ : ∃ r, r = rootA gen n picks (n - planFi n) 1 (planFi n) := ⟨_, rfl⟩
      rw [← hrA] at hop hr
      have iR : (Tryz.prog.info? 31).map (·.size) = some rA.size := by rw [hrA]; exact size31 _ _ _ _ _ _
      have HR := hideIt hr
      have IR := hideIt iR
      have HRA := hideIt hrA
      clear hC hr iR hrA HC0
      go_upto_region 10 with (first
        | (with_reducible refine wl_load rfl HR.out Tryz.underlying31 rfl IR.out ?_)
        | (go_at_call 9; (with_reducible refine hop.mono ?_); rintro e W4 ⟨tb, pm, tm, sm, rfl, hb4, l1, l2, l3, l4, hT4⟩)
        | (with_reducible refine wl_extract rfl rfl ?_))
      obtain ⟨T, hTe⟩ : ∃ T : Tab, T = { tb := tb, db := db, mb := mb, pm := pm, tm := tm, sm := sm, n := n, gen := gen, picks := picks, G := G, pk := pk, tl := tl } := ⟨_, rfl⟩
      have hTok : TabOk T := TabOk.congr hT (by rw [hTe]; rfl) (by rw [hTe]; rfl) (by rw [hTe]; rfl) (by rw [hTe]; rfl) (by rw [hTe]; rfl)
      have hA4 : TabAt T W4 [] := by rw [hTe]; exact hT4 pk tl
      have etb : T.tb = tb := by rw [hTe]
      have eTn : T.n = n := by rw [hTe]
      have hfF : ∀ k, (k = T.pm ∨ k = T.tm ∨ k = T.sm) → wr.heap.size ≤ k := by
        rw [hTe]
        rintro k (rfl | rfl | rfl)
        · exact l2
        · exact l3
        · exact l4
      have hB4 : Below w.heap.size w W4 := hB.trans (hb4.mono hB.size)
      have hw4 := hB4.size
      have hwr := hB.size
      obtain ⟨F, hFe⟩ : ∃ F : Nat, T.fi = F := ⟨T.fi.toNat, by have := planFi_lt n (by omega) (by omega); unfold Tab.fi; rw [eTn]; omega⟩
      have hFn : F < n := by have := planFi_lt n (by omega) (by omega); unfold Tab.fi at hFe; rw [eTn] at hFe; omega
      obtain ⟨L', hL'⟩ : ∃ L' : Nat → Int × Int, ∀ j, L' j = L (i + j) := ⟨fun j => L (i + j), fun _ => rfl⟩
      have hLr : ∀ j, j < len - i → 0 ≤ (L' j).2 ∧ (L' j).2 < 65536 := fun j hj => by rw [hL']; exact HL.out.r2 _ (by omega)
      obtain ⟨z, hz⟩ : ∃ z, z = wr.heap.size := ⟨_, rfl⟩
      rw [← hz] at hfF l1
      have hrz : rb < z := by rw [hz]; exact (Array.getElem?_eq_some_iff.1 HR.out).1
      have hdz : db < z := by rw [hz]; exact hD.lt
      have hmz : mb < z := by rw [hz]; exact hD.map.lt
      have hwz : w.heap.size ≤ z := by rw [hz]; exact hB.size
      have hz4 : z ≤ W4.heap.size := by rw [hz]; exact hb4.size
      have hr4 : W4.heap[rb]? = some (.cells rA 31 (0, 0)) := (hb4.block _ (by omega)).trans HR.out
      have hD4 : DevAt W4 db mb n G := hD.below hb4 (by omega) (by omega)
      have HR4 := hideIt hr4
      have HD4 := hideIt hD4
      have htz : z ≤ tb := l1
      have HTE := hideIt hTe
      have HTK := hideIt hTok
      have HA4 := hideIt hA4
      have HFF := hideIt hfF
      have HB4 := hideIt hB4
      have HFE := hideIt hFe
      have HL' := hideIt hL'
      have HLR := hideIt hLr
      have HN := hideIt hn
      have HETN := hideIt eTn
      clear hz hr4 hD4 HR hwr hTe hTok hA4 hfF hB4 hFe hL' hLr hD hn hT hB hb4 hT4 l1 l2 l3 l4 hop hD2 eTn
      go_upto_region 12 with fail
      go_wp2
      go_loopw [12] (fun vk wr => ∃ k : Nat, vk = .int .i64 k ∧ i ≤ k ∧ k ≤ len ∧ k ≤ 60 ∧ TabAt T wr (setsR T L' (k - i)) ∧ Keeps (fun k => k = T.pm ∨ k = T.tm ∨ k = T.sm) W4 wr) (fun vk _ => 60 - (intOf vk).toNat)
      case atStart => exact ⟨i, rfl, Nat.le_refl _, hil, hi60, by rw [Nat.sub_self]; exact HA4.out, Keeps.refl _ _⟩
      case round =>
        obtain ⟨k, rfl, hik, hkl, hk60, hA, hK⟩ := hrel
        by_cases hb : k < len ∧ k < 60 ∧ (k = i ∨ M k = false)
        · -- BODY2
          obtain ⟨hb1, hb2, hb3⟩ := hb
          have hb1' : (k : Int) < (len : Int) := by omega
          have hb2' : (k : Int) < 60 := by omega
          obtain ⟨blk, off, rfl, hblk, ca0, cx0, cm0⟩ := HL.out.at_ k hb1
          have hBr : Below w.heap.size w wr := HB4.out.trans (hK.below hw4 (fun k hk => by have := HFF.out k hk; omega))
          have hca : ∀ W, Below w.heap.size w W → W.cell? ⟨blk, off + k * 260, none⟩ = some (.int .u32 (L k).1) := fun W h => (World.cell?_of_block (w := w) (h.block _ hblk)).trans ca0
          have hcx : ∀ W, Below w.heap.size w W → W.cell? ⟨blk, off + k * 260 + 1, none⟩ = some (.int .u16 (L k).2) := fun W h => (World.cell?_of_block (w := w) (h.block _ hblk)).trans cx0
          have cm : wr.cell? ⟨blk, off + k * 260 + 2, none⟩ = some (.bool (M k)) := (World.cell?_of_block (w := w) (hBr.block _ hblk)).trans cm0
          obtain ⟨a, hae⟩ : ∃ a : Nat, (L k).1 = a := ⟨(L k).1.toNat, by have := HL.out.r1 k hb1; omega⟩
          have ha : a < 4294967296 := by have := HL.out.r1 k hb1; omega
          have ca := hca wr hBr
          have cx := hcx wr hBr
          obtain ⟨x, hxe⟩ : ∃ x, (L k).2 = x := ⟨_, rfl⟩
          rw [hae] at ca hca
          rw [hxe] at cx hcx
          have hset := tset_any T HTK.out wr.drew (setsR T L' (k - i)) (hA.of_blocks fun _ _ => rfl) a ha x
          have hnext : T.setTo (setsR T L' (k - i)) a x = setsR T L' (k + 1 - i) := by
            rw [show k + 1 - i = (k - i) + 1 by omega, setsR, HL'.out, show i + (k - i) = k by omega, hae, hxe]
          rw [etb, hnext] at hset
          have HBR := hideIt hBr
          have HCA := hideIt hca
          have HCX := hideIt hcx
          have HK := hideIt hK
          clear hA hBr hca hcx hK ca0 cx0 cm0 hae hxe hnext
          go_upto_region 13 with fail
          go_cut [95] from 75 to 129 (fun s95 wx => s95 = .bool true ∧ wx = wr)
          case first =>
            by_cases hki : k = i
            · have hki' : (k : Int) = (i : Int) := by omega
              have HKI := hideIt hki
              clear hki
              go_wp2_with fail
              go_meet
              case rel => exact ⟨by simp [hki'], rfl⟩
            · have hki' : ¬ (k : Int) = (i : Int) := by omega
              have hM : M k = false := by rcases hb3 with h | h; exact absurd h hki; exact h
              rw [hM] at cm
              clear hb3 hM
              go_wp2_with fail
              go_meet
              case rel => exact ⟨by simp [hki'], rfl⟩
          case rest =>
          obtain ⟨rfl, rfl⟩ := hcut
          go_upto_region 14 with fail
          go_cut [13] from 75 to 129 (fun s13 wx => s13 = .int .i64 (T.setErr a) ∧ TabAt T wx (setsR T L' (k + 1 - i)) ∧ Keeps (fun k => k = T.pm ∨ k = T.tm ∨ k = T.sm) W4 wx)
          case first =>
            go_region_with (go_at_call 10; (with_reducible refine hset.mono ?_); rintro e w1 ⟨rfl, hA1, hk1⟩)
            all_goals
              go_wp2_with fail
              go_meet
              case rel => exact ⟨rfl, hA1, HK.out.trans ((Keeps.refl _ _).drew.trans hk1)⟩
          case rest =>
            obtain ⟨rfl, hA1, hK1⟩ := hcut
            obtain ⟨w1, hw1⟩ : ∃ w1, w1 = wc := ⟨_, rfl⟩
            rw [← hw1] at hA1 hK1 ⊢
            clear hw1 HBR HK
            have hB1 : Below w.heap.size w w1 := HB4.out.trans (hK1.below hw4 (fun k hk => by have := HFF.out k hk; omega))
            have ca1 := HCA.out w1 hB1
            have hfirst := fun q => (tfirst_any T (w1.drewN q) _ (hA1.of_blocks fun _ _ => rfl)).mono (fun e w' (h : _ ∧ w1.drewN q = w') => (⟨h.1, h.2.symm⟩ : _ ∧ w' = w1.drewN q))
            have hfirst1 := (tfirst_any T w1.drew _ (hA1.of_blocks fun _ _ => rfl)).mono (fun e w' (h : _ ∧ w1.drew = w') => (⟨h.1, h.2.symm⟩ : _ ∧ w' = w1.drew))
            simp only [etb, HFE.out] at hfirst hfirst1
            have hse : T.setErr (a : Int) = if (a : Int) < F ∨ (n : Int) ≤ a then 2 else 0 := by unfold Tab.setErr; rw [HFE.out, HETN.out]
            have HA1 := hideIt hA1
            have HK1 := hideIt hK1
            clear hA1 hK1 hB1 hset ca cx cm
            by_cases haF : a < F
            · have he : T.setErr (a : Int) = 2 := by rw [hse, if_pos (by omega)]
              have q1 : ¬ (F : Int) ≤ (a : Int) := by omega
              have q2 : ¬ F ≤ a := by omega
              clear hse
              go_upto_region 15 with fail
              go_quiet (first | (go_at_call 11; first | exact Calls.quiet_of_same (hfirst _) | exact Calls.quiet_of_same hfirst1))
              go_wp2
              go_roundw
              case rel => exact ⟨k + 1, by go_num, by omega, by omega, by omega, HA1.out.of_blocks (fun _ _ => rfl), HK1.out.drewN _⟩
              case measure => simp [intOf]; omega
            · by_cases han : a < n
              · have he : T.setErr (a : Int) = 0 := by rw [hse, if_neg (by omega)]
                have q1 : (F : Int) ≤ (a : Int) := by omega
                have q2 : F ≤ a := by omega
                have q3 : (a : Int) < (n : Int) := by omega
                clear hse
                go_upto_region 15 with fail
                go_quiet (first | (go_at_call 11; first | exact Calls.quiet_of_same (hfirst _) | exact Calls.quiet_of_same hfirst1))
                go_wp2
                go_roundw
                case rel => exact ⟨k + 1, by go_num, by omega, by omega, by omega, HA1.out.of_blocks (fun _ _ => rfl), HK1.out.drewN _⟩
                case measure => simp [intOf]; omega
              · have he : T.setErr (a : Int) = 2 := by rw [hse, if_pos (by omega)]
                have q1 : (F : Int) ≤ (a : Int) := by omega
                have q2 : F ≤ a := by omega
                have q3 : ¬ (a : Int) < (n : Int) := by omega
                clear hse
                go_upto_region 15 with fail
                go_quiet (first | (go_at_call 11; first | exact Calls.quiet_of_same (hfirst _) | exact Calls.quiet_of_same hfirst1))
                go_wp2
                go_roundw
                case rel => exact ⟨k + 1, by go_num, by omega, by omega, by omega, HA1.out.of_blocks (fun _ _ => rfl), HK1.out.drewN _⟩
                case measure => simp [intOf]; omega
        · -- OUT2: the sets of a commit are done
          have hki : i < k := by
            by_cases h : k = i
            · exact absurd ⟨by omega, by omega, Or.inl h⟩ hb
            · omega
          have hwt : ¬ (k < len ∧ k < 60) ∨ M k = true := by
            by_cases h : k < len ∧ k < 60
            · right
              cases hm : M k
              · exact absurd ⟨h.1, h.2, Or.inr hm⟩ hb
              · rfl
            · exact Or.inl h
          have hBr : Below w.heap.size w wr := HB4.out.trans (hK.below hw4 (fun k hk => by have := HFF.out k hk; omega))
          have hkz : ¬ (k : Int) = (i : Int) := by omega
          have hcm : k < len → ∃ blk off, p = some ⟨blk, off, none⟩ ∧ wr.cell? ⟨blk, off + k * 260 + 2, none⟩ = some (.bool (M k)) := fun h => by
            obtain ⟨blk, off, e, hblk, _, _, cm0⟩ := HL.out.at_ k h
            exact ⟨blk, off, e, (World.cell?_of_block (w := w) (hBr.block _ hblk)).trans cm0⟩
          obtain ⟨S, hSe⟩ : ∃ S, S = setsR T L' (k - i) := ⟨_, rfl⟩
          obtain ⟨hS, hSl⟩ := setsR_ok (T := T) HLR.out (k - i) (by omega)
          rw [← hSe] at hA hS hSl
          have HA := hideIt hA
          have HK := hideIt hK
          have HS := hideIt hS
          have HWT := hideIt hwt
          clear hA hK hS hb hSe hBr hwt HA4
          go_upto_region 13 with fail
          go_cut [95] from 75 to 129 (fun s95 wx => s95 = .bool false ∧ wx = wr)
          case first =>
            by_cases h3 : k < len
            · obtain ⟨blk, off, rfl, cm⟩ := hcm h3
              have h3' : (k : Int) < (len : Int) := by omega
              by_cases h4 : k < 60
              · have h4' : (k : Int) < 60 := by omega
                have hM : M k = true := by rcases HWT.out with h | h; exact absurd ⟨h3, h4⟩ h; exact h
                rw [hM] at cm
                go_wp2_with fail
                go_meet
                case rel => exact ⟨by simp [hkz], rfl⟩
              · have h4' : ¬ (k : Int) < 60 := by omega
                clear cm
                go_wp2_with fail
                go_meet
                case rel => exact ⟨rfl, rfl⟩
            · have h3' : ¬ (k : Int) < (len : Int) := by omega
              go_wp2_with fail
              go_meet
              case rel => exact ⟨rfl, rfl⟩
          case rest =>
          obtain ⟨rfl, rfl⟩ := hcut
          clear hcm HWT
          have hsl := tseal_any 60 (fun m => sortsAll m 60 (by omega)) (by omega) (by omega) T HTK.out wc S HS.out (by omega) HA.out
          rw [etb] at hsl
          go_upto_region 19 with (first
            | (go_at_call 13; (with_reducible refine hsl.mono ?_); rintro e W7 ⟨v7, rfl, ho7, hl7, hA7, hk7⟩)
            | (with_reducible refine wl_extract rfl rfl ?_))
          obtain ⟨p7, c7, rfl⟩ := own_slice ho7
          obtain ⟨Q, hNx⟩ := next_of HTK.out HS.out (by rw [HTE.out]; exact HN.out)
          have hK7 : Keeps (fun k => k = T.pm ∨ k = T.tm ∨ k = T.sm) W4 W7 := HK.out.trans (hk7.mono fun k _ hk => by rcases hk with h | h <;> simp [h])
          have hz7 : z ≤ W7.heap.size := by have := hK7.size; omega
          have hzc : z ≤ wc.heap.size := by have := HK.out.size; omega
          have hr7 : W7.heap[rb]? = some (.cells rA 31 (0, 0)) := (hK7.block rb (by omega) (fun hk => by have := HFF.out _ hk; omega)).trans HR4.out
          have hD7 : DevAt W7 db mb n G := HD4.out.of_blocks (hK7.block db (by omega) (fun hk => by have := HFF.out _ hk; omega)) (hK7.block mb (by omega) (fun hk => by have := HFF.out _ hk; omega))
          have hB7 : Below w.heap.size w W7 := HB4.out.trans (hK7.below hw4 (fun k hk => by have := HFF.out k hk; omega))
          have hPut7 : PutsAt W7 db p7 (sealPuts T S) := fun j a b hj => by
            obtain ⟨g, e, hr⟩ := own_range hl7 ho7 hj
            refine ⟨g, e, ?_, hr⟩
            rcases ho7.2 with ⟨e0, _⟩ | ⟨g', cap', cur, e0, hbg, _⟩
            · rw [e] at e0; cases e0
            · rw [e] at e0
              injection e0 with e0 _ _
              injection e0 with e0
              injection e0 with e0 _ _
              omega
          obtain ⟨K, hKe⟩ : ∃ K, K = (sealPuts T S).length := ⟨_, rfl⟩
          obtain ⟨P, hPe⟩ : ∃ P, P = sealPicks T S := ⟨_, rfl⟩
          have hP0 : 0 ≤ P ∧ P < 2 := by
            rw [hPe, hNx.picks]
            have := HTK.out.p0
            have := HTK.out.p1
            split <;> omega
          rw [← hKe, ← hPe]
          have eR : (rootA 0 0 0 0 0 0).size = rA.size := by rw [HRA.out]; rfl
          have oR : rA.all (·.oneCell') = true := by rw [HRA.out]; exact rootA_one _ _ _ _ _ _
          have hPutZ : ∀ (j : Nat) (a : Int) (b : List UInt8), (sealPuts T S)[j]? = some (a, b) → ∀ g : Nat, p7 = some ⟨g, 0, none⟩ → z ≤ g := fun j a b hj g e => by
            rcases ho7.2 with ⟨e0, _⟩ | ⟨g', cap', cur, e0, hbg, _⟩
            · rw [e] at e0; cases e0
            · rw [e] at e0
              injection e0 with e0 _ _
              injection e0 with e0
              injection e0 with e0 _ _
              omega
          have HPZ := hideIt hPutZ
          clear hPutZ
          have HKE := hideIt hKe
          have HPE := hideIt hPe
          have HNX := hideIt hNx
          have HA7 := hideIt hA7
          have HR7 := hideIt hr7
          have HD7 := hideIt hD7
          have HB7 := hideIt hB7
          have HP7 := hideIt hPut7
          have ER := hideIt eR
          have OR := hideIt oR
          have hg3 : gen < 100 := by omega
          clear hsl ho7 hl7 hA7 hk7 hK7 hr7 hD7 hB7 hPut7 hKe hPe hNx eR oR HA HK HR4 HD4
          go_upto_region 20 with (first
            | (with_reducible refine wl_load rfl HR7.out Tryz.underlying31 rfl IR.out ?_)
            | (with_reducible refine wl_alloc_store zero31 (by simp [Act.put]) rfl rfl IR.out ER.out OR.out ?_))
          obtain ⟨W8, hW8⟩ : ∃ W, W = W7.alloc (.cells rA 31) := ⟨_, rfl⟩
          obtain ⟨ob, hob⟩ : ∃ ob, ob = W7.heap.size := ⟨_, rfl⟩
          rw [← hW8, ← hob]
          have hrb7 : rb < W7.heap.size := by omega
          have g8 : W8.heap[rb]? = some (.cells rA 31 (0, 0)) := by rw [hW8, hget_past _ _ hrb7]; exact HR7.out
          have go8 : W8.heap[ob]? = some (.cells rA 31 (0, 0)) := by rw [hW8, hget_at _ _ hob]
          have c80 : W8.cell? ⟨rb, 0, none⟩ = some (.int .u64 gen) := by rw [cell_of_row _ _ _ _ _ _ g8, HRA.out]; rfl
          have c82 : W8.cell? ⟨rb, 2, none⟩ = some (.int .u32 picks) := by rw [cell_of_row _ _ _ _ _ _ g8, HRA.out]; rfl
          have f80 : W8.frozen? ⟨rb, 0, none⟩ = false := by unfold World.frozen?; rw [g8]; rfl
          have f82 : W8.frozen? ⟨rb, 2, none⟩ = false := by unfold World.frozen?; rw [g8]; rfl
          have hzo : z ≤ ob := by omega
          have hs8 : W8.heap.size = W7.heap.size + 1 := by rw [hW8]; simp
          have hb78 : Below W7.heap.size W7 W8 := by rw [hW8]; exact (Below.refl _ _).alloc (Nat.le_refl _) _
          have HB78 := hideIt hb78
          have G8 := hideIt g8
          have GO8 := hideIt go8
          have HOB := hideIt hob
          clear hW8 g8 go8 hob hb78 HR7 ER OR
          go_upto_region 22 with fail
          obtain ⟨W9, hW9⟩ : ∃ W, W = (W8.setCell ⟨rb, 0, none⟩ (.int .u64 (gen + 1))).setCell ⟨rb, 2, none⟩ (.int .u32 P) := ⟨_, rfl⟩
          rw [← hW9]
          obtain ⟨rB, hrB⟩ : ∃ r, r = rootA (gen + 1) n P (n - planFi n) 1 (planFi n) := ⟨_, rfl⟩
          have g9 : W9.heap[rb]? = some (.cells rB 31 (0, 0)) := by
            rw [hW9, hget_setCell_same rb 2 _ _ _ (hget_setCell_same rb 0 _ _ _ G8.out), HRA.out, hrB]
            rfl
          have hoth : ∀ q, q ≠ rb → W9.heap[q]? = W8.heap[q]? := fun q hq => by
            rw [hW9, hget_setCell_other _ _ _ (by show q ≠ rb; exact hq), hget_setCell_other _ _ _ (by show q ≠ rb; exact hq)]
          have hs9 : W9.heap.size = W8.heap.size := by rw [hW9]; simp [World.setCell]
          have ho9 : W9.os = W7.os ∧ W9.tape = W7.tape ∧ W9.output = W7.output := by
            refine ⟨?_, ?_, ?_⟩
            · rw [hW9]; exact HB78.out.os
            · rw [hW9]; exact HB78.out.tape
            · rw [hW9]; exact HB78.out.output
          -- what stood in W7 but the root's variable
          have h79 : ∀ q, q < W7.heap.size → q ≠ rb → W9.heap[q]? = W7.heap[q]? := fun q hq hne => (hoth q hne).trans (HB78.out.block q hq)
          have g9o : W9.heap[ob]? = some (.cells rA 31 (0, 0)) := (hoth ob (by omega)).trans GO8.out
          have hD9 : DevAt W9 db mb n G := HD7.out.of_blocks (h79 db (by omega) (by omega)) (h79 mb (by omega) (by omega))
          have hB9 : Below w.heap.size w W9 := ⟨ho9.1.trans HB7.out.os, ho9.2.1.trans HB7.out.tape, ho9.2.2.trans HB7.out.output, by have := HB7.out.size; omega, fun q hq => (h79 q (by omega) (by omega)).trans (HB7.out.block q hq)⟩
          have hP9 : PutsAt W9 db p7 (sealPuts T S) := fun j a b hj => by
            obtain ⟨g, e, hg, hr⟩ := HP7.out j a b hj
            refine ⟨g, e, hg, fun q v hv => ?_⟩
            have hc7 := hr q v hv
            have hlt := World.block_lt_of_cell? W7 _ hc7
            have hgz : z ≤ g := HPZ.out j a b hj g e
            rw [World.cell?_of_block (w := W7) (h79 g hlt (by omega))]
            exact hc7
          have hA9 : TabAt T W9 S := HA7.out.of_blocks fun q hq => by
            have hl := HA7.out.lt
            have hq' : q ≠ rb := by
              rcases hq with h | h | h | h | h | h
              · rw [h, etb]; omega
              · rw [h, HTE.out]; exact fun e => kd4 e.symm
              · rw [h, HTE.out]; exact fun e => kd5 e.symm
              · have := HFF.out q (Or.inl h); omega
              · have := HFF.out q (Or.inr (Or.inl h)); omega
              · have := HFF.out q (Or.inr (Or.inr h)); omega
            exact h79 q (by rcases hq with rfl | rfl | rfl | rfl | rfl | rfl <;> omega) hq'
          have hs79 : W9.heap.size = ob + 1 := by have := HOB.out; omega
          have HOBN := HOB
          have hcp := copy_any db mb n G W9 hD9
          have HD9 := hideIt hD9
          have HB9 := hideIt hB9
          have HP9 := hideIt hP9
          have HA9 := hideIt hA9
          have HG9 := hideIt g9
          have HO9 := hideIt g9o
          have HRB := hideIt hrB
          clear hW9 g9 hoth hs9 ho9 h79 g9o hD9 hB9 hP9 hA9 hrB HB7 HP7 HA7 HD7 HB78 G8 GO8 HPZ c80 c82 f80 f82 HOB hs8
          go_upto_region 23 with (first
            | (go_at_call 17; (with_reducible refine hcp.mono ?_); rintro e W10 ⟨cb, cm, rfl, hDc, hb10, k1, k2⟩))
          have hz9 : z < W9.heap.size := by omega
          have hD10 : DevAt W10 db mb n G := HD9.out.below hb10 (by omega) (by omega)
          have hP10 : PutsAt W10 db p7 (sealPuts T S) := HP9.out.kept (fun q hq _ => hb10.block q hq)
          have hg10 : W10.heap[rb]? = some (.cells rB 31 (0, 0)) := (hb10.block _ (by omega)).trans HG9.out
          have hcm := commit_any db mb c7 p7 n (gen + 1) P (by omega) (by omega) (by omega) (by omega) hP0.1 hP0.2 G (sealPuts T S) (by have := HNX.out.putsLen; omega) (fun x hx => by have := HNX.out.putsOk x hx; rw [HETN.out] at this; exact this) W10 hD10 hP10
          obtain ⟨f0, hf0⟩ : ∃ f0, f0 = planFi n := ⟨_, rfl⟩
          rw [show rootA (gen + 1) n P (n - planFi n) 1 (planFi n) = #[.int .u64 (gen + 1), .int .u32 n, .int .u32 P, .int .u32 0, .int .u32 (n - f0), .int .u32 1, .int .u32 f0, .int .u8 0] by rw [hf0]; rfl, ← HKE.out] at hcm
          have hrBe : rB = #[.int .u64 (gen + 1), .int .u32 n, .int .u32 P, .int .u32 0, .int .u32 (n - f0), .int .u32 1, .int .u32 f0, .int .u8 0] := by rw [HRB.out, hf0]; rfl
          have e0 : W10.cell? ⟨rb, 0, none⟩ = some (.int .u64 (gen + 1)) := by rw [cell_of_row _ _ _ _ _ _ hg10, hrBe]; rfl
          have e1 : W10.cell? ⟨rb, 1, none⟩ = some (.int .u32 n) := by rw [cell_of_row _ _ _ _ _ _ hg10, hrBe]; rfl
          have e2 : W10.cell? ⟨rb, 2, none⟩ = some (.int .u32 P) := by rw [cell_of_row _ _ _ _ _ _ hg10, hrBe]; rfl
          have e3 : W10.cell? ⟨rb, 3, none⟩ = some (.int .u32 0) := by rw [cell_of_row _ _ _ _ _ _ hg10, hrBe]; rfl
          have e4 : W10.cell? ⟨rb, 4, none⟩ = some (.int .u32 (n - f0)) := by rw [cell_of_row _ _ _ _ _ _ hg10, hrBe]; rfl
          have e5 : W10.cell? ⟨rb, 5, none⟩ = some (.int .u32 1) := by rw [cell_of_row _ _ _ _ _ _ hg10, hrBe]; rfl
          have e6 : W10.cell? ⟨rb, 6, none⟩ = some (.int .u32 f0) := by rw [cell_of_row _ _ _ _ _ _ hg10, hrBe]; rfl
          have e7 : W10.cell? ⟨rb, 7, none⟩ = some (.int .u8 0) := by rw [cell_of_row _ _ _ _ _ _ hg10, hrBe]; rfl
          have HB10 := hideIt hb10
          have HDC := hideIt hDc
          have HG10 := hideIt hg10
          clear hb10 hDc hg10 hD10 hP10 hcp hf0 hrBe
          go_upto_region 25 with (first
            | (go_at_call 18; (with_reducible refine hcm.mono ?_); rintro e W11 ⟨rfl, hD11, hk11⟩))
          obtain ⟨b', hlb', hD11⟩ := hD11.out
          obtain ⟨G', hG'⟩ : ∃ G', G' = afterG T S ((gen + 1) % 2) b' := ⟨_, rfl⟩
          rw [show putD (flushG G (sealPuts T S)) ((gen + 1) % 2) b' = G' by rw [hG']; unfold afterG; rw [HTE.out]] at hD11
          have hs10 := HB10.out.size
          have hs11 := hk11.size
          have hltA := HA9.out.lt
          have h911 : ∀ q, q < W9.heap.size → q ≠ db → q ≠ mb → W11.heap[q]? = W9.heap[q]? := fun q hq h1 h2 => (hk11.block q (by omega) (fun hc => by rcases hc with hc | hc; exact h1 hc; exact h2 hc)).trans (HB10.out.block q hq)
          have hg11 : W11.heap[rb]? = some (.cells rB 31 (0, 0)) := (h911 rb (by omega) kd4 kd5).trans HG9.out
          have hgo11 : W11.heap[ob]? = some (.cells rA 31 (0, 0)) := (h911 ob (by omega) (by omega) (by omega)).trans HO9.out
          have hDc11 : DevAt W11 cb cm n G := HDC.out.of_blocks (hk11.block cb HDC.out.lt (by omega)) (hk11.block cm HDC.out.map.lt (by omega))
          have hB11 : Below w.heap.size w W11 := (HB9.out.trans (HB10.out.mono HB9.out.size)).trans (hk11.below (by have := HB9.out.size; omega) (by intro q hq; omega))
          obtain ⟨Tt, hTt⟩ : ∃ Tt : Tab, Tt = { T with G := G' } := ⟨_, rfl⟩
          have hpmz := HFF.out T.pm (Or.inl rfl)
          have htmz := HFF.out T.tm (Or.inr (Or.inl rfl))
          have hsmz := HFF.out T.sm (Or.inr (Or.inr rfl))
          have hAt : TabAt Tt W11 S := by
            obtain ⟨lp, hp, hp2⟩ := HA9.out.mp
            obtain ⟨lt, ht, ht2⟩ := HA9.out.mt
            rw [hTt]
            refine ⟨(h911 T.tb hltA.1 (by omega) (by omega)).trans HA9.out.row, ?_, ⟨lp, hp.of_block (h911 T.pm (by omega) (by omega) (by omega)), hp2⟩, ⟨lt, ht.of_block (h911 T.tm (by omega) (by omega) (by omega)), ht2⟩, HA9.out.ms.of_block (h911 T.sm (by omega) (by omega) (by omega)), HA9.out.d1⟩
            show DevAt W11 T.db T.mb T.n G'
            rw [HETN.out, HTE.out]
            exact hD11
          have hrr : (gen + 1) % 2 < 2 := by omega
          have hTtok : TabOk Tt := HNX.out.old hrr b' (by rw [hTt]) (by rw [hTt]) (by rw [hTt]; exact hG') (by rw [hTt]) (by rw [hTt])
          have hn' : KeysOnce G' := by rw [hG']; exact HNX.out.once' _ b'
          have iRB : (Tryz.prog.info? 31).map (·.size) = some rB.size := by rw [HRB.out]; exact size31 _ _ _ _ _ _
          have hopU := open_any db mb n (gen + 1) P (by omega) (by omega) G' W11 hD11
          rw [← HRB.out] at hopU
          have HGP := hideIt hG'
          have HD11 := hideIt hD11
          have HG11 := hideIt hg11
          have HGO11 := hideIt hgo11
          have HDC11 := hideIt hDc11
          have HB11 := hideIt hB11
          have HAT := hideIt hAt
          have HTT := hideIt hTtok
          have HTTE := hideIt hTt
          have HN' := hideIt hn'
          have IRB := hideIt iRB
          clear hG' hD11 hg11 hgo11 hDc11 hB11 hAt hTtok hTt hn' iRB h911 hk11 HD9 HB9 HP9 HG9 HO9 HB10 HDC HG10 e0 e1 e2 e3 e4 e5 e6 e7 hcm
          go_upto_region 26 with (first
            | (with_reducible refine wl_load rfl HG11.out Tryz.underlying31 rfl IRB.out ?_)
            | (go_at_call 9; (with_reducible refine hopU.mono ?_); rintro e W12 ⟨tb2, pm2, tm2, sm2, rfl, hb12, u1, u2, u3, u4', hT12⟩)
            | (with_reducible refine wl_extract rfl rfl ?_))
          have hs12 := hb12.size
          have hD12 : DevAt W12 db mb n G' := HD11.out.below hb12 (by omega) (by omega)
          have hgo12 := (hb12.block ob (by omega)).trans HGO11.out
          have hopV := open_any db mb n gen picks (by omega) (by omega) G' W12 hD12
          rw [← HRA.out] at hopV
          have HGO12 := hideIt hgo12
          clear hopU hgo12 hD12
          go_upto_region 27 with (first
            | (with_reducible refine wl_load rfl HGO12.out Tryz.underlying31 rfl IR.out ?_)
            | (go_at_call 9; (with_reducible refine hopV.mono ?_); rintro e W13 ⟨tb3, pm3, tm3, sm3, rfl, hb13, v1, v2, v3, v4, hT13⟩)
            | (with_reducible refine wl_extract rfl rfl ?_))
          have hs13 := hb13.size
          have hbc13 : Below W11.heap.size W11 W13 := hb12.trans (hb13.mono (by omega))
          have hDc13 : DevAt W13 cb cm n G := HDC11.out.below hbc13 HDC11.out.lt HDC11.out.map.lt
          have hgo13 := (hbc13.block ob (by omega)).trans HGO11.out
          have hopW := open_any cb cm n gen picks (by omega) (by omega) G W13 hDc13
          rw [← HRA.out] at hopW
          have HGO13 := hideIt hgo13
          clear hopV hgo13 hDc13
          go_upto_region 28 with (first
            | (with_reducible refine wl_load rfl HGO13.out Tryz.underlying31 rfl IR.out ?_)
            | (go_at_call 9; (with_reducible refine hopW.mono ?_); rintro e W14 ⟨tb4, pm4, tm4, sm4, rfl, hb14, x1, x2, x3, x4, hT14⟩)
            | (with_reducible refine wl_extract rfl rfl ?_))
          have hs14 := hb14.size
          have hltC1 := HDC11.out.lt
          have hltC2 := HDC11.out.map.lt
          obtain ⟨Tu, hTu⟩ : ∃ X : Tab, X = { tb := tb2, db := db, mb := mb, pm := pm2, tm := tm2, sm := sm2, n := n, gen := gen + 1, picks := P, G := G', pk := turnAll T.pk Q, tl := newC T S } := ⟨_, rfl⟩
          obtain ⟨Tv, hTv⟩ : ∃ X : Tab, X = { tb := tb3, db := db, mb := mb, pm := pm3, tm := tm3, sm := sm3, n := n, gen := gen, picks := picks, G := G', pk := T.pk, tl := T.tl } := ⟨_, rfl⟩
          obtain ⟨Tw, hTw⟩ : ∃ X : Tab, X = { tb := tb4, db := cb, mb := cm, pm := pm4, tm := tm4, sm := sm4, n := n, gen := gen, picks := picks, G := G, pk := T.pk, tl := T.tl } := ⟨_, rfl⟩
          have hAu : TabAt Tu W12 [] := by rw [hTu]; exact hT12 _ _
          have hAv : TabAt Tv W13 [] := by rw [hTv]; exact hT13 _ _
          have hAw : TabAt Tw W14 [] := by rw [hTw]; exact hT14 _ _
          have hTuok : TabOk Tu := HNX.out.new hrr b' (by rw [hTu]; exact HETN.out.symm) (by rw [hTu]; exact HPE.out) (by rw [hTu]; exact HGP.out) (by rw [hTu]) (by rw [hTu])
          have hTvok : TabOk Tv := HNX.out.old hrr b' (by rw [hTv]; exact HETN.out.symm) (by rw [hTv, HTE.out]) (by rw [hTv]; exact HGP.out) (by rw [hTv]) (by rw [hTv])
          have hTwok : TabOk Tw := TabOk.congr HTK.out (by rw [hTw]; exact HETN.out.symm) (by rw [hTw, HTE.out]) (by rw [hTw, HTE.out]) (by rw [hTw]) (by rw [hTw])
          have eU : Tu.tb = tb2 ∧ Tu.db = db ∧ Tu.mb = mb ∧ Tu.pm = pm2 ∧ Tu.tm = tm2 ∧ Tu.sm = sm2 ∧ Tu.n = n := by rw [hTu]; exact ⟨rfl, rfl, rfl, rfl, rfl, rfl, rfl⟩
          have eV : Tv.tb = tb3 ∧ Tv.db = db ∧ Tv.mb = mb ∧ Tv.pm = pm3 ∧ Tv.tm = tm3 ∧ Tv.sm = sm3 ∧ Tv.n = n := by rw [hTv]; exact ⟨rfl, rfl, rfl, rfl, rfl, rfl, rfl⟩
          have eW : Tw.tb = tb4 ∧ Tw.db = cb ∧ Tw.mb = cm ∧ Tw.pm = pm4 ∧ Tw.tm = tm4 ∧ Tw.sm = sm4 ∧ Tw.n = n := by rw [hTw]; exact ⟨rfl, rfl, rfl, rfl, rfl, rfl, rfl⟩
          have eT : Tt.tb = tb ∧ Tt.db = db ∧ Tt.mb = mb ∧ Tt.pm = T.pm ∧ Tt.tm = T.tm ∧ Tt.sm = T.sm ∧ Tt.n = n := by
            rw [HTTE.out]; exact ⟨etb, by show T.db = db; rw [HTE.out], by show T.mb = mb; rw [HTE.out], rfl, rfl, rfl, HETN.out⟩
          -- what the counts are
          have vU : ∀ a : Nat, a < n → Tu.old a = T.now S a := fun a ha => HNX.out.newOld (by rw [hTu]; exact HETN.out.symm) (by rw [hTu]) a (by rw [HETN.out]; omega)
          have vT : ∀ a : Nat, Tt.now S a = T.now S a := fun a => by rw [HTTE.out]; rfl
          have vV : ∀ a : Nat, Tv.old a = T.old a := fun a => old_congr (by rw [hTv]; exact HETN.out.symm) (by rw [hTv]) a
          have vW : ∀ a : Nat, Tw.old a = T.old a := fun a => old_congr (by rw [hTw]; exact HETN.out.symm) (by rw [hTw]) a
          have bU := hAu.lt
          have bV := hAv.lt
          have bW := hAw.lt
          have hAt14 : TabAt Tt W14 S := HAT.out.below ((hb12.trans (hb13.mono (by omega))).trans (hb14.mono (by omega)))
          have hAu14 : TabAt Tu W14 [] := hAu.below (hb13.trans (hb14.mono (by omega)))
          have hAv14 : TabAt Tv W14 [] := hAv.below hb14
          have hB14 : Below w.heap.size w W14 := HB11.out.trans (((hb12.trans (hb13.mono (by omega))).trans (hb14.mono (by omega))).mono (by have := HB11.out.size; omega))
          have hg14 : W14.heap[rb]? = some (.cells rB 31 (0, 0)) := (((hb12.trans (hb13.mono (by omega))).trans (hb14.mono (by omega))).block rb (by omega)).trans HG11.out
          -- the tables lie apart
          have nU : pm2 < W12.heap.size ∧ tm2 < W12.heap.size ∧ sm2 < W12.heap.size ∧ tb2 < W12.heap.size := by rw [eU.1, eU.2.2.2.1, eU.2.2.2.2.1, eU.2.2.2.2.2.1] at bU; omega
          have nV : pm3 < W13.heap.size ∧ tm3 < W13.heap.size ∧ sm3 < W13.heap.size ∧ tb3 < W13.heap.size := by rw [eV.1, eV.2.2.2.1, eV.2.2.2.2.1, eV.2.2.2.2.2.1] at bV; omega
          have nW : pm4 < W14.heap.size ∧ tm4 < W14.heap.size ∧ sm4 < W14.heap.size ∧ tb4 < W14.heap.size := by rw [eW.1, eW.2.2.2.1, eW.2.2.2.2.1, eW.2.2.2.2.2.1] at bW; omega
          have nT : T.pm < W9.heap.size ∧ T.tm < W9.heap.size ∧ T.sm < W9.heap.size ∧ tb < W9.heap.size := by rw [← etb]; omega
          have dT := HAT.out.d1
          rw [HTTE.out] at dT
          have dT : T.pm ≠ T.tm ∧ T.pm ≠ T.sm ∧ T.tm ≠ T.sm := ⟨dT.2.1, dT.2.2.1, dT.2.2.2.2.1⟩
          have hL0 : TabAt Tt W14 S ∧ TabAt Tu W14 [] ∧ TabAt Tv W14 [] ∧ TabAt Tw W14 [] ∧ Keeps (fun q => q = T.pm ∨ q = T.tm ∨ W11.heap.size ≤ q) W14 W14 := ⟨hAt14, hAu14, hAv14, hAw, Keeps.refl _ _⟩
          obtain ⟨dUT, dVT, dWT, dTU, dVU, dWU, dTV, dUV, dWV, dTW, dUW, dVW⟩ := lie_apart (z := z) (db := db) (mb := mb) (pm := T.pm) (tm := T.tm) (sm := T.sm) (tb := tb) (cb := cb) (cm := cm) (s9 := W9.heap.size) (s11 := W11.heap.size) (s12 := W12.heap.size) (s13 := W13.heap.size) (s14 := W14.heap.size) ⟨by omega, by omega⟩ ⟨by omega, by omega⟩ nT ⟨by omega, by omega, by omega, by omega⟩ ⟨by omega, by omega, by omega, by omega⟩ ⟨u1, u2, u3, u4'⟩ nU ⟨v1, v2, v3, v4⟩ nV ⟨x1, x2, x3, x4⟩
          have DUT := hideIt dUT
          have DVT := hideIt dVT
          have DWT := hideIt dWT
          have DTU := hideIt dTU
          have DVU := hideIt dVU
          have DWU := hideIt dWU
          have DTV := hideIt dTV
          have DUV := hideIt dUV
          have DWV := hideIt dWV
          have DTW := hideIt dTW
          have DUW := hideIt dUW
          have DVW := hideIt dVW
          clear dUT dVT dWT dTU dVU dWU dTV dUV dWV dTW dUW dVW
          have HL0 := hideIt hL0
          have HTU := hideIt hTuok
          have HTV := hideIt hTvok
          have HTW := hideIt hTwok
          have HTUE := hideIt hTu
          have EU := hideIt eU
          have EV := hideIt eV
          have EW := hideIt eW
          have ET := hideIt eT
          have VU := hideIt vU
          have VT := hideIt vT
          have VV := hideIt vV
          have VW := hideIt vW
          have HB14 := hideIt hB14
          have HG14 := hideIt hg14
          clear hL0 hTuok hTvok hTwok hTu hTv hTw eU eV eW eT vU vT vV vW hB14 hg14 hAu hAv hAw hAt14 hAu14 hAv14 bU bV bW hopW hb12 hb13 hb14 hT12 hT13 hT14 hbc13 hltA HGO11 HGO12 HGO13 HAT HD11 HG11 HDC11 HOBN
          go_upto_region 30 with fail
          go_wp2
          go_loopw [25] (fun vj wr => ∃ j : Nat, vj = .int .i64 j ∧ j ≤ k ∧ TabAt Tt wr S ∧ TabAt Tu wr [] ∧ TabAt Tv wr [] ∧ TabAt Tw wr [] ∧ Keeps (fun q => q = T.pm ∨ q = T.tm ∨ W11.heap.size ≤ q) W14 wr) (fun vj _ => k - (intOf vj).toNat)
          case atStart => exact ⟨0, rfl, Nat.zero_le _, HL0.out⟩
          case round =>
            obtain ⟨j, rfl, hjk, hAt, hAu, hAv, hAw, hKj⟩ := hrel
            by_cases hj : j < k
            · have hj' : (j : Int) < (k : Int) := by omega
              have hBj : Below w.heap.size w wr := HB14.out.trans (hKj.below (by have := HB14.out.size; omega) (fun q hq => by omega))
              obtain ⟨blk, off, rfl, hblk, ca0, _, _⟩ := HL.out.at_ j (by omega)
              obtain ⟨a0, ha0⟩ : ∃ a0 : Nat, (L j).1 = a0 := ⟨(L j).1.toNat, by have := HL.out.r1 j (by omega); omega⟩
              have ca := (World.cell?_of_block (w := w) (hBj.block _ hblk)).trans ca0
              rw [ha0] at ca
              obtain ⟨a, ha⟩ : ∃ a : Nat, (a0 : Int) % (n : Int) = a := ⟨a0 % n, by omega⟩
              have han : a < n := by
                have := Int.emod_lt_of_pos (a0 : Int) (show (0 : Int) < n by omega)
                omega
              have hmod' : (a0 : Int).tmod (n : Int) = a := by rw [Int.tmod_eq_emod_of_nonneg (by omega)]; exact ha
              have hn0 : ¬ n = 0 := by omega
              have hget := tgetc_any Tt HTT.out wr S hAt a (by omega)
              have her : Tt.err (a : Int) = 0 := by unfold Tab.err; rw [ET.out.2.2.2.2.2.2, if_neg (by omega)]
              rw [ET.out.1, her, VT.out a, ET.out.2.2.2.1, ET.out.2.2.2.2.1] at hget
              obtain ⟨X, hX⟩ : ∃ X, X = T.now S a := ⟨_, rfl⟩
              obtain ⟨Y, hY⟩ : ∃ Y, Y = T.old a := ⟨_, rfl⟩
              rw [← hX] at hget
              have HX := hideIt hX
              have HY := hideIt hY
              have HKJ := hideIt hKj
              have HAu := hideIt hAu
              have HAv := hideIt hAv
              have HAw := hideIt hAw
              clear hAt hAu hAv hAw hKj hX hY ca0 ha0 hBj her
              go_upto_region 35 with (first
                | (go_at_call 12; (with_reducible refine hget.mono ?_); rintro e w15 ⟨rfl, hAt15, hk15⟩)
                | (with_reducible refine wl_extract rfl rfl ?_))
              have hAu15 := HAu.out.keeps hk15 (by rw [EU.out.1, EU.out.2.1, EU.out.2.2.1, EU.out.2.2.2.1, EU.out.2.2.2.2.1, EU.out.2.2.2.2.2.1]; exact DUT.out)
              have hAv15 := HAv.out.keeps hk15 (by rw [EV.out.1, EV.out.2.1, EV.out.2.2.1, EV.out.2.2.2.1, EV.out.2.2.2.2.1, EV.out.2.2.2.2.2.1]; exact DVT.out)
              have hAw15 := HAw.out.keeps hk15 (by rw [EW.out.1, EW.out.2.1, EW.out.2.2.1, EW.out.2.2.2.1, EW.out.2.2.2.2.1, EW.out.2.2.2.2.2.1]; exact DWT.out)
              have hK15 : Keeps (fun q => q = T.pm ∨ q = T.tm ∨ W11.heap.size ≤ q) W14 w15 := HKJ.out.trans (hk15.mono (fun q _ hq => by rcases hq with h | h; exact Or.inl h; exact Or.inr (Or.inl h)))
              have hou := told_any Tu HTU.out w15 [] hAu15 a (by omega)
              have heu : Tu.err (a : Int) = 0 := by unfold Tab.err; rw [EU.out.2.2.2.2.2.2, if_neg (by omega)]
              rw [EU.out.1, heu, VU.out a han, EU.out.2.2.2.1, EU.out.2.2.2.2.1, ← HX.out] at hou
              have HAT15 := hideIt hAt15
              have HAV15 := hideIt hAv15
              have HAW15 := hideIt hAw15
              have HK15 := hideIt hK15
              clear hAt15 hAu15 hAv15 hAw15 hk15 hK15 hget heu HAu HAv HAw HKJ
              go_upto_region 36 with (first
                | (go_at_call 15; (with_reducible refine hou.mono ?_); rintro e w16 ⟨rfl, hAu16, hk16⟩)
                | (with_reducible refine wl_extract rfl rfl ?_))
              have hAt16 := HAT15.out.keeps hk16 (by rw [ET.out.1, ET.out.2.1, ET.out.2.2.1, ET.out.2.2.2.1, ET.out.2.2.2.2.1, ET.out.2.2.2.2.2.1]; exact DTU.out)
              have hAv16 := HAV15.out.keeps hk16 (by rw [EV.out.1, EV.out.2.1, EV.out.2.2.1, EV.out.2.2.2.1, EV.out.2.2.2.2.1, EV.out.2.2.2.2.2.1]; exact DVU.out)
              have hAw16 := HAW15.out.keeps hk16 (by rw [EW.out.1, EW.out.2.1, EW.out.2.2.1, EW.out.2.2.2.1, EW.out.2.2.2.2.1, EW.out.2.2.2.2.2.1]; exact DWU.out)
              have hK16 : Keeps (fun q => q = T.pm ∨ q = T.tm ∨ W11.heap.size ≤ q) W14 w16 := HK15.out.trans (hk16.mono (fun q _ hq => by rcases hq with rfl | rfl; exact Or.inr (Or.inr u2); exact Or.inr (Or.inr u3)))
              have hov := told_any Tv HTV.out w16 [] hAv16 a (by omega)
              have hev : Tv.err (a : Int) = 0 := by unfold Tab.err; rw [EV.out.2.2.2.2.2.2, if_neg (by omega)]
              rw [EV.out.1, hev, VV.out a, EV.out.2.2.2.1, EV.out.2.2.2.2.1, ← HY.out] at hov
              have HAT16 := hideIt hAt16
              have HAU16 := hideIt hAu16
              have HAW16 := hideIt hAw16
              have HK16 := hideIt hK16
              clear hAt16 hAu16 hAv16 hAw16 hk16 hK16 hou hev HAT15 HAV15 HAW15 HK15
              go_upto_region 37 with (first
                | (go_at_call 15; (with_reducible refine hov.mono ?_); rintro e w17 ⟨rfl, hAv17, hk17⟩)
                | (with_reducible refine wl_extract rfl rfl ?_))
              have hAt17 := HAT16.out.keeps hk17 (by rw [ET.out.1, ET.out.2.1, ET.out.2.2.1, ET.out.2.2.2.1, ET.out.2.2.2.2.1, ET.out.2.2.2.2.2.1]; exact DTV.out)
              have hAu17 := HAU16.out.keeps hk17 (by rw [EU.out.1, EU.out.2.1, EU.out.2.2.1, EU.out.2.2.2.1, EU.out.2.2.2.2.1, EU.out.2.2.2.2.2.1]; exact DUV.out)
              have hAw17 := HAW16.out.keeps hk17 (by rw [EW.out.1, EW.out.2.1, EW.out.2.2.1, EW.out.2.2.2.1, EW.out.2.2.2.2.1, EW.out.2.2.2.2.2.1]; exact DWV.out)
              have hK17 : Keeps (fun q => q = T.pm ∨ q = T.tm ∨ W11.heap.size ≤ q) W14 w17 := HK16.out.trans (hk17.mono (fun q _ hq => by rcases hq with rfl | rfl; exact Or.inr (Or.inr (Nat.le_trans hs12 v2)); exact Or.inr (Or.inr (Nat.le_trans hs12 v3))))
              have how := told_any Tw HTW.out w17 [] hAw17 a (by omega)
              have hew : Tw.err (a : Int) = 0 := by unfold Tab.err; rw [EW.out.2.2.2.2.2.2, if_neg (by omega)]
              rw [EW.out.1, hew, VW.out a, EW.out.2.2.2.1, EW.out.2.2.2.2.1, ← HY.out] at how
              have HAT17 := hideIt hAt17
              have HAU17 := hideIt hAu17
              have HAV17 := hideIt hAv17
              have HK17 := hideIt hK17
              clear hAt17 hAu17 hAv17 hAw17 hk17 hK17 hov hew HAT16 HAU16 HAW16 HK16
              go_upto_region 38 with (first
                | (go_at_call 15; (with_reducible refine how.mono ?_); rintro e w18 ⟨rfl, hAw18, hk18⟩)
                | (with_reducible refine wl_extract rfl rfl ?_))
              have hAt18 := HAT17.out.keeps hk18 (by rw [ET.out.1, ET.out.2.1, ET.out.2.2.1, ET.out.2.2.2.1, ET.out.2.2.2.2.1, ET.out.2.2.2.2.2.1]; exact DTW.out)
              have hAu18 := HAU17.out.keeps hk18 (by rw [EU.out.1, EU.out.2.1, EU.out.2.2.1, EU.out.2.2.2.1, EU.out.2.2.2.2.1, EU.out.2.2.2.2.2.1]; exact DUW.out)
              have hAv18 := HAV17.out.keeps hk18 (by rw [EV.out.1, EV.out.2.1, EV.out.2.2.1, EV.out.2.2.2.1, EV.out.2.2.2.2.1, EV.out.2.2.2.2.2.1]; exact DVW.out)
              have hK18 : Keeps (fun q => q = T.pm ∨ q = T.tm ∨ W11.heap.size ≤ q) W14 w18 := HK17.out.trans (hk18.mono (fun q _ hq => by rcases hq with rfl | rfl; exact Or.inr (Or.inr (Nat.le_trans (Nat.le_trans hs12 hs13) x2)); exact Or.inr (Or.inr (Nat.le_trans (Nat.le_trans hs12 hs13) x3))))
              clear how hk18 HAT17 HAU17 HAV17 HK17
              go_wp2
              go_roundw
              case rel => exact ⟨j + 1, by go_num, by omega, hAt18, hAu18, hAv18, hAw18, hK18⟩
              case measure => simp [intOf]; omega
            · -- OUT3: the counts are held against one another
              obtain rfl : j = k := by omega
              have hdv := hAu.dev
              rw [EU.out.2.1, EU.out.2.2.1, EU.out.2.2.2.2.2.2, show Tu.G = G' by rw [HTUE.out]] at hdv
              have hgr : wr.heap[rb]? = some (.cells (rootA (gen + 1) n P (n - planFi n) 1 (planFi n)) 31 (0, 0)) := by
                rw [← HRB.out]
                exact (hKj.block rb (Array.getElem?_eq_some_iff.1 HG14.out).1 (fun hc => by rcases hc with h | h | h <;> omega)).trans HG14.out
              have hBj : Below w.heap.size w wr := HB14.out.trans (hKj.below (by have := HB14.out.size; omega) (fun q hq => by rcases hq with h | h | h <;> omega))
              have hCS : CSt n rb db mb w j wr := ⟨gen + 1, P, G', turnAll T.pk Q, newC T S, by omega, by omega, hdv, HN'.out, hgr,
                TabOk.congr HTU.out (by rw [HTUE.out]; rfl) (by rw [HTUE.out]; rfl) (by rw [HTUE.out]; rfl) (by rw [HTUE.out]; rfl) (by rw [HTUE.out]; rfl), hBj⟩
              have HCS := hideIt hCS
              clear hAt hAu hAv hAw hKj hdv hgr hBj hCS HL0
              go_wp2
              go_roundw
              case rel => exact ⟨j, rfl, hkl, hk60, HCS.out⟩
              case measure => simp [intOf]; omega
    · -- OUT1: all sets are done
      obtain ⟨_, _, _, _, _, _, _, _, _, _, _, hB⟩ := hC.out
      have HB := hideIt hB
      clear hC hB HC0
      go_upto_region 8 with fail
      go_cut [61] from 54 to 246 (fun s61 wx => s61 = .bool false ∧ wx = wr)
      case first =>
        by_cases h : i < len
        · have h' : ¬ (i : Int) < 60 := by omega
          go_wp2_with fail
          go_meet
          case rel => exact ⟨rfl, rfl⟩
        · have h' : ¬ (i : Int) < (len : Int) := by omega
          go_wp2_with fail
          go_meet
          case rel => exact ⟨rfl, rfl⟩
      case rest =>
      obtain ⟨rfl, rfl⟩ := hcut
      go_wp2_with (first
        | (go_at_call 6; (with_reducible refine (head_any _).mono ?_); rintro e W11 ⟨rfl, hb11⟩))
      go_ret
      exact ⟨rfl, HB.out.trans (hb11.mono HB.out.size)⟩
set_option maxRecDepth 100000 in
set_option maxHeartbeats 8000000 in
theorem commits_any (n : Nat) (p : Option Addr) (len cap : Nat) (L : Nat → Int × Int) (M : Nat → Bool) (w : World) (hL : SetsBt w p len L M) :
    Calls Tryz.prog 5 #[.int .u32 n, .slice p len cap] w fun e w' => e = .returned (.bool true) ∧ Below w.heap.size w w' := by
  by_cases h1 : 64 ≤ n
  · by_cases h2 : n ≤ 5000
    · exact commits_go n h1 h2 p len cap L M w hL
    · have h2' : ¬ (n : Int) ≤ 5000 := by omega
      have h3 : (5000 : Int) < n := by omega
      have h4 : ¬ (n : Int) < 64 := by omega
      clear hL
      go_enter Tryz.func5, Tryz.ntmps5
      go_wp2_with (first
        | (go_at_call 6; (with_reducible refine (head_any _).mono ?_); rintro e W11 ⟨rfl, hb11⟩))
      go_ret
      exact ⟨rfl, hb11⟩
  · have h4 : (n : Int) < 64 := by omega
    clear hL
    go_enter Tryz.func5, Tryz.ntmps5
    go_wp2_with (first
      | (go_at_call 6; (with_reducible refine (head_any _).mono ?_); rintro e W11 ⟨rfl, hb11⟩))
    go_ret
    exact ⟨rfl, hb11⟩
end Go.Proofs.YtnibehcgnhdcgaaGreatDoor
