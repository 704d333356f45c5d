/- Seal: its walk. -/
import Derived.Test.YtnibehcgnhdcgaaGreatDoorM19
namespace Go.Proofs.YtnibehcgnhdcgaaGreatDoor
open Go.RowKit

theorem seal_start {T : Tab} {S : List (Int × Int)} (hS : SetOk T S) {w W4 : World} {tm : Nat} {v : Value} (hb : Below w.heap.size w W4) (hk : KeysAt w.heap.size W4 v (keyL S)) (hm : MapAt W4 tm []) (h1 : w.heap.size ≤ tm) (hA : TabAt T W4 S) :
    ∃ B g, SealEnv T S w B g tm W4 ∧ SealSt T S B g tm W4 (.slice none 0 0) v W4 (keyL S) none [] := by
  obtain ⟨g, hl, hg⟩ := LeftV.of_keys hk
  refine ⟨W4.heap.size, g, ⟨hb, rfl, h1, hm.lt, fun hne => ⟨(hg hne).1, (hg hne).2, hk.not_map hl hne hm⟩⟩, ⟨hl, hA, hm, World.ownsRow_nil _ _ _ _, Keeps.refl _ _, ⟨_, Nat.lt_succ_self _, rfl⟩, by simp, by simp, by simp, keysL_ok hS⟩⟩

set_option maxRecDepth 100000 in
set_option maxHeartbeats 4000000 in
theorem tseal_any (M : Nat) (hs : ∀ m, uSortsIn Fence.wide m M) (hM : M ≤ 100000) (hM1 : 1 ≤ M) (T : Tab) (hT : TabOk T) (w : World) (S : List (Int × Int)) (hS : SetOk T S) (hl : S.length ≤ M) (hA : TabAt T w S) :
    Calls Tryz.prog 13 #[.pointer (some ⟨T.tb, 0, none⟩)] w (SealPost T S w) := by
  have hn := tnone_no T.tb T.db w (hA.cell 0)
  have hch := fun W h => tchanged_any M hs hM T hT W S hS hl h
  have hmm : ∀ W : World, (Instr.makeMap 58 none).run Tryz.prog W = .ok (.map (some W.heap.size)) (W.alloc (.map #[] 0)) := fun _ => rfl
  have cP : ∀ w' : World, TabAt T w' S → w'.cell? ⟨T.tb, 3, none⟩ = some (.int .u32 T.picks) := fun w' h => h.cell 3
  have CP := hideIt cP
  have HA := hideIt hA
  have HS := hideIt hS
  clear hA cP hS
  go_enter Tryz.func13, Tryz.ntmps13
  go_wp2_with fail
  refine wp_scope_once 0 (SealJ T S w) SealMu rfl (fun a w1 hJ => ?pass) (fun HR => ?first)
  case first =>
    go_wp2_with (first
      | (go_at_call 28; (with_reducible refine hn.mono ?_); rintro e w' ⟨rfl, rfl⟩))
    rename_i K hK
    have HK := hideIt hK
    clear hK
    have hd0 : TabAt T w.drew S := HA.out.of_blocks (fun _ _ => rfl)
    have HD0 := hideIt hd0
    have hz0 : w.drew.heap.size = w.heap.size := rfl
    refine wp_region_held (S := (fun w' : World => TabAt T w' S)) (by kernel_rfl) ?_
    change wpAnyH _ _ _ _ _ _ _ _ (World.drew _)
    try simp only [Act.put, List.setIfInBounds_toArray, List.set_cons_succ, List.set_cons_zero]
    have hS := HD0.out
    refine takeH 0 (v := ?_) rfl rfl (by kernel_rfl) (by kernel_rfl) (by kernel_rfl) (fun _ _ _ h => h) hS (yieldsIf_run rfl ?_) ?_
    rotate_left
    focus (intro w hSw; go_simp; try with_reducible rfl)
    simp only [List.setIfInBounds_toArray, List.set_cons_succ, List.set_cons_zero]
    refine takeH 3 (v := ?_) rfl rfl (by kernel_rfl) (by kernel_rfl) (by kernel_rfl) (fun _ _ _ h => h) hS (yieldsIf_run rfl ?_) ?_
    rotate_left
    focus (intro w hSw; go_simp; try with_reducible rfl)
    simp only [List.setIfInBounds_toArray, List.set_cons_succ, List.set_cons_zero]
    refine takeH 4 (v := ?_) rfl rfl (by kernel_rfl) (by kernel_rfl) (by kernel_rfl) (fun _ _ _ h => h) hS (yieldsIf_run rfl ?_) ?_
    rotate_left
    focus (intro w hSw; go_simp; try with_reducible rfl)
    simp only [List.setIfInBounds_toArray, List.set_cons_succ, List.set_cons_zero]
    refine takeH 5 (v := ?_) rfl rfl (by kernel_rfl) (by kernel_rfl) (by kernel_rfl) (fun _ _ _ h => h) hS (yieldsIf_run rfl ?_) ?_
    rotate_left
    focus (intro w hSw; go_simp; try with_reducible rfl)
    simp only [List.setIfInBounds_toArray, List.set_cons_succ, List.set_cons_zero]
    refine takeH 6 (v := ?_) rfl rfl (by kernel_rfl) (by kernel_rfl) (by kernel_rfl) (fun _ _ _ h => h) hS (yieldsIf_run rfl ?_) ?_
    rotate_left
    focus (intro w hSw; go_simp; try with_reducible rfl)
    simp only [List.setIfInBounds_toArray, List.set_cons_succ, List.set_cons_zero]
    refine takeH 7 (v := ?_) rfl rfl (by kernel_rfl) (by kernel_rfl) (by kernel_rfl) (fun _ _ _ h => h) hS (yieldsIf_run rfl ?_) ?_
    rotate_left
    focus (intro w hSw; have hcU := CP.out w hSw; clear hSw; go_simp; try with_reducible rfl)
    simp only [List.setIfInBounds_toArray, List.set_cons_succ, List.set_cons_zero]
    refine anyH_two (i := 1) (j := 2) (by kernel_rfl) rfl rfl rfl rfl (fun K1 hK1 => ?ja) (fun K1 hK1 => ?jb)
    case' ja =>
      clear hS hd0
      go_simp
      go_at_call 14
      refine (hch _ HD0.out).mono ?_
      rintro e W1 ⟨v, rfl, hk1, hb1⟩
      have hA1 : TabAt T W1 S := HD0.out.below hb1
      obtain ⟨W4, hW4⟩ : ∃ W, W = W1.alloc (.map #[] 0) := ⟨_, rfl⟩
      have hz1 := hb1.size
      have hb4 : Below W1.heap.size W1 W4 := by rw [hW4]; exact (Below.refl _ _).alloc (Nat.le_refl _) _
      have hB4 : Below w.heap.size w W4 := (((Below.refl _ w).drew).trans hb1).trans (hb4.mono (by rw [hz0] at hz1; exact hz1))
      have hk4 : KeysAt w.heap.size W4 v (keyL S) := own_below hk1 hb4
      have hm4 : MapAt W4 W1.heap.size [] := by rw [hW4]; exact MapAt_new W1
      obtain ⟨B, g, hE, hSt⟩ := seal_start HS.out hB4 hk4 hm4 (by rw [hz0] at hz1; exact hz1) (hA1.below hb4)
      have HA1 := hideIt hA1
      have HE := hideIt hE
      have HST := hideIt hSt
      have HW4 := hideIt hW4
      clear hk1 hb1 hA1 hb4 hB4 hk4 hm4 hE hSt hW4
      refine hK1 _ _ HA1.out ?_
      clear hK1 K1
      try simp only [Act.put, List.setIfInBounds_toArray, List.set_cons_succ, List.set_cons_zero]
      have hS := HA1.out
      refine takeH 8 (v := ?_) rfl rfl (by kernel_rfl) (by kernel_rfl) (by kernel_rfl) (fun _ _ _ h => h) hS (yieldsIf_run rfl ?_) ?_
      rotate_left
      focus (intro w hSw; go_simp; try with_reducible rfl)
      simp only [List.setIfInBounds_toArray, List.set_cons_succ, List.set_cons_zero]
      clear hS
      refine anyH_step (i := 2) (by kernel_rfl) rfl rfl (fun K hK => ?_)
      go_simp
      rw [← HW4.out]
      refine hK _ _ (HST.out.tab) ?_
      clear hK K
      try simp only [Act.put, List.setIfInBounds_toArray, List.set_cons_succ, List.set_cons_zero]
    case' jb =>
      clear hS hd0
      go_simp
      obtain ⟨W1, hW1⟩ : ∃ W, W = (w.alloc (.map #[] 0)).drew := ⟨_, rfl⟩
      have hm1 : MapAt W1 w.heap.size [] := by rw [hW1]; exact (MapAt_new w).of_block (hget_drew _)
      have hb1 : Below w.heap.size w W1 := by rw [hW1]; exact ((Below.refl _ w).alloc (Nat.le_refl _) _).drew
      have hs1 : W1.heap.size = w.heap.size + 1 := by rw [hW1]; show (w.alloc _).heap.size = _; simp
      have hA1 : TabAt T W1 S := HA.out.below hb1
      have HA1 := hideIt hA1
      rw [← hW1]
      have hch1 := hch W1 HA1.out
      clear hA1 hW1
      refine hK1 _ _ HA1.out ?_
      clear hK1 K1
      try simp only [Act.put, List.setIfInBounds_toArray, List.set_cons_succ, List.set_cons_zero]
      refine anyH_step (i := 1) (by kernel_rfl) rfl rfl (fun K hK => ?_)
      go_simp
      go_at_call 14
      refine hch1.mono ?_
      rintro e W4 ⟨v, rfl, hk4, hb4⟩
      have hB4 : Below w.heap.size w W4 := hb1.trans (hb4.mono (by omega))
      obtain ⟨B, g, hE, hSt⟩ := seal_start HS.out hB4 (ownsRow_base hk4 (by omega)) (hm1.of_block (hb4.block _ (by omega))) (Nat.le_refl _) (HA1.out.below hb4)
      have HE := hideIt hE
      have HST := hideIt hSt
      clear hm1 hb1 hch1 hk4 hb4 hB4 hE hSt
      refine hK _ _ (HST.out.tab) ?_
      clear hK K
      try simp only [Act.put, List.setIfInBounds_toArray, List.set_cons_succ, List.set_cons_zero]
      have hS := HST.out.tab
      refine takeH 8 (v := ?_) rfl rfl (by kernel_rfl) (by kernel_rfl) (by kernel_rfl) (fun _ _ _ h => h) hS (yieldsIf_run rfl ?_) ?_
      rotate_left
      focus (intro w hSw; go_simp; try with_reducible rfl)
      simp only [List.setIfInBounds_toArray, List.set_cons_succ, List.set_cons_zero]
      clear hS
    all_goals
      have hS := HST.out.tab
      refine takeH 9 (v := ?_) rfl rfl (by kernel_rfl) (by kernel_rfl) (by kernel_rfl) (fun _ _ _ h => h) hS (yieldsIf_run rfl ?_) ?_
      rotate_left
      focus (intro w hSw; go_simp; try with_reducible rfl)
      simp only [List.setIfInBounds_toArray, List.set_cons_succ, List.set_cons_zero]
      refine takeH 10 (v := ?_) rfl rfl (by kernel_rfl) (by kernel_rfl) (by kernel_rfl) (fun _ _ _ h => h) hS (yieldsIf_run rfl ?_) ?_
      rotate_left
      focus (intro w hSw; go_simp; try with_reducible rfl)
      simp only [List.setIfInBounds_toArray, List.set_cons_succ, List.set_cons_zero]
      refine wpAnyH_done (by kernel_rfl) ?_ _
      refine HK.out _ _ (wp_label_seq (HR.out _ _ ?_))
      refine ⟨B, g, _, _, HE.out, keyL S, none, [], _, rfl, rfl, rfl, rfl, rfl, rfl, rfl, rfl, HST.out⟩
  case pass =>
    clear hn

    obtain ⟨B, g, tm, W4, hE, l, o, acc, A, rfl, hsz, h0, h2, h3, h4, h7, h8, hst⟩ := hJ
    rw [frame160 A hsz, h0, h2, h3, h4, h7, h8]
    clear hsz h0 h2 h3 h4 h7 h8
    generalize A.getD 5 undef = vo at hst ⊢
    generalize A.getD 6 undef = vl at hst ⊢
    generalize A.getD 1 undef = u1, A.getD 9 undef = u9, A.getD 10 undef = u10, A.getD 11 undef = u11, A.getD 12 undef = u12, A.getD 13 undef = u13, A.getD 14 undef = u14, A.getD 15 undef = u15, A.getD 16 undef = u16, A.getD 17 undef = u17, A.getD 18 undef = u18, A.getD 19 undef = u19, A.getD 20 undef = u20, A.getD 21 undef = u21, A.getD 22 undef = u22, A.getD 23 undef = u23, A.getD 24 undef = u24, A.getD 25 undef = u25, A.getD 26 undef = u26, A.getD 27 undef = u27, A.getD 28 undef = u28, A.getD 29 undef = u29, A.getD 30 undef = u30, A.getD 31 undef = u31, A.getD 32 undef = u32, A.getD 33 undef = u33, A.getD 34 undef = u34, A.getD 35 undef = u35, A.getD 36 undef = u36, A.getD 37 undef = u37, A.getD 38 undef = u38, A.getD 39 undef = u39, A.getD 40 undef = u40, A.getD 41 undef = u41, A.getD 42 undef = u42, A.getD 43 undef = u43, A.getD 44 undef = u44, A.getD 45 undef = u45, A.getD 46 undef = u46, A.getD 47 undef = u47, A.getD 48 undef = u48, A.getD 49 undef = u49, A.getD 50 undef = u50, A.getD 51 undef = u51, A.getD 52 undef = u52, A.getD 53 undef = u53, A.getD 54 undef = u54, A.getD 55 undef = u55, A.getD 56 undef = u56, A.getD 57 undef = u57, A.getD 58 undef = u58, A.getD 59 undef = u59, A.getD 60 undef = u60, A.getD 61 undef = u61, A.getD 62 undef = u62, A.getD 63 undef = u63, A.getD 64 undef = u64, A.getD 65 undef = u65, A.getD 66 undef = u66, A.getD 67 undef = u67, A.getD 68 undef = u68, A.getD 69 undef = u69, A.getD 70 undef = u70, A.getD 71 undef = u71, A.getD 72 undef = u72, A.getD 73 undef = u73, A.getD 74 undef = u74, A.getD 75 undef = u75, A.getD 76 undef = u76, A.getD 77 undef = u77, A.getD 78 undef = u78, A.getD 79 undef = u79, A.getD 80 undef = u80, A.getD 81 undef = u81, A.getD 82 undef = u82, A.getD 83 undef = u83, A.getD 84 undef = u84, A.getD 85 undef = u85, A.getD 86 undef = u86, A.getD 87 undef = u87, A.getD 88 undef = u88, A.getD 89 undef = u89, A.getD 90 undef = u90, A.getD 91 undef = u91, A.getD 92 undef = u92, A.getD 93 undef = u93, A.getD 94 undef = u94, A.getD 95 undef = u95, A.getD 96 undef = u96, A.getD 97 undef = u97, A.getD 98 undef = u98, A.getD 99 undef = u99, A.getD 100 undef = u100, A.getD 101 undef = u101, A.getD 102 undef = u102, A.getD 103 undef = u103, A.getD 104 undef = u104, A.getD 105 undef = u105, A.getD 106 undef = u106, A.getD 107 undef = u107, A.getD 108 undef = u108, A.getD 109 undef = u109, A.getD 110 undef = u110, A.getD 111 undef = u111, A.getD 112 undef = u112, A.getD 113 undef = u113, A.getD 114 undef = u114, A.getD 115 undef = u115, A.getD 116 undef = u116, A.getD 117 undef = u117, A.getD 118 undef = u118, A.getD 119 undef = u119, A.getD 120 undef = u120, A.getD 121 undef = u121, A.getD 122 undef = u122, A.getD 123 undef = u123, A.getD 124 undef = u124, A.getD 125 undef = u125, A.getD 126 undef = u126, A.getD 127 undef = u127, A.getD 128 undef = u128, A.getD 129 undef = u129, A.getD 130 undef = u130, A.getD 131 undef = u131, A.getD 132 undef = u132, A.getD 133 undef = u133, A.getD 134 undef = u134, A.getD 135 undef = u135, A.getD 136 undef = u136, A.getD 137 undef = u137, A.getD 138 undef = u138, A.getD 139 undef = u139, A.getD 140 undef = u140, A.getD 141 undef = u141, A.getD 142 undef = u142, A.getD 143 undef = u143, A.getD 144 undef = u144, A.getD 145 undef = u145, A.getD 146 undef = u146, A.getD 147 undef = u147, A.getD 148 undef = u148, A.getD 149 undef = u149, A.getD 150 undef = u150, A.getD 151 undef = u151, A.getD 152 undef = u152, A.getD 153 undef = u153, A.getD 154 undef = u154, A.getD 155 undef = u155, A.getD 156 undef = u156, A.getD 157 undef = u157, A.getD 158 undef = u158, A.getD 159 undef = u159
    clear A
    have hE' := hE
    obtain ⟨hEb, hEs, hE1, hE2, hE3⟩ := hE
    have HE := hideIt hE'
    obtain ⟨i0, hi, hz0, hz1, hz2⟩ := info_parts info52
    obtain ⟨hL, hA1, hmt, hown, hkp, hspec, hgood, hfew, hpick, hkeys⟩ := hst.out
    have HST0 := hst
    clear hst
    have hlt := HA.out.lt
    have hne := HA.out.ne
    have hd1 := HA.out.d1
    have HKP := hideIt hkp
    have HA1 := hideIt hA1
    have HMT := hideIt hmt
    have HOWN := hideIt hown
    have HSP := hideIt hspec
    have HGD := hideIt hgood
    have HPK := hideIt hpick
    have HKY := hideIt hkeys
    clear hkp hA1 hmt hown hspec hgood hpick hkeys hE'
    obtain ⟨p, c, rfl, hc1, hc2, hL4⟩ := hL
    cases l with
    | nil =>
      obtain ⟨f, hf1, hf2⟩ := HSP.out
      obtain ⟨f', rfl⟩ : ∃ f', f = f' + 1 := ⟨f - 1, by simp at hf1; omega⟩
      have hfull : sealG T S ((keyL S).length + 1) (keyL S) none [] = (o, acc) := by rw [← hf2, sealG]
      have hKw : Keeps (fun k => k = T.pm ∨ k = T.tm) w w1 := ((Keeps.of_below hEb).trans HKP.out).mono (fun k hk h => by omega)
      have hzE := hEb.size
      have hz4 := HKP.out.size
      have HF := hideIt hfull
      have HKW := hideIt hKw
      have hkk := keysP tm w1
      have hrk : ∀ p ∈ encO o, 0 ≤ p.1 ∧ p.1 < 4294967296 := by
        intro p hp
        cases o with
        | none => simp [encO] at hp
        | some q => simp [encO] at hp; subst hp; exact ⟨by show (0 : Int) ≤ 0; omega, by show (0 : Int) < 4294967296; omega⟩
      have hlk : (encO o).length ≤ M := by cases o <;> simp [encO] <;> omega
      obtain ⟨W2, hW2⟩ : ∃ W, W = w1.alloc (.cells #[.map (some tm)] 58) := ⟨_, rfl⟩
      have hb2 : Below w1.heap.size w1 W2 := by rw [hW2]; exact (Below.refl _ _).alloc (Nat.le_refl _) _
      have hm2 : MapAt W2 tm (encO o) := HMT.out.of_block (hb2.block _ HMT.out.lt)
      have hso := sortedP M hs tm w1.heap.size (encO o) hlk hM hrk W2 (by rw [hW2, cell_of_row _ _ 0 _ _ _ (hget_at (.cells #[.map (some tm)] 58) w1.heap.size rfl)]; rfl) hm2
      rw [← hW2] at hkk
      have HB2 := hideIt hb2
      have HM2 := hideIt hm2
      clear hW2 hf1 hf2 hfull hKw hrk hlk hb2 hm2 hL4
      cases o with
      | none =>
        have hk0 : sortI ((encO none).map (·.1)) = [] := by simp [encO, sortI]
        rw [hk0] at hso
        go_wp2_with (first
          | (go_at_call 36; (with_reducible refine hkk.mono ?_); rintro e w' ⟨rfl, rfl⟩)
          | (go_at_call 35; (with_reducible refine hso.mono ?_); rintro e W3 ⟨v2, rfl, hv2, hb3⟩
             have hv3 : ∃ p2 c2, v2 = .slice p2 0 c2 := by
               { rcases hv2.2 with ⟨rfl, _⟩ | ⟨g2, cap2, cur2, rfl, _⟩
                 · exact ⟨none, 0, rfl⟩
                 · exact ⟨_, cap2, rfl⟩ }
             obtain ⟨p2, c2, rfl⟩ := hv3
             have HB3 := hideIt hb3
             clear hv2 hb3))
        refine wp_loop_rounds 1 ?_
        rw [rounds_succ]
        go_wp2_with fail
        have hP : sealPuts T S = acc := by rw [sealPuts, HF.out]
        have hQ : sealPicks T S = T.picks := by rw [sealPicks, HF.out]
        have hb := HB2.out.trans (HB3.out.mono HB2.out.size)
        refine bodyPost_ret (v := .tuple #[vo, .int .u32 T.picks, .int .i64 0]) (by simp [results, Tryz.results13, go_sem]) rfl ?_
        refine ⟨vo, by rw [hQ], ?_, by rw [hP]; exact HGD.out, HA1.out.below hb, HKW.out.trans (Keeps.of_below hb)⟩
        rw [hP]
        exact ownsRow_base (own_below HOWN.out hb) (by omega)
      | some q =>
        have hk0 : sortI ((encO (some q)).map (·.1)) = [0] := by simp [encO, sortI]
        rw [hk0] at hso
        obtain ⟨hq1, hq2⟩ := HPK.out q rfl
        have hpp := fun W => pput_any 0 (by omega) (by omega) q hq1 hq2 W
        have hlB : (putB 80 0 8 q).length = 256 := (sealB_length _).trans (rawB_length _ _ (by rw [List.length_append, leB_length, rowB_length, hq1]; decide))
        have hv : (look (encO (some q)) 0).getD (.agg (pickA 0 z16)) = .agg (pickA 0 q) := rfl
        have HV := hideIt hv
        obtain ⟨sB, hsB⟩ : ∃ x, x = putB 80 0 8 q := ⟨_, rfl⟩
        rw [← hsB] at hpp hlB
        have iB := size41' hlB
        have eB : (blkA zb).size = (blkA sB).size := by rw [zbA_size, blkA_size, hlB]
        have oB := blkA_one sB
        have hpx : bits .xor .u32 T.picks 1 = 1 - T.picks := by
          have h0 := hT.p0
          have h1 := hT.p1
          rw [xor_other _ h0 (by omega)]
          unfold otherI
          split <;> omega
        have HIB := hideIt iB
        have HLB := hideIt hlB
        have HSB := hideIt hsB
        clear hq1 hq2 hlB hv hsB iB
        go_wp2_with (first
          | (go_at_call 36; (with_reducible refine hkk.mono ?_); rintro e w' ⟨rfl, rfl⟩)
          | (go_at_call 35; (with_reducible refine hso.mono ?_); rintro e W3 ⟨v2, rfl, hv2, hb3⟩
             have hv3 : ∃ g2 c2, v2 = .slice (some ⟨g2, 0, none⟩) 1 c2 ∧ W3.cell? ⟨g2, 0, none⟩ = some (.int .u32 0) := by
               { rcases hv2.2 with ⟨_, h0⟩ | ⟨g2, cap2, cur2, rfl, _⟩
                 · simp at h0
                 · have hc0 := World.ownsRow.cellAt (g := g2) hv2 0 (by simp)
                   exact ⟨g2, cap2, rfl, hc0⟩ }
             obtain ⟨g2, c2, rfl, hg2⟩ := hv3
             have HB3 := hideIt hb3
             have hm3 := HM2.out.of_block (hb3.block _ HM2.out.lt)
             have HM3 := hideIt hm3
             clear hv2 hb3 hm3))
        refine wp_loop_rounds 2 ?_
        rw [rounds_succ]
        go_wp2_with (first
          | (with_reducible refine wl_lookup_no rfl rfl HM3.out Tryz.underlying58 Tryz.underlying22 zero74 HV.out ?_; simp only [Act.put, List.setIfInBounds_toArray, List.set_cons_succ, List.set_cons_zero])
          | (go_at_call 37; (with_reducible refine (hpp _).mono ?_); rintro e W4' ⟨rfl, hb4⟩)
          | (with_reducible refine wl_extract rfl rfl ?_)
          | (with_reducible refine wl_alloc_store zero41 (by simp [Act.put]) rfl rfl HIB.out eB oB ?_))
        have hzb2 := HB2.out.size
        have hz3 := HB3.out.size
        have hz5 := hb4.size
        have hbA : Below w1.heap.size w1 (W4'.alloc (.cells (blkA sB) 41)) := ((HB2.out.trans (HB3.out.mono hzb2)).trans (hb4.mono (by omega))).alloc (by omega) _
        have gbA : (W4'.alloc (.cells (blkA sB) 41)).heap[W4'.heap.size]? = some (.cells (blkA sB) 41 (0, 0)) := hget_at _ _ rfl
        generalize W4'.alloc (.cells (blkA sB) 41) = W17 at hbA gbA ⊢
        have own17 : W17.ownsRow B 52 257 vo acc.length (rowsL acc) := own_below HOWN.out hbA
        have hA17 : TabAt T W17 S := HA1.out.below hbA
        have hp0 := hT.p0
        have hp1 := hT.p1
        have hpa := fun W h => tpickat_any T hT W S h
        have hoth := fun W => cother_any (2 + T.picks) (by omega) (by omega) W
        obtain ⟨oa, hoa⟩ : ∃ x, x = otherI (2 + T.picks) := ⟨_, rfl⟩
        rw [← hoa] at hoth
        obtain ⟨W18, hW18⟩ : ∃ W, W = W17.drew.alloc (.cells (putA oa sB) 52) := ⟨_, rfl⟩
        have gb17 : W17.drew.heap[W4'.heap.size]? = some (.cells (blkA sB) 41 (0, 0)) := gbA
        have hb17 := (Array.getElem?_eq_some_iff.1 gbA).1
        have gb18 : W18.heap[W4'.heap.size]? = some (.cells (blkA sB) 41 (0, 0)) := by rw [hW18]; exact (hget_past _ _ hb17).trans gbA
        have gp18 : W18.heap[W17.heap.size]? = some (.cells (putA oa sB) 52 (0, 0)) := by rw [hW18]; exact hget_at _ _ rfl
        have own18 : W18.ownsRow B 52 257 vo acc.length (rowsL acc) := by rw [hW18]; exact (own17.drew).alloc _
        have hb18 : Below W17.heap.size W17 W18 := by rw [hW18]; exact ((Below.refl _ _).drew).alloc (Nat.le_refl _) _
        have hs18 := hb18.size
        have hsA := hbA.size
        have hA18 : TabAt T W18 S := hA17.below hb18
        have hA17d : TabAt T W17.drew S := hA17.of_blocks (fun _ _ => rfl)
        have hnew := news_row gp18
        have hone : ∀ u ∈ (putA oa sB).toList, u.oneCell' = true := fun u hu => (Array.all_eq_true_iff_forall_mem.1 (putA_one oa sB)) u (by simpa using hu)
        have hszp : (putA oa sB).toList.length = 1 * 257 := by rw [Array.length_toList, putA_size, HLB.out]
        have hbs : (Instr.buildSlice 48 1 #[(0, .agg (putA oa sB))]).run Tryz.prog W17.drew = .ok (.slice (some ⟨W17.heap.size, 0, none⟩) 1 1) W18 := by rw [run_bs48 oa sB HLB.out, hW18]; rfl
        have hnvo : ∀ k', vo.ownBlock = some k' → B ≤ k' ∧ k' < w1.heap.size := by
          intro k' hk'
          rcases HOWN.out.2 with ⟨rfl, _⟩ | ⟨g', cap', cur', rfl, hbg', hgg', _⟩
          · cases hk'
          · cases hk'; exact ⟨hbg', (Array.getElem?_eq_some_iff.1 hgg').1⟩
        have hkl : (keyL S).length = S.length := by rw [keyL, sortI_length, List.length_map]
        have hz1B : B ≤ w1.heap.size := by omega
        have fin : ∀ v' w9, w9.ownsRow B 52 257 v' (acc.length + 1) (rowsL acc ++ (putA oa sB).toList) → W18.grownBy w9 vo.ownBlock →
            w9.heap[W4'.heap.size]? = some (.cells (blkA sB) 41 (0, 0)) ∧ TabAt T w9 S ∧ Keeps (fun k => k = T.pm ∨ k = T.tm) w w9 := by
          intro v' w9 ho9 hg9
          have e9 : ∀ k', k' < W18.heap.size → (B ≤ k' → w1.heap.size ≤ k') → w9.heap[k']? = W18.heap[k']? := fun k' h1 h2 => hg9.block k' h1 (fun e => by have := hnvo _ e.symm; omega)
          refine ⟨(e9 _ (by omega) (fun _ => by omega)).trans gb18, hA18.of_blocks (fun k' hk' => e9 k' (by have := hA18.lt; rcases hk' with rfl | rfl | rfl | rfl | rfl | rfl <;> omega) (fun _ => by rcases hk' with rfl | rfl | rfl | rfl | rfl | rfl <;> omega)), ?_⟩
          exact ((HKW.out.trans (Keeps.of_below hbA)).trans (Keeps.of_below hb18)).grown hg9 (fun k' e => .inr (by have := (hnvo k' e).1; omega))
        have FIN := hideIt fin
        have OW18 := hideIt own18
        have HNEW := hideIt hnew
        have HONE := hideIt hone
        have HSZP := hideIt hszp
        have HBSL := hideIt hbs
        have HBTP := hideIt (built52 oa sB HLB.out)
        have GB17 := hideIt gb17
        have GB18 := hideIt gb18
        have HA17 := hideIt hA17d
        have HA18 := hideIt hA18
        have HOA := hideIt hoa
        have hfw : acc.length ≤ 100000 := by simp at hfew; omega
        have hBW : B ≤ W18.heap.size := by omega
        have hS17 : TabAt T W17.drew S ∧ W17.drew.heap[W4'.heap.size]? = some (.cells (blkA sB) 41 (0, 0)) := ⟨hA17d, gb17⟩
        have hS18 : TabAt T W18 S ∧ W18.heap[W4'.heap.size]? = some (.cells (blkA sB) 41 (0, 0)) := ⟨hA18, gb18⟩
        have HS17 := hideIt hS17
        have HS18 := hideIt hS18
        have HPX := hideIt hpx
        clear hS17 hS18 hA17 hA17d hA18 own17 hoa hW18 gb17 gb18 gp18 own18 hb18 hs18 hnew hone hszp hbs hnvo hkl fin hb17 hbA gbA hb4 hpx
        refine wp_region_held (S := (fun w' : World => TabAt T w' S ∧ w'.heap[W4'.heap.size]? = some (.cells (blkA sB) 41 (0, 0)))) (by kernel_rfl) ?_
        change wpAnyH _ _ _ _ _ _ _ _ (World.drew _)
        try simp only [Act.put, List.setIfInBounds_toArray, List.set_cons_succ, List.set_cons_zero]
        have hS := HS17.out
        refine takeH 0 (v := ?_) rfl rfl (by kernel_rfl) (by kernel_rfl) (by kernel_rfl) (fun _ _ _ h => h) hS (yieldsIf_run rfl ?_) ?_
        rotate_left
        focus (intro w hSw; go_simp; try with_reducible rfl)
        simp only [List.setIfInBounds_toArray, List.set_cons_succ, List.set_cons_zero]
        refine takeH 1 (v := ?_) rfl rfl (by kernel_rfl) (by kernel_rfl) (by kernel_rfl) (fun _ _ _ h => h) hS (yieldsIf_run rfl ?_) ?_
        rotate_left
        focus (intro w hSw; go_simp; try with_reducible rfl)
        simp only [List.setIfInBounds_toArray, List.set_cons_succ, List.set_cons_zero]
        refine takeH 2 (v := ?_) rfl rfl (by kernel_rfl) (by kernel_rfl) (by kernel_rfl) (fun _ _ _ h => h) hS (yieldsIf_run rfl ?_) ?_
        rotate_left
        focus (intro w hSw; go_simp; try with_reducible rfl)
        simp only [List.setIfInBounds_toArray, List.set_cons_succ, List.set_cons_zero]
        refine takeH 5 rfl rfl (by kernel_rfl) (by kernel_rfl) (by kernel_rfl) (fun _ _ _ h => h) hS (yieldsIf_load_row rfl rfl W4'.heap.size rfl (fun _ h => h.2) Tryz.underlying41 rfl HIB.out) ?_
        simp only [List.setIfInBounds_toArray, List.set_cons_succ, List.set_cons_zero]
        clear hS
        refine anyH_step (i := 3) (by kernel_rfl) rfl rfl (fun K hK => ?_)
        go_simp
        go_at_call 38
        refine (hpa _ HA17.out).mono ?_
        rintro e w' ⟨rfl, rfl⟩
        refine hK _ _ (HS17.out) ?_
        clear hK K
        try simp only [Act.put, List.setIfInBounds_toArray, List.set_cons_succ, List.set_cons_zero]
        refine anyH_step (i := 4) (by kernel_rfl) rfl rfl (fun K hK => ?_)
        go_simp
        go_at_call 34
        refine (hoth _).mono ?_
        rintro e w' ⟨rfl, rfl⟩
        refine hK _ _ (HS17.out) ?_
        clear hK K
        try simp only [Act.put, List.setIfInBounds_toArray, List.set_cons_succ, List.set_cons_zero]
        have hS := HS17.out
        refine takeH 6 rfl rfl (by kernel_rfl) (by kernel_rfl) (by kernel_rfl) (fun _ _ _ h => h) hS (yieldsIf_build (l := [(0, .int .u32 oa), (1, .agg (blkA sB))]) rfl rfl (by simp [Act.eval]) HBTP.out) ?_
        simp only [List.setIfInBounds_toArray, List.set_cons_succ, List.set_cons_zero]
        clear hS
        refine anyH_step (i := 7) (by kernel_rfl) rfl rfl (fun K hK => ?_)
        refine wp_bs (l := #[(0, .agg (putA oa sB))]) rfl (by simp [Act.eval]) HBSL.out ?_
        refine hK _ _ (HS18.out) ?_
        clear hK K
        try simp only [Act.put, List.setIfInBounds_toArray, List.set_cons_succ, List.set_cons_zero]
        refine anyH_step (i := 8) (by kernel_rfl) rfl rfl (fun K hK => ?_)
        refine wp_append_own _ _ _ _ rfl B 52 i0 (.agg (putA 0 zb)) 257 260 Tryz.underlying48 hi hz0 hz1 hz2 (putA_size 0 zb) (by decide) vo acc.length (rowsL acc) (by rfl) OW18.out ⟨W17.heap.size, 0, none⟩ 1 1 _ rfl HSZP.out HNEW.out HONE.out (by unfold maxLen; omega) (by omega) hBW ?_
        intro v9 w9 ho9 hg9 hn9
        obtain ⟨gb9, hA9, hk9⟩ := FIN.out v9 w9 ho9 hg9
        have HS9 : Hid (TabAt T w9 S ∧ w9.heap[W4'.heap.size]? = some (.cells (blkA sB) 41 (0, 0))) := ⟨hA9, gb9⟩
        have HO9 := hideIt ho9
        have HK9 := hideIt hk9
        clear ho9 hg9 hn9 gb9 hA9 hk9
        refine hK _ _ (HS9.out) ?_
        clear hK K
        try simp only [Act.put, List.setIfInBounds_toArray, List.set_cons_succ, List.set_cons_zero]
        have hS := HS9.out
        refine takeH 9 (v := ?_) rfl rfl (by kernel_rfl) (by kernel_rfl) (by kernel_rfl) (fun _ _ _ h => h) hS (yieldsIf_run rfl ?_) ?_
        rotate_left
        focus (intro w hSw; go_simp; try with_reducible rfl)
        simp only [List.setIfInBounds_toArray, List.set_cons_succ, List.set_cons_zero]
        clear hS
        refine wpAnyH_done (by kernel_rfl) ?_ _
        have hpx := HPX.out
        go_wp2_with fail
        rw [rounds_succ]
        go_wp2_with fail
        have hP : sealPuts T S = acc ++ [(oa, sB)] := by rw [sealPuts, HF.out, HOA.out, HSB.out]
        have hQ : sealPicks T S = 1 - T.picks := by rw [sealPicks, HF.out]
        refine bodyPost_ret (v := .tuple #[v9, .int .u32 (1 - T.picks), .int .i64 0]) (by simp [results, Tryz.results13, go_sem]) rfl ?_
        refine ⟨v9, by rw [hQ], ?_, ?_, HS9.out.1, HK9.out⟩
        · rw [hP]
          have e : rowsL (acc ++ [(oa, sB)]) = rowsL acc ++ (putA oa sB).toList := by simp [rowsL]
          rw [e, List.length_append]
          exact ownsRow_base HO9.out (by omega)
        · rw [hP]
          intro p' hp'
          rcases List.mem_append.1 hp' with hp' | hp'
          · exact HGD.out p' hp'
          · simp at hp'; subst hp'; exact HLB.out
    | cons a r =>
      obtain ⟨off, rfl, hcell⟩ := hL4 (by simp)
      obtain ⟨ha0, ha1⟩ := HKY.out a List.mem_cons_self
      have hpl := plan5 T.n hT.n1 hT.n2
      have hfi : T.fi = planFi T.n := rfl
      have hn2 := hT.n2
      obtain ⟨k, rfl⟩ : ∃ k : Nat, a = k := ⟨a.toNat, by omega⟩
      have c0 : w1.cell? ⟨g, off, none⟩ = some (.int .u32 k) := hcell 0 _ rfl
      have hpt : ((k / 64 : Nat) : Int) < planTl T.n := by omega
      have hta := ttally_any T hT w1 S HA1.out (k / 64) hpt
      have hnt : ((k / 64 : Nat) : Int) = (k : Int) / 64 := by omega
      rw [hnt] at hta
      have HC := hideIt hcell
      clear hcell
      have iT := size69' ((k : Int) / 64) (hT.tlen ((k : Int) / 64))
      have eT : (tallyA 0 z64).size = (tallyA ((k : Int) / 64) (T.tl ((k : Int) / 64))).size := by rw [tallyA_size, tallyA_size, hT.tlen]; rfl
      have oT := tallyA_one ((k : Int) / 64) (T.tl ((k : Int) / 64))
      have hk1 : (k : Int) < 5000 := by omega
      have hp0 : (0 : Int) ≤ (k : Int) / 64 := by omega
      have HIT := hideIt iT
      obtain ⟨tA, htA⟩ : ∃ t, t = tallyA ((k : Int) / 64) (T.tl ((k : Int) / 64)) := ⟨_, rfl⟩
      rw [← htA] at hta iT eT oT HIT
      have HTA := hideIt htA
      clear htA iT hnt hpl hfi hpt
      go_upto_block 0 with (first
        | (go_at_call 29; (with_reducible refine hta.mono ?_); rintro e W6 ⟨rfl, hA6, hk6⟩
           have HA6 := hideIt hA6
           have HK6 := hideIt hk6
           clear hA6 hk6 hta)
        | (with_reducible refine wl_extract rfl rfl ?_)
        | (with_reducible refine wl_alloc_store zero69 (by simp [Act.put]) rfl rfl HIT.out eT oT ?_))
      have hz4 := HKP.out.size
      have hz6 := HK6.out.size
      have hzE := hEb.size
      obtain ⟨hg1, hg2, hg3⟩ := hE3 (fun h => by rw [h] at hfew; simp at hfew)
      have hb7 : Below W6.heap.size W6 (W6.alloc (.cells tA 69)) := (Below.refl _ _).alloc (Nat.le_refl _) _
      have gx7 : (W6.alloc (.cells tA 69)).heap[W6.heap.size]? = some (.cells tA 69 (0, 0)) := hget_at _ _ rfl
      have hs7 : (W6.alloc (.cells tA 69)).heap.size = W6.heap.size + 1 := by simp
      generalize hW7 : W6.alloc (.cells tA 69) = W7 at hb7 gx7 hs7 ⊢
      have hA7 : TabAt T W7 S := HA6.out.below hb7
      have hL7 : LeftV W7 g (.slice (some ⟨g, off, none⟩) (r.length + 1) c) ((k : Int) :: r) := by
        refine LeftV.of_block (w := w1) ⟨_, c, rfl, hc1, hc2, fun _ => ⟨off, rfl, HC.out⟩⟩ ?_
        rw [hb7.block g (by omega), HK6.out.block g (by omega) (by omega)]
      have hI7 : InPage T S g W6.heap.size ((k : Int) / 64) ((k : Int) :: r) W7 (.slice (some ⟨g, off, none⟩) (r.length + 1) c) W7 :=
        ⟨_, _, hL7, by rw [HTA.out] at gx7; exact gx7, rfl, hT.tlen _, HKY.out, Keeps.refl _ _⟩
      have HI7 := hideIt hI7
      have HA7 := hideIt hA7
      have HB7 := hideIt hb7
      clear hb7 gx7 hA7 hL7 hI7 hW7 c0
      go_cut [6] from 46 to 72 (fun v wr => Hid (PageOut T S g W6.heap.size ((k : Int) / 64) ((k : Int) :: r) W7 v wr))
      case first =>
        go_wp2_with fail
        go_loopw [6] (fun v wr => Hid (InPage T S g W6.heap.size ((k : Int) / 64) ((k : Int) :: r) W7 v wr)) (fun v _ => sliceLen v)
        case atStart => exact HI7.out
        case round =>
          obtain ⟨ll, cs, hLl, hx, hsp, hcl, hky, hkr⟩ := hrel.out
          clear hrel
          obtain ⟨p', c', rfl, hc1', hc2', hL4'⟩ := hLl.out
          have HKR := hideIt hkr
          clear hkr
          cases ll with
          | nil =>
            go_wp2_with fail
            go_meet
            case rel => exact ⟨[], cs, hLl.out, hx.out, hsp.out.symm, hky.out, HKR.out⟩
          | cons b rr =>
            obtain ⟨off', rfl, hcell'⟩ := hL4' (by simp)
            obtain ⟨hb0, hb1⟩ := hky.out b List.mem_cons_self
            have hfi : T.fi = planFi T.n := rfl
            have hfl := planFi_lt T.n hT.n1 (by have := hT.n2; omega)
            obtain ⟨k', rfl⟩ : ∃ k' : Nat, b = k' := ⟨b.toNat, by omega⟩
            have c0 : wr.cell? ⟨g, off', none⟩ = some (.int .u32 k') := hcell' 0 _ rfl
            have hk5 : (k' : Int) < 5000 := by have := hT.n2; omega
            have HC' := hideIt hcell'
            clear hcell' hfi hfl hL4'
            by_cases hpp : (k' : Int) / 64 = (k : Int) / 64
            · have hA8 : TabAt T wr S := HA7.out.of_blocks (fun k hk => HKR.out.block k (by have := HA7.out.lt; rcases hk with rfl | rfl | rfl | rfl | rfl | rfl <;> omega) (by have := HA7.out.lt; rcases hk with rfl | rfl | rfl | rfl | rfl | rfl <;> omega))
              have HA8 := hideIt hA8
              have fx := frozen_of_row wr W6.heap.size (1 + k' % 64) _ _ hx.out
              have cx : ∃ x, wr.cell? ⟨W6.heap.size, 1 + k' % 64, none⟩ = some (.int .u16 x) := by
                refine ⟨cs.getD (k' % 64) 0, ?_⟩
                rw [cell_of_row _ _ _ _ _ _ hx.out, tallyA_succ, List.getD_eq_getElem?_getD, List.getElem?_eq_getElem (by omega)]
                rfl
              obtain ⟨xo, cx⟩ := cx
              have CX := hideIt cx
              have FX := hideIt fx
              have cK : ∀ w' : World, (w'.cell? ⟨g, off', none⟩ = some (.int .u32 k') ∧ w'.cell? ⟨T.tb, 14, none⟩ = some (.map (some T.sm)) ∧ MapAt w' T.sm (encS S)) → w'.cell? ⟨g, off', none⟩ = some (.int .u32 k') := fun _ h => h.1
              have cM : ∀ w' : World, (w'.cell? ⟨g, off', none⟩ = some (.int .u32 k') ∧ w'.cell? ⟨T.tb, 14, none⟩ = some (.map (some T.sm)) ∧ MapAt w' T.sm (encS S)) → w'.cell? ⟨T.tb, 14, none⟩ = some (.map (some T.sm)) := fun _ h => h.2.1
              have CK := hideIt cK
              have CM := hideIt cM
              have hS0 : wr.drew.cell? ⟨g, off', none⟩ = some (.int .u32 k') ∧ wr.drew.cell? ⟨T.tb, 14, none⟩ = some (.map (some T.sm)) ∧ MapAt wr.drew T.sm (encS S) := ⟨by rw [World.cell?_drew]; exact c0, by rw [World.cell?_drew]; exact hA8.cell 14, hA8.ms.of_block (hget_drew _)⟩
              have HS0 := hideIt hS0
              clear hA8 fx cx cK cM hS0
              go_wp2_with fail
              refine wp_region_held (S := (fun w' : World => w'.cell? ⟨g, off', none⟩ = some (.int .u32 k') ∧ w'.cell? ⟨T.tb, 14, none⟩ = some (.map (some T.sm)) ∧ MapAt w' T.sm (encS S))) (by kernel_rfl) ?_
              change wpAnyH _ _ _ _ _ _ _ _ (World.drew _)
              try simp only [Act.put, List.setIfInBounds_toArray, List.set_cons_succ, List.set_cons_zero]
              have hS := HS0.out
              refine takeH 0 (v := ?_) rfl rfl (by kernel_rfl) (by kernel_rfl) (by kernel_rfl) (fun _ _ _ h => h) hS (yieldsIf_run rfl ?_) ?_
              rotate_left
              focus (intro w hSw; go_simp; try with_reducible rfl)
              simp only [List.setIfInBounds_toArray, List.set_cons_succ, List.set_cons_zero]
              refine takeH 1 (v := ?_) rfl rfl (by kernel_rfl) (by kernel_rfl) (by kernel_rfl) (fun _ _ _ h => h) hS (yieldsIf_run rfl ?_) ?_
              rotate_left
              focus (intro w hSw; go_simp; try with_reducible rfl)
              simp only [List.setIfInBounds_toArray, List.set_cons_succ, List.set_cons_zero]
              refine takeH 2 (v := ?_) rfl rfl (by kernel_rfl) (by kernel_rfl) (by kernel_rfl) (fun _ _ _ h => h) hS (yieldsIf_run rfl ?_) ?_
              rotate_left
              focus (intro w hSw; have hcU := CK.out w hSw; clear hSw; go_simp; try with_reducible rfl)
              simp only [List.setIfInBounds_toArray, List.set_cons_succ, List.set_cons_zero]
              refine takeH 3 (v := ?_) rfl rfl (by kernel_rfl) (by kernel_rfl) (by kernel_rfl) (fun _ _ _ h => h) hS (yieldsIf_run rfl ?_) ?_
              rotate_left
              focus (intro w hSw; go_simp; try with_reducible rfl)
              simp only [List.setIfInBounds_toArray, List.set_cons_succ, List.set_cons_zero]
              have hrm : (k' : Int).tmod 64 = (k' : Int) % 64 := Int.tmod_eq_emod_of_nonneg (by omega)
              have hr0 : (0 : Int) ≤ (k' : Int) % 64 := by omega
              have hr1 : (k' : Int) % 64 < 64 := by omega
              have hr2 : ((k' : Int) % 64).toNat = k' % 64 := by omega
              rw [hrm]
              clear hrm
              refine takeH 4 (v := ?_) rfl rfl (by kernel_rfl) (by kernel_rfl) (by kernel_rfl) (fun _ _ _ h => h) hS (yieldsIf_run rfl ?_) ?_
              rotate_left
              focus (intro w hSw; go_simp; try with_reducible rfl)
              simp only [List.setIfInBounds_toArray, List.set_cons_succ, List.set_cons_zero]
              refine takeH 5 (v := ?_) rfl rfl (by kernel_rfl) (by kernel_rfl) (by kernel_rfl) (fun _ _ _ h => h) hS (yieldsIf_run rfl ?_) ?_
              rotate_left
              focus (intro w hSw; go_simp; try with_reducible rfl)
              simp only [List.setIfInBounds_toArray, List.set_cons_succ, List.set_cons_zero]
              refine takeH 6 (v := ?_) rfl rfl (by kernel_rfl) (by kernel_rfl) (by kernel_rfl) (fun _ _ _ h => h) hS (yieldsIf_run rfl ?_) ?_
              rotate_left
              focus (intro w hSw; go_simp; try with_reducible rfl)
              simp only [List.setIfInBounds_toArray, List.set_cons_succ, List.set_cons_zero]
              refine takeH 7 (v := ?_) rfl rfl (by kernel_rfl) (by kernel_rfl) (by kernel_rfl) (fun _ _ _ h => h) hS (yieldsIf_run rfl ?_) ?_
              rotate_left
              focus (intro w hSw; have hcU := CM.out w hSw; clear hSw; go_simp; try with_reducible rfl)
              simp only [List.setIfInBounds_toArray, List.set_cons_succ, List.set_cons_zero]
              refine takeH 8 (v := ?_) rfl rfl (by kernel_rfl) (by kernel_rfl) (by kernel_rfl) (fun _ _ _ h => h) hS (yieldsIf_run rfl ?_) ?_
              rotate_left
              focus (intro w hSw; go_simp; try with_reducible rfl)
              simp only [List.setIfInBounds_toArray, List.set_cons_succ, List.set_cons_zero]
              refine takeH 9 (v := ?_) rfl rfl (by kernel_rfl) (by kernel_rfl) (by kernel_rfl) (fun _ _ _ h => h) hS (yieldsIf_run rfl ?_) ?_
              rotate_left
              focus (intro w hSw; go_simp; try with_reducible rfl)
              simp only [List.setIfInBounds_toArray, List.set_cons_succ, List.set_cons_zero]
              refine takeH 10 (v := ?_) rfl rfl (by kernel_rfl) (by kernel_rfl) (by kernel_rfl) (fun _ _ _ h => h) hS (yieldsIf_run rfl ?_) ?_
              rotate_left
              focus (intro w hSw; have hcU := CK.out w hSw; clear hSw; go_simp; try with_reducible rfl)
              simp only [List.setIfInBounds_toArray, List.set_cons_succ, List.set_cons_zero]
              refine takeH 11 rfl rfl (by kernel_rfl) (by kernel_rfl) (by kernel_rfl) (fun _ _ _ h => h) hS (yieldsIf_lookup rfl rfl rfl rfl (fun _ h => h.2.2) Tryz.underlying60 Tryz.underlying22 zero39 (look_val S k')) ?_
              simp only [List.setIfInBounds_toArray, List.set_cons_succ, List.set_cons_zero]
              refine takeH 12 (v := ?_) rfl rfl (by kernel_rfl) (by kernel_rfl) (by kernel_rfl) (fun _ _ _ h => h) hS (yieldsIf_run rfl ?_) ?_
              rotate_left
              focus (intro w hSw; go_simp; try with_reducible rfl)
              simp only [List.setIfInBounds_toArray, List.set_cons_succ, List.set_cons_zero]
              refine takeH 13 (v := ?_) rfl rfl (by kernel_rfl) (by kernel_rfl) (by kernel_rfl) (fun _ _ _ h => h) hS (yieldsIf_run rfl ?_) ?_
              rotate_left
              focus (intro w hSw; go_simp; try with_reducible rfl)
              simp only [List.setIfInBounds_toArray, List.set_cons_succ, List.set_cons_zero]
              clear hS
              have fx := FX.out
              have cx := CX.out
              refine anyH_step (i := 14) (by kernel_rfl) rfl rfl (fun K hK => ?_)
              go_simp
              obtain ⟨W9, hW9⟩ : ∃ W, W = (wr.setCell ⟨W6.heap.size, 1 + k' % 64, none⟩ (.int .u16 (valS S k'))).drew := ⟨_, rfl⟩
              rw [← hW9]
              have hS9 : W9.cell? ⟨g, off', none⟩ = some (.int .u32 k') ∧ W9.cell? ⟨T.tb, 14, none⟩ = some (.map (some T.sm)) ∧ MapAt W9 T.sm (encS S) := by
                have h7 := HA8.out.lt
                rw [hW9]
                refine ⟨?_, ?_, ?_⟩
                · rw [World.cell?_drew, World.cell?_of_block (w := wr) (hget_setCell_other _ _ _ (by show g ≠ W6.heap.size; omega)), c0]
                · rw [World.cell?_drew, World.cell?_of_block (w := wr) (hget_setCell_other _ _ _ (by show T.tb ≠ W6.heap.size; omega))]; exact HA8.out.cell 14
                · exact HA8.out.ms.of_block (by rw [hget_drew]; exact hget_setCell_other _ _ _ (by show T.sm ≠ W6.heap.size; omega))
              have hx9 : W9.heap[W6.heap.size]? = some (.cells (tallyA ((k : Int) / 64) (cs.set (k' % 64) (valS S k'))) 69 (0, 0)) := by
                rw [hW9, hget_drew, hget_setCell_same _ _ _ _ _ hx.out, tallyA_set]
              have hk9 : Keeps (fun k => k = W6.heap.size) W7 W9 := by rw [hW9]; exact (HKR.out.setCell (p := ⟨W6.heap.size, 1 + k' % 64, none⟩) (.inr rfl) _).drew
              have hl9 : W9.heap[g]? = wr.heap[g]? := by rw [hW9, hget_drew]; exact hget_setCell_other _ _ _ (by show g ≠ W6.heap.size; omega)
              have HS9 := hideIt hS9
              have HX9 := hideIt hx9
              have HK9 := hideIt hk9
              have HL9 := hideIt hl9
              clear hW9 hS9 hx9 hk9 hl9 fx cx
              refine hK _ _ (HS9.out) ?_
              clear hK K
              try simp only [Act.put, List.setIfInBounds_toArray, List.set_cons_succ, List.set_cons_zero]
              refine wpAnyH_done (by kernel_rfl) ?_ _
              have hc3 : rr.length + 1 ≤ c' := hc1'
              clear hr0 hr1 hr2 c0
              go_wp2_with fail
              have hmt : ((k' : Int) % 64).toNat = k' % 64 := by omega
              refine ⟨⟨rr, cs.set (k' % 64) (valS S k'), ?_, HX9.out, hsp.out ▸ ?_, by rw [List.length_set]; exact hcl, fun a ha => hky.out a (List.mem_cons_of_mem _ ha), HK9.out⟩, by simp [sliceLen]⟩
              · refine ⟨_, c' - 1, rfl, by omega, by omega, fun hne => ⟨off' + 1, ?_, fun i x hx => ?_⟩⟩
                · have : rr.length ≠ 0 := fun h => hne (List.eq_nil_of_length_eq_zero h)
                  rw [if_neg (by omega)]
                · rw [World.cell?_of_block (w := wr) HL9.out, show off' + 1 + i = off' + (i + 1) by omega]
                  exact HC'.out (i + 1) x (by simpa using hx)
              · show fillP S ((k : Int) / 64) (cs.set (k' % 64) (valS S k')) rr = fillP S ((k : Int) / 64) cs ((k' : Int) :: rr)
                rw [fillP, if_pos hpp, hmt]
            · have hpb : ((k' : Int) / 64 == (k : Int) / 64) = false := by simpa using hpp
              go_wp2_with fail
              go_meet
              case rel => exact ⟨_, cs, hLl.out, hx.out, hsp.out.symm.trans (by rw [fillP, if_neg hpp]), hky.out, HKR.out⟩
      case rest =>
        obtain ⟨ll, cs, hLl, hx, hsp, hky, hkr⟩ := hcut.out
        clear hcut HI7
        have hkW : Below W6.heap.size W6 wc := HB7.out.trans (hkr.below (by omega) (fun k hk => by omega))
        have hA8 : TabAt T wc S := HA6.out.of_blocks (fun k hk => hkW.block k (by have := HA6.out.lt; rcases hk with rfl | rfl | rfl | rfl | rfl | rfl <;> omega))
        have hnt : ((k / 64 : Nat) : Int) = (k : Int) / 64 := by omega
        have hat := ttallyat_any T hT wc S hA8 (k / 64) (by have := plan5 T.n hT.n1 hT.n2; have hfi : T.fi = planFi T.n := rfl; omega)
        rw [hnt] at hat
        have hp1024 : (k : Int) / 64 / 1024 = 0 := by omega
        have hpm : (k : Int) / 64 % 1024 = (k : Int) / 64 := by omega
        have hcl : cs.length = 64 := by have := fillP_len S ((k : Int) / 64) (T.tl ((k : Int) / 64)) ((k : Int) :: r); rw [hsp.out, hT.tlen] at this; exact this
        have hcb : ∀ x ∈ cs, 0 ≤ x ∧ x < 65536 := by have := fillP_mem S ((k : Int) / 64) (valS_ok HS.out) (T.tl ((k : Int) / 64)) ((k : Int) :: r) (hT.tb _); rw [hsp.out] at this; exact this
        have htp := fun W => tput_any ((k : Int) / 64) hp0 (by omega) cs hcl hcb W
        have ixA := size69' ((k : Int) / 64) hcl
        have hlB : (putB 84 ((k : Int) / 64) 2 cs).length = 256 := (sealB_length _).trans (rawB_length _ _ (by rw [List.length_append, leB_length, rowB_length, hcl]; decide))
        have iB := size41' hlB
        have eB : (blkA zb).size = (blkA (putB 84 ((k : Int) / 64) 2 cs)).size := by rw [zbA_size, blkA_size, hlB]
        have oB := blkA_one (putB 84 ((k : Int) / 64) 2 cs)
        have hpk := fun W h => tpick_any T hT W S h
        -- the pick so far
        obtain ⟨pk0, hpk0⟩ : ∃ q, q = o.getD T.pk := ⟨_, rfl⟩
        have hpl : pk0.length = 16 ∧ ∀ x ∈ pk0, 0 ≤ x ∧ x < 18446744073709551616 := by
          rw [hpk0]
          cases o with
          | none => exact ⟨hT.plen, hT.pb⟩
          | some q => exact HPK.out q rfl
        have htu := fun W => turn_any 0 pk0 hpl.1 hpl.2 (k / 64) (by omega) W
        have hnt2 : ((k / 64 : Nat) : Int) = (k : Int) / 64 := hnt
        simp only [hnt2] at htu
        have hm8 : MapAt wc tm (encO o) := HMT.out.of_block (by rw [hkW.block tm (by omega), HK6.out.block tm (by omega) (by omega)])
        have hx8 := hx.out
        have HX8 := hideIt hx8
        have HM8 := hideIt hm8
        have HLL := hLl
        have HA8 := hideIt hA8
        have HKW := hideIt hkW
        have HIX := hideIt ixA
        have HIB := hideIt iB
        have HPK0 := hideIt hpk0
        have HPL := hideIt hpl
        have HKR := hideIt hkr
        have HLB := hideIt hlB
        clear hx8 hm8 hA8 hkW ixA iB hpk0 hpl hnt hnt2 hcl hcb hkr hx hlB
        obtain ⟨pv, hpv⟩ : ∃ q, q = pickA 0 pk0 := ⟨_, rfl⟩
        obtain ⟨tv, htv⟩ : ∃ q, q = pickA 0 (turnL pk0 (k / 64)) := ⟨_, rfl⟩
        have ipv : (Tryz.prog.info? 74).map (·.size) = some pv.size := by rw [hpv]; exact size74' 0 HPL.out.1
        have epv : (pickA 0 z16).size = pv.size := by rw [hpv, pickA_size, pickA_size, HPL.out.1]; rfl
        have opv : pv.all (·.oneCell') = true := by rw [hpv]; exact pickA_one _ _
        rw [← hpv, ← htv] at htu
        have HPV := hideIt hpv
        have HTV := hideIt htv
        have HIP := hideIt ipv
        clear hpv htv ipv
        obtain ⟨sB, hsB⟩ : ∃ q, q = putB 84 ((k : Int) / 64) 2 cs := ⟨_, rfl⟩
        rw [← hsB] at htp eB oB HIB HLB
        have HSB := hideIt hsB
        clear hsB
        cases o with
        | none =>
          have hpe : pickA 0 T.pk = pv := by rw [HPV.out, HPK0.out]; rfl
          rw [hpe] at hpk
          clear hpe
          obtain ⟨zP, hzP⟩ : ∃ q, q = pickA 0 z16 := ⟨_, rfl⟩
          have hz74 : ∀ w, (zeroValue 74).run Tryz.prog w = .ok (.agg zP) w := by rw [hzP]; exact zero74
          rw [← hzP] at epv
          have hv : Value.tuple #[(look (encO none) 0).getD (.agg zP), .bool (look (encO none) 0).isSome] = .tuple #[.agg zP, .bool false] := rfl
          have HV := hideIt hv
          have HIY : Hid ((Tryz.prog.info? 74).map (·.size) = some zP.size) := by rw [hzP]; exact size74' 0 rfl
          have eY : zP.size = 17 := by rw [hzP]; rfl
          have oY : zP.all (·.oneCell') = true := by rw [hzP]; exact pickA_one _ _
          clear hv hzP
          go_upto_region 14 with (first
            | (go_at_call 30; (with_reducible refine hat.mono ?_); rintro e W10 ⟨rfl, hA10, hk10⟩
               have hx10 := (hk10.block _ (Array.getElem?_eq_some_iff.1 HX8.out).1 (by have := HKP.out.size; omega)).trans HX8.out
               have K10 : Keeps (fun k => k = T.pm ∨ k = T.tm ∨ k = tm) w1 W10 := ((HK6.out.mono (G := fun k => k = T.pm ∨ k = T.tm ∨ k = tm) (fun _ _ h => by omega)).trans (Keeps.of_below HKW.out)).trans (hk10.mono (fun _ _ h => .inl h))
               have hm10 : MapAt W10 tm (encO none) := HM8.out.of_block (hk10.block tm HM8.out.lt (by omega))
               have HX10 := hideIt hx10
               have HA10 := hideIt hA10
               have HK10 := hideIt K10
               have HM10 := hideIt hm10
               have HKT := hideIt hk10
               clear hx10 hA10 hk10 K10 hm10 hat)
            | (with_reducible refine wl_extract rfl rfl ?_)
            | (with_reducible refine wl_load rfl HX10.out Tryz.underlying69 rfl HIX.out ?_)
            | (go_at_call 31; (with_reducible refine (htp _).mono ?_); rintro e W11 ⟨rfl, hb11⟩
               have hz11 := hb11.size
               have gb12 : (W11.alloc (.cells (blkA sB) 41)).heap[W11.heap.size]? = some (.cells (blkA sB) 41 (0, 0)) := hget_at _ _ rfl
               have hb12 : Below W10.heap.size W10 (W11.alloc (.cells (blkA sB) 41)) := hb11.alloc hz11 _
               have hs12 : (W11.alloc (.cells (blkA sB) 41)).heap.size = W11.heap.size + 1 := by simp
               have hm12 : MapAt (W11.alloc (.cells (blkA sB) 41)) tm (encO none) := HM10.out.of_block (hb12.block _ HM10.out.lt)
               have HB12 := hideIt hb12
               have GB12 := hideIt gb12
               have HM12 := hideIt hm12
               have gy13 : ((W11.alloc (.cells (blkA sB) 41)).alloc (.cells zP 74)).heap[W11.heap.size + 1]? = some (.cells zP 74 (0, 0)) := hget_at _ _ hs12.symm
               have gb13 : ((W11.alloc (.cells (blkA sB) 41)).alloc (.cells zP 74)).heap[W11.heap.size]? = some (.cells (blkA sB) 41 (0, 0)) := by { rw [hget_past _ _ (by omega)]; exact gb12 }
               have hb13 : Below W10.heap.size W10 ((W11.alloc (.cells (blkA sB) 41)).alloc (.cells zP 74)) := hb12.alloc (by omega) _
               have hs13 : ((W11.alloc (.cells (blkA sB) 41)).alloc (.cells zP 74)).heap.size = W11.heap.size + 2 := by simp
               have HB13 := hideIt hb13
               have GY13 := hideIt gy13
               have GB13 := hideIt gb13
               clear hb12 gb12 hb11 hm12 hb13 gy13 gb13)
            | (with_reducible refine wl_alloc_store zero41 (by simp [Act.put]) rfl rfl HIB.out eB oB ?_))
          simp only [hp1024]
          go_wp2_with (first
            | (with_reducible refine wl_extract rfl rfl ?_)
            | (with_reducible refine wl_lookup_ok rfl rfl HM12.out Tryz.underlying58 Tryz.underlying22 hz74 HV.out ?_; simp only [Act.put, List.setIfInBounds_toArray, List.set_cons_succ, List.set_cons_zero])
            | (with_reducible refine wl_alloc_store hz74 (by simp [Act.put]) rfl rfl HIY.out rfl oY ?_)
            | (go_at_call 32
               have hA13 := HA10.out.below HB13.out
               (with_reducible refine (hpk _ hA13).mono ?_); rintro e W14 ⟨rfl, hA14, hk14⟩
               have gy14 := (hk14.block _ (Array.getElem?_eq_some_iff.1 GY13.out).1 (by have := HA10.out.lt; omega)).trans GY13.out
               have gb14 := (hk14.block _ (Array.getElem?_eq_some_iff.1 GB13.out).1 (by have := HA10.out.lt; omega)).trans GB13.out
               have hz14 := hk14.size
               have e15 : ∀ k, k ≠ W11.heap.size + 1 → (W14.setRow (W11.heap.size + 1) pv).heap[k]? = W14.heap[k]? := fun k hk => setRow_other _ _ _ _ hk
               have gy15 : (W14.setRow (W11.heap.size + 1) pv).heap[W11.heap.size + 1]? = some (.cells pv 74 (0, 0)) := setRow_heap _ _ _ _ _ _ gy14
               have gb15 : (W14.setRow (W11.heap.size + 1) pv).heap[W11.heap.size]? = some (.cells (blkA sB) 41 (0, 0)) := (e15 _ (by omega)).trans gb14
               have hA15 : TabAt T (W14.setRow (W11.heap.size + 1) pv) S := hA14.of_blocks (fun k hk => e15 k (by have := HA10.out.lt; rcases hk with rfl | rfl | rfl | rfl | rfl | rfl <;> omega))
               have hm15 : MapAt (W14.setRow (W11.heap.size + 1) pv) tm (encO none) := HM10.out.of_block (by { rw [e15 _ (by have := HM10.out.lt; omega), hk14.block _ (by have := HM10.out.lt; omega) (by omega), HB13.out.block _ HM10.out.lt] })
               have hg15 : (W14.setRow (W11.heap.size + 1) pv).heap[g]? = wc.heap[g]? := (e15 g (by have := HKT.out.size; have := HKW.out.size; omega)).trans ((hk14.block g (by have := HKT.out.size; have := HKW.out.size; omega) (by omega)).trans ((HB13.out.block g (by have := HKT.out.size; have := HKW.out.size; omega)).trans (HKT.out.block g (by have := HKW.out.size; omega) (by omega))))
               have hk15 : Keeps (fun k => k = T.pm ∨ k = T.tm ∨ k = tm) w1 (W14.setRow (W11.heap.size + 1) pv) := ((HK10.out.trans (Keeps.of_below HB13.out)).trans (hk14.mono (fun _ _ h => .inl h))).setRow (.inl (by have := HKT.out.size; have := HKW.out.size; omega)) _
               have GY14 := hideIt gy14
               have GY15 := hideIt gy15
               have GB15 := hideIt gb15
               have HA15 := hideIt hA15
               have HM15 := hideIt hm15
               have HG15 := hideIt hg15
               have HK15 := hideIt hk15
               clear hA13 hA14 hk14 gy14 gb14 e15 gy15 gb15 hA15 hm15 hg15 hk15)
            | (with_reducible refine wl_store rfl rfl GY14.out HIP.out epv opv ?_)
            | (with_reducible refine wl_load rfl GY15.out Tryz.underlying74 rfl HIP.out ?_)
            | (go_at_call 33; (with_reducible refine (htu _).mono ?_); rintro e W16 ⟨rfl, hb16⟩
               have hz16 := hb16.size
               have hm16 : MapAt W16 tm (encO none) := HM15.out.of_block (hb16.block _ HM15.out.lt)
               have hA16 : TabAt T W16 S := HA15.out.below hb16
               have gb16 : W16.heap[W11.heap.size]? = some (.cells (blkA sB) 41 (0, 0)) := (hb16.block _ (Array.getElem?_eq_some_iff.1 GB15.out).1).trans GB15.out
               obtain ⟨o7, hr7, hm7⟩ := run_put hm16 Tryz.underlying58 Tryz.underlying22 0 (.agg tv)
               have K7 : Keeps (fun k => k = T.pm ∨ k = T.tm ∨ k = tm) w1 (W16.putObj tm o7) := (HK15.out.trans (Keeps.of_below hb16)).putObj (.inr (.inr rfl)) _
               have hA7 : TabAt T (W16.putObj tm o7) S := hA16.of_blocks (fun k hk => World.putObj_heap_other (by rcases hk with rfl | rfl | rfl | rfl | rfl | rfl <;> omega))
               have gb7 : (W16.putObj tm o7).heap[W11.heap.size]? = some (.cells (blkA sB) 41 (0, 0)) := by { rw [World.putObj_heap_other (by have := HM10.out.lt; omega)]; exact gb16 }
               have hl7 : (W16.putObj tm o7).heap[g]? = wc.heap[g]? := by { rw [World.putObj_heap_other (by omega), hb16.block g (by have := HK15.out.size; omega)]; exact HG15.out }
               have hms : MapAt (W16.putObj tm o7) tm (encO (some (turnL pk0 (k / 64)))) := by { rw [HTV.out] at hm7; exact hm7 }
               have HR7 := hideIt hr7
               have HK7 := hideIt K7
               have HA7' := hideIt hA7
               have GB7 := hideIt gb7
               have HL7' := hideIt hl7
               have HMS := hideIt hms
               clear hm16 hA16 gb16 hr7 hm7 K7 hA7 gb7 hl7 hms hb16)
            | (with_reducible refine wl_mapUpdate (m := .map (some tm)) (k := .int .u32 0) (v := .agg tv) rfl rfl rfl HR7.out ?_))
          generalize W16.putObj tm o7 = W17 at HK7 HA7' GB7 HL7' HMS ⊢
          have own17 : W17.ownsRow B 52 257 vo acc.length (rowsL acc) := own_blocks HOWN.out (fun k' hB' hk' => HK7.out.block k' hk' (by omega))
          obtain ⟨hat1, hat2⟩ := T.at_lt hT ((k : Int) / 64) hp0 (by have hpl := plan5 T.n hT.n1 hT.n2; have hfi : T.fi = planFi T.n := rfl; omega)
          have hoth := fun W => cother_any (T.at ((k : Int) / 64)) (by omega) (by omega) W
          obtain ⟨oa, hoa⟩ : ∃ x, x = otherI (T.at ((k : Int) / 64)) := ⟨_, rfl⟩
          rw [← hoa] at hoth
          obtain ⟨W18, hW18⟩ : ∃ W, W = W17.drew.alloc (.cells (putA oa sB) 52) := ⟨_, rfl⟩
          have gb17 : W17.drew.heap[W11.heap.size]? = some (.cells (blkA sB) 41 (0, 0)) := GB7.out
          have hb17 := (Array.getElem?_eq_some_iff.1 gb17).1
          have gb18 : W18.heap[W11.heap.size]? = some (.cells (blkA sB) 41 (0, 0)) := by rw [hW18, hget_past _ _ hb17]; exact gb17
          have gp18 : W18.heap[W17.heap.size]? = some (.cells (putA oa sB) 52 (0, 0)) := by rw [hW18]; exact hget_at _ _ rfl
          have own18 : W18.ownsRow B 52 257 vo acc.length (rowsL acc) := by rw [hW18]; exact (own17.drew).alloc _
          have hb18 : Below W17.heap.size W17 W18 := by rw [hW18]; exact ((Below.refl _ _).drew).alloc (Nat.le_refl _) _
          have hs18 := hb18.size
          have hnew := news_row gp18
          have hone : ∀ u ∈ (putA oa sB).toList, u.oneCell' = true := fun u hu => (Array.all_eq_true_iff_forall_mem.1 (putA_one oa sB)) u (by simpa using hu)
          have hszp : (putA oa sB).toList.length = 1 * 257 := by rw [Array.length_toList, putA_size, HLB.out]
          have hbs : (Instr.buildSlice 48 1 #[(0, .agg (putA oa sB))]).run Tryz.prog W17.drew = .ok (.slice (some ⟨W17.heap.size, 0, none⟩) 1 1) W18 := by rw [run_bs48 oa sB HLB.out, hW18]; rfl
          have hnvo : ∀ k', vo.ownBlock = some k' → B ≤ k' ∧ k' < w1.heap.size := by
            intro k' hk'
            rcases HOWN.out.2 with ⟨rfl, _⟩ | ⟨g', cap', cur', rfl, hbg', hgg', _⟩
            · cases hk'
            · cases hk'; exact ⟨hbg', (Array.getElem?_eq_some_iff.1 hgg').1⟩
          have hkl : (keyL S).length = S.length := by rw [keyL, sortI_length, List.length_map]
          have hz1B : B ≤ w1.heap.size := by have := HKP.out.size; omega
          have hz17 := HK7.out.size
          have fin : ∀ v' w9, w9.ownsRow B 52 257 v' (acc.length + 1) (rowsL acc ++ (putA oa sB).toList) → W18.grownBy w9 vo.ownBlock →
              w9.heap[W11.heap.size]? = some (.cells (blkA sB) 41 (0, 0)) ∧ Hid (SealSt T S B g tm W4 v' u6 w9 ll (some (turnL pk0 ((k : Int) / 64).toNat)) (acc ++ [(otherI (T.at ((k : Int) / 64)), sB)])) := by
            intro v' w9 ho9 hg9
            have e9 : ∀ k', k' < W17.heap.size → (B ≤ k' → w1.heap.size ≤ k') → w9.heap[k']? = W17.heap[k']? := fun k' h1 h2 => (hg9.block k' (by omega) (fun e => by have := hnvo _ e.symm; omega)).trans (hb18.block k' h1)
            have hzz : W11.heap.size < W17.heap.size := hb17
            refine ⟨(e9 _ hb17 (fun _ => by have := HKT.out.size; have := HKW.out.size; omega)).trans GB7.out, HST0.out.next ?_ ?_ ?_ ?_ HPK0.out HPL.out ?_ hsp.out hky.out HSB.out HLB.out⟩
            · exact (((HK7.out.mono (G := fun k => k = T.pm ∨ k = T.tm ∨ k = tm ∨ B ≤ k) (fun _ _ h => by omega)).trans (Keeps.of_below hb18))).grown hg9 (fun k' e => .inl (.inr (.inr (.inr (hnvo k' e).1))))
            · exact hLl.out.of_block ((e9 g (by have := HKT.out.size; have := HKW.out.size; omega) (fun _ => by omega)).trans HL7'.out)
            · exact HA7'.out.of_blocks (fun k' hk' => e9 k' (by have := HA7'.out.lt; rcases hk' with rfl | rfl | rfl | rfl | rfl | rfl <;> omega) (fun _ => by rcases hk' with rfl | rfl | rfl | rfl | rfl | rfl <;> omega))
            · have e := HMS.out.of_block (e9 tm (by omega) (fun _ => by omega))
              rw [show ((k : Int) / 64).toNat = k / 64 by omega]
              exact e
            · rw [← hoa]; exact ho9
          have FIN := hideIt fin
          have OW18 := hideIt own18
          have HNEW := hideIt hnew
          have HONE := hideIt hone
          have HSZP := hideIt hszp
          have HBSL := hideIt hbs
          have HBTP := hideIt (built52 oa sB HLB.out)
          have GB17 := hideIt gb17
          have GB18 := hideIt gb18
          have HKL := hideIt hkl
          have hfw : acc.length ≤ 100000 := by omega
          have hBW : B ≤ W18.heap.size := by omega
          clear own17 hoa hW18 gb17 gb18 gp18 own18 hb18 hs18 hnew hone hszp hbs hnvo hkl fin hb17
          refine wp_region_held (S := (fun w' : World => w'.heap[W11.heap.size]? = some (.cells (blkA sB) 41 (0, 0)))) (by kernel_rfl) ?_
          change wpAnyH _ _ _ _ _ _ _ _ (World.drew _)
          try simp only [Act.put, List.setIfInBounds_toArray, List.set_cons_succ, List.set_cons_zero]
          have hS := GB17.out
          refine takeH 0 (v := ?_) rfl rfl (by kernel_rfl) (by kernel_rfl) (by kernel_rfl) (fun _ _ _ h => h) hS (yieldsIf_run rfl ?_) ?_
          rotate_left
          focus (intro w hSw; go_simp; try with_reducible rfl)
          simp only [List.setIfInBounds_toArray, List.set_cons_succ, List.set_cons_zero]
          refine takeH 1 (v := ?_) rfl rfl (by kernel_rfl) (by kernel_rfl) (by kernel_rfl) (fun _ _ _ h => h) hS (yieldsIf_run rfl ?_) ?_
          rotate_left
          focus (intro w hSw; go_simp; try with_reducible rfl)
          simp only [List.setIfInBounds_toArray, List.set_cons_succ, List.set_cons_zero]
          refine takeH 3 rfl rfl (by kernel_rfl) (by kernel_rfl) (by kernel_rfl) (fun _ _ _ h => h) hS (yieldsIf_load_row rfl rfl W11.heap.size rfl (fun _ h => h) Tryz.underlying41 rfl HIB.out) ?_
          simp only [List.setIfInBounds_toArray, List.set_cons_succ, List.set_cons_zero]
          clear hS
          refine anyH_step (i := 2) (by kernel_rfl) rfl rfl (fun K hK => ?_)
          go_simp
          go_at_call 34
          refine (hoth _).mono ?_
          rintro e w' ⟨rfl, rfl⟩
          refine hK _ _ (GB17.out) ?_
          clear hK K
          try simp only [Act.put, List.setIfInBounds_toArray, List.set_cons_succ, List.set_cons_zero]
          have hS := GB17.out
          refine takeH 4 rfl rfl (by kernel_rfl) (by kernel_rfl) (by kernel_rfl) (fun _ _ _ h => h) hS (yieldsIf_build (l := [(0, .int .u32 oa), (1, .agg (blkA sB))]) rfl rfl (by simp [Act.eval]) HBTP.out) ?_
          simp only [List.setIfInBounds_toArray, List.set_cons_succ, List.set_cons_zero]
          clear hS
          refine anyH_step (i := 5) (by kernel_rfl) rfl rfl (fun K hK => ?_)
          refine wp_bs (l := #[(0, .agg (putA oa sB))]) rfl (by simp [Act.eval]) HBSL.out ?_
          refine hK _ _ (GB18.out) ?_
          clear hK K
          try simp only [Act.put, List.setIfInBounds_toArray, List.set_cons_succ, List.set_cons_zero]
          refine anyH_step (i := 6) (by kernel_rfl) rfl rfl (fun K hK => ?_)
          refine wp_append_own _ _ _ _ rfl B 52 i0 (.agg (putA 0 zb)) 257 260 Tryz.underlying48 hi hz0 hz1 hz2 (putA_size 0 zb) (by decide) vo acc.length (rowsL acc) (by rfl) OW18.out ⟨W17.heap.size, 0, none⟩ 1 1 _ rfl HSZP.out HNEW.out HONE.out (by unfold maxLen; omega) (by omega) hBW ?_
          intro v9 w9 ho9 hg9 hn9
          obtain ⟨gb9, hst9⟩ := FIN.out v9 w9 ho9 hg9
          have GB9 := hideIt gb9
          clear ho9 hg9 hn9 gb9
          refine hK _ _ (GB9.out) ?_
          clear hK K
          try simp only [Act.put, List.setIfInBounds_toArray, List.set_cons_succ, List.set_cons_zero]
          have hS := GB9.out
          refine takeH 7 (v := ?_) rfl rfl (by kernel_rfl) (by kernel_rfl) (by kernel_rfl) (fun _ _ _ h => h) hS (yieldsIf_run rfl ?_) ?_
          rotate_left
          focus (intro w hSw; go_simp; try with_reducible rfl)
          simp only [List.setIfInBounds_toArray, List.set_cons_succ, List.set_cons_zero]
          clear hS
          refine wpAnyH_done (by kernel_rfl) ?_ _
          obtain ⟨p6, c6, rfl, _⟩ := hLl.out
          have hmu := fillP_lt S (T.tl ((k : Int) / 64)) k r
          rw [hsp.out] at hmu
          have HMU := hideIt hmu
          clear hmu
          go_wp2_with fail
          go_step3
          refine ⟨rfl, ⟨B, g, tm, W4, HE.out, ll, _, _, _, rfl, rfl, rfl, rfl, rfl, rfl, rfl, rfl, hst9⟩, ?_⟩
          exact HMU.out
        | some q =>
          have hpe : pickA 0 q = pv := by rw [HPV.out, HPK0.out]; rfl
          clear hpk
          obtain ⟨zP, hzP⟩ : ∃ q, q = pickA 0 z16 := ⟨_, rfl⟩
          have hz74 : ∀ w, (zeroValue 74).run Tryz.prog w = .ok (.agg zP) w := by rw [hzP]; exact zero74
          rw [← hzP] at epv
          have hv : Value.tuple #[(look (encO (some q)) 0).getD (.agg zP), .bool (look (encO (some q)) 0).isSome] = .tuple #[.agg pv, .bool true] := by rw [← hpe]; rfl
          have HV := hideIt hv
          have HIY := hideIt HIP.out
          have eY := epv
          have oY := opv
          clear hv hzP
          go_upto_region 14 with (first
            | (go_at_call 30; (with_reducible refine hat.mono ?_); rintro e W10 ⟨rfl, hA10, hk10⟩
               have hx10 := (hk10.block _ (Array.getElem?_eq_some_iff.1 HX8.out).1 (by have := HKP.out.size; omega)).trans HX8.out
               have K10 : Keeps (fun k => k = T.pm ∨ k = T.tm ∨ k = tm) w1 W10 := ((HK6.out.mono (G := fun k => k = T.pm ∨ k = T.tm ∨ k = tm) (fun _ _ h => by omega)).trans (Keeps.of_below HKW.out)).trans (hk10.mono (fun _ _ h => .inl h))
               have hm10 : MapAt W10 tm (encO (some q)) := HM8.out.of_block (hk10.block tm HM8.out.lt (by omega))
               have HX10 := hideIt hx10
               have HA10 := hideIt hA10
               have HK10 := hideIt K10
               have HM10 := hideIt hm10
               have HKT := hideIt hk10
               clear hx10 hA10 hk10 K10 hm10 hat)
            | (with_reducible refine wl_extract rfl rfl ?_)
            | (with_reducible refine wl_load rfl HX10.out Tryz.underlying69 rfl HIX.out ?_)
            | (go_at_call 31; (with_reducible refine (htp _).mono ?_); rintro e W11 ⟨rfl, hb11⟩
               have hz11 := hb11.size
               have gb12 : (W11.alloc (.cells (blkA sB) 41)).heap[W11.heap.size]? = some (.cells (blkA sB) 41 (0, 0)) := hget_at _ _ rfl
               have hb12 : Below W10.heap.size W10 (W11.alloc (.cells (blkA sB) 41)) := hb11.alloc hz11 _
               have hs12 : (W11.alloc (.cells (blkA sB) 41)).heap.size = W11.heap.size + 1 := by simp
               have hm12 : MapAt (W11.alloc (.cells (blkA sB) 41)) tm (encO (some q)) := HM10.out.of_block (hb12.block _ HM10.out.lt)
               have HB12 := hideIt hb12
               have GB12 := hideIt gb12
               have HM12 := hideIt hm12
               have gy13 : ((W11.alloc (.cells (blkA sB) 41)).alloc (.cells pv 74)).heap[W11.heap.size + 1]? = some (.cells pv 74 (0, 0)) := hget_at _ _ hs12.symm
               have gb13 : ((W11.alloc (.cells (blkA sB) 41)).alloc (.cells pv 74)).heap[W11.heap.size]? = some (.cells (blkA sB) 41 (0, 0)) := by { rw [hget_past _ _ (by omega)]; exact gb12 }
               have hb13 : Below W10.heap.size W10 ((W11.alloc (.cells (blkA sB) 41)).alloc (.cells pv 74)) := hb12.alloc (by omega) _
               have hs13 : ((W11.alloc (.cells (blkA sB) 41)).alloc (.cells pv 74)).heap.size = W11.heap.size + 2 := by simp
               have HB13 := hideIt hb13
               have GY13 := hideIt gy13
               have GB13 := hideIt gb13
               clear hb12 gb12 hb11 hm12 hb13 gy13 gb13)
            | (with_reducible refine wl_alloc_store zero41 (by simp [Act.put]) rfl rfl HIB.out eB oB ?_))
          simp only [hp1024]
          go_wp2_with (first
            | (with_reducible refine wl_extract rfl rfl ?_)
            | (with_reducible refine wl_lookup_ok rfl rfl HM12.out Tryz.underlying58 Tryz.underlying22 hz74 HV.out ?_; simp only [Act.put, List.setIfInBounds_toArray, List.set_cons_succ, List.set_cons_zero])
            | (with_reducible refine wl_alloc_store hz74 (by simp [Act.put]) rfl rfl HIY.out epv opv ?_)
            | (with_reducible refine wl_load rfl GY13.out Tryz.underlying74 rfl HIP.out ?_
               have hA15 := HA10.out.below HB13.out
               have hm15 := HM10.out.of_block (HB13.out.block _ HM10.out.lt)
               have GB15 := hideIt GB13.out
               have hg15 : ((W11.alloc (.cells (blkA sB) 41)).alloc (.cells pv 74)).heap[g]? = wc.heap[g]? := (HB13.out.block g (by have := HKT.out.size; have := HKW.out.size; omega)).trans (HKT.out.block g (by have := HKW.out.size; omega) (by omega))
               have hk15 := HK10.out.trans (Keeps.of_below HB13.out)
               have HA15 := hideIt hA15
               have HM15 := hideIt hm15
               have HG15 := hideIt hg15
               have HK15 := hideIt hk15
               clear hA15 hm15 hg15 hk15)
            | (go_at_call 33; (with_reducible refine (htu _).mono ?_); rintro e W16 ⟨rfl, hb16⟩
               have hz16 := hb16.size
               have hm16 : MapAt W16 tm (encO (some q)) := HM15.out.of_block (hb16.block _ HM15.out.lt)
               have hA16 : TabAt T W16 S := HA15.out.below hb16
               have gb16 : W16.heap[W11.heap.size]? = some (.cells (blkA sB) 41 (0, 0)) := (hb16.block _ (Array.getElem?_eq_some_iff.1 GB15.out).1).trans GB15.out
               obtain ⟨o7, hr7, hm7⟩ := run_put hm16 Tryz.underlying58 Tryz.underlying22 0 (.agg tv)
               have K7 : Keeps (fun k => k = T.pm ∨ k = T.tm ∨ k = tm) w1 (W16.putObj tm o7) := (HK15.out.trans (Keeps.of_below hb16)).putObj (.inr (.inr rfl)) _
               have hA7 : TabAt T (W16.putObj tm o7) S := hA16.of_blocks (fun k hk => World.putObj_heap_other (by rcases hk with rfl | rfl | rfl | rfl | rfl | rfl <;> omega))
               have gb7 : (W16.putObj tm o7).heap[W11.heap.size]? = some (.cells (blkA sB) 41 (0, 0)) := by { rw [World.putObj_heap_other (by have := HM10.out.lt; omega)]; exact gb16 }
               have hl7 : (W16.putObj tm o7).heap[g]? = wc.heap[g]? := by { rw [World.putObj_heap_other (by omega), hb16.block g (by have := HK15.out.size; omega)]; exact HG15.out }
               have hms : MapAt (W16.putObj tm o7) tm (encO (some (turnL pk0 (k / 64)))) := by { rw [HTV.out] at hm7; exact hm7 }
               have HR7 := hideIt hr7
               have HK7 := hideIt K7
               have HA7' := hideIt hA7
               have GB7 := hideIt gb7
               have HL7' := hideIt hl7
               have HMS := hideIt hms
               clear hm16 hA16 gb16 hr7 hm7 K7 hA7 gb7 hl7 hms hb16)
            | (with_reducible refine wl_mapUpdate (m := .map (some tm)) (k := .int .u32 0) (v := .agg tv) rfl rfl rfl HR7.out ?_))
          generalize W16.putObj tm o7 = W17 at HK7 HA7' GB7 HL7' HMS ⊢
          have own17 : W17.ownsRow B 52 257 vo acc.length (rowsL acc) := own_blocks HOWN.out (fun k' hB' hk' => HK7.out.block k' hk' (by omega))
          obtain ⟨hat1, hat2⟩ := T.at_lt hT ((k : Int) / 64) hp0 (by have hpl := plan5 T.n hT.n1 hT.n2; have hfi : T.fi = planFi T.n := rfl; omega)
          have hoth := fun W => cother_any (T.at ((k : Int) / 64)) (by omega) (by omega) W
          obtain ⟨oa, hoa⟩ : ∃ x, x = otherI (T.at ((k : Int) / 64)) := ⟨_, rfl⟩
          rw [← hoa] at hoth
          obtain ⟨W18, hW18⟩ : ∃ W, W = W17.drew.alloc (.cells (putA oa sB) 52) := ⟨_, rfl⟩
          have gb17 : W17.drew.heap[W11.heap.size]? = some (.cells (blkA sB) 41 (0, 0)) := GB7.out
          have hb17 := (Array.getElem?_eq_some_iff.1 gb17).1
          have gb18 : W18.heap[W11.heap.size]? = some (.cells (blkA sB) 41 (0, 0)) := by rw [hW18, hget_past _ _ hb17]; exact gb17
          have gp18 : W18.heap[W17.heap.size]? = some (.cells (putA oa sB) 52 (0, 0)) := by rw [hW18]; exact hget_at _ _ rfl
          have own18 : W18.ownsRow B 52 257 vo acc.length (rowsL acc) := by rw [hW18]; exact (own17.drew).alloc _
          have hb18 : Below W17.heap.size W17 W18 := by rw [hW18]; exact ((Below.refl _ _).drew).alloc (Nat.le_refl _) _
          have hs18 := hb18.size
          have hnew := news_row gp18
          have hone : ∀ u ∈ (putA oa sB).toList, u.oneCell' = true := fun u hu => (Array.all_eq_true_iff_forall_mem.1 (putA_one oa sB)) u (by simpa using hu)
          have hszp : (putA oa sB).toList.length = 1 * 257 := by rw [Array.length_toList, putA_size, HLB.out]
          have hbs : (Instr.buildSlice 48 1 #[(0, .agg (putA oa sB))]).run Tryz.prog W17.drew = .ok (.slice (some ⟨W17.heap.size, 0, none⟩) 1 1) W18 := by rw [run_bs48 oa sB HLB.out, hW18]; rfl
          have hnvo : ∀ k', vo.ownBlock = some k' → B ≤ k' ∧ k' < w1.heap.size := by
            intro k' hk'
            rcases HOWN.out.2 with ⟨rfl, _⟩ | ⟨g', cap', cur', rfl, hbg', hgg', _⟩
            · cases hk'
            · cases hk'; exact ⟨hbg', (Array.getElem?_eq_some_iff.1 hgg').1⟩
          have hkl : (keyL S).length = S.length := by rw [keyL, sortI_length, List.length_map]
          have hz1B : B ≤ w1.heap.size := by have := HKP.out.size; omega
          have hz17 := HK7.out.size
          have fin : ∀ v' w9, w9.ownsRow B 52 257 v' (acc.length + 1) (rowsL acc ++ (putA oa sB).toList) → W18.grownBy w9 vo.ownBlock →
              w9.heap[W11.heap.size]? = some (.cells (blkA sB) 41 (0, 0)) ∧ Hid (SealSt T S B g tm W4 v' u6 w9 ll (some (turnL pk0 ((k : Int) / 64).toNat)) (acc ++ [(otherI (T.at ((k : Int) / 64)), sB)])) := by
            intro v' w9 ho9 hg9
            have e9 : ∀ k', k' < W17.heap.size → (B ≤ k' → w1.heap.size ≤ k') → w9.heap[k']? = W17.heap[k']? := fun k' h1 h2 => (hg9.block k' (by omega) (fun e => by have := hnvo _ e.symm; omega)).trans (hb18.block k' h1)
            have hzz : W11.heap.size < W17.heap.size := hb17
            refine ⟨(e9 _ hb17 (fun _ => by have := HKT.out.size; have := HKW.out.size; omega)).trans GB7.out, HST0.out.next ?_ ?_ ?_ ?_ HPK0.out HPL.out ?_ hsp.out hky.out HSB.out HLB.out⟩
            · exact (((HK7.out.mono (G := fun k => k = T.pm ∨ k = T.tm ∨ k = tm ∨ B ≤ k) (fun _ _ h => by omega)).trans (Keeps.of_below hb18))).grown hg9 (fun k' e => .inl (.inr (.inr (.inr (hnvo k' e).1))))
            · exact hLl.out.of_block ((e9 g (by have := HKT.out.size; have := HKW.out.size; omega) (fun _ => by omega)).trans HL7'.out)
            · exact HA7'.out.of_blocks (fun k' hk' => e9 k' (by have := HA7'.out.lt; rcases hk' with rfl | rfl | rfl | rfl | rfl | rfl <;> omega) (fun _ => by rcases hk' with rfl | rfl | rfl | rfl | rfl | rfl <;> omega))
            · have e := HMS.out.of_block (e9 tm (by omega) (fun _ => by omega))
              rw [show ((k : Int) / 64).toNat = k / 64 by omega]
              exact e
            · rw [← hoa]; exact ho9
          have FIN := hideIt fin
          have OW18 := hideIt own18
          have HNEW := hideIt hnew
          have HONE := hideIt hone
          have HSZP := hideIt hszp
          have HBSL := hideIt hbs
          have HBTP := hideIt (built52 oa sB HLB.out)
          have GB17 := hideIt gb17
          have GB18 := hideIt gb18
          have HKL := hideIt hkl
          have hfw : acc.length ≤ 100000 := by omega
          have hBW : B ≤ W18.heap.size := by omega
          clear own17 hoa hW18 gb17 gb18 gp18 own18 hb18 hs18 hnew hone hszp hbs hnvo hkl fin hb17
          refine wp_region_held (S := (fun w' : World => w'.heap[W11.heap.size]? = some (.cells (blkA sB) 41 (0, 0)))) (by kernel_rfl) ?_
          change wpAnyH _ _ _ _ _ _ _ _ (World.drew _)
          try simp only [Act.put, List.setIfInBounds_toArray, List.set_cons_succ, List.set_cons_zero]
          have hS := GB17.out
          refine takeH 0 (v := ?_) rfl rfl (by kernel_rfl) (by kernel_rfl) (by kernel_rfl) (fun _ _ _ h => h) hS (yieldsIf_run rfl ?_) ?_
          rotate_left
          focus (intro w hSw; go_simp; try with_reducible rfl)
          simp only [List.setIfInBounds_toArray, List.set_cons_succ, List.set_cons_zero]
          refine takeH 1 (v := ?_) rfl rfl (by kernel_rfl) (by kernel_rfl) (by kernel_rfl) (fun _ _ _ h => h) hS (yieldsIf_run rfl ?_) ?_
          rotate_left
          focus (intro w hSw; go_simp; try with_reducible rfl)
          simp only [List.setIfInBounds_toArray, List.set_cons_succ, List.set_cons_zero]
          refine takeH 3 rfl rfl (by kernel_rfl) (by kernel_rfl) (by kernel_rfl) (fun _ _ _ h => h) hS (yieldsIf_load_row rfl rfl W11.heap.size rfl (fun _ h => h) Tryz.underlying41 rfl HIB.out) ?_
          simp only [List.setIfInBounds_toArray, List.set_cons_succ, List.set_cons_zero]
          clear hS
          refine anyH_step (i := 2) (by kernel_rfl) rfl rfl (fun K hK => ?_)
          go_simp
          go_at_call 34
          refine (hoth _).mono ?_
          rintro e w' ⟨rfl, rfl⟩
          refine hK _ _ (GB17.out) ?_
          clear hK K
          try simp only [Act.put, List.setIfInBounds_toArray, List.set_cons_succ, List.set_cons_zero]
          have hS := GB17.out
          refine takeH 4 rfl rfl (by kernel_rfl) (by kernel_rfl) (by kernel_rfl) (fun _ _ _ h => h) hS (yieldsIf_build (l := [(0, .int .u32 oa), (1, .agg (blkA sB))]) rfl rfl (by simp [Act.eval]) HBTP.out) ?_
          simp only [List.setIfInBounds_toArray, List.set_cons_succ, List.set_cons_zero]
          clear hS
          refine anyH_step (i := 5) (by kernel_rfl) rfl rfl (fun K hK => ?_)
          refine wp_bs (l := #[(0, .agg (putA oa sB))]) rfl (by simp [Act.eval]) HBSL.out ?_
          refine hK _ _ (GB18.out) ?_
          clear hK K
          try simp only [Act.put, List.setIfInBounds_toArray, List.set_cons_succ, List.set_cons_zero]
          refine anyH_step (i := 6) (by kernel_rfl) rfl rfl (fun K hK => ?_)
          refine wp_append_own _ _ _ _ rfl B 52 i0 (.agg (putA 0 zb)) 257 260 Tryz.underlying48 hi hz0 hz1 hz2 (putA_size 0 zb) (by decide) vo acc.length (rowsL acc) (by rfl) OW18.out ⟨W17.heap.size, 0, none⟩ 1 1 _ rfl HSZP.out HNEW.out HONE.out (by unfold maxLen; omega) (by omega) hBW ?_
          intro v9 w9 ho9 hg9 hn9
          obtain ⟨gb9, hst9⟩ := FIN.out v9 w9 ho9 hg9
          have GB9 := hideIt gb9
          clear ho9 hg9 hn9 gb9
          refine hK _ _ (GB9.out) ?_
          clear hK K
          try simp only [Act.put, List.setIfInBounds_toArray, List.set_cons_succ, List.set_cons_zero]
          have hS := GB9.out
          refine takeH 7 (v := ?_) rfl rfl (by kernel_rfl) (by kernel_rfl) (by kernel_rfl) (fun _ _ _ h => h) hS (yieldsIf_run rfl ?_) ?_
          rotate_left
          focus (intro w hSw; go_simp; try with_reducible rfl)
          simp only [List.setIfInBounds_toArray, List.set_cons_succ, List.set_cons_zero]
          clear hS
          refine wpAnyH_done (by kernel_rfl) ?_ _
          obtain ⟨p6, c6, rfl, _⟩ := hLl.out
          have hmu := fillP_lt S (T.tl ((k : Int) / 64)) k r
          rw [hsp.out] at hmu
          have HMU := hideIt hmu
          clear hmu
          go_wp2_with fail
          go_step3
          refine ⟨rfl, ⟨B, g, tm, W4, HE.out, ll, _, _, _, rfl, rfl, rfl, rfl, rfl, rfl, rfl, rfl, hst9⟩, ?_⟩
          exact HMU.out
end Go.Proofs.YtnibehcgnhdcgaaGreatDoor
