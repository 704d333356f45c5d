/- 'head': a table that the document has. -/
import Derived.Test.YtnibehcgnhdcgaaGreatDoorM25
namespace Go.Proofs.YtnibehcgnhdcgaaGreatDoor
open Go.RowKit

theorem own_slice {w : World} {B : Nat} {e : TypeId} {size n : Nat} {v : Value} {xs : List Value} (h : w.ownsRow B e size v n xs) : ∃ p c, v = .slice p n c := by
  rcases h.2 with ⟨rfl, hn⟩ | ⟨g, cap, cur, rfl, _⟩
  · exact ⟨none, 0, by rw [show n = 0 from by omega]⟩
  · exact ⟨_, _, rfl⟩
theorem own_some {w : World} {B : Nat} {e : TypeId} {size n : Nat} {v : Value} {xs : List Value} (h : w.ownsRow B e size v n xs) (hn : 0 < n) : ∃ g c, v = .slice (some ⟨g, 0, none⟩) n c := by
  rcases h.2 with ⟨rfl, hz⟩ | ⟨g, cap, cur, rfl, _⟩
  · omega
  · exact ⟨_, _, rfl⟩
/-- Two puts in a row: where their parts lie. -/
theorem two_puts {w : World} {B g c : Nat} {a1 a2 : Int} {b1 b2 : List UInt8} (h1 : b1.length = 256) (h : w.ownsRow B 52 257 (.slice (some ⟨g, 0, none⟩) 2 c) 2 (rowsL [(a1, b1), (a2, b2)])) :
    w.cell? ⟨g, 0, none⟩ = some (.int .u32 a1) ∧ w.rangeAt g 1 (b1.map byteV) ∧ w.cell? ⟨g, 257, none⟩ = some (.int .u32 a2) ∧ w.rangeAt g 258 (b2.map byteV) := by
  have hc : ∀ j u, (rowsL [(a1, b1), (a2, b2)])[j]? = some u → w.cell? ⟨g, j, none⟩ = some u := by
    intro j u hu
    have := h.cells (g := g) rfl j u hu
    rwa [Addr.add_mid, Nat.zero_add] at this
  have e : rowsL [(a1, b1), (a2, b2)] = (.int .u32 a1 :: b1.map byteV) ++ (.int .u32 a2 :: b2.map byteV) := by
    simp [rowsL, putA]
  rw [e] at hc
  refine ⟨hc 0 _ rfl, fun j v hv => hc _ _ ?_, hc _ _ ?_, fun j v hv => hc _ _ ?_⟩
  · rw [Nat.add_comm 1 j, List.cons_append, List.getElem?_cons_succ, List.getElem?_append_left (by
      rcases Nat.lt_or_ge j (b1.map byteV).length with h | h
      · exact h
      · rw [List.getElem?_eq_none h] at hv; cases hv)]
    exact hv
  · rw [List.getElem?_append_right (by simp [h1])]
    simp [h1]
  · rw [List.getElem?_append_right (by simp [h1]; omega)]
    simp only [List.length_cons, List.length_map, h1]
    rw [show 258 + j - (256 + 1) = j + 1 from by omega, List.getElem?_cons_succ]
    exact hv
set_option maxRecDepth 100000 in
set_option maxHeartbeats 4000000 in
theorem head_any (w : World) : Calls Tryz.prog 6 #[] w fun e w' => e = .returned (.bool true) ∧ Below w.heap.size w w' := by
  have hnew := dnew_any 64 (by omega) (by omega) w
  obtain ⟨rA, hA⟩ : ∃ r, r = rootA 1 64 0 (64 - planFi 64) 1 (planFi 64) := ⟨_, rfl⟩
  have hfm := fun db mb W h => format_any db mb 64 (by omega) (by omega) W h
  have hop := fun db mb G W h => open_any db mb 64 1 0 (by omega) (by omega) G W h
  have hon := fun W => open_nil 1 64 0 (by omega) (by omega) W
  have iR : (Tryz.prog.info? 31).map (·.size) = some rA.size := by rw [hA]; exact size31 _ _ _ _ _ _
  have eR : (rootA 0 0 0 0 0 0).size = rA.size := by rw [hA]; rfl
  have oR : rA.all (·.oneCell') = true := by rw [hA]; exact rootA_one _ _ _ _ _ _
  simp only [← hA] at hfm hop hon
  have IR := hideIt iR
  have ER := hideIt eR
  have OR := hideIt oR
  clear iR eR oR hA
  go_enter Tryz.func6, Tryz.ntmps6
  go_upto_region 2 with (first
    | (go_at_call 7; (with_reducible refine hnew.mono ?_); rintro e W1 ⟨rfl, hD1, hb1, hs1⟩)
    | (with_reducible refine wl_extract rfl rfl ?_))
  have HD1 := hideIt hD1
  have hf1 := hfm _ _ W1 hD1
  clear hD1 hnew hfm
  go_upto_region 3 with (first
    | (go_at_call 8; (with_reducible refine hf1.mono ?_); rintro e W2 ⟨rfl, hD2, hk2⟩)
    | (with_reducible refine wl_extract rfl rfl ?_)
    | (with_reducible refine wl_alloc_store zero31 (by simp [Act.put]) rfl rfl IR.out ER.out OR.out ?_))
  obtain ⟨b, hlb, hD2⟩ := hD2.out
  obtain ⟨W3, hW3⟩ : ∃ W, W = W2.alloc (.cells rA 31) := ⟨_, rfl⟩
  have hs2 := hk2.size
  have g3 : W3.heap[W2.heap.size]? = some (.cells rA 31 (0, 0)) := by rw [hW3, hget_at _ _ rfl]
  have hs3 : W3.heap.size = W2.heap.size + 1 := by rw [hW3]; simp
  have hB3 : Below w.heap.size w W3 := by
    rw [hW3]
    exact (hb1.trans (hk2.below hb1.size (by intro k hk; omega))).alloc (by omega) _
  have hD3 := hD2.below (show Below W2.heap.size W2 W3 by rw [hW3]; exact (Below.refl _ _).alloc (Nat.le_refl _) _) hD2.lt hD2.map.lt
  rw [← hW3]
  have ho3 := hop _ _ _ W3 hD3
  have G3 := hideIt g3
  have HB3 := hideIt hB3
  clear hW3 g3 hB3 hD2 hf1 hop hD3 hk2 HD1 hb1
  go_upto_region 4 with (first
    | (with_reducible refine wl_load rfl G3.out Tryz.underlying31 rfl IR.out ?_)
    | (go_at_call 9; (with_reducible refine ho3.mono ?_); rintro e W4 ⟨tb, pm, tm, sm, rfl, hb4, l1, l2, l3, l4, hT4⟩)
    | (with_reducible refine wl_extract rfl rfl ?_))
  obtain ⟨T, hTe⟩ : ∃ T, T = tab0 tb (w.heap.size + 1) w.heap.size pm tm sm b := ⟨_, rfl⟩
  have hH : HeadOk T := by rw [hTe]; exact tab0_ok _ _ _ _ _ _ _
  have hA4 : TabAt T W4 [] := by rw [hTe]; exact hT4 z16 (fun _ => z64)
  have etb : T.tb = tb := by rw [hTe]; rfl
  have hF : ∀ k, (k = T.pm ∨ k = T.tm ∨ k = T.sm) → W3.heap.size ≤ k := by
    rw [hTe]
    rintro k (rfl | rfl | rfl)
    · exact l2
    · exact l3
    · exact l4
  have hget : ∀ W S, TabAt T W S → Calls Tryz.prog 12 #[.pointer (some ⟨tb, 0, none⟩), .int .u32 9] W fun e w' => e = .returned (.tuple #[.int .u16 (T.now S 9), .int .i64 (T.err 9)]) ∧ TabAt T w' S ∧ Keeps (fun k => k = T.pm ∨ k = T.tm) W w' := fun W S h => by
    have := tgetc_any T hH.ok W S h 9 (by omega)
    rw [etb] at this
    exact this
  have hset9 : ∀ W S x, TabAt T W S → Calls Tryz.prog 10 #[.pointer (some ⟨tb, 0, none⟩), .int .u32 9, .int .u16 x] W fun e w' => e = .returned (.int .i64 (T.setErr 9)) ∧ TabAt T w' (T.setTo S 9 x) ∧ Keeps (fun k => k = T.pm ∨ k = T.tm ∨ k = T.sm) W w' := fun W S x h => by
    have := tset_any T hH.ok W S h 9 (by omega) x
    rw [etb] at this
    exact this
  have hset5 : ∀ W S x, TabAt T W S → Calls Tryz.prog 10 #[.pointer (some ⟨tb, 0, none⟩), .int .u32 5, .int .u16 x] W fun e w' => e = .returned (.int .i64 (T.setErr 5)) ∧ TabAt T w' (T.setTo S 5 x) ∧ Keeps (fun k => k = T.pm ∨ k = T.tm ∨ k = T.sm) W w' := fun W S x h => by
    have := tset_any T hH.ok W S h 5 (by omega) x
    rw [etb] at this
    exact this
  have hold : ∀ W S, TabAt T W S → Calls Tryz.prog 15 #[.pointer (some ⟨tb, 0, none⟩), .int .u32 9] W fun e w' => e = .returned (.tuple #[.int .u16 (T.old 9), .int .i64 (T.err 9)]) ∧ TabAt T w' S ∧ Keeps (fun k => k = T.pm ∨ k = T.tm) W w' := fun W S h => by
    have := told_any T hH.ok W S h 9 (by omega)
    rw [etb] at this
    exact this
  have hchg : ∀ W, TabAt T W [(9, 2)] → Calls Tryz.prog 14 #[.pointer (some ⟨tb, 0, none⟩)] W (KeysPost W [9]) := fun W h => by
    have := tchanged_any 12 sorts12 (by omega) T hH.ok W [(9, 2)] hH.sok (by simp) h
    rw [etb, keyL92] at this
    exact this
  have hsl : ∀ W S, SetOk T S → S.length ≤ 12 → TabAt T W S → Calls Tryz.prog 13 #[.pointer (some ⟨tb, 0, none⟩)] W (SealPost T S W) := fun W S hS hl h => by
    have := tseal_any 12 sorts12 (by omega) (by omega) T hH.ok W S hS hl h
    rw [etb] at this
    exact this
  have hz4 := hb4.size
  have g4 := (hb4.block _ (by omega)).trans G3.out
  have hB4 := HB3.out.trans (hb4.mono HB3.out.size)
  have hw4 : w.heap.size ≤ W3.heap.size := HB3.out.size
  have HH := hideIt hH
  have HGET := hideIt hget
  have HSET9 := hideIt hset9
  have HSET5 := hideIt hset5
  have HOLD := hideIt hold
  have HCHG := hideIt hchg
  have HSL := hideIt hsl
  have HFF := hideIt hF
  have HON := hideIt hon
  have G4 := hideIt g4
  have HB4 := hideIt hB4
  have HA4 := hideIt hA4
  clear hH hget hset9 hset5 hold hchg hsl hF hon g4 hB4 hA4 hT4 hTe l1 l2 l3 l4 hb4 ho3 G3 HB3
  have now0 := HH.out.now0
  have hg4 := HGET.out W4 [] HA4.out
  rw [now0, HH.out.err9] at hg4
  clear now0
  go_upto_region 7 with (first
    | (go_at_call 12; (with_reducible refine hg4.mono ?_); rintro e W5 ⟨rfl, hA5, hk5⟩)
    | (with_reducible refine wl_extract rfl rfl ?_))
  have hs5 := HSET9.out W5 [] 2 hA5
  rw [HH.out.set1, HH.out.set1e] at hs5
  clear hg4 HA4
  go_upto_region 8 with (first
    | (go_at_call 10; (with_reducible refine hs5.mono ?_); rintro e W6 ⟨rfl, hA6, hk6⟩)
    | (with_reducible refine wl_extract rfl rfl ?_))
  have hg6 := HGET.out W6 _ hA6
  rw [HH.out.now1, HH.out.err9] at hg6
  clear hs5 hA5
  go_upto_region 9 with (first
    | (go_at_call 12; (with_reducible refine hg6.mono ?_); rintro e W7 ⟨rfl, hA7, hk7⟩)
    | (with_reducible refine wl_extract rfl rfl ?_))
  have ho7 := HOLD.out W7 _ hA7
  rw [HH.out.old9, HH.out.err9] at ho7
  clear hg6 hA6
  go_upto_region 10 with (first
    | (go_at_call 15; (with_reducible refine ho7.mono ?_); rintro e W8 ⟨rfl, hA8, hk8⟩)
    | (with_reducible refine wl_extract rfl rfl ?_))
  have hc8 := HCHG.out W8 hA8
  clear ho7 hA7
  go_upto_region 11 with (first
    | (go_at_call 14; (with_reducible refine hc8.mono ?_); rintro e W9 ⟨v9, rfl, ho9, hb9⟩)
    | (with_reducible refine wl_extract rfl rfl ?_))
  have hA9 := hA8.below hb9
  have hs9 := HSET5.out W9 _ 1 hA9
  rw [HH.out.set2, HH.out.set2e] at hs9
  clear hc8
  go_upto_region 12 with (first
    | (go_at_call 10; (with_reducible refine hs9.mono ?_); rintro e W10 ⟨rfl, hA10, hk10⟩)
    | (with_reducible refine wl_extract rfl rfl ?_))
  have hl10 := HSL.out W10 [(9, 2)] HH.out.sok (by simp) hA10
  clear hs9 hA9
  go_upto_region 13 with (first
    | (go_at_call 13; (with_reducible refine hl10.mono ?_); rintro e W11 ⟨v11, rfl, ho11, hpl11, hA11, hk11⟩)
    | (with_reducible refine wl_extract rfl rfl ?_))
  rw [HH.out.puts] at ho11 hpl11
  rw [HH.out.picks]
  have hs11 := HSET9.out W11 _ 0 hA11
  rw [HH.out.set3, HH.out.set1e] at hs11
  clear hl10 hA10
  go_upto_region 14 with (first
    | (go_at_call 10; (with_reducible refine hs11.mono ?_); rintro e W12 ⟨rfl, hA12, hk12⟩)
    | (with_reducible refine wl_extract rfl rfl ?_))
  have hl12 := HSL.out W12 [] HH.out.sok0 (by simp) hA12
  clear hs11
  go_upto_region 15 with (first
    | (go_at_call 13; (with_reducible refine hl12.mono ?_); rintro e W13 ⟨v13, rfl, ho13, _, hA13, hk13⟩)
    | (with_reducible refine wl_extract rfl rfl ?_))
  rw [HH.out.puts0] at ho13
  rw [HH.out.picks0]
  clear hl12
  -- what stays
  have mF : ∀ W W', Keeps (fun k => k = T.pm ∨ k = T.tm) W W' → Keeps (fun k => k = T.pm ∨ k = T.tm ∨ k = T.sm) W W' := fun W W' h => h.mono fun k _ hk => by rcases hk with h | h <;> simp [h]
  have hlt8 := hA8.lt
  have hk11' : Keeps (fun k => k = T.pm ∨ k = T.tm ∨ k = T.sm) W11 W13 := hk12.trans (mF _ _ hk13)
  have hk9' : Keeps (fun k => k = T.pm ∨ k = T.tm ∨ k = T.sm) W9 W13 := (hk10.trans (mF _ _ hk11)).trans hk11'
  have hk8' : Keeps (fun k => k = T.pm ∨ k = T.tm ∨ k = T.sm) W4 W8 := (((mF _ _ hk5).trans hk6).trans (mF _ _ hk7)).trans (mF _ _ hk8)
  have hk4' : Keeps (fun k => k = T.pm ∨ k = T.tm ∨ k = T.sm) W4 W13 := (hk8'.trans (Keeps.of_below hb9)).trans hk9'
  have s9 := hb9.size
  have s10 := hk10.size
  have s8 := hk8'.size
  have o9 := own_blocks ho9 (fun k h1 h2 => hk9'.block k h2 (fun hk => by have := hlt8; omega))
  have o11 := own_blocks ho11 (fun k h1 h2 => hk11'.block k h2 (fun hk => by have := hlt8; omega))
  have g13 := (hk4'.block W2.heap.size (by omega) (fun hk => by have := HFF.out _ hk; omega)).trans G4.out
  have hB13 := HB4.out.trans (hk4'.below HB4.out.size (fun k hk => by have := HFF.out _ hk; omega))
  have h13 := hk4'.size
  have hon := HON.out W13
  have G13 := hideIt g13
  have HB13 := hideIt hB13
  have O9 := hideIt o9
  have O11 := hideIt o11
  have O13 := hideIt ho13
  clear hk5 hk6 hk7 hk8 hk10 hk11 hk12 hk13 hk11' hk9' hk8' hk4' ho9 ho11 ho13 o9 o11 hb9 s9 s10 s8 g13 hB13 hA8 hA11 hA12 hA13 hlt8 mF HGET HSET9 HSET5 HOLD HCHG HSL HFF HON G4 HB4
  obtain ⟨g9, c9, rfl⟩ := own_some O9.out (by decide)
  obtain ⟨g11, c11, rfl⟩ := own_some O11.out (by decide)
  obtain ⟨p13, c13, rfl⟩ := own_slice O13.out
  go_upto_region 16 with (first
    | (with_reducible refine wl_load rfl G13.out Tryz.underlying31 rfl IR.out ?_)
    | (go_at_call 9; (with_reducible refine hon.mono ?_); rintro e W14 ⟨rfl, hb14⟩)
    | (with_reducible refine wl_extract rfl rfl ?_))
  have o9 := own_below O9.out hb14
  have o11 := own_below O11.out hb14
  have cg9 : W14.cell? ⟨g9, 0, none⟩ = some (.int .u32 9) := o9.cells (g := g9) rfl 0 _ rfl
  have lb1 : (putB 84 0 2 c92).length = 256 := hpl11 _ (List.mem_cons_self)
  have lb2 : (putB 80 0 8 p01).length = 256 := hpl11 _ (List.mem_cons_of_mem _ List.mem_cons_self)
  have hr1 := fun W => rtget_any 0 (by omega) (by omega) c92 rfl (by decide) W
  have hr2 := fun W => rpget_any 0 (by omega) (by omega) p01 rfl (by decide) W
  generalize putB 84 0 2 c92 = b1 at hr1 o11 lb1
  generalize putB 80 0 8 p01 = b2 at hr2 o11 lb2
  obtain ⟨a1, r1, a2, r2⟩ := two_puts lb1 o11
  simp only [blkA] at hr1 hr2
  have lg9 : g9 < W14.heap.size := (o9.lt g9 rfl).2
  have lg11 : g11 < W14.heap.size := (o11.lt g11 rfl).2
  have i1 : (Tryz.prog.info? 41).map (·.size) = some (b1.map byteV).length := by rw [List.length_map, lb1]; exact size41
  have i2 : (Tryz.prog.info? 41).map (·.size) = some (b2.map byteV).length := by rw [List.length_map, lb2]; exact size41
  have it := size69' 0 (cs := c92) rfl
  have ip := size74' 0 (cs := p01) rfl
  have et : (tallyA 0 z64).size = (tallyA 0 c92).size := rfl
  have ep : (pickA 0 z16).size = (pickA 0 p01).size := rfl
  have ot := tallyA_one 0 c92
  have op := pickA_one 0 p01
  have hB14 := HB13.out.trans (hb14.mono HB13.out.size)
  have ct9 : ∀ (W : World) g t fr, W.heap[g]? = some (.cells (tallyA 0 c92) t fr) → W.cell? ⟨g, 10, none⟩ = some (.int .u16 2) := fun W g t fr h => by rw [cell_of_row _ _ _ _ _ _ h]; rfl
  have cp0 : ∀ (W : World) g t fr, W.heap[g]? = some (.cells (pickA 0 p01) t fr) → W.cell? ⟨g, 1, none⟩ = some (.int .u64 1) := fun W g t fr h => by rw [cell_of_row _ _ _ _ _ _ h]; rfl
  have R1 := hideIt r1
  have R2 := hideIt r2
  have I1 := hideIt i1
  have I2 := hideIt i2
  have IT := hideIt it
  have IP := hideIt ip
  have ET := hideIt et
  have EP := hideIt ep
  have OT := hideIt ot
  have OP := hideIt op
  have HB14 := hideIt hB14
  have CT9 := hideIt ct9
  have CP0 := hideIt cp0
  have CG9 := hideIt cg9
  have A1 := hideIt a1
  have A2 := hideIt a2
  clear o9 o11 hb14 HB13 O9 O11 O13 hon r1 r2 i1 i2 it ip et ep ot op hB14 ct9 cp0 cg9 a1 a2 hpl11
  go_upto_region 19 with (first
    | (with_reducible refine wpList_load_mid rfl _ _ rfl g11 1 rfl (b1.map byteV) _ R1.out Tryz.underlying41 rfl I1.out ?_)
    | (go_at_call 19; (with_reducible refine (hr1 _).mono ?_); rintro e W15 ⟨rfl, hb15⟩)
    | (with_reducible refine wl_extract rfl rfl ?_)
    | (with_reducible refine wl_alloc_store zero69 (by simp [Act.put]) rfl rfl IT.out ET.out OT.out ?_))
  obtain ⟨W16, hW16⟩ : ∃ W, W = W15.alloc (.cells (tallyA 0 c92) 69) := ⟨_, rfl⟩
  have h15 := hb15.size
  have hb16 : Below W14.heap.size W14 W16 := by rw [hW16]; exact hb15.alloc h15 _
  have h16 : W16.heap.size = W15.heap.size + 1 := by rw [hW16]; simp
  have t16 : W16.heap[W15.heap.size]? = some (.cells (tallyA 0 c92) 69 (0, 0)) := by rw [hW16, hget_at _ _ rfl]
  have r216 : W16.rangeAt g11 258 (b2.map byteV) := fun j v hv => by
    rw [World.cell?_of_block (w := W14) (hb16.block _ lg11)]
    exact R2.out j v hv
  rw [← hW16]
  have R216 := hideIt r216
  have hsame : ∀ W17 : World, Below W16.heap.size W16 W17 → Calls Tryz.prog 21 #[.slice (some ⟨g9, 0, none⟩) 1 c9, .slice (some ⟨W17.heap.size + 1, 0, none⟩) 1 1] ((W17.alloc (.cells (pickA 0 p01) 74)).alloc (.cells #[.int .u32 9] 22)) fun e w' =>
      e = .returned (.bool true) ∧ w'.cell? ⟨g11, 0, none⟩ = some (.int .u32 5) ∧ w'.cell? ⟨g11, 257, none⟩ = some (.int .u32 3) ∧ w'.cell? ⟨W15.heap.size, 10, none⟩ = some (.int .u16 2) ∧ w'.cell? ⟨W17.heap.size, 1, none⟩ = some (.int .u64 1) ∧ Below w.heap.size w w' := by
    intro W17 hb17
    have h17 := hb17.size
    obtain ⟨W18, hW18⟩ : ∃ W, W = (W17.alloc (.cells (pickA 0 p01) 74)).alloc (.cells #[.int .u32 9] 22) := ⟨_, rfl⟩
    have hb18 : Below W17.heap.size W17 W18 := by rw [hW18]; exact ((Below.refl _ W17).alloc (Nat.le_refl _) _).alloc (by simp) _
    have g9' : W18.heap[W17.heap.size + 1]? = some (.cells #[.int .u32 9] 22 (0, 0)) := by rw [hW18, hget_at _ _ (by simp)]
    have gp : W18.heap[W17.heap.size]? = some (.cells (pickA 0 p01) 74 (0, 0)) := by rw [hW18, hget_past _ _ (by simp), hget_at _ _ rfl]
    have s18 : W18.heap.size = W17.heap.size + 2 := by rw [hW18]; simp
    have hbb : Below W14.heap.size W14 W18 := (hb16.trans (hb17.mono (by omega))).trans (hb18.mono (by omega))
    rw [← hW18]
    have hc9 : W18.cell? ⟨g9, 0, none⟩ = some (.int .u32 9) := (World.cell?_of_block (w := W14) (hbb.block _ lg9)).trans CG9.out
    have hc9' : W18.cell? ⟨W17.heap.size + 1, 0, none⟩ = some (.int .u32 9) := by rw [cell_of_row _ _ _ _ _ _ g9']; rfl
    refine (same1_any g9 _ c9 1 9 W18 hc9 hc9').mono ?_
    rintro e W19 ⟨rfl, hb19⟩
    have hbc : Below W14.heap.size W14 W19 := hbb.trans (hb19.mono (by omega))
    refine ⟨rfl, (World.cell?_of_block (w := W14) (hbc.block _ lg11)).trans A1.out, (World.cell?_of_block (w := W14) (hbc.block _ lg11)).trans A2.out, ?_, ?_, HB14.out.trans (hbc.mono HB14.out.size)⟩
    · refine CT9.out W19 _ 69 (0, 0) ?_
      rw [hb19.block _ (by omega), hb18.block _ (by omega), hb17.block _ (by omega), t16]
    · refine CP0.out W19 _ 74 (0, 0) ?_
      rw [hb19.block _ (by omega), gp]
  have HSAME := hideIt hsame
  clear hW16 r216 hb15 hsame
  go_wp2_with (first
    | (with_reducible refine wpList_load_mid rfl _ _ rfl g11 258 rfl (b2.map byteV) _ R216.out Tryz.underlying41 rfl I2.out ?_)
    | (go_at_call 20; (with_reducible refine (hr2 _).mono ?_); rintro e W17 ⟨rfl, hb17⟩)
    | (with_reducible refine wl_extract rfl rfl ?_)
    | (with_reducible refine wl_alloc_store zero74 (by simp [Act.put]) rfl rfl IP.out EP.out OP.out ?_)
    | (go_at_call 21; (with_reducible refine (HSAME.out _ hb17).mono ?_); rintro e W19 ⟨rfl, q1, q2, q3, q4, hb19⟩))
  go_ret
  exact ⟨rfl, hb19⟩
end Go.Proofs.YtnibehcgnhdcgaaGreatDoor
