/- A table is opened; a table that is none. -/
import Derived.Test.YtnibehcgnhdcgaaGreatDoorM20
namespace Go.Proofs.YtnibehcgnhdcgaaGreatDoor
open Go.RowKit

/-- A new device's table is plain. -/
theorem new_ok (tb db mb pm tm sm : Nat) (n : Int) (h1 : 64 ≤ n) (h2 : n ≤ 5000) (b : List UInt8) :
    TabOk { tb := tb, db := db, mb := mb, pm := pm, tm := tm, sm := sm, n := n, gen := 1, picks := 0, G := putD [] 1 b, pk := z16, tl := fun _ => z64 } := by
  have hz : ∀ a : Int, 2 ≤ a → dblk (putD [] 1 b) a = zb := by
    intro a ha
    have hne : (a == 1) = false := by simp; omega
    unfold putD
    split
    · simp [putG, delG, dblk]
    · simp [putG, dblk, List.find?_cons, hne]
  refine ⟨h1, h2, by show (0 : Int) ≤ 0; omega, by show (0 : Int) < 2; omega, ?_, rfl, ?_, ?_, fun _ => rfl, ?_⟩
  · intro W
    show Calls _ _ #[.agg (blkA (dblk (putD [] 1 b) (2 + 0))), _] _ _
    rw [hz _ (by omega)]
    exact pget_zero 0 (by omega) W
  · intro x hx
    simp [z16] at hx
    subst hx
    omega
  · intro p hp0 hp1 W
    have hpl := plan5 n h1 h2
    have hb := bitI_range z16 p
    show Calls _ _ #[.agg (blkA (dblk (putD [] 1 b) (4 + 2 * p + bitI z16 p))), _] _ _
    rw [hz _ (by omega)]
    have hp1' : p < planTl n := hp1
    exact tget_zero p (by omega) W
  · intro p x hx
    simp [z64] at hx
    subst hx
    omega

theorem wl_build {P : Program} {ops : Array Oper} {Q : Exit → Act → World → Prop} {rest : List Oper} {w : World} {T : Array Value} {D : List Deferred} {d ty tt : Nat} {pos : String} {af : Array Edge} {parts : Array (Nat × Operand)} {l : List (Nat × Value)} {cs : Array Value}
    (hl : (parts.map fun (i, x) => (i, (Act.mk T D).eval x)).toList = l) (hb : P.built ty l = some cs) (h : wpList P ops Q rest (Act.put ⟨T, D⟩ (some d) (.agg cs)) w) :
    wpList P ops Q ({ dst := some d, op := .build ty parts, type := tt, pos := pos, after := af, guard := none } :: rest) ⟨T, D⟩ w := by
  subst hl
  refine wpList_build rfl ty parts rfl (by simp only [hb, Option.isSome_some]) ?_
  simp only [hb, Option.getD_some]
  exact h
def OpenPost (db mb : Nat) (n gen picks : Int) (G : List (Int × List UInt8)) (w : World) (e : Ending) (w' : World) : Prop :=
  ∃ tb pm tm sm, e = .returned (.tuple #[.pointer (some ⟨tb, 0, none⟩), .int .i64 0]) ∧ Below w.heap.size w w' ∧ w.heap.size ≤ tb ∧ w.heap.size ≤ pm ∧ w.heap.size ≤ tm ∧ w.heap.size ≤ sm ∧
    ∀ pk tl, TabAt { tb := tb, db := db, mb := mb, pm := pm, tm := tm, sm := sm, n := n, gen := gen, picks := picks, G := G, pk := pk, tl := tl } w' []
set_option maxRecDepth 100000 in
set_option maxHeartbeats 2000000 in
theorem open_any (db mb : Nat) (n gen picks : Int) (h1 : 64 ≤ n) (h2 : n ≤ 5000) (G : List (Int × List UInt8)) (w : World) (hD : DevAt w db mb n G) :
    Calls Tryz.prog 9 #[.pointer (some ⟨db, 0, none⟩), .agg (rootA gen n picks (n - planFi n) 1 (planFi n))] w (OpenPost db mb n gen picks G w) := by
  have hdl := hD.lt
  have hml := hD.map.lt
  obtain ⟨rA, hA⟩ : ∃ r, r = rootA gen n picks (n - planFi n) 1 (planFi n) := ⟨_, rfl⟩
  obtain ⟨pA, hP⟩ : ∃ r, r = planA n := ⟨_, rfl⟩
  have iR : (Tryz.prog.info? 31).map (·.size) = some rA.size := by rw [hA]; exact size31 _ _ _ _ _ _
  have iP : (Tryz.prog.info? 57).map (·.size) = some pA.size := by rw [hP]; show _ = some 3; kernel_rfl
  have eP : (#[.int .u32 0, .int .u32 0, .int .u32 0] : Array Value).size = pA.size := by rw [hP]; rfl
  have oP : pA.all (·.oneCell') = true := by rw [hP]; simp [planA, Value.oneCell']
  obtain ⟨W0, hW0⟩ : ∃ W, W = w.alloc (.cells rA 31) := ⟨_, rfl⟩
  have hb0 : Below w.heap.size w W0 := by rw [hW0]; exact (Below.refl _ _).alloc (Nat.le_refl _) _
  have hs0 : W0.heap.size = w.heap.size + 1 := by rw [hW0]; simp
  have g0 : W0.heap[w.heap.size]? = some (.cells rA 31 (0, 0)) := by rw [hW0, hget_at _ _ rfl]
  have c0 : (w.alloc (.cells rA 31)).cell? ⟨w.heap.size, 1, none⟩ = some (.int .u32 n) := by rw [← hW0, cell_of_row _ _ 1 _ _ _ g0, hA]; rfl
  have hla := layout_any n h1 (by omega) W0
  rw [← hP] at hla
  have hn0 : (n == 0) = false := by simp; omega
  have hmm : ∀ W : World, (Instr.makeMap 58 none).run Tryz.prog W = .ok (.map (some W.heap.size)) (W.alloc (.map #[] 0)) := fun _ => rfl
  have hmm2 : ∀ W : World, (Instr.makeMap 59 none).run Tryz.prog W = .ok (.map (some W.heap.size)) (W.alloc (.map #[] 0)) := fun _ => rfl
  have hmm3 : ∀ W : World, (Instr.makeMap 60 none).run Tryz.prog W = .ok (.map (some W.heap.size)) (W.alloc (.map #[] 0)) := fun _ => rfl
  have hbt : ∀ x y z : Nat, Tryz.prog.built 62 [(0, .pointer (some ⟨db, 0, none⟩)), (1, .agg rA), (2, .agg pA), (3, .map (some x)), (4, .map (some y)), (5, .map (some z))] = some (tblA db gen n picks x y z) := fun x y z => by rw [hA, hP]; kernel_rfl
  have HD := hideIt hD
  have HW0 := hideIt hW0
  have G0 := hideIt g0
  have HA := hideIt hA
  have HIR := hideIt iR
  have HIP := hideIt iP
  have HBT := hideIt hbt
  have HB0 := hideIt hb0
  clear hD hW0 g0 hA hP iR iP hbt hb0
  rw [← HA.out]
  go_enter Tryz.func9, Tryz.ntmps9
  go_wp2_with (first
    | (fail)
    | (go_at_call 23; rw [← HW0.out]; (with_reducible refine hla.mono ?_); rintro e W1 ⟨rfl, hb1⟩
       have hz1 := hb1.size
       have hb2 : Below w.heap.size w (W1.alloc (.cells pA 57)) := (HB0.out.trans (hb1.mono (by omega))).alloc (by omega) _
       have hD2 := HD.out.below hb2 hdl hml
       have gp2 : (W1.alloc (.cells pA 57)).heap[W1.heap.size]? = some (.cells pA 57 (0, 0)) := hget_at _ _ rfl
       have gr2 : (W1.alloc (.cells pA 57)).heap[w.heap.size]? = some (.cells rA 31 (0, 0)) := (hget_past _ _ (by omega)).trans ((hb1.block _ (by omega)).trans G0.out)
       have hsi := dsize_any db mb n _ hD2.c1 hD2.c0
       have HB2 := hideIt hb2
       have GP2 := hideIt gp2
       have GR2 := hideIt gr2
       have HD2 := hideIt hD2
       clear hb2 hD2 gp2 gr2)
    | (with_reducible refine wl_extract rfl rfl ?_)
    | (with_reducible refine wl_alloc_store zero57 (by simp [Act.put]) rfl rfl HIP.out eP oP ?_)
    | (go_at_call 24; (with_reducible refine hsi.mono ?_); rintro e w' ⟨rfl, rfl⟩))
  have hs2 : (W1.alloc (.cells pA 57)).heap.size = W1.heap.size + 1 := by simp
  generalize W1.alloc (.cells pA 57) = W2 at HB2 GP2 GR2 HD2 hs2 hsi ⊢
  have c2 : W2.cell? ⟨w.heap.size, 1, none⟩ = some (.int .u32 n) := by rw [cell_of_row _ _ 1 _ _ _ GR2.out, HA.out]; rfl
  have hsq : ∀ k, Calls Tryz.prog 24 #[.pointer (some ⟨db, 0, none⟩)] (W2.drewN k) fun e w' => e = .returned (.int .u32 n) ∧ w' = W2.drewN k := fun k => by
    have hDk : DevAt (W2.drewN k) db mb n G := HD2.out.of_blocks rfl rfl
    exact (dsize_any db mb n _ hDk.c1 hDk.c0).mono fun _ _ ⟨h, h'⟩ => ⟨h, h'.symm⟩
  clear hla hsi
  go_quiet ((go_at_call 24; exact Calls.quiet_of_same (hsq _)))
  have GR3 : Hid ((W2.drewN nq).heap[w.heap.size]? = some (.cells rA 31 (0, 0))) := GR2.out
  have GP3 : Hid ((W2.drewN nq).heap[W1.heap.size]? = some (.cells pA 57 (0, 0))) := GP2.out
  go_wp2_with (first
    | (with_reducible refine wl_load rfl GR3.out Tryz.underlying31 rfl HIR.out ?_)
    | (with_reducible refine wl_load rfl GP3.out Tryz.underlying57 rfl HIP.out ?_)
    | (refine wl_build (by simp [Act.eval]; exact ⟨rfl, rfl, rfl⟩) (HBT.out _ _ _) ?_))
  obtain ⟨W3, hW3⟩ : ∃ W, W = W2.drewN nq := ⟨_, rfl⟩
  have hs3 : W3.heap.size = W1.heap.size + 1 := by rw [hW3]; exact hs2
  have hb3 : Below w.heap.size w W3 := by rw [hW3]; exact below_drewN HB2.out _
  rw [← hW3]
  refine bodyPost_ret (results_tmp2 rfl _ _ _) rfl ?_
  refine ⟨W1.heap.size + 1 + 1 + 1 + 1, W1.heap.size + 1, W1.heap.size + 1 + 1, W1.heap.size + 1 + 1 + 1, rfl, ?_, by omega, by omega, by omega, by omega, fun pk tl => ?_⟩
  · exact (((hb3.alloc (by omega) _).alloc (by simp; omega) _).alloc (by simp; omega) _).alloc (by simp; omega) _
  · have hD3 : DevAt W3 db mb n G := HD.out.below hb3 hdl hml
    refine ⟨?_, ?_, ⟨[], ?_, by simp⟩, ⟨[], ?_, by simp⟩, ?_, ?_⟩
    · exact hget_at _ _ (by simp; omega)
    · exact hD3.of_blocks (by rw [hget_past _ _ (by simp; omega), hget_past _ _ (by simp; omega), hget_past _ _ (by simp; omega), hget_past _ _ (by omega)]) (by rw [hget_past _ _ (by simp; omega), hget_past _ _ (by simp; omega), hget_past _ _ (by simp; omega), hget_past _ _ (by omega)])
    · have h := (MapAt_new W3).of_block (w' := (((W3.alloc (.map #[] 0)).alloc (.map #[] 0)).alloc (.map #[] 0)).alloc (.cells (tblA db gen n picks (W1.heap.size + 1) (W1.heap.size + 1 + 1) (W1.heap.size + 1 + 1 + 1)) 62)) (by rw [hget_past _ _ (by simp; omega), hget_past _ _ (by simp; omega), hget_past _ _ (by simp)])
      rw [hs3] at h
      exact h
    · have h := (MapAt_new (W3.alloc (.map #[] 0))).of_block (w' := (((W3.alloc (.map #[] 0)).alloc (.map #[] 0)).alloc (.map #[] 0)).alloc (.cells (tblA db gen n picks (W1.heap.size + 1) (W1.heap.size + 1 + 1) (W1.heap.size + 1 + 1 + 1)) 62)) (by rw [hget_past _ _ (by simp), hget_past _ _ (by simp)])
      have e : (W3.alloc (.map #[] 0)).heap.size = W1.heap.size + 1 + 1 := by simp; omega
      rw [e] at h
      exact h
    · have h := (MapAt_new ((W3.alloc (.map #[] 0)).alloc (.map #[] 0))).of_block (w' := (((W3.alloc (.map #[] 0)).alloc (.map #[] 0)).alloc (.map #[] 0)).alloc (.cells (tblA db gen n picks (W1.heap.size + 1) (W1.heap.size + 1 + 1) (W1.heap.size + 1 + 1 + 1)) 62)) (by rw [hget_past _ _ (by simp)])
      have e : ((W3.alloc (.map #[] 0)).alloc (.map #[] 0)).heap.size = W1.heap.size + 1 + 1 + 1 := by simp; omega
      rw [e] at h
      exact h
    · show W1.heap.size + 1 ≠ mb ∧ _
      have h1 : W1.heap.size + 1 ≠ mb := by omega
      have h2 : W1.heap.size + 1 ≠ W1.heap.size + 1 + 1 := by omega
      have h3 : W1.heap.size + 1 ≠ W1.heap.size + 1 + 1 + 1 := by omega
      have h4 : W1.heap.size + 1 + 1 ≠ mb := by omega
      have h5 : W1.heap.size + 1 + 1 ≠ W1.heap.size + 1 + 1 + 1 := by omega
      have h6 : W1.heap.size + 1 + 1 + 1 ≠ mb := by omega
      exact ⟨h1, h2, h3, h4, h5, h6⟩
end Go.Proofs.YtnibehcgnhdcgaaGreatDoor
/- A table that is none. -/
namespace Go.Proofs.YtnibehcgnhdcgaaGreatDoor
open Go.RowKit

section
variable (p : Option Addr) (w : World) (hn : Calls Tryz.prog 28 #[.pointer p] w fun e w' => e = .returned (.bool true) ∧ w = w')
include hn
set_option maxHeartbeats 1000000 in
theorem nold_any (a : Int) : Calls Tryz.prog 15 #[.pointer p, .int .u32 a] w fun e w' => e = .returned (.tuple #[.int .u16 0, .int .i64 1]) ∧ w = w' := by
  go_enter Tryz.func15, Tryz.ntmps15
  go_wp2_with (first
    | (go_at_call 28; (with_reducible refine hn.mono ?_); rintro e w' ⟨rfl, rfl⟩))
  go_ret2
  exact ⟨rfl, rfl⟩
set_option maxHeartbeats 1000000 in
theorem nget_any (a : Int) : Calls Tryz.prog 12 #[.pointer p, .int .u32 a] w fun e w' => e = .returned (.tuple #[.int .u16 0, .int .i64 1]) ∧ w = w' := by
  have ho := nold_any p w hn a
  go_enter Tryz.func12, Tryz.ntmps12
  go_wp2_with (first
    | (go_at_call 15; (with_reducible refine ho.mono ?_); rintro e w' ⟨rfl, rfl⟩))
  go_ret2
  exact ⟨rfl, rfl⟩
set_option maxHeartbeats 1000000 in
theorem nset_any (a x : Int) : Calls Tryz.prog 10 #[.pointer p, .int .u32 a, .int .u16 x] w fun e w' => e = .returned (.int .i64 1) ∧ w = w' := by
  have ho := nold_any p w hn a
  go_enter Tryz.func10, Tryz.ntmps10
  go_wp2_with (first
    | (go_at_call 28; (with_reducible refine hn.mono ?_); rintro e w' ⟨rfl, rfl⟩)
    | (go_at_call 15; (with_reducible refine ho.mono ?_); rintro e w' ⟨rfl, rfl⟩))
  go_ret
  exact ⟨rfl, rfl⟩
set_option maxHeartbeats 1000000 in
theorem nchanged_any : Calls Tryz.prog 14 #[.pointer p] w fun e w' => e = .returned (.slice none 0 0) ∧ w = w' := by
  go_enter Tryz.func14, Tryz.ntmps14
  go_wp2_with (first
    | (go_at_call 28; (with_reducible refine hn.mono ?_); rintro e w' ⟨rfl, rfl⟩))
  go_ret
  exact ⟨rfl, rfl⟩
set_option maxHeartbeats 1000000 in
theorem nfirst_any : Calls Tryz.prog 11 #[.pointer p] w fun e w' => e = .returned (.int .u32 0) ∧ w = w' := by
  go_enter Tryz.func11, Tryz.ntmps11
  go_wp2_with (first
    | (go_at_call 28; (with_reducible refine hn.mono ?_); rintro e w' ⟨rfl, rfl⟩))
  go_ret
  exact ⟨rfl, rfl⟩
set_option maxHeartbeats 1000000 in
theorem nsize_any : Calls Tryz.prog 16 #[.pointer p] w fun e w' => e = .returned (.int .u32 0) ∧ w = w' := by
  go_enter Tryz.func16, Tryz.ntmps16
  go_wp2_with (first
    | (go_at_call 28; (with_reducible refine hn.mono ?_); rintro e w' ⟨rfl, rfl⟩))
  go_ret
  exact ⟨rfl, rfl⟩
set_option maxRecDepth 100000 in
set_option maxHeartbeats 1000000 in
theorem nseal_any : Calls Tryz.prog 13 #[.pointer p] w fun e w' => e = .returned (.tuple #[.slice none 0 0, .int .u32 0, .int .i64 1]) ∧ w = w' := by
  go_enter Tryz.func13, Tryz.ntmps13
  go_wp2_with fail
  refine wp_scope_once 0 (fun _ _ => False) SealMu rfl (fun a w1 hJ => hJ.elim) (fun HR => ?first)
  case first =>
    go_wp2_with (first
      | (go_at_call 28; (with_reducible refine hn.mono ?_); rintro e w' ⟨rfl, rfl⟩))
    simp only [Exit.jump]
    go_wp2_with fail
    refine bodyPost_ret (v := .tuple #[.slice none 0 0, .int .u32 0, .int .i64 1]) (by simp [results, Tryz.results13, go_sem]) rfl ⟨rfl, rfl⟩
end
set_option maxRecDepth 100000 in
set_option maxHeartbeats 1000000 in
/-- Open at no device. -/
theorem open_nil (gen n picks : Int) (h1 : 64 ≤ n) (h2 : n ≤ 5000) (w : World) :
    Calls Tryz.prog 9 #[.pointer none, .agg (rootA gen n picks (n - planFi n) 1 (planFi n))] w fun e w' => e = .returned (.tuple #[.pointer none, .int .i64 1]) ∧ Below w.heap.size w w' := by
  obtain ⟨rA, hA⟩ : ∃ r, r = rootA gen n picks (n - planFi n) 1 (planFi n) := ⟨_, rfl⟩
  obtain ⟨pA, hP⟩ : ∃ r, r = planA n := ⟨_, rfl⟩
  have iP : (Tryz.prog.info? 57).map (·.size) = some pA.size := by rw [hP]; show _ = some 3; kernel_rfl
  have eP : (#[.int .u32 0, .int .u32 0, .int .u32 0] : Array Value).size = pA.size := by rw [hP]; rfl
  have oP : pA.all (·.oneCell') = true := by rw [hP]; simp [planA, Value.oneCell']
  obtain ⟨W0, hW0⟩ : ∃ W, W = w.alloc (.cells rA 31) := ⟨_, rfl⟩
  have hb0 : Below w.heap.size w W0 := by rw [hW0]; exact (Below.refl _ _).alloc (Nat.le_refl _) _
  have hs0 : W0.heap.size = w.heap.size + 1 := by rw [hW0]; simp
  have g0 : W0.heap[w.heap.size]? = some (.cells rA 31 (0, 0)) := by rw [hW0, hget_at _ _ rfl]
  have c0 : (w.alloc (.cells rA 31)).cell? ⟨w.heap.size, 1, none⟩ = some (.int .u32 n) := by rw [← hW0, cell_of_row _ _ 1 _ _ _ g0, hA]; rfl
  have hla := layout_any n h1 (by omega) W0
  rw [← hP] at hla
  have hsi := fun W => dsize_nil W
  have HW0 := hideIt hW0
  have HB0 := hideIt hb0
  have HIP := hideIt iP
  rw [← hA]
  clear hW0 g0 hA hP hb0 iP
  go_enter Tryz.func9, Tryz.ntmps9
  go_wp2_with (first
    | (go_at_call 23; rw [← HW0.out]; (with_reducible refine hla.mono ?_); rintro e W1 ⟨rfl, hb1⟩)
    | (with_reducible refine wl_extract rfl rfl ?_)
    | (with_reducible refine wl_alloc_store zero57 (by simp [Act.put]) rfl rfl HIP.out eP oP ?_)
    | (go_at_call 24; (with_reducible refine (hsi _).mono ?_); rintro e w' ⟨rfl, rfl⟩))
  go_ret2
  exact ⟨rfl, (HB0.out.trans (hb1.mono (by omega))).alloc (by have := hb1.size; omega) _⟩
end Go.Proofs.YtnibehcgnhdcgaaGreatDoor
