/- A root that may be one of a device. -/
import Derived.Test.YtnibehcgnhdcgaaGreatDoorM21
import Derived.Deep.Cut
import Derived.BigQuiet
namespace Go.Proofs.YtnibehcgnhdcgaaGreatDoor
open Go.RowKit

set_option maxRecDepth 100000 in
set_option maxHeartbeats 4000000 in
theorem rmay_any (n gen picks : Int) (h1 : 64 ≤ n) (h2 : n ≤ 5000) (g1 : 1 ≤ gen) (g2 : gen < 18446744073709551616) (p0 : 0 ≤ picks) (p1 : picks < 2) (w : World) :
    Calls Tryz.prog 44 #[.agg (rootA gen n picks (n - planFi n) 1 (planFi n)), .int .u32 n] w fun e w' => e = .returned (.bool true) ∧ Below w.heap.size w w' := by
  obtain ⟨f1, f2, f3⟩ := planFi_lt n h1 (by omega)
  obtain ⟨k1, k2, k3, k4, k5⟩ := plan5 n h1 h2
  have hmay := may_any gen n picks (n - planFi n) 1 (planFi n) ⟨g1, g2, h1, by omega, p0, by omega, by omega, by omega, by omega, by omega, by omega, f2⟩
  have hlay := fun W => layout_any n h1 (by omega) W
  have hA : rootA gen n picks (n - planFi n) 1 (planFi n) = #[.int .u64 gen, .int .u32 n, .int .u32 picks, .int .u32 0, .int .u32 (n - planFi n), .int .u32 1, .int .u32 (planFi n), .int .u8 0] := rfl
  have hP : planA n = #[.int .u32 (planTl n), .int .u32 1, .int .u32 (planFi n)] := by unfold planA; rw [k1]
  rw [hA] at hmay ⊢
  rw [hP] at hlay
  obtain ⟨F, hF⟩ : ∃ F, F = planFi n := ⟨_, rfl⟩
  obtain ⟨Q, hQ⟩ : ∃ Q, Q = planTl n := ⟨_, rfl⟩
  rw [← hF] at hmay f1 f2 f3 ⊢
  simp only [← hF, ← hQ] at hlay
  clear hA hP hF hQ k1 k2 k3 k4 k5
  have hsh : picks / 2 = 0 := by omega
  have hle : n - F ≤ n - F := Int.le_refl _
  go_enter Tryz.func44, Tryz.ntmps44
  go_upto_region 1 with fail
  obtain ⟨W0, hW0⟩ : ∃ W, W = w.alloc (.cells #[.int .u64 gen, .int .u32 n, .int .u32 picks, .int .u32 0, .int .u32 (n - F), .int .u32 1, .int .u32 F, .int .u8 0] 31) := ⟨_, rfl⟩
  have g0 : W0.heap[w.heap.size]? = some (.cells #[.int .u64 gen, .int .u32 n, .int .u32 picks, .int .u32 0, .int .u32 (n - F), .int .u32 1, .int .u32 F, .int .u8 0] 31 (0, 0)) := by rw [hW0, hget_at _ _ rfl]
  have hb0 : Below w.heap.size w W0 := by rw [hW0]; exact (Below.refl _ _).alloc (Nat.le_refl _) _
  have hz0 : w.heap.size < W0.heap.size := by rw [hW0]; simp
  rw [← hW0]
  clear hW0
  have hlay0 := hlay W0
  go_upto_region 2 with (first
    | (go_at_call 23; (with_reducible refine hlay0.mono ?_); rintro e W1 ⟨rfl, hb1⟩)
    | (with_reducible refine wl_extract rfl rfl ?_))
  obtain ⟨W2, hW2⟩ : ∃ W, W = W1.alloc (.cells #[.int .u32 Q, .int .u32 1, .int .u32 F] 57) := ⟨_, rfl⟩
  obtain ⟨pb, hpb⟩ : ∃ pb, pb = W1.heap.size := ⟨_, rfl⟩
  rw [← hW2, ← hpb]
  have hs1 := hb1.size
  have g2p : W2.heap[pb]? = some (.cells #[.int .u32 Q, .int .u32 1, .int .u32 F] 57 (0, 0)) := by rw [hW2, hget_at _ _ hpb]
  have g2r := (show W2.heap[w.heap.size]? = W1.heap[w.heap.size]? by rw [hW2, hget_past _ _ (by omega)]).trans ((hb1.block _ hz0).trans g0)
  have hb2 : Below w.heap.size w W2 := by rw [hW2]; exact (hb0.trans (hb1.mono (by omega))).alloc (by omega) _
  have hz2 : w.heap.size < W2.heap.size := (Array.getElem?_eq_some_iff.1 g2r).1
  have hz3 : pb < W2.heap.size := (Array.getElem?_eq_some_iff.1 g2p).1
  have d0 : W2.cell? ⟨w.heap.size, 0, none⟩ = some (.int .u64 gen) := by rw [cell_of_row _ _ _ _ _ _ g2r]; rfl
  have d1 : W2.cell? ⟨w.heap.size, 1, none⟩ = some (.int .u32 n) := by rw [cell_of_row _ _ _ _ _ _ g2r]; rfl
  have d2 : W2.cell? ⟨w.heap.size, 2, none⟩ = some (.int .u32 picks) := by rw [cell_of_row _ _ _ _ _ _ g2r]; rfl
  have d3 : W2.cell? ⟨w.heap.size, 3, none⟩ = some (.int .u32 0) := by rw [cell_of_row _ _ _ _ _ _ g2r]; rfl
  have d4 : W2.cell? ⟨w.heap.size, 4, none⟩ = some (.int .u32 (n - F)) := by rw [cell_of_row _ _ _ _ _ _ g2r]; rfl
  have d5 : W2.cell? ⟨w.heap.size, 5, none⟩ = some (.int .u32 1) := by rw [cell_of_row _ _ _ _ _ _ g2r]; rfl
  have d6 : W2.cell? ⟨w.heap.size, 6, none⟩ = some (.int .u32 F) := by rw [cell_of_row _ _ _ _ _ _ g2r]; rfl
  have d7 : W2.cell? ⟨w.heap.size, 7, none⟩ = some (.int .u8 0) := by rw [cell_of_row _ _ _ _ _ _ g2r]; rfl
  have hmay2 := hmay W2
  have G2P := hideIt g2p
  have G2R := hideIt g2r
  have HB2 := hideIt hb2
  clear hW2 hpb hb1 g0 hb0 hlay hlay0 hmay g2p g2r hb2
  have fc : ∀ W3, Below W2.heap.size W2 W3 → W3.cell? ⟨w.heap.size, 1, none⟩ = some (.int .u32 n) ∧ W3.cell? ⟨w.heap.size, 2, none⟩ = some (.int .u32 picks) ∧ W3.cell? ⟨w.heap.size, 4, none⟩ = some (.int .u32 (n - F)) ∧ W3.cell? ⟨w.heap.size, 6, none⟩ = some (.int .u32 F) ∧
      W3.cell? ⟨pb, 1, none⟩ = some (.int .u32 1) ∧ W3.cell? ⟨pb, 2, none⟩ = some (.int .u32 F) := fun W3 hb => by
    have r := (hb.block _ hz2).trans G2R.out
    have p := (hb.block _ hz3).trans G2P.out
    refine ⟨?_, ?_, ?_, ?_, ?_, ?_⟩
    · rw [cell_of_row _ _ _ _ _ _ r]; rfl
    · rw [cell_of_row _ _ _ _ _ _ r]; rfl
    · rw [cell_of_row _ _ _ _ _ _ r]; rfl
    · rw [cell_of_row _ _ _ _ _ _ r]; rfl
    · rw [cell_of_row _ _ _ _ _ _ p]; rfl
    · rw [cell_of_row _ _ _ _ _ _ p]; rfl
  have FC := hideIt fc
  clear fc
  go_wp2_with (first
    | (go_at_call 70; (with_reducible refine hmay2.mono ?_); rintro e W3 ⟨rfl, hb3⟩; obtain ⟨z1, z2, z4, z6, y1, y2⟩ := FC.out W3 hb3))
  go_ret
  exact ⟨rfl, HB2.out.trans (hb3.mono HB2.out.size)⟩
end Go.Proofs.YtnibehcgnhdcgaaGreatDoor
/- Blocks and a root are committed. -/
namespace Go.Proofs.YtnibehcgnhdcgaaGreatDoor
open Go.RowKit

theorem anyH_stepG {P : Program} {md : Region.Mode} {ops : Array Oper} {Q : Exit → Act → World → Prop} {S : World → Prop} {i : Nat} {o : Oper} {fuel : Nat} {listed : Array Bool} {a : Act} {w : World}
    (hr : Region.ready md ops listed = [i]) (ho : ops.toList[i]? = some o) (hw : Region.wanted o (yielded ops a.tmps) = true)
    (h : ∀ K : Act → World → Prop, (∀ a w, S w → wpAnyH P md ops Q S fuel (listed.setIfInBounds i true) a w → K a w) → Oper.wp P o a w K Q) : wpAnyH P md ops Q S (fuel + 1) listed a w :=
  wpAnyH_ready hr (by simp) (.cons (by simpa using ho) (fun K hK => by rw [if_pos hw]; exact h K (fun a w hS hw => hK.out a w hS fun _ => hw)) .nil)

set_option maxRecDepth 100000 in
set_option maxHeartbeats 1000000 in
theorem cfar_any (db mb pb : Nat) (n a : Int) (ha1 : 2 ≤ a) (ha2 : a < n) (b : List UInt8) (w : World) (hp : w.cell? ⟨pb, 0, none⟩ = some (.pointer (some ⟨db, 0, none⟩)))
    (h1 : w.cell? ⟨db, 1, none⟩ = some (.map (some mb))) (h0 : w.cell? ⟨db, 0, none⟩ = some (.int .u32 n)) :
    Calls Tryz.prog 43 #[.agg (putA a b), .pointer (some ⟨pb, 0, none⟩)] w fun e w' => e = .returned (.bool false) ∧ Below w.heap.size w w' := by
  obtain ⟨W1, hW1⟩ : ∃ W, W = w.alloc (.cells (putA a b) 52) := ⟨_, rfl⟩
  have hb1 : Below w.heap.size w W1 := by rw [hW1]; exact (Below.refl _ _).alloc (Nat.le_refl _) _
  have g1 : W1.heap[w.heap.size]? = some (.cells (putA a b) 52 (0, 0)) := by rw [hW1, hget_at _ _ rfl]
  have ca : W1.cell? ⟨w.heap.size, 0, none⟩ = some (.int .u32 a) := by rw [cell_of_row _ _ _ _ _ _ g1]; rfl
  have cp : W1.cell? ⟨pb, 0, none⟩ = some (.pointer (some ⟨db, 0, none⟩)) := by rw [hW1]; exact past_any hp
  have c1 : W1.cell? ⟨db, 1, none⟩ = some (.map (some mb)) := by rw [hW1]; exact past_any h1
  have c0 : W1.cell? ⟨db, 0, none⟩ = some (.int .u32 n) := by rw [hW1]; exact past_any h0
  have hsz := fun k => (dsize_any db mb n (W1.drewN k) c1 c0).mono (fun e w' (h : _ ∧ W1.drewN k = w') => (⟨h.1, h.2.symm⟩ : _ ∧ w' = W1.drewN k))
  have hsz1 := (dsize_any db mb n W1.drew c1 c0).mono (fun e w' (h : _ ∧ W1.drew = w') => (⟨h.1, h.2.symm⟩ : _ ∧ w' = W1.drew))
  have hlt : ¬ a < 2 := by omega
  have hge : ¬ n ≤ a := by omega
  have HW1 := hideIt hW1
  clear hp h1 h0 g1 hW1
  go_enter Tryz.func43, Tryz.ntmps43
  go_upto_region 1 with fail
  rw [← HW1.out]
  go_quiet (first | (go_at_call 24; first | exact Calls.quiet_of_same (hsz _) | exact Calls.quiet_of_same hsz1))
  go_wp2
  go_ret
  exact ⟨rfl, below_drewN hb1 nq⟩

set_option maxRecDepth 100000 in
set_option maxHeartbeats 2000000 in
theorem indexF_any (db mb pb cap : Nat) (p : Option Addr) (n : Int) (L : List (Int × List UInt8)) (hL : L.length ≤ 1000) (hLa : ∀ x ∈ L, 2 ≤ x.1 ∧ x.1 < n ∧ x.2.length = 256) (w : World) (hP : PutsAt w db p L)
    (hp : w.cell? ⟨pb, 0, none⟩ = some (.pointer (some ⟨db, 0, none⟩))) (h1 : w.cell? ⟨db, 1, none⟩ = some (.map (some mb))) (h0 : w.cell? ⟨db, 0, none⟩ = some (.int .u32 n)) :
    Calls Tryz.prog 71 #[.slice p L.length cap, .func (.func 43) #[] #[.pointer (some ⟨pb, 0, none⟩)]] w fun e w' => e = .returned (.int .i64 (-1)) ∧ Below w.heap.size w w' := by
  have hpl := World.block_lt_of_cell? w _ hp
  have hdl := World.block_lt_of_cell? w _ h1
  have HLA := hideIt hLa
  have HP := hideIt hP
  have HC := hideIt (And.intro hp (And.intro h1 h0))
  clear hLa hP hp h1 h0
  go_enter Tryz.func71, Tryz.ntmps71
  go_wp2_with fail
  go_loopw [8] (fun v wr => ∃ i : Nat, i ≤ L.length ∧ v = .int .i64 i ∧ Below w.heap.size w wr) (fun v _ => L.length - (intOf v).toNat)
  case atStart => exact ⟨0, Nat.zero_le _, rfl, Below.refl _ _⟩
  case round =>
    obtain ⟨i, hi, rfl, hbr⟩ := hrel
    by_cases hlt : i < L.length
    · obtain ⟨⟨a, b⟩, hx⟩ : ∃ x, L[i]? = some x := ⟨L[i]'hlt, List.getElem?_eq_getElem _⟩
      obtain ⟨ha1, ha2, hbb⟩ : 2 ≤ a ∧ a < n ∧ b.length = 256 := HLA.out _ (List.mem_of_getElem? hx)
      have hPi : PutsAt wr db p L := HP.out.kept (fun k hk _ => hbr.block k hk)
      obtain ⟨g, rfl, hgd, hrg⟩ := hPi i a b hx
      have hfar := cfar_any db mb pb n a ha1 ha2 b wr ((World.cell?_of_block (w := w) (hbr.block _ hpl)).trans HC.out.1) ((World.cell?_of_block (w := w) (hbr.block _ hdl)).trans HC.out.2.1) ((World.cell?_of_block (w := w) (hbr.block _ hdl)).trans HC.out.2.2)
      have isl : (Tryz.prog.info? 52).map (·.size) = some (putA a b).toList.length := by rw [Array.length_toList]; exact size52' a hbb
      have eA : (putA a b).toList.toArray = putA a b := by simp
      have HRG := hideIt hrg
      have HIL := hideIt isl
      have HBR := hideIt hbr
      clear hPi hrg isl hbr hbb hx
      go_wp2_with (first
        | (with_reducible refine wpList_load_mid rfl _ _ rfl g (i * 257) rfl (putA a b).toList _ HRG.out Tryz.underlying52 rfl HIL.out ?_)
        | (go_at_call 43; (with_reducible refine hfar.mono ?_); rintro e w1 ⟨rfl, hb1⟩))
      go_roundw
      case rel => exact ⟨i + 1, by omega, by go_num, HBR.out.trans (hb1.mono HBR.out.size)⟩
      case measure => simp [intOf]; omega
    · obtain rfl : i = L.length := by omega
      go_wp2_with fail
      go_ret
      exact ⟨rfl, hbr⟩
set_option maxHeartbeats 400000 in
theorem contains_any (db mb pb cap : Nat) (p : Option Addr) (n : Int) (L : List (Int × List UInt8)) (hL : L.length ≤ 1000) (hLa : ∀ x ∈ L, 2 ≤ x.1 ∧ x.1 < n ∧ x.2.length = 256) (w : World) (hP : PutsAt w db p L)
    (hp : w.cell? ⟨pb, 0, none⟩ = some (.pointer (some ⟨db, 0, none⟩))) (h1 : w.cell? ⟨db, 1, none⟩ = some (.map (some mb))) (h0 : w.cell? ⟨db, 0, none⟩ = some (.int .u32 n)) :
    Calls Tryz.prog 45 #[.slice p L.length cap, .func (.func 43) #[] #[.pointer (some ⟨pb, 0, none⟩)]] w fun e w' => e = .returned (.bool false) ∧ Below w.heap.size w w' := by
  have hi := indexF_any db mb pb cap p n L hL hLa w hP hp h1 h0
  clear hLa hP hp h1 h0
  go_enter Tryz.func45, Tryz.ntmps45
  go_wp2_with (first
    | (go_at_call 71; (with_reducible refine hi.mono ?_); rintro e w1 ⟨rfl, hb1⟩))
  go_ret
  exact ⟨rfl, hb1⟩

set_option maxRecDepth 100000 in
set_option maxHeartbeats 4000000 in
theorem commit_any (db mb cap : Nat) (p : Option Addr) (n gen picks : Int) (h1 : 64 ≤ n) (h2 : n ≤ 5000) (g1 : 1 ≤ gen) (g2 : gen < 18446744073709551616) (p0 : 0 ≤ picks) (p1 : picks < 2)
    (G L : List (Int × List UInt8)) (hL : L.length ≤ 1000) (hLa : ∀ x ∈ L, 2 ≤ x.1 ∧ x.1 < n ∧ x.2.length = 256) (w : World) (hD : DevAt w db mb n G) (hP : PutsAt w db p L) :
    Calls Tryz.prog 18 #[.pointer (some ⟨db, 0, none⟩), .slice p L.length cap, .agg (rootA gen n picks (n - planFi n) 1 (planFi n))] w fun e w' => e = .returned (.int .i64 0) ∧
      Hid (∃ b, b.length = 256 ∧ DevAt w' db mb n (putD (flushG G L) (gen % 2) b)) ∧ Keeps (fun k => k = db ∨ k = mb) w w' := by
  have hmf : ∀ (fn : Fn) (first cap : Array Value) (w : World), (Instr.makeFunc fn first cap).run Tryz.prog w = .ok (.func fn first cap) w := fun _ _ _ _ => rfl
  obtain ⟨f1, f2, f3⟩ := planFi_lt n h1 (by omega)
  have hdl := hD.lt
  have hml := hD.map.lt
  have hrt : RootOk gen n picks (n - planFi n) 1 (planFi n) := ⟨g1, g2, h1, by omega, p0, by omega, by omega, by omega, by omega, by omega, by omega, f2⟩
  have hmayW := fun W => rmay_any n gen picks h1 h2 g1 g2 p0 p1 W
  obtain ⟨rA, hA⟩ : ∃ r, r = rootA gen n picks (n - planFi n) 1 (planFi n) := ⟨_, rfl⟩
  have iR : (Tryz.prog.info? 31).map (·.size) = some rA.size := by rw [hA]; exact size31 _ _ _ _ _ _
  obtain ⟨W1, hW1⟩ : ∃ W, W = (w.alloc (.cells #[.pointer (some ⟨db, 0, none⟩)] 25)).alloc (.cells rA 31) := ⟨_, rfl⟩
  have hs1 : W1.heap.size = w.heap.size + 2 := by rw [hW1]; simp
  have hb1 : Below w.heap.size w W1 := by rw [hW1]; exact ((Below.refl _ w).alloc (Nat.le_refl _) _).alloc (by simp) _
  have gp : W1.heap[w.heap.size]? = some (.cells #[.pointer (some ⟨db, 0, none⟩)] 25 (0, 0)) := by rw [hW1, hget_past _ _ (by simp), hget_at _ _ rfl]
  have gr : W1.heap[w.heap.size + 1]? = some (.cells rA 31 (0, 0)) := by rw [hW1, hget_at _ _ (by simp)]
  have cp1 : W1.cell? ⟨w.heap.size, 0, none⟩ = some (.pointer (some ⟨db, 0, none⟩)) := by rw [cell_of_row _ _ _ _ _ _ gp]; rfl
  have hD1 : DevAt W1 db mb n G := hD.below hb1 hdl hml
  have hno := rnone_any db mb n (by omega) W1 hD1.c1 hD1.c0
  -- what holds in every world above W1
  have fS : ∀ W, Below W1.heap.size W1 W → W.heap[w.heap.size + 1]? = some (.cells rA 31 (0, 0)) ∧ W.cell? ⟨w.heap.size, 0, none⟩ = some (.pointer (some ⟨db, 0, none⟩)) ∧ DevAt W db mb n G ∧ PutsAt W db p L := fun W hb =>
    ⟨(hb.block _ (by omega)).trans gr, (World.cell?_of_block (w := W1) (hb.block _ (by show w.heap.size < _; omega))).trans cp1, hD1.below hb (by omega) (by omega),
      (hP.kept (fun k hk _ => hb1.block k hk)).kept (fun k hk _ => hb.block k hk)⟩
  have hcont := fun W (hb : Below W1.heap.size W1 W) => contains_any db mb w.heap.size cap p n L hL hLa W (fS W hb).2.2.2 (fS W hb).2.1 (fS W hb).2.2.1.c1 (fS W hb).2.2.1.c0
  have hsize := fun W (hb : Below W1.heap.size W1 W) => dsize_any db mb n W (fS W hb).2.2.1.c1 (fS W hb).2.2.1.c0
  have hturn := fun W (hb : Below W1.heap.size W1 W) => rturn_any db mb cap p n (by omega) G L hL (fun x hx => (hLa x hx).2) gen n picks (n - planFi n) 1 (planFi n) hrt W (fS W hb).2.2.1 (fS W hb).2.2.2
  simp only [← hA] at hmayW hturn ⊢
  have S0 : Below W1.heap.size W1 W1.drew := ⟨rfl, rfl, rfl, Nat.le_refl _, fun _ _ => rfl⟩
  have cS : ∀ W, Below W1.heap.size W1 W → W.cell? ⟨w.heap.size, 0, none⟩ = some (.pointer (some ⟨db, 0, none⟩)) := fun W h => (fS W h).2.1
  have HS0 := hideIt S0
  have CS := hideIt cS
  have FSt := hideIt fS
  have HC := hideIt hcont
  have HSZ := hideIt hsize
  have HTN := hideIt hturn
  have HMAY := hideIt hmayW
  have IR := hideIt iR
  have HW1 := hideIt hW1
  have HB1 := hideIt hb1
  clear hA hLa hD hP hD1 gp gr fS hcont hsize hturn hmayW S0 cS iR hW1 hb1 hrt
  go_enter Tryz.func18, Tryz.ntmps18
  go_upto_region 1 with fail
  rw [← HW1.out]
  go_upto_region 4 with (first
    | (go_at_call 22; (with_reducible refine hno.mono ?_); rintro e w' ⟨rfl, rfl⟩))
  clear hno cp1
  refine wp_region_held (S := (fun W : World => Below W1.heap.size W1 W)) (by kernel_rfl) ?_
  change wpAnyH _ _ _ _ _ _ _ _ (World.drew _)
  try simp only [Act.put, List.setIfInBounds_toArray, List.set_cons_succ, List.set_cons_zero]
  have hS := HS0.out
  refine takeH 0 rfl rfl (by kernel_rfl) (by kernel_rfl) (by kernel_rfl) (fun _ _ _ h => h) hS (yieldsIf_load_row rfl rfl (w.heap.size + 1) rfl (fun w' h => (FSt.out w' h).1) Tryz.underlying31 rfl IR.out) ?_
  simp only [List.setIfInBounds_toArray, List.set_cons_succ, List.set_cons_zero]
  refine takeH 1 (v := ?_) rfl rfl (by kernel_rfl) (by kernel_rfl) (by kernel_rfl) (fun _ _ _ h => h) hS (yieldsIf_run rfl ?_) ?_
  rotate_left
  focus (intro w hSw; have hcU := CS.out w hSw; clear hSw; go_simp; try with_reducible rfl)
  simp only [List.setIfInBounds_toArray, List.set_cons_succ, List.set_cons_zero]
  clear hS
  refine anyH_step (i := 2) (by kernel_rfl) rfl rfl (fun K hK => ?_)
  go_simp
  go_at_call 24
  refine (HSZ.out _ HS0.out).mono ?_
  rintro e w' ⟨rfl, rfl⟩
  refine hK _ _ (HS0.out) ?_
  clear hK K
  try simp only [Act.put, List.setIfInBounds_toArray, List.set_cons_succ, List.set_cons_zero]
  refine anyH_step (i := 3) (by kernel_rfl) rfl rfl (fun K hK => ?_)
  go_simp
  go_at_call 44
  refine (HMAY.out _).mono ?_
  rintro e W2 ⟨rfl, hb2⟩
  have hS2 : Below W1.heap.size W1 W2 := HS0.out.trans hb2
  have hS := hS2
  have HS2 := hideIt hS2
  refine hK _ _ (HS2.out) ?_
  clear hK K
  try simp only [Act.put, List.setIfInBounds_toArray, List.set_cons_succ, List.set_cons_zero]
  refine takeH 4 (v := ?_) rfl rfl (by kernel_rfl) (by kernel_rfl) (by kernel_rfl) (fun _ _ _ h => h) hS (yieldsIf_run rfl ?_) ?_
  rotate_left
  focus (intro w hSw; go_simp; try with_reducible rfl)
  simp only [List.setIfInBounds_toArray, List.set_cons_succ, List.set_cons_zero]
  refine takeH 5 (v := ?_) rfl rfl (by kernel_rfl) (by kernel_rfl) (by kernel_rfl) (fun _ _ _ h => h) hS (yieldsIf_run rfl ?_) ?_
  rotate_left
  focus (intro w hSw; go_simp; try with_reducible rfl)
  simp only [List.setIfInBounds_toArray, List.set_cons_succ, List.set_cons_zero]
  refine takeH 6 (v := ?_) rfl rfl (by kernel_rfl) (by kernel_rfl) (by kernel_rfl) (fun _ _ _ h => h) hS (Or.inl ⟨by rfl, ?_⟩) ?_
  rotate_left
  focus (intro w hSw; go_simp; try with_reducible rfl)
  simp only [List.setIfInBounds_toArray, List.set_cons_succ, List.set_cons_zero]
  refine takeH 7 (v := ?_) rfl rfl (by kernel_rfl) (by kernel_rfl) (by kernel_rfl) (fun _ _ _ h => h) hS (Or.inl ⟨by rfl, ?_⟩) ?_
  rotate_left
  focus (intro w hSw; go_simp; try with_reducible rfl)
  simp only [List.setIfInBounds_toArray, List.set_cons_succ, List.set_cons_zero]
  clear hS hS2
  refine anyH_stepG (i := 8) (by kernel_rfl) rfl (by rfl) (fun K hK => ?_)
  go_simp
  refine (HC.out _ HS2.out).mono ?_
  rintro e W3 ⟨rfl, hb3⟩
  have hS3 : Below W1.heap.size W1 W3 := HS2.out.trans (hb3.mono HS2.out.size)
  have hS := hS3
  have HS3 := hideIt hS3
  refine hK _ _ (HS3.out) ?_
  clear hK K
  try simp only [Act.put, List.setIfInBounds_toArray, List.set_cons_succ, List.set_cons_zero]
  refine takeH 9 (v := ?_) rfl rfl (by kernel_rfl) (by kernel_rfl) (by kernel_rfl) (fun _ _ _ h => h) hS (yieldsIf_run rfl ?_) ?_
  rotate_left
  focus (intro w hSw; go_simp; try with_reducible rfl)
  simp only [List.setIfInBounds_toArray, List.set_cons_succ, List.set_cons_zero]
  refine takeH 10 (v := ?_) rfl rfl (by kernel_rfl) (by kernel_rfl) (by kernel_rfl) (fun _ _ _ h => h) hS (yieldsIf_run rfl ?_) ?_
  rotate_left
  focus (intro w hSw; go_simp; try with_reducible rfl)
  simp only [List.setIfInBounds_toArray, List.set_cons_succ, List.set_cons_zero]
  refine wpAnyH_done (by kernel_rfl) ?_ _
  obtain ⟨r3, c3, _, _⟩ := FSt.out W3 HS3.out
  have ht := HTN.out W3 HS3.out
  have R3 := hideIt r3
  clear hS hS3 r3 hb3 hb2
  go_wp2_with (first
    | (with_reducible refine wl_load rfl R3.out Tryz.underlying31 rfl IR.out ?_)
    | (go_at_call 27; (with_reducible refine ht.mono ?_); rintro e W4 ⟨rfl, hd4, hk4⟩))
  go_ret
  exact ⟨rfl, hd4, (Keeps.of_below (HB1.out.trans (HS3.out.mono (by omega)))).trans hk4⟩
end Go.Proofs.YtnibehcgnhdcgaaGreatDoor
