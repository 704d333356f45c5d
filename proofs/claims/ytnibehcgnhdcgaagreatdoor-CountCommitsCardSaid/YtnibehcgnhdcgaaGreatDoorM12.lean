/- A table's tallies; old counts. -/
import Derived.Test.YtnibehcgnhdcgaaGreatDoorM11
namespace Go.Proofs.YtnibehcgnhdcgaaGreatDoor
open Go.RowKit

theorem bitI_range (pk : List Int) (i : Int) : 0 ≤ bitI pk i ∧ bitI pk i < 2 := by
  unfold bitI
  omega
theorem Tab.at_lt (T : Tab) (hT : TabOk T) (p : Int) (h0 : 0 ≤ p) (h1 : p < planTl T.n) : 4 ≤ T.at p ∧ T.at p < T.n := by
  have h2 := bitI_range T.pk p
  have h3 := plan5 T.n hT.n1 hT.n2
  have h4 := planFi_lt T.n hT.n1 (by have := hT.n2; omega)
  unfold Tab.at
  omega

set_option maxRecDepth 100000 in
set_option maxHeartbeats 2000000 in
theorem ttallyat_any (T : Tab) (hT : TabOk T) (w : World) (S : List (Int × Int)) (hA : TabAt T w S) (p : Nat) (hp : (p : Int) < planTl T.n) :
    Calls Tryz.prog 30 #[.pointer (some ⟨T.tb, 0, none⟩), .int .u32 p] w fun e w' => e = .returned (.tuple #[.int .u32 (T.at p), .int .i64 0]) ∧ TabAt T w' S ∧ Keeps (fun k => k = T.pm) w w' := by
  obtain ⟨hp1, hp2, hp3, hp4, hp5⟩ := plan5 T.n hT.n1 hT.n2
  have hpi := tpick_any T hT w S hA
  have hlen := hT.plen
  have hk64 : p / 64 < 16 := by omega
  obtain ⟨x, hx⟩ : ∃ x, T.pk[p / 64]? = some x := ⟨_, List.getElem?_eq_getElem (by rw [hlen]; exact hk64)⟩
  have hbi : ∀ W, Calls Tryz.prog 60 #[.agg (pickA 0 T.pk), .int .i64 p] W fun e w' => e = .returned (.tuple #[.int .i64 (bitI T.pk p), .int .i64 0]) ∧ Below W.heap.size W w' := fun W => by
    have h := bit_any 0 T.pk hT.pb p (by omega) x hx W
    have e : bitI T.pk p = x / 2 ^ (p % 64) % 2 := by
      unfold bitI
      rw [show ((p : Int) / 64).toNat = p / 64 by omega, show ((p : Int) % 64).toNat = p % 64 by omega, List.getD_eq_getElem?_getD, hx]
      rfl
    rw [e]
    exact h
  have hb := bitI_range T.pk p
  have hat : T.at p = 2 + 2 * 1 + 2 * p + bitI T.pk p := by unfold Tab.at; omega
  generalize bitI T.pk p = b at hbi hb hat
  rw [hat]
  obtain ⟨rA, hrA⟩ : ∃ r, r = pickA 0 T.pk := ⟨_, rfl⟩
  have iR : (Tryz.prog.info? 74).map (·.size) = some rA.size := by rw [hrA]; exact size74' 0 hT.plen
  have eZ : (pickA 0 z16).size = rA.size := by rw [hrA, pickA_size, pickA_size, hT.plen]; rfl
  have oR : rA.all (·.oneCell') = true := by rw [hrA]; exact pickA_one _ _
  have GR : ∀ W : World, Hid ((W.alloc (.cells rA 74)).heap[W.heap.size]? = some (.cells rA 74 (0, 0))) := fun W => hget_at _ _ rfl
  rw [← hrA] at hpi hbi
  have hb0 := hb.1
  have hb1 := hb.2
  have hq : (p : Int) / 1024 = 0 := by omega
  have hr : (p : Int) % 1024 = p := by omega
  have hpk : planPk T.n = 1 := hp1
  have HP := hideIt hpk
  have IR := hideIt iR
  clear hA hT hx hrA hat hlen iR hp1 hp4 hp5 hb hpk
  go_enter Tryz.func30, Tryz.ntmps30
  go_wp2_with (first
    | (go_at_call 32; (with_reducible refine hpi.mono ?_); rintro e W1 ⟨rfl, hA1, hk1⟩)
    | (with_reducible refine wl_extract rfl rfl ?_)
    | (with_reducible refine wl_alloc_store zero74 (by simp [Act.put]) rfl rfl IR.out eZ oR ?_)
    | (with_reducible refine wl_load rfl (GR _).out Tryz.underlying74 rfl IR.out ?_)
    | (go_at_call 60; (with_reducible refine (hbi _).mono ?_); rintro e W2 ⟨rfl, hb2⟩
       have hb2' : Below W1.heap.size W1 W2 := ((Below.refl _ W1).alloc (Nat.le_refl _) _).trans (hb2.mono (by simp))
       have hA2 := hA1.below hb2'
       have c2 : W2.cell? ⟨T.tb, 10, none⟩ = some (.int .u32 1) := by { rw [← HP.out]; exact hA2.cell 10 }
       have HA2 := hideIt hA2
       have HK1 := hideIt hk1
       have HB2 := hideIt hb2'
       clear hA2 hk1 hA1 hb2' hb2))
  go_ret2
  exact ⟨rfl, HA2.out, HK1.out.trans (Keeps.of_below HB2.out)⟩
end Go.Proofs.YtnibehcgnhdcgaaGreatDoor
/- Old counts. -/
namespace Go.Proofs.YtnibehcgnhdcgaaGreatDoor
open Go.RowKit

set_option maxRecDepth 100000 in
set_option maxHeartbeats 2000000 in
theorem ttally_any (T : Tab) (hT : TabOk T) (w : World) (S : List (Int × Int)) (hA : TabAt T w S) (p : Nat) (hp : (p : Int) < planTl T.n) :
    Calls Tryz.prog 29 #[.pointer (some ⟨T.tb, 0, none⟩), .int .u32 p] w fun e w' => e = .returned (.tuple #[.agg (tallyA p (T.tl p)), .int .i64 0]) ∧ TabAt T w' S ∧ Keeps (fun k => k = T.pm ∨ k = T.tm) w w' := by
  obtain ⟨hat1, hat2⟩ := T.at_lt hT p (by omega) hp
  have hpg := fun W h => pageT_any T W S h (T.at p) p hat2 (T.tl p) (hT.tlen p) rfl (hT.tally p (by omega) hp)
  have hlt := hA.lt
  obtain ⟨zA, hzA⟩ : ∃ z, z = tallyA 0 z64 := ⟨_, rfl⟩
  obtain ⟨rA, hrA⟩ : ∃ r, r = tallyA p (T.tl p) := ⟨_, rfl⟩
  have hz0 : ∀ w, (zeroValue 69).run Tryz.prog w = .ok (.agg zA) w := by rw [hzA]; exact zero69
  have iR : (Tryz.prog.info? 69).map (·.size) = some rA.size := by rw [hrA]; exact size69' p (hT.tlen p)
  have eZ : zA.size = rA.size := by rw [hzA, hrA, tallyA_size, tallyA_size, hT.tlen p]; rfl
  have oR : rA.all (·.oneCell') = true := by rw [hrA]; exact tallyA_one _ _
  rw [← hrA] at hpg ⊢
  obtain ⟨W0, hW0⟩ : ∃ W, W = w.alloc (.cells zA 69) := ⟨_, rfl⟩
  have hb0 : Below w.heap.size w W0 := by rw [hW0]; exact (Below.refl _ _).alloc (Nat.le_refl _) _
  have g0 : W0.heap[w.heap.size]? = some (.cells zA 69 (0, 0)) := by rw [hW0, hget_at _ _ rfl]
  have hz1 : w.heap.size < W0.heap.size := (Array.getElem?_eq_some_iff.1 g0).1
  have hta := ttallyat_any T hT W0 S (hA.below hb0) p hp
  have G0 := hideIt g0
  have HB0 := hideIt hb0
  have HW0 := hideIt hW0
  have IR := hideIt iR
  clear hA hT hW0 hb0 g0 hzA hrA iR
  go_enter Tryz.func29, Tryz.ntmps29
  go_wp2_with (first
    | (with_reducible refine wl_alloc hz0 ?_; rw [← HW0.out])
    | (go_at_call 30; (with_reducible refine hta.mono ?_); rintro e W1 ⟨rfl, hA1, hk1⟩
       have c1 : W1.cell? ⟨T.tb, 13, none⟩ = some (.map (some T.tm)) := hA1.cell 13
       have hp1 := hpg W1 hA1
       have hz2 := hk1.size
       have g1 : Hid (W1.heap[w.heap.size]? = some (.cells zA 69 (0, 0))) := (hk1.block _ hz1 (by omega)).trans G0.out
       have HK1 := hideIt hk1
       clear hA1 hk1)
    | (go_at_call 58; (with_reducible refine hp1.mono ?_); rintro e W2 ⟨rfl, hA2, hk2⟩
       have g2 : Hid (W2.heap[w.heap.size]? = some (.cells zA 69 (0, 0))) := (hk2.block _ (by omega) (by omega)).trans g1.out
       have HA2 := hideIt hA2
       have HK2 := hideIt hk2
       clear hA2 hk2 c1 hp1)
    | (with_reducible refine wl_extract rfl rfl ?_)
    | (with_reducible refine wl_store rfl rfl g2.out IR.out eZ oR ?_))
  exact ret_cell_tmp rfl rfl rfl (setRow_heap _ _ _ _ _ _ g2.out) Tryz.underlying69 rfl IR.out ⟨rfl, HA2.out.of_blocks (fun k hk => setRow_other _ _ _ _ (by rcases hk with rfl | rfl | rfl | rfl | rfl | rfl <;> omega)),
    (((Keeps.of_below HB0.out).trans (HK1.out.mono (G := fun k => k = T.pm ∨ k = T.tm) (fun _ _ h => .inl h))).trans (HK2.out.mono (fun _ _ h => .inr h))).setRow (.inl (Nat.le_refl _)) _⟩

/-- An address is not there: its error. -/
def Tab.err (T : Tab) (a : Int) : Int := if T.n ≤ a then 2 else 0
set_option maxRecDepth 100000 in
set_option maxHeartbeats 2000000 in
theorem told_any (T : Tab) (hT : TabOk T) (w : World) (S : List (Int × Int)) (hA : TabAt T w S) (a : Nat) (ha : a < 4294967296) :
    Calls Tryz.prog 15 #[.pointer (some ⟨T.tb, 0, none⟩), .int .u32 a] w fun e w' => e = .returned (.tuple #[.int .u16 (T.old a), .int .i64 (T.err a)]) ∧ TabAt T w' S ∧ Keeps (fun k => k = T.pm ∨ k = T.tm) w w' := by
  have hn := tnone_no T.tb T.db w (hA.cell 0)
  have c2 : w.cell? ⟨T.tb, 2, none⟩ = some (.int .u32 T.n) := hA.cell 2
  have c11 : w.cell? ⟨T.tb, 11, none⟩ = some (.int .u32 T.fi) := hA.cell 11
  obtain ⟨hp1, hp2, hp3, hp4, hp5⟩ := plan5 T.n hT.n1 hT.n2
  have hfi : T.fi = 4 + 2 * planTl T.n := hp4
  by_cases h1 : T.n ≤ a
  · have ho : T.old a = 0 := by unfold Tab.old; rw [if_pos (.inr h1)]
    have he : T.err a = 2 := by unfold Tab.err; rw [if_pos h1]
    rw [ho, he]
    have HA := hideIt hA
    clear hA hT hp1 hp5 hp4 hfi ho he
    go_enter Tryz.func15, Tryz.ntmps15
    go_wp2_with (first
      | (go_at_call 28; (with_reducible refine hn.mono ?_); rintro e w' ⟨rfl, rfl⟩))
    go_ret2
    exact ⟨rfl, HA.out, Keeps.refl _ _⟩
  · have he : T.err a = 0 := by unfold Tab.err; rw [if_neg h1]
    have h1' : (a : Int) < T.n := by omega
    rw [he]
    by_cases h2 : (a : Int) < T.fi
    · have ho : T.old a = 0 := by unfold Tab.old; rw [if_pos (.inl h2)]
      rw [ho]
      have HA := hideIt hA
      clear hA hT hp1 hp5 hp4 hfi ho he
      go_enter Tryz.func15, Tryz.ntmps15
      go_wp2_with (first
        | (go_at_call 28; (with_reducible refine hn.mono ?_); rintro e w' ⟨rfl, rfl⟩))
      go_ret2
      exact ⟨rfl, HA.out, Keeps.refl _ _⟩
    · have hpt : ((a / 64 : Nat) : Int) < planTl T.n := by omega
      have hta := ttally_any T hT w S hA (a / 64) hpt
      have hnt : ((a / 64 : Nat) : Int) = (a : Int) / 64 := by omega
      rw [hnt] at hta
      have hlen := hT.tlen ((a : Int) / 64)
      obtain ⟨x, hx⟩ : ∃ x, (T.tl ((a : Int) / 64))[a % 64]? = some x := ⟨_, List.getElem?_eq_getElem (by rw [hlen]; omega)⟩
      have ho : T.old a = x := by
        unfold Tab.old
        rw [if_neg (by omega), show ((a : Int) % 64).toNat = a % 64 by omega, List.getD_eq_getElem?_getD, hx]
        rfl
      rw [ho]
      have hcx : (tallyA ((a : Int) / 64) (T.tl ((a : Int) / 64)))[1 + a % 64]? = some (.int .u16 x) := by rw [tallyA_succ, hx]; rfl
      have iR : (Tryz.prog.info? 69).map (·.size) = some (tallyA ((a : Int) / 64) (T.tl ((a : Int) / 64))).size := size69' _ hlen
      have eZ : (tallyA 0 z64).size = (tallyA ((a : Int) / 64) (T.tl ((a : Int) / 64))).size := by rw [tallyA_size, tallyA_size, hlen]; rfl
      have oR := tallyA_one ((a : Int) / 64) (T.tl ((a : Int) / 64))
      generalize tallyA ((a : Int) / 64) (T.tl ((a : Int) / 64)) = rA at hta hcx iR eZ oR
      have hcr : ∀ W : World, (W.alloc (.cells rA 69)).cell? ⟨W.heap.size, 1 + a % 64, none⟩ = some (.int .u16 x) := fun W => by rw [cell_of_row _ _ _ _ _ _ (hget_at _ _ rfl)]; exact hcx
      have HCR := hideIt hcr
      have IR := hideIt iR
      have HX := hideIt hcx
      have hm64 : a % 64 < 64 := by omega
      clear hA hT hp1 hp5 hp4 hfi ho he hnt hlen hx hcr hcx iR hpt
      go_enter Tryz.func15, Tryz.ntmps15
      go_wp2_with (first
        | (go_at_call 28; (with_reducible refine hn.mono ?_); rintro e w' ⟨rfl, rfl⟩)
        | (go_at_call 29; (with_reducible refine hta.mono ?_); rintro e W1 ⟨rfl, hA1, hk1⟩
           have hcW := HCR.out W1
           have HA1 := hideIt hA1
           have HK1 := hideIt hk1
           clear hA1 hk1)
        | (with_reducible refine wl_extract rfl rfl ?_)
        | (with_reducible refine wl_alloc_store zero69 (by simp [Act.put]) rfl rfl IR.out eZ oR ?_))
      go_ret2
      exact ⟨rfl, HA1.out.below ((Below.refl _ _).alloc (Nat.le_refl _) _), HK1.out.alloc _⟩
end Go.Proofs.YtnibehcgnhdcgaaGreatDoor
/- Counts now; a count is set. -/
namespace Go.Proofs.YtnibehcgnhdcgaaGreatDoor
open Go.RowKit

def lookS (S : List (Int × Int)) (a : Int) : Option Int := (S.find? (fun p => a == p.1)).map (·.2)
def putS : List (Int × Int) → Int → Int → List (Int × Int)
  | [], k, v => [(k, v)]
  | p :: r, k, v => if k == p.1 then (k, v) :: r else p :: putS r k v
def delS : List (Int × Int) → Int → List (Int × Int)
  | [], _ => []
  | p :: r, k => if k == p.1 then r else p :: delS r k
theorem lookS_cons (p : Int × Int) (r : List (Int × Int)) (a : Int) : lookS (p :: r) a = if a == p.1 then some p.2 else lookS r a := by
  unfold lookS
  rw [List.find?_cons]
  cases h : a == p.1 <;> simp
theorem look_encS (S : List (Int × Int)) (a : Int) : look (encS S) a = (lookS S a).map (Value.int .u16) := by
  induction S with
  | nil => rfl
  | cons p r ih =>
    simp only [encS, List.map_cons] at ih ⊢
    rw [look_cons, lookS_cons]
    cases h : a == p.1 <;> simp [ih]
theorem encS_put (S : List (Int × Int)) (a x : Int) : encS (putS S a x) = put (encS S) a (.int .u16 x) := by
  induction S with
  | nil => rfl
  | cons p r ih =>
    simp only [encS, List.map_cons, putS, put] at ih ⊢
    cases h : a == p.1 <;> simp [ih]
theorem encS_del (S : List (Int × Int)) (a : Int) : encS (delS S a) = del (encS S) a := by
  induction S with
  | nil => rfl
  | cons p r ih =>
    simp only [encS, List.map_cons, delS, del] at ih ⊢
    cases h : a == p.1 <;> simp [ih]
/-- A count now. -/
def Tab.now (T : Tab) (S : List (Int × Int)) (a : Int) : Int := if T.n ≤ a then 0 else (lookS S a).getD (T.old a)
/-- The counts that are set, when one more is. -/
def Tab.set (T : Tab) (S : List (Int × Int)) (a x : Int) : List (Int × Int) := if x == T.old a then delS (putS S a x) a else putS S a x
theorem zero39 : ∀ w, (zeroValue 39).run Tryz.prog w = .ok (.int .u16 0) w := fun w => by kernel_rfl

theorem wl_lookup_ok {P : Program} {w : World} {b : Nat} {l : List (Int × Value)} {t kT eT : TypeId} {ops : Array Oper} {Q : Exit → Act → World → Prop} {rest : List Oper} {T : Array Value} {D : List Deferred} {d x y tt : Nat} {pos : String} {af : Array Edge} {k : Int} {z v : Value}
    (hx : T.getD x undef = .map (some b)) (hy : T.getD y undef = .int .u32 k) (hm : MapAt w b l) (ht : P.underlying t = some (.map kT eT)) (hk : P.underlying kT = some (.int .u32)) (hz : ∀ w, (zeroValue eT).run P w = .ok z w)
    (hv : Value.tuple #[(look l k).getD z, .bool (look l k).isSome] = v)
    (h : wpList P ops Q rest (Act.put ⟨T, D⟩ (some d) v) w) :
    wpList P ops Q ({ dst := some d, op := .lookup t (.tmp x) (.tmp y) true, type := tt, pos := pos, after := af, guard := none } :: rest) ⟨T, D⟩ w :=
  wl_lookup hx hy hm ht hk hz (by simpa using hv) h

set_option maxRecDepth 100000 in
set_option maxHeartbeats 2000000 in
theorem tgetc_any (T : Tab) (hT : TabOk T) (w : World) (S : List (Int × Int)) (hA : TabAt T w S) (a : Nat) (ha : a < 4294967296) :
    Calls Tryz.prog 12 #[.pointer (some ⟨T.tb, 0, none⟩), .int .u32 a] w fun e w' => e = .returned (.tuple #[.int .u16 (T.now S a), .int .i64 (T.err a)]) ∧ TabAt T w' S ∧ Keeps (fun k => k = T.pm ∨ k = T.tm) w w' := by
  have hold := told_any T hT w S hA a ha
  by_cases h1 : T.n ≤ a
  · have hn : T.now S a = 0 := by unfold Tab.now; rw [if_pos h1]
    have he : T.err a = 2 := by unfold Tab.err; rw [if_pos h1]
    rw [he] at hold
    rw [hn, he]
    clear hA hT hn he
    generalize T.old a = o at hold
    go_enter Tryz.func12, Tryz.ntmps12
    go_wp2_with (first
      | (go_at_call 15; (with_reducible refine hold.mono ?_); rintro e w1 ⟨rfl, hA1, hk1⟩; have HA1 := hideIt hA1; have HK1 := hideIt hk1; clear hA1 hk1))
    go_ret2
    exact ⟨rfl, HA1.out, HK1.out⟩
  · have hn : T.now S a = (lookS S a).getD (T.old a) := by unfold Tab.now; rw [if_neg h1]
    have he : T.err a = 0 := by unfold Tab.err; rw [if_neg h1]
    rw [he] at hold
    rw [hn, he]
    clear hA hT hn he
    generalize T.old a = o at hold
    cases hl : lookS S a with
    | none =>
      have hv : Value.tuple #[(look (encS S) a).getD (.int .u16 0), .bool (look (encS S) a).isSome] = .tuple #[.int .u16 0, .bool false] := by rw [look_encS, hl]; rfl
      have HV := hideIt hv
      clear hv hl
      go_enter Tryz.func12, Tryz.ntmps12
      go_wp2_with (first
        | (go_at_call 15; (with_reducible refine hold.mono ?_); rintro e w1 ⟨rfl, hA1, hk1⟩; have c1 : w1.cell? ⟨T.tb, 14, none⟩ = some (.map (some T.sm)) := hA1.cell 14; have HA1 := hideIt hA1; have HK1 := hideIt hk1; clear hA1 hk1)
        | (with_reducible refine wl_lookup_ok rfl rfl HA1.out.ms Tryz.underlying60 Tryz.underlying22 zero39 HV.out ?_; simp only [Act.put, List.setIfInBounds_toArray, List.set_cons_succ, List.set_cons_zero]))
      go_ret2
      exact ⟨rfl, HA1.out, HK1.out⟩
    | some m =>
      have hv : Value.tuple #[(look (encS S) a).getD (.int .u16 0), .bool (look (encS S) a).isSome] = .tuple #[.int .u16 m, .bool true] := by rw [look_encS, hl]; rfl
      have HV := hideIt hv
      clear hv hl
      go_enter Tryz.func12, Tryz.ntmps12
      go_wp2_with (first
        | (go_at_call 15; (with_reducible refine hold.mono ?_); rintro e w1 ⟨rfl, hA1, hk1⟩; have c1 : w1.cell? ⟨T.tb, 14, none⟩ = some (.map (some T.sm)) := hA1.cell 14; have HA1 := hideIt hA1; have HK1 := hideIt hk1; clear hA1 hk1)
        | (with_reducible refine wl_lookup_ok rfl rfl HA1.out.ms Tryz.underlying60 Tryz.underlying22 zero39 HV.out ?_; simp only [Act.put, List.setIfInBounds_toArray, List.set_cons_succ, List.set_cons_zero]))
      go_ret2
      exact ⟨rfl, HA1.out, HK1.out⟩

theorem wl_delete {P : Program} {ops : Array Oper} {Q : Exit → Act → World → Prop} {rest : List Oper} {w W' : World} {T : Array Value} {D : List Deferred} {t u tt x y : Nat} {pos : String} {af : Array Edge} {m k : Value}
    (hx : T.getD x undef = m) (hy : T.getD y undef = k) (hr : (Builtin.delete_ #[t, u] tt #[m, k]).run P w = .ok (.tuple #[]) W') (h : wpList P ops Q rest ⟨T, D⟩ W') :
    wpList P ops Q ({ dst := none, op := .call { callee := .builtin .delete, args := #[.tmp x, .tmp y], argTypes := #[t, u] }, type := tt, pos := pos, after := af, guard := none } :: rest) ⟨T, D⟩ w :=
  wpList_plain rfl fun _ hK => wp_delete rfl hx hy hr (hK _ _ h)
/-- A table whose set counts are other ones. -/
theorem TabAt.put {T : Tab} {w : World} {S S' : List (Int × Int)} {o : Obj} (h : TabAt T w S) (hm : MapAt (w.putObj T.sm o) T.sm (encS S')) : TabAt T (w.putObj T.sm o) S' := by
  have hd := h.d1
  have hn := h.ne
  have e : ∀ k, k ≠ T.sm → (w.putObj T.sm o).heap[k]? = w.heap[k]? := fun k hk => World.putObj_heap_other hk
  obtain ⟨lp, hp, hp2⟩ := h.mp
  obtain ⟨lt, ht, ht2⟩ := h.mt
  exact ⟨(e _ (by omega)).trans h.row, h.dev.of_blocks (e _ (by omega)) (e _ (by omega)), ⟨lp, hp.of_block (e _ (by omega)), hp2⟩, ⟨lt, ht.of_block (e _ (by omega)), ht2⟩, hm, hd⟩
theorem Keeps.putObj {F : Nat → Prop} {a w : World} (h : Keeps F a w) {g : Nat} (hp : F g) (o : Obj) : Keeps F a (w.putObj g o) :=
  ⟨h.os, h.tape, h.output, by rw [World.putObj_size]; exact h.size, fun k hk hF => by rw [World.putObj_heap_other (by rintro rfl; exact hF hp)]; exact h.block k hk hF⟩

/-- What a set answers. -/
def Tab.setErr (T : Tab) (a : Int) : Int := if a < T.fi ∨ T.n ≤ a then 2 else 0
def Tab.setTo (T : Tab) (S : List (Int × Int)) (a x : Int) : List (Int × Int) := if a < T.fi ∨ T.n ≤ a then S else T.set S a x
set_option maxRecDepth 100000 in
set_option maxHeartbeats 2000000 in
theorem tset_any (T : Tab) (hT : TabOk T) (w : World) (S : List (Int × Int)) (hA : TabAt T w S) (a : Nat) (ha : a < 4294967296) (x : Int) :
    Calls Tryz.prog 10 #[.pointer (some ⟨T.tb, 0, none⟩), .int .u32 a, .int .u16 x] w fun e w' => e = .returned (.int .i64 (T.setErr a)) ∧ TabAt T w' (T.setTo S a x) ∧ Keeps (fun k => k = T.pm ∨ k = T.tm ∨ k = T.sm) w w' := by
  have hn := tnone_no T.tb T.db w (hA.cell 0)
  have c11 : w.cell? ⟨T.tb, 11, none⟩ = some (.int .u32 T.fi) := hA.cell 11
  have hold := told_any T hT w S hA a ha
  by_cases h2 : (a : Int) < T.fi
  · have he : T.setErr a = 2 := by unfold Tab.setErr; rw [if_pos (.inl h2)]
    have hs : T.setTo S a x = S := by unfold Tab.setTo; rw [if_pos (.inl h2)]
    rw [he, hs]
    have HA := hideIt hA
    clear hA hT he hs hold
    go_enter Tryz.func10, Tryz.ntmps10
    go_wp2_with (first
      | (go_at_call 28; (with_reducible refine hn.mono ?_); rintro e w' ⟨rfl, rfl⟩))
    go_ret
    exact ⟨rfl, HA.out, Keeps.refl _ _⟩
  · by_cases h1 : T.n ≤ a
    · have he : T.setErr a = 2 := by unfold Tab.setErr; rw [if_pos (.inr h1)]
      have hs : T.setTo S a x = S := by unfold Tab.setTo; rw [if_pos (.inr h1)]
      have hr : T.err a = 2 := by unfold Tab.err; rw [if_pos h1]
      rw [hr] at hold
      rw [he, hs]
      generalize T.old a = o at hold
      clear hA hT he hs hr
      go_enter Tryz.func10, Tryz.ntmps10
      go_wp2_with (first
        | (go_at_call 28; (with_reducible refine hn.mono ?_); rintro e w' ⟨rfl, rfl⟩)
        | (go_at_call 15; (with_reducible refine hold.mono ?_); rintro e w1 ⟨rfl, hA1, hk1⟩; have HA1 := hideIt hA1; have HK1 := hideIt hk1; clear hA1 hk1))
      go_ret
      exact ⟨rfl, HA1.out, HK1.out.mono (fun _ _ h => by omega)⟩
    · have he : T.setErr a = 0 := by unfold Tab.setErr; rw [if_neg (by omega)]
      have hs : T.setTo S a x = T.set S a x := by unfold Tab.setTo; rw [if_neg (by omega)]
      have hr : T.err a = 0 := by unfold Tab.err; rw [if_neg h1]
      have hst : ∀ b, (x == T.old a) = b → T.set S a x = if b then delS (putS S a x) a else putS S a x := fun b hb => by unfold Tab.set; rw [hb]
      have HST := hideIt hst
      rw [hr] at hold
      rw [he, hs]
      clear hA hT he hs hr hst
      generalize T.old a = o at hold HST
      cases hxo : (x == o)
      · have hs := HST.out false hxo
        have HS := hideIt hs
        clear hs HST
        go_enter Tryz.func10, Tryz.ntmps10
        go_wp2_with (first
          | (go_at_call 28; (with_reducible refine hn.mono ?_); rintro e w' ⟨rfl, rfl⟩)
          | (go_at_call 15; (with_reducible refine hold.mono ?_); rintro e w1 ⟨rfl, hA1, hk1⟩
             have c1 : w1.cell? ⟨T.tb, 14, none⟩ = some (.map (some T.sm)) := hA1.cell 14
             obtain ⟨o2, hr2, hm2⟩ := run_put hA1.ms Tryz.underlying60 Tryz.underlying22 a (.int .u16 x)
             rw [← encS_put] at hm2
             have HA2 := hideIt (hA1.put hm2)
             have HK2 : Hid (Keeps (fun k => k = T.pm ∨ k = T.tm ∨ k = T.sm) w (w1.putObj T.sm o2)) := (hk1.mono (G := fun k => k = T.pm ∨ k = T.tm ∨ k = T.sm) (fun _ _ h => by omega)).putObj (.inr (.inr rfl)) _
             have HR2 := hideIt hr2
             clear hA1 hk1 hr2 hm2)
          | (with_reducible refine wl_mapUpdate (m := .map (some T.sm)) (k := .int .u32 a) (v := .int .u16 x) rfl rfl rfl HR2.out ?_))
        go_ret
        exact ⟨rfl, by rw [HS.out]; exact HA2.out, HK2.out⟩
      · have hs := HST.out true hxo
        have HS := hideIt hs
        clear hs HST
        go_enter Tryz.func10, Tryz.ntmps10
        go_wp2_with (first
          | (go_at_call 28; (with_reducible refine hn.mono ?_); rintro e w' ⟨rfl, rfl⟩)
          | (go_at_call 15; (with_reducible refine hold.mono ?_); rintro e w1 ⟨rfl, hA1, hk1⟩
             have c1 : w1.cell? ⟨T.tb, 14, none⟩ = some (.map (some T.sm)) := hA1.cell 14
             obtain ⟨o2, hr2, hm2⟩ := run_put hA1.ms Tryz.underlying60 Tryz.underlying22 a (.int .u16 x)
             rw [← encS_put] at hm2
             have hA2 := hA1.put hm2
             have c2 : (w1.putObj T.sm o2).cell? ⟨T.tb, 14, none⟩ = some (.map (some T.sm)) := hA2.cell 14
             have hk2 : Keeps (fun k => k = T.pm ∨ k = T.tm ∨ k = T.sm) w (w1.putObj T.sm o2) := (hk1.mono (G := fun k => k = T.pm ∨ k = T.tm ∨ k = T.sm) (fun _ _ h => by omega)).putObj (.inr (.inr rfl)) _
             obtain ⟨o3, hr3, hm3⟩ := run_del hA2.ms Tryz.underlying60 Tryz.underlying22 a 0 22
             rw [← encS_del] at hm3
             have HA3 := hideIt (hA2.put hm3)
             have HK3 := hideIt (hk2.putObj (.inr (.inr rfl)) o3)
             have HR2 := hideIt hr2
             have HR3 := hideIt hr3
             clear hA1 hk1 hr2 hm2 hA2 hk2 hr3 hm3)
          | (with_reducible refine wl_mapUpdate (m := .map (some T.sm)) (k := .int .u32 a) (v := .int .u16 x) rfl rfl rfl HR2.out ?_)
          | (with_reducible refine wl_delete (m := .map (some T.sm)) (k := .int .u32 a) rfl rfl HR3.out ?_))
        go_ret
        exact ⟨rfl, by rw [HS.out]; exact HA3.out, HK3.out⟩
end Go.Proofs.YtnibehcgnhdcgaaGreatDoor
