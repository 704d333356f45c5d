/- A new device; a device's plan. -/
import Derived.Test.YtnibehcgnhdcgaaGreatDoorM3
namespace Go.Proofs.YtnibehcgnhdcgaaGreatDoor
open Go.RowKit

set_option maxRecDepth 100000 in
set_option maxHeartbeats 1000000 in
theorem dnew_any (n : Int) (h1 : 64 ≤ n) (h2 : n ≤ 1048576) (w : World) :
    Calls Tryz.prog 7 #[.int .u32 n] w fun e w' => e = .returned (.tuple #[.pointer (some ⟨w.heap.size + 1, 0, none⟩), .int .i64 0]) ∧ DevAt w' (w.heap.size + 1) w.heap.size n [] ∧ Below w.heap.size w w' ∧ w.heap.size + 2 ≤ w'.heap.size := by
  have hmm : ∀ W : World, (Instr.makeMap 78 none).run Tryz.prog W = .ok (.map (some W.heap.size)) (W.alloc (.map #[] 0)) := fun _ => rfl
  go_enter Tryz.func7, Tryz.ntmps7
  go_wp2_with fail
  refine bodyPost_ret (results_tmp2 rfl _ _ _) rfl ?_
  refine ⟨rfl, ⟨⟨0, by omega, by omega, hget_at _ _ (by simp)⟩, ?_, by simp⟩, ((Below.refl _ w).alloc (Nat.le_refl _) _).alloc (by simp) _, by simp⟩
  exact (MapAt_new w).of_block (hget_past _ _ (by simp))

def upI (n per : Int) : Int := (n + per - 1) / per
set_option maxHeartbeats 1000000 in
theorem rup_any (n per : Int) (h1 : 0 ≤ n) (h2 : n ≤ 1048576) (h3 : 1 ≤ per) (h4 : per ≤ 1048576) (w : World) :
    Calls Tryz.prog 49 #[.int .u32 n, .int .u32 per] w fun e w' => e = .returned (.int .u32 (upI n per)) ∧ w = w' := by
  go_enter Tryz.func49, Tryz.ntmps49
  go_wp2_with fail
  go_ret
  exact ⟨rfl, rfl⟩

def planTl (n : Int) : Int := upI n 64
def planPk (n : Int) : Int := upI (upI n 64) 1024
def planFi (n : Int) : Int := 2 + 2 * planPk n + 2 * planTl n
def planA (n : Int) : Array Value := #[.int .u32 (planTl n), .int .u32 (planPk n), .int .u32 (planFi n)]
theorem plan_le (n : Int) (h1 : 64 ≤ n) (h2 : n ≤ 1048576) : 1 ≤ planTl n ∧ planTl n ≤ 16384 ∧ 1 ≤ planPk n ∧ planPk n ≤ 16 := by
  simp only [planTl, planPk, upI]
  omega

set_option maxRecDepth 100000 in
set_option maxHeartbeats 1000000 in
theorem layout_any (n : Int) (h1 : 64 ≤ n) (h2 : n ≤ 1048576) (w : World) :
    Calls Tryz.prog 23 #[.int .u32 n] w fun e w' => e = .returned (.tuple #[.agg (planA n), .int .i64 0]) ∧ Below w.heap.size w w' := by
  obtain ⟨p1, p2, p3, p4⟩ := plan_le n h1 h2
  have hu1 := fun W => rup_any n 64 (by omega) h2 (by omega) (by omega) W
  have hu2 := fun W => rup_any (upI n 64) 1024 (by show 0 ≤ planTl n; omega) (by show planTl n ≤ _; omega) (by omega) (by omega) W
  have hA : planA n = #[.int .u32 (planTl n), .int .u32 (planPk n), .int .u32 (2 + 2 * planPk n + 2 * planTl n)] := rfl
  change ∀ W, Calls _ _ _ W (fun e w' => e = .returned (.int .u32 (planTl n)) ∧ W = w') at hu1
  change ∀ W, Calls _ _ #[.int .u32 (planTl n), _] W (fun e w' => e = .returned (.int .u32 (planPk n)) ∧ W = w') at hu2
  generalize planTl n = tl at p1 p2 hu1 hu2 hA ⊢
  generalize planPk n = pk at p3 p4 hu2 hA ⊢
  have HA := hideIt hA
  clear hA
  go_enter Tryz.func23, Tryz.ntmps23
  go_wp2_with (first
    | (go_at_call 49; first
       | (with_reducible refine (hu1 _).mono ?_; rintro e w' ⟨rfl, rfl⟩)
       | (with_reducible refine (hu2 _).mono ?_; rintro e w' ⟨rfl, rfl⟩)))
  exact ret_cell_tmp rfl rfl rfl (by rw [hget_past _ _ (by simp), hget_at _ _ rfl]) Tryz.underlying57 rfl (by kernel_rfl) ⟨by rw [HA.out]; rfl, ((Below.refl _ w).alloc (Nat.le_refl _) _).alloc (by simp) _⟩
end Go.Proofs.YtnibehcgnhdcgaaGreatDoor
/- A pick page's bits. -/
namespace Go.Proofs.YtnibehcgnhdcgaaGreatDoor
open Go.RowKit

theorem and1_u64 (y : Int) (h0 : 0 ≤ y) (h1 : y < 18446744073709551616) : wrap64 (bits .and .u64 y 1) = y % 2 := by
  rw [u64_and y 1 h0 h1 (by omega) (by omega)]
  have e : y.toNat &&& (1 : Int).toNat = y.toNat % 2 := nat_mask1 _
  rw [e]
  simp only [wrap64]
  omega
theorem div_pow_range (x : Int) (k : Nat) (h0 : 0 ≤ x) (h1 : x < 18446744073709551616) : 0 ≤ x / 2 ^ k ∧ x / 2 ^ k < 18446744073709551616 := by
  have hp : (0 : Int) < 2 ^ k := Int.pow_pos (by omega)
  exact ⟨Int.ediv_nonneg h0 (by omega), Int.lt_of_le_of_lt (Int.ediv_le_self _ h0) h1⟩

set_option maxRecDepth 100000 in
set_option maxHeartbeats 1000000 in
theorem bit_any (idx : Int) (cs : List Int) (hcs : ∀ x ∈ cs, 0 ≤ x ∧ x < 18446744073709551616) (i : Nat) (hi : i < 1024) (x : Int) (hx : cs[i / 64]? = some x) (w : World) :
    Calls Tryz.prog 60 #[.agg (pickA idx cs), .int .i64 i] w fun e w' => e = .returned (.tuple #[.int .i64 (x / 2 ^ (i % 64) % 2), .int .i64 0]) ∧ Below w.heap.size w w' := by
  obtain ⟨hx0, hx1⟩ := hcs x (List.mem_of_getElem? hx)
  have g0 : (w.alloc (.cells (pickA idx cs) 74)).heap[w.heap.size]? = some (.cells (pickA idx cs) 74 (0, 0)) := hget_at _ _ rfl
  have c0 : (w.alloc (.cells (pickA idx cs) 74)).cell? ⟨w.heap.size, 1 + i / 64, none⟩ = some (.int .u64 x) := by
    rw [cell_of_row _ _ _ _ _ _ g0, pickA_succ, hx]; rfl
  clear g0 hcs hx
  go_enter Tryz.func60, Tryz.ntmps60
  go_wp2_with fail
  obtain ⟨y0, y1⟩ := div_pow_range x (i % 64) hx0 hx1
  refine bodyPost_ret (results_tmp2 rfl _ _ _) rfl ⟨?_, (Below.refl _ w).alloc (Nat.le_refl _) _⟩
  rw [← and1_u64 _ y0 y1]
  rfl

/-- A pick's numbers, bit i turned. -/
def turnL (cs : List Int) (i : Nat) : List Int := cs.set (i / 64) (bits .xor .u64 (cs.getD (i / 64) 0) (IntKind.u64.wrap (2 ^ (i % 64))))
theorem pickA_set (idx : Int) (cs : List Int) (j : Nat) (x : Int) : (pickA idx cs).setIfInBounds (1 + j) (.int .u64 x) = pickA idx (cs.set j x) := by
  simp [pickA, Nat.add_comm 1 j, List.map_set]

set_option maxRecDepth 100000 in
set_option maxHeartbeats 1000000 in
theorem turn_any (idx : Int) (cs : List Int) (hlen : cs.length = 16) (hcs : ∀ x ∈ cs, 0 ≤ x ∧ x < 18446744073709551616) (i : Nat) (hi : i < 1024) (w : World) :
    Calls Tryz.prog 33 #[.agg (pickA idx cs), .int .i64 i] w fun e w' => e = .returned (.tuple #[.agg (pickA idx (turnL cs i)), .int .i64 0]) ∧ Below w.heap.size w w' := by
  obtain ⟨x, hx⟩ : ∃ x, cs[i / 64]? = some x := ⟨cs[i / 64]'(by omega), List.getElem?_eq_getElem _⟩
  obtain ⟨hx0, hx1⟩ := hcs x (List.mem_of_getElem? hx)
  have hbit := fun W => bit_any idx cs hcs i hi x hx W
  have hT : turnL cs i = cs.set (i / 64) (bits .xor .u64 x (IntKind.u64.wrap (2 ^ (i % 64)))) := by simp only [turnL, List.getD_eq_getElem?_getD, hx, Option.getD_some]
  obtain ⟨W0, hW0⟩ : ∃ W, W = (w.alloc (.cells (pickA idx cs) 74)).alloc (.cells (pickA 0 z16) 74) := ⟨_, rfl⟩
  have hs0 : W0.heap.size = w.heap.size + 2 := by rw [hW0]; simp
  have g0 : W0.heap[w.heap.size]? = some (.cells (pickA idx cs) 74 (0, 0)) := by rw [hW0, hget_past _ _ (by simp), hget_at _ _ rfl]
  have g1 : W0.heap[w.heap.size + 1]? = some (.cells (pickA 0 z16) 74 (0, 0)) := by rw [hW0, hget_at _ _ (by simp)]
  have hB0 : Below w.heap.size w W0 := by rw [hW0]; exact ((Below.refl _ w).alloc (Nat.le_refl _) _).alloc (by simp) _
  have i0 := size74' idx hlen
  have GA : Hid (((w.alloc (.cells (pickA idx cs) 74)).alloc (.cells (pickA 0 z16) 74)).heap[w.heap.size]? = some (.cells (pickA idx cs) 74 (0, 0))) := by rw [← hW0]; exact g0
  have HW0 := hideIt hW0
  have G0 := hideIt g0
  have G1 := hideIt g1
  have HL := hideIt hlen
  have HX := hideIt hx
  have HT := hideIt hT
  clear hW0 g0 g1 hlen hcs hx hT
  go_enter Tryz.func33, Tryz.ntmps33
  go_wp2_with (first
    | (with_reducible refine wl_alloc zero74 ?_)
    | (with_reducible refine wl_load rfl GA.out Tryz.underlying74 rfl i0 ?_)
    | (go_at_call 60; first | rw [← HW0.out] | skip; refine (hbit _).mono ?_; rintro e W1 ⟨rfl, hb1⟩))
  have h0 := (hb1.block w.heap.size (by omega)).trans G0.out
  have h1 := (hb1.block (w.heap.size + 1) (by omega)).trans G1.out
  have c1 : W1.cell? ⟨w.heap.size, 1 + i / 64, none⟩ = some (.int .u64 x) := by
    rw [cell_of_row _ _ _ _ _ _ h0, pickA_succ, HX.out]; rfl
  have f1 : W1.frozen? ⟨w.heap.size, 1 + i / 64, none⟩ = false := frozen_of_row _ _ _ _ _ h0
  have hB1 : Below w.heap.size w W1 := hB0.trans (hb1.mono (by omega))
  have H0 := hideIt h0
  have H1 := hideIt h1
  clear h0 h1 hbit i0
  go_region
  have hlT : (turnL cs i).length = 16 := by rw [turnL, List.length_set, HL.out]
  have g2 : (W1.setCell ⟨w.heap.size, 1 + i / 64, none⟩ (.int .u64 (bits .xor .u64 x (IntKind.u64.wrap (2 ^ (i % 64)))))).drew.heap[w.heap.size]? = some (.cells (pickA idx (turnL cs i)) 74 (0, 0)) := by
    rw [hget_drew, hget_setCell_same _ _ _ _ _ H0.out, pickA_set, HT.out]
  have g3 : (W1.setCell ⟨w.heap.size, 1 + i / 64, none⟩ (.int .u64 (bits .xor .u64 x (IntKind.u64.wrap (2 ^ (i % 64)))))).drew.heap[w.heap.size + 1]? = some (.cells (pickA 0 z16) 74 (0, 0)) := by
    rw [hget_drew, hget_setCell_other _ _ _ (by simp), H1.out]
  have hB2 : Below w.heap.size w (W1.setCell ⟨w.heap.size, 1 + i / 64, none⟩ (.int .u64 (bits .xor .u64 x (IntKind.u64.wrap (2 ^ (i % 64)))))).drew := (hB1.setCell (Nat.le_refl _) _).drew
  have i2 := size74' idx hlT
  have e2 : (pickA 0 z16).size = (pickA idx (turnL cs i)).size := by rw [pickA_size, pickA_size, hlT]; rfl
  have h12 := pickA_one idx (turnL cs i)
  generalize (W1.setCell ⟨w.heap.size, 1 + i / 64, none⟩ (.int .u64 (bits .xor .u64 x (IntKind.u64.wrap (2 ^ (i % 64)))))).drew = W2 at g2 g3 hB2 ⊢
  have G2 := hideIt g2
  have G3 := hideIt g3
  clear g2 g3 hlT c1 f1
  generalize hR : turnL cs i = R at G2 i2 e2 h12 HT
  have HR := hideIt hR
  clear hR
  go_wp2_with (first
    | (with_reducible refine wl_load rfl G2.out Tryz.underlying74 rfl i2 ?_)
    | (with_reducible refine wl_store rfl rfl G3.out i2 e2 h12 ?_))
  exact ret_cell_tmp rfl rfl rfl (setRow_heap _ _ _ _ _ _ G3.out) Tryz.underlying74 rfl i2 ⟨by rw [HR.out]; rfl, below_setRow hB2 (by omega) _⟩
end Go.Proofs.YtnibehcgnhdcgaaGreatDoor
/- A device: writes. -/
namespace Go.Proofs.YtnibehcgnhdcgaaGreatDoor
open Go.RowKit

/-- A device's row: its blocks' map, what is pending, how many writes were done. -/
def devA (n : Int) (mb : Nat) (sl : Value) (wr : Int) : Array Value := #[.int .u32 n, .map (some mb), sl, .pointer none, .bool false, .int .u64 wr]

set_option maxRecDepth 100000 in
set_option maxHeartbeats 1000000 in
theorem burn_any (db mb : Nat) (n : Int) (sl : Value) (wr : Int) (w : World) (hg : w.heap[db]? = some (.cells (devA n mb sl wr) 81 (0, 0))) :
    Calls Tryz.prog 76 #[.pointer (some ⟨db, 0, none⟩)] w fun e w' => e = .returned (.int .i64 0) ∧ w' = w.setCell ⟨db, 5, none⟩ (.int .u64 ((wr + 1) % 18446744073709551616)) := by
  have c3 : w.cell? ⟨db, 3, none⟩ = some (.pointer none) := by rw [cell_of_row w db 3 _ _ _ hg]; rfl
  have c5 : w.cell? ⟨db, 5, none⟩ = some (.int .u64 wr) := by rw [cell_of_row w db 5 _ _ _ hg]; rfl
  have f5 : w.frozen? ⟨db, 5, none⟩ = false := frozen_of_row _ _ _ _ _ hg
  clear hg
  go_enter Tryz.func76, Tryz.ntmps76
  go_wp2_with fail
  go_ret
  exact ⟨rfl, rfl⟩

set_option maxHeartbeats 400000 in
theorem up1_any (bd db : Nat) (w : World) (h1 : w.cell? ⟨bd, 0, none⟩ = some (.pointer (some ⟨db, 0, none⟩))) (h4 : w.cell? ⟨db, 4, none⟩ = some (.bool false)) :
    Calls Tryz.prog 88 #[.pointer (some ⟨bd, 0, none⟩)] w fun e w' => e = .returned (.bool false) ∧ w = w' := by
  go_enter Tryz.func88, Tryz.ntmps88
  go_wp2_with fail
  go_ret
  exact ⟨rfl, rfl⟩

def fNone (db : Nat) : Value := .func (.func 40) #[.pointer (some ⟨db, 0, none⟩)] #[]
def fFar (ba bd : Nat) : Value := .func (.func 74) #[] #[.pointer (some ⟨ba, 0, none⟩), .pointer (some ⟨bd, 0, none⟩)]
def fUp (bd : Nat) : Value := .func (.func 88) #[] #[.pointer (some ⟨bd, 0, none⟩)]

set_option maxRecDepth 100000 in
set_option maxHeartbeats 1000000 in
/-- 'check' at none, far, down: a write. -/
theorem check_wr (db mb ba bd be sb cap : Nat) (a n : Int) (w : World) (hd1 : w.cell? ⟨db, 1, none⟩ = some (.map (some mb))) (hd0 : w.cell? ⟨db, 0, none⟩ = some (.int .u32 n)) (hd4 : w.cell? ⟨db, 4, none⟩ = some (.bool false)) (ha : a < n)
    (h0 : w.cell? ⟨ba, 0, none⟩ = some (.int .u32 a)) (h1 : w.cell? ⟨bd, 0, none⟩ = some (.pointer (some ⟨db, 0, none⟩))) (h2 : w.cell? ⟨be, 0, none⟩ = some (.pointer (some ⟨db, 0, none⟩)))
    (hs0 : w.cell? ⟨sb, 0, none⟩ = some (.int .i64 1)) (hs1 : w.cell? ⟨sb, 1, none⟩ = some (.func (.func 40) #[.pointer (some ⟨db, 0, none⟩)] #[]))
    (hs2 : w.cell? ⟨sb, 2, none⟩ = some (.int .i64 2)) (hs3 : w.cell? ⟨sb, 3, none⟩ = some (.func (.func 74) #[] #[.pointer (some ⟨ba, 0, none⟩), .pointer (some ⟨bd, 0, none⟩)]))
    (hs4 : w.cell? ⟨sb, 4, none⟩ = some (.int .i64 30)) (hs5 : w.cell? ⟨sb, 5, none⟩ = some (.func (.func 88) #[] #[.pointer (some ⟨be, 0, none⟩)])) :
    Calls Tryz.prog 50 #[.slice (some ⟨sb, 0, none⟩) 3 cap] w fun e w' => e = .returned (.int .i64 0) ∧ Below w.heap.size w w' := by
  obtain ⟨o1, ho1⟩ : ∃ o, o = Obj.cells #[.int .i64 1, .func (.func 40) #[.pointer (some ⟨db, 0, none⟩)] #[]] 116 := ⟨_, rfl⟩
  obtain ⟨o2, ho2⟩ : ∃ o, o = Obj.cells #[.int .i64 2, .func (.func 74) #[] #[.pointer (some ⟨ba, 0, none⟩), .pointer (some ⟨bd, 0, none⟩)]] 116 := ⟨_, rfl⟩
  obtain ⟨o3, ho3⟩ : ∃ o, o = Obj.cells #[.int .i64 30, .func (.func 88) #[] #[.pointer (some ⟨be, 0, none⟩)]] 116 := ⟨_, rfl⟩
  have hn := dnone_any db mb (w.alloc o1) (past_any hd1)
  have hf := far1_any ba bd db a n ((w.alloc o1).alloc o2) (past_any (past_any h0)) (past_any (past_any h1)) (past_any (past_any hd0)) ha
  have p0 : (w.alloc o1).cell? ⟨sb, 2, none⟩ = _ := past_any hs2
  have p1 : (w.alloc o1).cell? ⟨sb, 3, none⟩ = _ := past_any hs3
  have q0 : ((w.alloc o1).alloc o2).cell? ⟨sb, 4, none⟩ = _ := past_any (past_any hs4)
  have q1 : ((w.alloc o1).alloc o2).cell? ⟨sb, 5, none⟩ = _ := past_any (past_any hs5)
  have r1 : ((w.alloc o1).alloc o2).cell? ⟨be, 0, none⟩ = _ := past_any (past_any h2)
  have r2 : ((w.alloc o1).alloc o2).cell? ⟨db, 4, none⟩ = _ := past_any (past_any hd4)
  have hup : ∀ k, Calls Tryz.prog 88 #[.pointer (some ⟨be, 0, none⟩)] ((((w.alloc o1).alloc o2).drewN k).alloc o3) fun e w' => e = .returned (.bool false) ∧ ((((w.alloc o1).alloc o2).drewN k).alloc o3) = w' :=
    fun k => up1_any be db _ (past_any r1) (past_any r2)
  clear hd1 hd0 hd4 h0 h1 h2 hs2 hs3 hs4 hs5 r1 r2
  rw [ho1] at hn p0 p1
  rw [ho1, ho2] at hf q0 q1
  rw [ho1, ho2, ho3] at hup
  clear ho1 ho2 ho3
  go_enter Tryz.func50, Tryz.ntmps50
  go_wp2_with fail
  refine wp_loop_rounds 4 ?_
  rw [rounds_succ]
  go_wp2_with (first
    | (with_reducible refine wl_alloc_store zero116 (by simp) rfl rfl (size116 _ _) (two _ _ _ _) (one116 _ _ _ _) ?_)
    | (go_at_call 40; refine hn.mono ?_; rintro e w' ⟨rfl, rfl⟩))
  rw [rounds_succ]
  go_wp2_with (first
    | (with_reducible refine wl_alloc_store zero116 (by simp) rfl rfl (size116 _ _) (two _ _ _ _) (one116 _ _ _ _) ?_)
    | (go_at_call 74; refine hf.mono ?_; rintro e w' ⟨rfl, k, rfl⟩))
  rw [rounds_succ]
  go_wp2_with (first
    | (with_reducible refine wl_alloc_store zero116 (by simp) rfl rfl (size116 _ _) (two _ _ _ _) (one116 _ _ _ _) ?_)
    | (go_at_call 88; refine (hup k).mono ?_; rintro e w' ⟨rfl, rfl⟩))
  rw [rounds_succ]
  go_wp2_with fail
  go_ret
  refine ⟨rfl, (below_drewN (((Below.refl _ w).alloc (Nat.le_refl _) _).alloc (by simp) _) _).alloc ?_ _⟩
  show _ ≤ ((w.alloc _).alloc _).heap.size
  simp
  omega

set_option maxRecDepth 100000 in
set_option maxHeartbeats 1000000 in
/-- 'check' at none, down: a flush. -/
theorem check_fl (db mb be sb cap : Nat) (w : World) (hd1 : w.cell? ⟨db, 1, none⟩ = some (.map (some mb))) (hd4 : w.cell? ⟨db, 4, none⟩ = some (.bool false)) (h2 : w.cell? ⟨be, 0, none⟩ = some (.pointer (some ⟨db, 0, none⟩)))
    (hs0 : w.cell? ⟨sb, 0, none⟩ = some (.int .i64 1)) (hs1 : w.cell? ⟨sb, 1, none⟩ = some (.func (.func 40) #[.pointer (some ⟨db, 0, none⟩)] #[]))
    (hs4 : w.cell? ⟨sb, 2, none⟩ = some (.int .i64 30)) (hs5 : w.cell? ⟨sb, 3, none⟩ = some (.func (.func 88) #[] #[.pointer (some ⟨be, 0, none⟩)])) :
    Calls Tryz.prog 50 #[.slice (some ⟨sb, 0, none⟩) 2 cap] w fun e w' => e = .returned (.int .i64 0) ∧ Below w.heap.size w w' := by
  obtain ⟨o1, ho1⟩ : ∃ o, o = Obj.cells #[.int .i64 1, .func (.func 40) #[.pointer (some ⟨db, 0, none⟩)] #[]] 116 := ⟨_, rfl⟩
  obtain ⟨o3, ho3⟩ : ∃ o, o = Obj.cells #[.int .i64 30, .func (.func 88) #[] #[.pointer (some ⟨be, 0, none⟩)]] 116 := ⟨_, rfl⟩
  have hn := dnone_any db mb (w.alloc o1) (past_any hd1)
  have q0 : (w.alloc o1).cell? ⟨sb, 2, none⟩ = _ := past_any hs4
  have q1 : (w.alloc o1).cell? ⟨sb, 3, none⟩ = _ := past_any hs5
  have hup := up1_any be db ((w.alloc o1).alloc o3) (past_any (past_any h2)) (past_any (past_any hd4))
  clear hd1 hd4 h2 hs4 hs5
  rw [ho1] at hn q0 q1
  rw [ho1, ho3] at hup
  clear ho1 ho3
  go_enter Tryz.func50, Tryz.ntmps50
  go_wp2_with fail
  refine wp_loop_rounds 3 ?_
  rw [rounds_succ]
  go_wp2_with (first
    | (with_reducible refine wl_alloc_store zero116 (by simp) rfl rfl (size116 _ _) (two _ _ _ _) (one116 _ _ _ _) ?_)
    | (go_at_call 40; refine hn.mono ?_; rintro e w' ⟨rfl, rfl⟩))
  rw [rounds_succ]
  go_wp2_with (first
    | (with_reducible refine wl_alloc_store zero116 (by simp) rfl rfl (size116 _ _) (two _ _ _ _) (one116 _ _ _ _) ?_)
    | (go_at_call 88; refine hup.mono ?_; rintro e w' ⟨rfl, rfl⟩))
  rw [rounds_succ]
  go_wp2_with fail
  go_ret
  exact ⟨rfl, ((Below.refl _ w).alloc (Nat.le_refl _) _).alloc (by simp) _⟩
end Go.Proofs.YtnibehcgnhdcgaaGreatDoor
