/- A device: a block is put for good. -/
import Derived.Test.YtnibehcgnhdcgaaGreatDoorM7
namespace Go.Proofs.YtnibehcgnhdcgaaGreatDoor
open Go.RowKit

/-- The blocks of a device, one put; one struck. -/
def putG : List (Int × List UInt8) → Int → List UInt8 → List (Int × List UInt8)
  | [], k, v => [(k, v)]
  | p :: r, k, v => if k == p.1 then (k, v) :: r else p :: putG r k v
def delG : List (Int × List UInt8) → Int → List (Int × List UInt8)
  | [], _ => []
  | p :: r, k => if k == p.1 then r else p :: delG r k
def putD (G : List (Int × List UInt8)) (a : Int) (b : List UInt8) : List (Int × List UInt8) := if b == zb then delG (putG G a b) a else putG G a b
theorem enc_put (G : List (Int × List UInt8)) (a : Int) (b : List UInt8) : encG (putG G a b) = put (encG G) a (.agg (blkA b)) := by
  induction G with
  | nil => rfl
  | cons p r ih =>
    simp only [encG, List.map_cons, putG, put] at ih ⊢
    cases h : a == p.1 <;> simp [ih]
theorem enc_del (G : List (Int × List UInt8)) (a : Int) : encG (delG G a) = del (encG G) a := by
  induction G with
  | nil => rfl
  | cons p r ih =>
    simp only [encG, List.map_cons, delG, del] at ih ⊢
    cases h : a == p.1 <;> simp [ih]
theorem putG_mem {G : List (Int × List UInt8)} {a : Int} {b : List UInt8} : ∀ p ∈ putG G a b, p ∈ G ∨ p = (a, b) := by
  induction G with
  | nil => intro p hp; simp [putG] at hp; exact .inr hp
  | cons q r ih =>
    intro p hp
    rw [putG] at hp
    split at hp
    · rcases List.mem_cons.1 hp with rfl | h
      · exact .inr rfl
      · exact .inl (List.mem_cons_of_mem _ h)
    · rcases List.mem_cons.1 hp with rfl | h
      · exact .inl (List.mem_cons_self)
      · rcases ih p h with h | h
        · exact .inl (List.mem_cons_of_mem _ h)
        · exact .inr h
theorem delG_mem {G : List (Int × List UInt8)} {a : Int} : ∀ p ∈ delG G a, p ∈ G := by
  induction G with
  | nil => intro p hp; exact hp
  | cons q r ih =>
    intro p hp
    rw [delG] at hp
    split at hp
    · exact List.mem_cons_of_mem _ hp
    · rcases List.mem_cons.1 hp with rfl | h
      · exact List.mem_cons_self
      · exact List.mem_cons_of_mem _ (ih p h)
theorem putD_good {G : List (Int × List UInt8)} {a : Int} {b : List UInt8} (h : ∀ p ∈ G, p.2.length = 256) (hb : b.length = 256) : ∀ p ∈ putD G a b, p.2.length = 256 := by
  intro p hp
  have h1 : ∀ p ∈ putG G a b, p.2.length = 256 := fun p hp => by rcases putG_mem p hp with h2 | rfl; exact h p h2; exact hb
  unfold putD at hp
  split at hp
  · exact h1 p (delG_mem p hp)
  · exact h1 p hp

theorem putA_get0 (a : Int) (b : List UInt8) : (putA a b)[0]? = some (.int .u32 a) := rfl
theorem putA_range {w : World} {g : Nat} {a : Int} {b : List UInt8} {t : TypeId} {fr : Nat × Nat} (h : w.heap[g]? = some (.cells (putA a b) t fr)) : w.rangeAt g 1 (b.map byteV) := by
  intro j v hv
  rw [cell_of_row w g _ _ _ _ h, Nat.add_comm]
  simpa [putA] using hv

set_option maxRecDepth 100000 in
set_option maxHeartbeats 2000000 in
theorem dput_any (db mb : Nat) (n : Int) (sl : Value) (wr : Int) (G : List (Int × List UInt8)) (a : Int) (b : List UInt8) (hb : b.length = 256) (w : World)
    (hg : w.heap[db]? = some (.cells (devA n mb sl wr) 81 (0, 0))) (hm : MapAt w mb (encG G)) :
    Calls Tryz.prog 81 #[.pointer (some ⟨db, 0, none⟩), .agg (putA a b)] w fun e w' => e = .returned (.tuple #[]) ∧ MapAt w' mb (encG (putD G a b)) ∧ Keeps (fun k => k = mb) w w' := by
  have hdb : db < w.heap.size := (Array.getElem?_eq_some_iff.1 hg).1
  have hmb : mb < w.heap.size := hm.lt
  have hmd : mb ≠ db := by
    obtain ⟨es, clock, e, _⟩ := hm
    rintro rfl
    rw [hg] at e
    cases e
  obtain ⟨W0, hW0⟩ : ∃ W, W = w.alloc (.cells (putA a b) 52) := ⟨_, rfl⟩
  have g0 : W0.heap[w.heap.size]? = some (.cells (putA a b) 52 (0, 0)) := by rw [hW0, hget_at _ _ rfl]
  have gd0 : W0.heap[db]? = some (.cells (devA n mb sl wr) 81 (0, 0)) := by rw [hW0, hget_past _ _ hdb, hg]
  have hm0 : MapAt W0.drew mb (encG G) := hm.of_block (by rw [hget_drew, hW0, hget_past _ _ hmb])
  have K0 : Keeps (fun k => k = mb) w W0 := by rw [hW0]; exact (Keeps.refl _ w).alloc _
  obtain ⟨o1, hr1, hm1⟩ := run_put hm0 Tryz.underlying78 Tryz.underlying22 a (.agg (blkA b))
  rw [← enc_put] at hm1
  obtain ⟨W1, hW1⟩ : ∃ W, W = W0.drew.putObj mb o1 := ⟨_, rfl⟩
  rw [← hW1] at hr1 hm1
  have e1 : ∀ k, k ≠ mb → W1.heap[k]? = W0.heap[k]? := fun k hk => by rw [hW1, World.putObj_heap_other hk]; rfl
  have g1 : W1.heap[w.heap.size]? = some (.cells (putA a b) 52 (0, 0)) := (e1 _ (by omega)).trans g0
  have gd1 : W1.heap[db]? = some (.cells (devA n mb sl wr) 81 (0, 0)) := (e1 _ (Ne.symm hmd)).trans gd0
  have K1 : Keeps (fun k => k = mb) w W1 := by
    rw [hW1]
    exact ⟨K0.os, K0.tape, K0.output, by rw [World.putObj_size]; exact K0.size, fun k hk hF => by rw [World.putObj_heap_other hF]; exact K0.block k hk hF⟩
  have hm1' : MapAt W1.drew mb (encG (putG G a b)) := hm1.of_block (hget_drew _)
  obtain ⟨o2, hr2, hm2⟩ := run_del hm1' Tryz.underlying78 Tryz.underlying22 a 0 22
  rw [← enc_del] at hm2
  have K2 : Keeps (fun k => k = mb) w (W1.drew.putObj mb o2) := 
    ⟨K1.os, K1.tape, K1.output, by rw [World.putObj_size]; exact K1.size, fun k hk hF => by rw [World.putObj_heap_other hF]; exact K1.block k hk hF⟩
  have fin1 : (b == zb) = false → MapAt W1 mb (encG (putD G a b)) ∧ Keeps (fun k => k = mb) w W1 := fun h => ⟨by unfold putD; rw [if_neg (by simp [h])]; exact hm1, K1⟩
  have fin2 : (b == zb) = true → MapAt (W1.drew.putObj mb o2) mb (encG (putD G a b)) ∧ Keeps (fun k => k = mb) w (W1.drew.putObj mb o2) := fun h => ⟨by unfold putD; rw [if_pos (by simp [h])]; exact hm2, K2⟩
  have r0 := putA_range g0
  have r1 := putA_range g1
  have hlen : (Tryz.prog.info? 41).map (·.size) = some (b.map byteV).length := by rw [List.length_map, hb]; exact size41
  have hz : (b.map byteV).toArray = blkA b := rfl
  have S0 : (fun w' : World => w'.heap[w.heap.size]? = some (.cells (putA a b) 52 (0, 0)) ∧ w'.heap[db]? = some (.cells (devA n mb sl wr) 81 (0, 0))) W0.drew := ⟨g0, gd0⟩
  have S1 : (fun w' : World => w'.heap[w.heap.size]? = some (.cells (putA a b) 52 (0, 0)) ∧ w'.heap[db]? = some (.cells (devA n mb sl wr) 81 (0, 0))) W1 := ⟨g1, gd1⟩
  have S2 : (fun w' : World => w'.heap[w.heap.size]? = some (.cells (putA a b) 52 (0, 0)) ∧ w'.heap[db]? = some (.cells (devA n mb sl wr) 81 (0, 0))) W1.drew := S1
  have S3 : (fun w' : World => w'.heap[w.heap.size]? = some (.cells (putA a b) 52 (0, 0)) ∧ w'.heap[db]? = some (.cells (devA n mb sl wr) 81 (0, 0))) (W1.drew.putObj mb o2) :=
    ⟨by rw [World.putObj_heap_other (by omega)]; exact g1, by rw [World.putObj_heap_other (Ne.symm hmd)]; exact gd1⟩
  have cA : ∀ w' : World, (w'.heap[w.heap.size]? = some (.cells (putA a b) 52 (0, 0)) ∧ w'.heap[db]? = some (.cells (devA n mb sl wr) 81 (0, 0))) → w'.cell? ⟨w.heap.size, 0, none⟩ = some (.int .u32 a) := fun w' h => by rw [cell_of_row _ _ 0 _ _ _ h.1]; rfl
  have cM : ∀ w' : World, (w'.heap[w.heap.size]? = some (.cells (putA a b) 52 (0, 0)) ∧ w'.heap[db]? = some (.cells (devA n mb sl wr) 81 (0, 0))) → w'.cell? ⟨db, 1, none⟩ = some (.map (some mb)) := fun w' h => by rw [cell_of_row _ _ 1 _ _ _ h.2]; rfl
  have H0 := hideIt hW0
  have HR1 := hideIt hr1
  have HR2 := hideIt hr2
  have HS0 := hideIt S0
  have HS1 := hideIt S1
  have HS2 := hideIt S2
  have HS3 := hideIt S3
  have F1 := hideIt fin1
  have F2 := hideIt fin2
  have R0 := hideIt r0
  have R1 := hideIt r1
  have HL := hideIt hlen
  have HB := hideIt hb
  have CA := hideIt cA
  have CM := hideIt cM
  clear hg hm hW0 g0 gd0 hm0 K0 hr1 hm1 hW1 e1 g1 gd1 K1 hm1' hr2 hm2 K2 fin1 fin2 r0 r1 hlen hb cA cM S0 S1 S2 S3 hz
  go_enter Tryz.func81, Tryz.ntmps81
  go_wp2_with fail
  rw [← H0.out]
  refine wp_region_held (S := fun w' : World => w'.heap[w.heap.size]? = some (.cells (putA a b) 52 (0, 0)) ∧ w'.heap[db]? = some (.cells (devA n mb sl wr) 81 (0, 0))) (by kernel_rfl) ?_
  change wpAnyH _ _ _ _ _ _ _ _ (World.drew _)
  have hS := HS0.out
  refine takeH 0 (v := ?_) rfl rfl (by kernel_rfl) (by kernel_rfl) (by kernel_rfl) (fun _ _ _ h => h) hS (yieldsIf_run rfl ?_) ?_
  rotate_left
  focus (intro w hSw; go_simp; try with_reducible rfl)
  simp only [List.setIfInBounds_toArray, List.set_cons_succ, List.set_cons_zero]
  refine takeH 1 (v := ?_) rfl rfl (by kernel_rfl) (by kernel_rfl) (by kernel_rfl) (fun _ _ _ h => h) hS (yieldsIf_run rfl ?_) ?_
  rotate_left
  focus (intro w hSw; go_simp; try with_reducible rfl)
  simp only [List.setIfInBounds_toArray, List.set_cons_succ, List.set_cons_zero]
  refine takeH 2 (v := ?_) rfl rfl (by kernel_rfl) (by kernel_rfl) (by kernel_rfl) (fun _ _ _ h => h) hS (yieldsIf_run rfl ?_) ?_
  rotate_left
  focus (intro w hSw; go_simp; try with_reducible rfl)
  simp only [List.setIfInBounds_toArray, List.set_cons_succ, List.set_cons_zero]
  refine takeH 4 (v := ?_) rfl rfl (by kernel_rfl) (by kernel_rfl) (by kernel_rfl) (fun _ _ _ h => h) hS (yieldsIf_run rfl ?_) ?_
  rotate_left
  focus (intro w hSw; go_simp; try with_reducible rfl)
  simp only [List.setIfInBounds_toArray, List.set_cons_succ, List.set_cons_zero]
  refine takeH 6 (v := ?_) rfl rfl (by kernel_rfl) (by kernel_rfl) (by kernel_rfl) (fun _ _ _ h => h) hS (yieldsIf_run rfl ?_) ?_
  rotate_left
  focus (intro w hSw; go_simp; try with_reducible rfl)
  simp only [List.setIfInBounds_toArray, List.set_cons_succ, List.set_cons_zero]
  refine takeH 3 (v := ?_) rfl rfl (by kernel_rfl) (by kernel_rfl) (by kernel_rfl) (fun _ _ _ h => h) hS (yieldsIf_run rfl ?_) ?_
  rotate_left
  focus (intro w hSw; have hcU := CM.out w hSw; clear hSw; go_simp; try with_reducible rfl)
  simp only [List.setIfInBounds_toArray, List.set_cons_succ, List.set_cons_zero]
  refine takeH 5 (v := ?_) rfl rfl (by kernel_rfl) (by kernel_rfl) (by kernel_rfl) (fun _ _ _ h => h) hS (yieldsIf_run rfl ?_) ?_
  rotate_left
  focus (intro w hSw; have hcU := CA.out w hSw; clear hSw; go_simp; try with_reducible rfl)
  simp only [List.setIfInBounds_toArray, List.set_cons_succ, List.set_cons_zero]
  refine takeH 7 rfl rfl (by kernel_rfl) (by kernel_rfl) (by kernel_rfl) (fun _ _ _ h => h) hS (yieldsIf_load_mid rfl _ _ rfl w.heap.size 1 rfl _ _ (fun w' h => putA_range h.1) Tryz.underlying41 rfl HL.out) ?_
  simp only [List.setIfInBounds_toArray, List.set_cons_succ, List.set_cons_zero]
  clear hS
  refine anyH_step (i := 8) (by kernel_rfl) rfl rfl (fun K hK => ?_)
  refine wp_mapUpdate rfl rfl rfl rfl HR1.out ?_
  refine hK _ _ (HS1.out) ?_
  clear hK K
  try simp only [Act.put, List.setIfInBounds_toArray, List.set_cons_succ, List.set_cons_zero]
  refine wpAnyH_done (by kernel_rfl) ?_ _
  cases hz : (b == zb)
  all_goals
    go_wp2_with (first
      | (with_reducible refine wpList_load_mid rfl _ _ rfl w.heap.size 1 rfl (b.map byteV) _ R1.out Tryz.underlying41 rfl HL.out ?_)
      | (with_reducible refine wl_build0 built41 ?_)
      | (with_reducible refine wl_eql41 rfl rfl HB.out zb_length ?_; rw [hz]))
  · exact bodyPost_end (results_none rfl _ _ _) rfl ⟨rfl, F1.out hz⟩
  · refine wp_region_held (S := fun w' : World => w'.heap[w.heap.size]? = some (.cells (putA a b) 52 (0, 0)) ∧ w'.heap[db]? = some (.cells (devA n mb sl wr) 81 (0, 0))) (by kernel_rfl) ?_
    change wpAnyH _ _ _ _ _ _ _ _ (World.drew _)
    try simp only [Act.put, List.setIfInBounds_toArray, List.set_cons_succ, List.set_cons_zero]
    have hS := HS2.out
    refine takeH 0 (v := ?_) rfl rfl (by kernel_rfl) (by kernel_rfl) (by kernel_rfl) (fun _ _ _ h => h) hS (yieldsIf_run rfl ?_) ?_
    rotate_left
    focus (intro w hSw; go_simp; try with_reducible rfl)
    simp only [List.setIfInBounds_toArray, List.set_cons_succ, List.set_cons_zero]
    refine takeH 1 (v := ?_) rfl rfl (by kernel_rfl) (by kernel_rfl) (by kernel_rfl) (fun _ _ _ h => h) hS (yieldsIf_run rfl ?_) ?_
    rotate_left
    focus (intro w hSw; go_simp; try with_reducible rfl)
    simp only [List.setIfInBounds_toArray, List.set_cons_succ, List.set_cons_zero]
    refine takeH 2 (v := ?_) rfl rfl (by kernel_rfl) (by kernel_rfl) (by kernel_rfl) (fun _ _ _ h => h) hS (yieldsIf_run rfl ?_) ?_
    rotate_left
    focus (intro w hSw; go_simp; try with_reducible rfl)
    simp only [List.setIfInBounds_toArray, List.set_cons_succ, List.set_cons_zero]
    refine takeH 4 (v := ?_) rfl rfl (by kernel_rfl) (by kernel_rfl) (by kernel_rfl) (fun _ _ _ h => h) hS (yieldsIf_run rfl ?_) ?_
    rotate_left
    focus (intro w hSw; go_simp; try with_reducible rfl)
    simp only [List.setIfInBounds_toArray, List.set_cons_succ, List.set_cons_zero]
    refine takeH 3 (v := ?_) rfl rfl (by kernel_rfl) (by kernel_rfl) (by kernel_rfl) (fun _ _ _ h => h) hS (yieldsIf_run rfl ?_) ?_
    rotate_left
    focus (intro w hSw; have hcU := CM.out w hSw; clear hSw; go_simp; try with_reducible rfl)
    simp only [List.setIfInBounds_toArray, List.set_cons_succ, List.set_cons_zero]
    refine takeH 5 (v := ?_) rfl rfl (by kernel_rfl) (by kernel_rfl) (by kernel_rfl) (fun _ _ _ h => h) hS (yieldsIf_run rfl ?_) ?_
    rotate_left
    focus (intro w hSw; have hcU := CA.out w hSw; clear hSw; go_simp; try with_reducible rfl)
    simp only [List.setIfInBounds_toArray, List.set_cons_succ, List.set_cons_zero]
    clear hS
    refine anyH_step (i := 6) (by kernel_rfl) rfl rfl (fun K hK => ?_)
    refine wp_delete rfl rfl rfl HR2.out ?_
    refine hK _ _ (HS3.out) ?_
    clear hK K
    try simp only [Act.put, List.setIfInBounds_toArray, List.set_cons_succ, List.set_cons_zero]
    refine wpAnyH_done (by kernel_rfl) ?_ _
    go_wp2_with fail
    exact bodyPost_end (results_none rfl _ _ _) rfl ⟨rfl, F2.out hz⟩
end Go.Proofs.YtnibehcgnhdcgaaGreatDoor
/- A device: a flush. -/
namespace Go.Proofs.YtnibehcgnhdcgaaGreatDoor
open Go.RowKit

theorem rowsL_get : ∀ {L : List (Int × List UInt8)} (_ : ∀ p ∈ L, p.2.length = 256) {i : Nat} {a : Int} {b : List UInt8} (_ : L[i]? = some (a, b)) (j : Nat), j < 257 → (rowsL L)[i * 257 + j]? = (putA a b).toList[j]?
  | [], _, i, a, b, h, j, hj => by simp at h
  | p :: r, hl, i, a, b, h, j, hj => by
    have hp : (putA p.1 p.2).toList.length = 257 := by rw [Array.length_toList, putA_size, hl p List.mem_cons_self]
    have e : rowsL (p :: r) = (putA p.1 p.2).toList ++ rowsL r := by simp [rowsL]
    rw [e]
    cases i with
    | zero =>
      simp at h
      subst h
      rw [Nat.zero_mul, Nat.zero_add, List.getElem?_append_left (by omega)]
    | succ k =>
      have h' : r[k]? = some (a, b) := by simpa using h
      have e2 : (k + 1) * 257 + j - 257 = k * 257 + j := by omega
      rw [List.getElem?_append_right (by omega), hp, e2]
      exact rowsL_get (fun q hq => hl q (List.mem_cons_of_mem _ hq)) h' j hj
theorem own_range {w : World} {B : Nat} {p : Option Addr} {cap : Nat} {L : List (Int × List UInt8)} (hl : ∀ p ∈ L, p.2.length = 256) (h : w.ownsRow B 52 257 (.slice p L.length cap) L.length (rowsL L)) {i : Nat} {a : Int} {b : List UInt8} (hi : L[i]? = some (a, b)) :
    ∃ g, p = some ⟨g, 0, none⟩ ∧ w.rangeAt g (i * 257) (putA a b).toList := by
  have hil : i < L.length := (List.getElem?_eq_some_iff.1 hi).1
  rcases h.2 with ⟨e, h0⟩ | ⟨g, cap', cur, e, hbg, hgg, _, _, _, ht⟩
  · omega
  · simp only [Value.slice.injEq] at e
    obtain ⟨rfl, _, rfl⟩ := e
    refine ⟨g, rfl, fun j v hv => ?_⟩
    have hj : j < 257 := by
      have := (List.getElem?_eq_some_iff.1 hv).1
      rw [Array.length_toList, putA_size, hl _ (List.mem_of_getElem? hi)] at this
      exact this
    rw [cell_of_row w g _ _ _ _ hgg]
    have e2 := rowsL_get hl hi j hj
    rw [← ht, List.getElem?_take, if_pos (by omega), Array.getElem?_toList] at e2
    rw [e2, hv]

/-- A device's blocks behind a flush. -/
def flushG (G L : List (Int × List UInt8)) : List (Int × List UInt8) := L.foldl (fun G p => putD G p.1 p.2) G
theorem flushG_take {G L : List (Int × List UInt8)} {i : Nat} {a : Int} {b : List UInt8} (h : L[i]? = some (a, b)) : flushG G (L.take (i + 1)) = putD (flushG G (L.take i)) a b := by
  rw [flushG, List.take_add_one, h]
  simp [flushG]
theorem flushG_good {G L : List (Int × List UInt8)} (h : ∀ p ∈ G, p.2.length = 256) (hl : ∀ p ∈ L, p.2.length = 256) : ∀ p ∈ flushG G L, p.2.length = 256 := by
  induction L generalizing G with
  | nil => exact h
  | cons q r ih => exact ih (putD_good h (hl q List.mem_cons_self)) (fun p hp => hl p (List.mem_cons_of_mem _ hp))

set_option maxRecDepth 100000 in
set_option maxHeartbeats 2000000 in
theorem flush_any (B db mb : Nat) (n : Int) (G L : List (Int × List UInt8)) (hL : L.length ≤ 100000) (w : World) (hD : DevP w B db mb n G L) :
    Calls Tryz.prog 57 #[.pointer (some ⟨db, 0, none⟩)] w fun e w' => e = .returned (.int .i64 0) ∧ DevAt w' db mb n (flushG G L) ∧ Keeps (fun k => k = db ∨ k = mb) w w' := by
  obtain ⟨sl, wr, hw0, hw1, hg, hown⟩ := hD.cells
  have hdb := hD.hdb
  have hmb := hD.hmb
  have hB := hD.hB
  have hmd := hD.ne
  obtain ⟨p, cap, rfl⟩ : ∃ p cap, sl = .slice p L.length cap := by
    rcases hown.2 with ⟨rfl, h⟩ | ⟨g, cap, cur, rfl, _⟩
    · exact ⟨none, 0, by rw [h]⟩
    · exact ⟨_, cap, rfl⟩
  have hup := up_fl db mb w (by rw [cell_of_row _ _ 1 _ _ _ hg]; rfl) (by rw [cell_of_row _ _ 4 _ _ _ hg]; rfl)
  have hbu : ∀ W1, Below w.heap.size w W1 → Calls Tryz.prog 76 #[.pointer (some ⟨db, 0, none⟩)] W1 (fun e w' => e = .returned (.int .i64 0) ∧ ∃ wr', 0 ≤ wr' ∧ wr' < 18446744073709551616 ∧
      w'.heap[db]? = some (.cells (devA n mb (.slice p L.length cap) wr') 81 (0, 0)) ∧ Hid (MapAt w' mb (encG G)) ∧ Hid (w'.ownsRow B 52 257 (.slice p L.length cap) L.length (rowsL L)) ∧ Keeps (fun k => k = db ∨ k = mb) w w') := by
    intro W1 h
    have h1 := (h.block db (by omega)).trans hg
    refine (burn_any db mb n _ wr W1 h1).mono ?_
    rintro e w' ⟨rfl, rfl⟩
    exact ⟨rfl, _, by omega, by omega, hget_setCell_same db 5 _ _ _ h1, hD.map.of_block (by rw [hget_setCell_other _ _ _ hmd]; exact h.block mb (by omega)),
      own_blocks (own_below hown h) (fun k hk _ => hget_setCell_other _ _ _ (by show k ≠ db; omega)), (Keeps.of_below h).setCell (p := ⟨db, 5, none⟩) (.inr (.inl rfl)) _⟩
  have HBU := hideIt hbu
  have HG := hideIt hD.good
  have HGL := hideIt hD.goodL
  clear hD hg hown hbu hw0 hw1
  go_enter Tryz.func57, Tryz.ntmps57
  go_wp2_with (first
    | (go_at_call 75; with_reducible refine hup.mono ?_; rintro e W1 ⟨rfl, hb1⟩; have hbu := HBU.out W1 hb1)
    | (go_at_call 76; with_reducible refine hbu.mono ?_; rintro e W2 ⟨rfl, wr2, hr0, hr1, hd2, hm2, ho2, K2⟩; clear hbu hb1
       have c2 : W2.cell? ⟨db, 2, none⟩ = some (.slice p L.length cap) := by { rw [cell_of_row _ _ 2 _ _ _ hd2]; rfl }
       have HD2 := hideIt hd2; clear hd2))
  clear c2 HBU
  go_loopw [22] (fun v wr => ∃ i : Nat, i ≤ L.length ∧ v = .int .i64 i ∧ Hid (MapAt wr mb (encG (flushG G (L.take i)))) ∧ Keeps (fun k => k = mb) W2 wr) (fun v _ => L.length - (intOf v).toNat)
  case atStart => exact ⟨0, Nat.zero_le _, rfl, hm2, Keeps.refl _ _⟩
  case round =>
    obtain ⟨i, hi, rfl, hmi, hki⟩ := hrel
    have hs2 := K2.size
    have hB2 : B ≤ W2.heap.size := by omega
    have hdi : wr.heap[db]? = some (.cells (devA n mb (.slice p L.length cap) wr2) 81 (0, 0)) := (hki.block db (by omega) (Ne.symm hmd)).trans HD2.out
    by_cases hlt : i < L.length
    · obtain ⟨⟨a, b⟩, hx⟩ : ∃ x, L[i]? = some x := ⟨L[i]'hlt, List.getElem?_eq_getElem _⟩
      have hbl : b.length = 256 := HGL.out _ (List.mem_of_getElem? hx)
      have hoi : wr.ownsRow B 52 257 (.slice p L.length cap) L.length (rowsL L) := own_blocks ho2.out (fun k hk hk2 => hki.block k hk2 (by omega))
      obtain ⟨g, rfl, hrg⟩ := own_range HGL.out hoi hx
      have hin : i * 257 = i * 257 := rfl
      have hdl := dput_any db mb n _ wr2 (flushG G (L.take i)) a b hbl (wr.alloc (.cells (putA a b) 52)) ((hget_past _ _ (Array.getElem?_eq_some_iff.1 hdi).1).trans hdi) (hmi.out.of_block (hget_past _ _ hmi.out.lt))
      rw [← flushG_take hx] at hdl
      have hgx : (wr.alloc (.cells (putA a b) 52)).heap[wr.heap.size]? = some (.cells (putA a b) 52 (0, 0)) := hget_at _ _ rfl
      have isz := size52' a hbl
      have isl : (Tryz.prog.info? 52).map (·.size) = some (putA a b).toList.length := by rw [Array.length_toList]; exact isz
      have esz : (putA 0 zb).size = (putA a b).size := by rw [putA_size, putA_size, hbl, zb_length]
      have one := putA_one a b
      have KI := hideIt hki
      have HRG := hideIt hrg
      have HGX := hideIt hgx
      have HI := hideIt isz
      have HIL := hideIt isl
      have HE := hideIt esz
      have HO := hideIt one
      clear hdi hoi hrg hgx isz isl esz one hki hbl hx
      go_wp2_with (first
        | (with_reducible refine wpList_load_mid rfl _ _ rfl g (i * 257) rfl (putA a b).toList _ HRG.out Tryz.underlying52 rfl HIL.out ?_)
        | (with_reducible refine wl_alloc_store zero52 (by simp [Act.put]) rfl rfl HI.out HE.out HO.out ?_)
        | (with_reducible refine wl_load rfl HGX.out Tryz.underlying52 rfl HI.out ?_)
        | (go_at_call 81; with_reducible refine hdl.mono ?_; rintro e w3 ⟨rfl, hm3, hk3⟩))
      go_roundw
      case rel => exact ⟨i + 1, by omega, by go_num, hm3, (KI.out.alloc _).trans (hk3)⟩
      case measure => simp [intOf]; omega
    · obtain rfl : i = L.length := by omega
      rw [List.take_length] at hmi
      have c3 : wr.cell? ⟨db, 2, none⟩ = some (.slice p L.length cap) := by { rw [cell_of_row _ _ 2 _ _ _ hdi]; rfl }
      have f3 : wr.frozen? ⟨db, 2, none⟩ = false := frozen_of_row _ _ _ _ _ hdi
      have HDI := hideIt hdi
      have KI := hideIt hki
      clear hdi hki
      go_wp2_with fail
      go_ret
      have e4 : (wr.setCell ⟨db, 2, none⟩ (.slice none 0 0)).heap[db]? = some (.cells (devA n mb (.slice none 0 0) wr2) 81 (0, 0)) := hget_setCell_same db 2 _ _ _ HDI.out
      exact ⟨rfl, ⟨⟨wr2, hr0, hr1, e4⟩, hmi.out.of_block (hget_setCell_other _ _ _ hmd), flushG_good HG.out HGL.out⟩,
        (K2.trans (KI.out.mono (fun _ _ h => .inr h))).setCell (p := ⟨db, 2, none⟩) (.inr (.inl rfl)) _⟩
end Go.Proofs.YtnibehcgnhdcgaaGreatDoor
