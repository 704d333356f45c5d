/- CountApart: its walk. -/
import Derived.Test.YtnibehcgnhdcgaaGreatDoorM36
import Derived.Test.YtnibehcgnhdcgaaGreatDoorM35
import Derived.Test.YtnibehcgnhdcgaaGreatDoorM26
import Derived.Deep.OwnRows
import Derived.CellFam
import Derived.Deep.Cut
namespace Go.Proofs.YtnibehcgnhdcgaaGreatDoor
open Go.RowKit Go.Maps

def nowV (N : Int → Int) (n : Nat) : Array Value := ((List.range n).map fun a : Nat => Value.int .u16 (N a)).toArray
def tchV (f : Int → Bool) (n : Nat) : Array Value := ((List.range n).map fun a : Nat => Value.bool (f a)).toArray
theorem nowV_size (N : Int → Int) (n : Nat) : (nowV N n).size = n := by simp [nowV]
theorem tchV_size (f : Int → Bool) (n : Nat) : (tchV f n).size = n := by simp [tchV]
theorem nowV_get (N : Int → Int) (n a : Nat) (h : a < n) : (nowV N n)[a]? = some (.int .u16 (N a)) := by simp [nowV, h]
theorem tchV_get (f : Int → Bool) (n a : Nat) (h : a < n) : (tchV f n)[a]? = some (.bool (f a)) := by simp [tchV, h]
theorem nowV_set (N : Int → Int) (n a : Nat) (x : Int) : (nowV N n).setIfInBounds a (.int .u16 x) = nowV (fun b => if b = a then x else N b) n := by
  apply Array.ext_getElem?
  intro k
  simp only [nowV, Array.getElem?_setIfInBounds]
  by_cases h : a = k
  · subst h
    by_cases h2 : a < n <;> simp [h2]
  · have h3 : ¬ (k : Int) = (a : Int) := by omega
    rw [if_neg h]
    simp only [List.getElem?_toArray, List.getElem?_map]
    by_cases h2 : k < n <;> simp [h2, h3]
theorem tchV_set (f : Int → Bool) (n a : Nat) : (tchV f n).setIfInBounds a (.bool true) = tchV (fun b => if b = a then true else f b) n := by
  apply Array.ext_getElem?
  intro k
  simp only [tchV, Array.getElem?_setIfInBounds]
  by_cases h : a = k
  · subst h
    by_cases h2 : a < n <;> simp [h2]
  · have h3 : ¬ (k : Int) = (a : Int) := by omega
    rw [if_neg h]
    simp only [List.getElem?_toArray, List.getElem?_map]
    by_cases h2 : k < n <;> simp [h2, h3]
theorem madeNow (n : Nat) : madeCells #[.int .u16 0] n = nowV (fun _ => 0) n := by
  apply Array.ext_getElem?
  intro k
  simp only [nowV, madeCells]
  by_cases h2 : k < n <;> simp [h2, Nat.mod_one]
theorem madeTch (n : Nat) : madeCells #[.bool false] n = tchV (fun _ => false) n := by
  apply Array.ext_getElem?
  intro k
  simp only [tchV, madeCells]
  by_cases h2 : k < n <;> simp [h2, Nat.mod_one]

/-- What is known of a new table. -/
structure NewT (T : Tab) (n : Nat) : Prop where
  ok : TabOk T
  n : T.n = n
  old : ∀ a, T.old a = 0
  at_ : ∀ p, T.at p = 4 + 2 * p
  picks : T.picks = 0
theorem new_t (tb db mb pm tm sm : Nat) (n : Nat) (h1 : 64 ≤ n) (h2 : n ≤ 5000) (b : List UInt8) :
    NewT { tb := tb, db := db, mb := mb, pm := pm, tm := tm, sm := sm, n := n, gen := 1, picks := 0, G := putD [] 1 b, pk := z16, tl := fun _ => z64 } n := by
  refine ⟨new_ok tb db mb pm tm sm n (by omega) (by omega) b, rfl, fun a => ?_, fun p => ?_, rfl⟩
  · unfold Tab.old
    split
    · rfl
    · show z64.getD _ 0 = 0
      rw [z64, List.getD_eq_getElem?_getD, List.getElem?_replicate]
      split <;> rfl
  · show 4 + 2 * p + bitI z16 p = _
    have : bitI z16 p = 0 := by
      unfold bitI
      have e : z16.getD (p / 64).toNat 0 = 0 := by
        rw [z16, List.getD_eq_getElem?_getD, List.getElem?_replicate]
        split <;> rfl
      rw [e]; simp
    rw [this]; omega

/-- The row of sets, as the caller has it. -/
structure SetsAt (w : World) (p : Option Addr) (len : Nat) (L : Nat → Int × Int) : Prop where
  at_ : ∀ i, i < len → ∃ blk off, p = some ⟨blk, off, none⟩ ∧ blk < w.heap.size ∧ w.cell? ⟨blk, off + i * 260, none⟩ = some (.int .u32 (L i).1) ∧ w.cell? ⟨blk, off + i * 260 + 1, none⟩ = some (.int .u16 (L i).2)
  r1 : ∀ i, i < len → 0 ≤ (L i).1 ∧ (L i).1 < 4294967296
  r2 : ∀ i, i < len → 0 ≤ (L i).2 ∧ (L i).2 < 65536
def setsS (T : Tab) (L : Nat → Int × Int) : Nat → List (Int × Int)
  | 0 => []
  | i + 1 => T.setTo (setsS T L i) (L i).1 (L i).2

theorem SetsAt.below {w w' : World} {p : Option Addr} {len : Nat} {L : Nat → Int × Int} (h : SetsAt w p len L) (hb : Below w.heap.size w w') : SetsAt w' p len L :=
  ⟨fun i hi => by
    obtain ⟨blk, off, e, hl, h1, h2⟩ := h.at_ i hi
    exact ⟨blk, off, e, Nat.lt_of_lt_of_le hl hb.size, (World.cell?_of_block (w := w) (hb.block _ hl)).trans h1, (World.cell?_of_block (w := w) (hb.block _ hl)).trans h2⟩, h.r1, h.r2⟩
theorem nowV_congr {f g : Int → Int} {n : Nat} (h : ∀ a : Nat, a < n → f a = g a) : nowV f n = nowV g n := by
  unfold nowV
  congr 1
  exact List.map_congr_left fun a ha => by rw [h a (by simpa using ha)]
theorem setsS_ok {T : Tab} {L : Nat → Int × Int} {len : Nat} (h : ∀ i, i < len → 0 ≤ (L i).2 ∧ (L i).2 < 65536) : ∀ i, i ≤ len → SetOk T (setsS T L i) ∧ (setsS T L i).length ≤ i
  | 0, _ => ⟨setOk_nil T, by simp [setsS]⟩
  | i + 1, hi => by
    obtain ⟨h1, h2⟩ := setsS_ok h i (by omega)
    refine ⟨setTo_ok h1 _ _ (h i (by omega)), ?_⟩
    have := setTo_len T (setsS T L i) (L i).1 (L i).2
    rw [setsS]
    omega
/-- What holds before each set of the first loop. -/
structure LoopA (T : Tab) (L : Nat → Int × Int) (n nb : Nat) (W : World) (i : Nat) (wr : World) : Prop where
  tab : TabAt T wr (setsS T L i)
  now : wr.heap[nb]? = some (.cells (nowV (fun a => T.now (setsS T L i) a) n) 39 (0, 0))
  keeps : Keeps (fun k => k = T.pm ∨ k = T.tm ∨ k = T.sm) W wr

theorem LoopA.drewN {T : Tab} {L : Nat → Int × Int} {n nb : Nat} {W wr : World} {i : Nat} (h : LoopA T L n nb W i wr) (k : Nat) : LoopA T L n nb W i (wr.drewN k) :=
  ⟨h.tab.of_blocks fun _ _ => rfl, h.now, h.keeps.drewN k⟩
theorem LoopA.drew {T : Tab} {L : Nat → Int × Int} {n nb : Nat} {W wr : World} {i : Nat} (h : LoopA T L n nb W i wr) : LoopA T L n nb W i wr.drew :=
  ⟨h.tab.of_blocks fun _ _ => rfl, h.now, h.keeps.drew⟩
theorem LoopA.next {T : Tab} {L : Nat → Int × Int} {n nb : Nat} {W wr w1 : World} {i : Nat} {a : Nat} {x : Int} (h : LoopA T L n nb W i wr) (hl : (L i).1 = a ∧ (L i).2 = x) (hF : T.pm < nb ∧ T.tm < nb ∧ T.sm < nb)
    (h1 : TabAt T w1 (T.setTo (setsS T L i) a x)) (hk : Keeps (fun k => k = T.pm ∨ k = T.tm ∨ k = T.sm) wr w1) (he : T.setErr a ≠ 0) : LoopA T L n nb W (i + 1) w1 := by
  have e : T.setTo (setsS T L i) a x = setsS T L i := by
    unfold Tab.setErr at he
    unfold Tab.setTo
    by_cases hc : (a : Int) < T.fi ∨ T.n ≤ a
    · rw [if_pos hc]
    · rw [if_neg hc] at he; exact absurd rfl he
  have e2 : setsS T L (i + 1) = setsS T L i := by rw [setsS, hl.1, hl.2, e]
  have hlt := (Array.getElem?_eq_some_iff.1 h.now).1
  refine ⟨by rw [e2, ← e]; exact h1, ?_, h.keeps.trans hk⟩
  rw [e2, hk.block nb hlt (by intro hc; omega)]
  exact h.now
theorem LoopA.store {T : Tab} {L : Nat → Int × Int} {n nb : Nat} {W wr w1 : World} {i : Nat} {a : Nat} {x : Int} (h : LoopA T L n nb W i wr) (hS : SetOk T (setsS T L i)) (hl : (L i).1 = a ∧ (L i).2 = x) (hF : T.pm < nb ∧ T.tm < nb ∧ T.sm < nb)
    (hG : T.tb < nb ∧ T.db < nb ∧ T.mb < nb) (hW : W.heap.size ≤ nb) (hn : T.n = n)
    (h1 : TabAt T w1 (T.setTo (setsS T L i) a x)) (hk : Keeps (fun k => k = T.pm ∨ k = T.tm ∨ k = T.sm) wr w1) (he : T.setErr a = 0) :
    LoopA T L n nb W (i + 1) (w1.setCell ⟨nb, a, none⟩ (.int .u16 x)) := by
  have e2 : setsS T L (i + 1) = T.setTo (setsS T L i) a x := by rw [setsS, hl.1, hl.2]
  have hlt := (Array.getElem?_eq_some_iff.1 h.now).1
  have g1 : w1.heap[nb]? = some (.cells (nowV (fun a => T.now (setsS T L i) a) n) 39 (0, 0)) := (hk.block nb hlt (by intro hc; omega)).trans h.now
  refine ⟨?_, ?_, (h.keeps.trans hk).setCell (Or.inl hW) _⟩
  · rw [e2]
    exact h1.of_blocks fun k hk => hget_setCell_other _ _ _ (by show k ≠ nb; rintro rfl; omega)
  · rw [hget_setCell_same _ _ _ _ _ g1, nowV_set, e2]
    congr 2
    refine nowV_congr fun b hb => ?_
    rw [setTo_now hS _ _ _ (by omega)]
    by_cases hc : (b : Int) = a
    · rw [if_pos hc, if_pos ⟨he, hc⟩]
    · rw [if_neg hc, if_neg (fun h => hc h.2)]

theorem pgs_len (N : Int → Int) (a : Nat) : (pgs N a).length ≤ a := by
  induction a with
  | zero => simp [pgs]
  | succ a ih =>
    rw [pgs]
    split
    · simp only [List.length_cons]; omega
    · omega
theorem pgs_same {N : Int → Int} {a k : Nat} (hk : (a : Int) / 64 = k) (h : N a = 0 ∨ (k : Int) ∈ pgs N a) : pgs N (a + 1) = pgs N a := by
  rw [pgs, if_neg]
  rw [hk]
  rintro ⟨h1, h2⟩
  exact h.elim h1 h2
theorem pgs_new {N : Int → Int} {a k : Nat} (hk : (a : Int) / 64 = k) (h : N a ≠ 0) (h2 : ¬ (k : Int) ∈ pgs N a) : pgs N (a + 1) = (k : Int) :: pgs N a := by
  rw [pgs, hk, if_pos ⟨h, h2⟩]
/-- Where the pages stand that are sealed. -/
def atL (T : Tab) (S : List (Int × Int)) (i : Nat) : Int := ((sealPuts T S).map (·.1)).getD i 0
theorem sealed_new {T : Tab} {n : Nat} (hT : NewT T n) {S : List (Int × Int)} (hS : SetOk T S) :
    ∃ q, q = (pgs (fun a => T.now S a) n).length ∧ (sealPuts T S).length = q + min q 1 ∧ sealPicks T S = (if q = 0 then 0 else 1) ∧
      (∀ i, i < (sealPuts T S).length → 2 ≤ atL T S i ∧ atL T S i < T.fi) ∧ (∀ i, i + 1 < q → atL T S i < atL T S (i + 1)) := by
  obtain ⟨Q, h1, h2, h3, h4⟩ := seal_eq T hS
  have h5 := plan5 T.n hT.ok.n1 hT.ok.n2
  have hn := hT.n
  have hQ : Q = (pgs (fun a => T.now S a) n).reverse := by
    refine rises_ext h1 (pgs_falls _ _) fun p => ?_
    rw [h2, List.mem_reverse, pgs_mem]
    constructor
    · rintro ⟨a, ha, e⟩
      obtain ⟨x, hx⟩ := Option.ne_none_iff_exists'.1 ha
      have hm := mem_of_look hx
      have hk := hS.key _ hm
      have hv := hS.new _ hm
      have hf := planFi_lt T.n hT.ok.n1 (by have := hT.ok.n2; omega)
      unfold Tab.fi at hk
      simp only at hk hv
      refine ⟨a.toNat, by omega, ?_, by omega⟩
      show T.now S a.toNat ≠ 0
      unfold Tab.now
      rw [if_neg (by omega), show ((a.toNat : Nat) : Int) = a by omega, hx]
      rw [hT.old] at hv
      exact hv
    · rintro ⟨a, ha, hv, e⟩
      refine ⟨a, fun hc => hv ?_, e⟩
      show T.now S a = 0
      unfold Tab.now
      rw [if_neg (by omega), hc, hT.old]
      rfl
  have hQr : ∀ p ∈ Q, 0 ≤ p ∧ 5 + 2 * p < T.fi := by
    intro p hp
    rw [hQ, List.mem_reverse, pgs_mem] at hp
    obtain ⟨a, ha, _, e⟩ := hp
    show 0 ≤ p ∧ 5 + 2 * p < planFi T.n
    omega
  have hf6 : 6 ≤ T.fi := (planFi_lt T.n hT.ok.n1 (by have := hT.ok.n2; omega)).1
  have hmap : (sealPuts T S).map (·.1) = Q.map (fun p => 5 + 2 * p) ++ (if Q = [] then [] else [3]) := by
    rw [h3, hT.picks]
    congr 1
    refine List.map_congr_left fun p _ => ?_
    rw [hT.at_]
    unfold otherI
    rw [if_pos (by omega)]
    omega
  have hlen : (sealPuts T S).length = Q.length + (if Q = [] then 0 else 1) := by
    have := congrArg List.length hmap
    rw [List.length_map, List.length_append, List.length_map] at this
    rw [this]
    split <;> simp
  have hq0 : Q = [] ↔ Q.length = 0 := by rw [List.length_eq_zero_iff]
  refine ⟨Q.length, by rw [hQ, List.length_reverse], ?_, ?_, ?_, ?_⟩
  · rw [hlen]
    by_cases h : Q = []
    · rw [if_pos h, hq0.1 h]; rfl
    · have : Q.length ≠ 0 := fun e => h (hq0.2 e)
      rw [if_neg h]; omega
  · rw [h4, hT.picks]
    by_cases h : Q = []
    · rw [if_pos h, if_pos (hq0.1 h)]
    · rw [if_neg h, if_neg (fun e => h (hq0.2 e))]; rfl
  · intro i hi
    unfold atL
    rw [hmap]
    have hi' : i < (Q.map (fun p => 5 + 2 * p) ++ (if Q = [] then [] else [3])).length := by rw [← hmap, List.length_map]; exact hi
    rw [List.getD_eq_getElem?_getD, List.getElem?_eq_getElem hi', Option.getD_some]
    have hm := List.getElem_mem hi'
    obtain ⟨x, hx⟩ : ∃ x, (Q.map (fun p => 5 + 2 * p) ++ (if Q = [] then [] else [3]))[i] = x := ⟨_, rfl⟩
    rw [hx] at hm ⊢
    rcases List.mem_append.1 hm with h | h
    · obtain ⟨p, hp, e⟩ := List.mem_map.1 h
      have := hQr p hp
      omega
    · split at h
      · simp at h
      · have := List.mem_singleton.1 h
        omega
  · intro i hi
    unfold atL
    rw [hmap, List.getD_eq_getElem?_getD, List.getD_eq_getElem?_getD, List.getElem?_append_left (by simpa using (by omega : i < Q.length)), List.getElem?_append_left (by simpa using hi),
      List.getElem?_map, List.getElem?_map, List.getElem?_eq_getElem (by omega : i < Q.length), List.getElem?_eq_getElem hi]
    have := List.pairwise_iff_getElem.1 h1 i (i + 1) (by omega) hi (by omega)
    simp only [Option.map_some, Option.getD_some]
    omega
theorem puts_cells {w : World} {B : Nat} {p : Option Addr} {n c : Nat} {ps : List (Int × List UInt8)} (h : w.ownsRow B 52 257 (.slice p n c) ps.length (rowsL ps)) (hl : ∀ p ∈ ps, p.2.length = 256) {i : Nat} (hi : i < ps.length) :
    ∃ g, p = some ⟨g, 0, none⟩ ∧ ∀ j, j < ps.length → w.cell? ⟨g, j * 257, none⟩ = some (.int .u32 ((ps.map (·.1)).getD j 0)) := by
  obtain ⟨g, c', e⟩ := own_some h (by omega)
  injection e with e1 e2 e3
  subst e1 e2 e3
  refine ⟨g, rfl, fun j hj => ?_⟩
  obtain ⟨a, b, hab⟩ : ∃ a b, ps[j]? = some (a, b) := ⟨ps[j].1, ps[j].2, by rw [List.getElem?_eq_getElem hj]⟩
  have e : ((ps.map (·.1)).getD j 0) = a := by rw [List.getD_eq_getElem?_getD, List.getElem?_map, hab]; rfl
  rw [e]
  have hr := rowsL_get hl hab 0 (by omega)
  rw [Nat.add_zero] at hr
  have hc := h.cells (g := g) rfl (j * 257) (.int .u32 a) (by rw [hr]; rfl)
  by_cases hz : j * 257 = 0
  · simpa [Addr.add, hz] using hc
  · simpa [Addr.add, hz] using hc
theorem nil_of_look {T : Tab} {S : List (Int × Int)} (hS : SetOk T S) (h : ∀ b, T.fi ≤ b → b < T.n → lookS S b = none) : S = [] := by
  cases S with
  | nil => rfl
  | cons p r =>
    have hk := hS.key p List.mem_cons_self
    have h1 := h p.1 hk.1 hk.2
    rw [look_of_mem hS.nodup List.mem_cons_self] at h1
    cases h1

/-- What holds before each count of the second loop. -/
structure LoopB (T : Tab) (S : List (Int × Int)) (n m nb ub : Nat) (W : World) (a : Nat) (wr : World) : Prop where
  tab : TabAt T wr S
  now : wr.heap[nb]? = some (.cells (nowV (fun a => T.now S a) n) 39 (0, 0))
  tch : wr.heap[ub]? = some (.cells (tchV (fun k => decide (k ∈ pgs (fun a => T.now S a) a)) m) 4 (0, 0))
  keeps : Keeps (fun k => k = T.pm ∨ k = T.tm ∨ k = T.sm) W wr
theorem LoopB.got {T : Tab} {S : List (Int × Int)} {n m nb ub : Nat} {W wr w1 : World} {a : Nat} (h : LoopB T S n m nb ub W a wr) (hF : T.pm < nb ∧ T.tm < nb ∧ T.sm < nb) (hu : nb < ub)
    (h1 : TabAt T w1 S) (hk : Keeps (fun k => k = T.pm ∨ k = T.tm) wr w1) : LoopB T S n m nb ub W a w1 :=
  ⟨h1, (hk.block nb (Array.getElem?_eq_some_iff.1 h.now).1 (by intro hc; omega)).trans h.now, (hk.block ub (Array.getElem?_eq_some_iff.1 h.tch).1 (by intro hc; omega)).trans h.tch,
    h.keeps.trans (hk.mono fun k _ hk => by rcases hk with h | h <;> simp [h])⟩
theorem LoopB.same {T : Tab} {S : List (Int × Int)} {n m nb ub : Nat} {W wr : World} {a : Nat} (h : LoopB T S n m nb ub W a wr) (he : pgs (fun a => T.now S a) (a + 1) = pgs (fun a => T.now S a) a) : LoopB T S n m nb ub W (a + 1) wr :=
  ⟨h.tab, h.now, by rw [he]; exact h.tch, h.keeps⟩
theorem LoopB.store {T : Tab} {S : List (Int × Int)} {n m nb ub : Nat} {W wr : World} {a k : Nat} (h : LoopB T S n m nb ub W a wr) (hG : T.tb < nb ∧ T.db < nb ∧ T.mb < nb ∧ T.pm < nb ∧ T.tm < nb ∧ T.sm < nb) (hu : nb < ub) (hW : W.heap.size ≤ nb)
    (he : pgs (fun a => T.now S a) (a + 1) = (k : Int) :: pgs (fun a => T.now S a) a) : LoopB T S n m nb ub W (a + 1) (wr.setCell ⟨ub, k, none⟩ (.bool true)) := by
  refine ⟨h.tab.of_blocks fun j hj => hget_setCell_other _ _ _ (by show j ≠ ub; rintro rfl; omega), ?_, ?_, h.keeps.setCell (Or.inl (by show W.heap.size ≤ ub; omega)) _⟩
  · rw [hget_setCell_other _ _ _ (by show nb ≠ ub; omega)]; exact h.now
  · rw [hget_setCell_same _ _ _ _ _ h.tch, tchV_set, he]
    congr 2
    congr 1
    funext b
    by_cases hb : b = (k : Int) <;> simp [hb]
/-- What holds before each set of the last loop. -/
structure LoopD (T : Tab) (W : World) (a : Nat) (wr : World) : Prop where
  out : ∃ S, TabAt T wr S ∧ SetOk T S ∧ (∀ b, T.fi ≤ b → b < a → lookS S b = none) ∧ Keeps (fun k => k = T.pm ∨ k = T.tm ∨ k = T.sm) W wr
theorem setBack {T : Tab} {n : Nat} (hT : NewT T n) {S : List (Int × Int)} (hS : SetOk T S) {a : Nat} (ha : T.fi ≤ (a : Int) ∧ (a : Int) < T.n) (h : ∀ b, T.fi ≤ b → b < a → lookS S b = none) :
    ∀ b, T.fi ≤ b → b < ((a + 1 : Nat) : Int) → lookS (T.setTo S a 0) b = none := by
  intro b h1 h2
  rw [setTo_look hS]
  have he : T.setErr a = 0 := by unfold Tab.setErr; rw [if_neg (by omega)]
  by_cases hb : b = a
  · rw [if_pos ⟨he, hb⟩, if_pos (hT.old a).symm]
  · rw [if_neg (fun hc => hb hc.2)]
    exact h b h1 (by omega)

/-- What holds before each put of the third loop. -/
structure LoopC (T : Tab) (S : List (Int × Int)) (K : Nat) (p7 : Option Addr) (W wr : World) : Prop where
  tab : TabAt T wr S
  keeps : Keeps (fun k => k = T.pm ∨ k = T.tm ∨ k = T.sm) W wr
  cells : ∀ i, i < K → ∃ g, p7 = some ⟨g, 0, none⟩ ∧ ∀ j, j < K → wr.cell? ⟨g, j * 257, none⟩ = some (.int .u32 (atL T S j))
theorem LoopC.drewN {T : Tab} {S : List (Int × Int)} {K : Nat} {p7 : Option Addr} {W wr : World} (h : LoopC T S K p7 W wr) (k : Nat) : LoopC T S K p7 W (wr.drewN k) :=
  ⟨h.tab.of_blocks fun _ _ => rfl, h.keeps.drewN k, h.cells⟩

set_option maxRecDepth 100000 in
set_option maxHeartbeats 4000000 in
theorem apart_go (n : Nat) (h1 : 64 ≤ n) (h2 : n ≤ 5000) (p : Option Addr) (len cap : Nat) (L : Nat → Int × Int) (w : World) (hL : SetsAt w p len L) :
    Calls Tryz.prog 3 #[.int .u32 n, .slice p len cap] w fun e w' => e = .returned (.bool true) ∧ Below w.heap.size w w' := by
  have hnew := dnew_any n (by omega) (by omega) w
  obtain ⟨rA, hA⟩ : ∃ r, r = rootA 1 n 0 (n - planFi n) 1 (planFi n) := ⟨_, rfl⟩
  have hfm := fun db mb W h => format_any db mb n (by omega) (by omega) W h
  have hop := fun db mb G W h => open_any db mb n 1 0 (by omega) (by omega) G W h
  have iR : (Tryz.prog.info? 31).map (·.size) = some rA.size := by rw [hA]; exact size31 _ _ _ _ _ _
  have eR : (rootA 0 0 0 0 0 0).size = rA.size := by rw [hA]; rfl
  have oR : rA.all (·.oneCell') = true := by rw [hA]; exact rootA_one _ _ _ _ _ _
  have hmk := run_make_row' (P := Tryz.prog) 37 39 (.int .u16 0) 2 Tryz.underlying37 (by kernel_rfl) rfl .u32 .u32 n (by omega) (by omega)
  rw [madeNow] at hmk
  simp only [← hA] at hfm hop
  have IR := hideIt iR
  have ER := hideIt eR
  have OR := hideIt oR
  have d1 : decide ((n : Int) < 64) = false := decide_eq_false (by omega)
  have d2 : decide ((5000 : Int) < n) = false := decide_eq_false (by omega)
  clear iR eR oR hA
  go_enter Tryz.func3, Tryz.ntmps3
  go_upto_region 4 with (first
    | (go_at_call 7; (with_reducible refine hnew.mono ?_); rintro e W1 ⟨rfl, hD1, hb1, hs1⟩)
    | (with_reducible refine wl_extract rfl rfl ?_))
  have HD1 := hideIt hD1
  have hf1 := hfm _ _ W1 hD1
  clear hD1 hnew hfm
  go_upto_region 5 with (first
    | (go_at_call 8; (with_reducible refine hf1.mono ?_); rintro e W2 ⟨rfl, hD2, hk2⟩)
    | (with_reducible refine wl_extract rfl rfl ?_)
    | (with_reducible refine wl_alloc_store zero31 (by simp [Act.put]) rfl rfl IR.out ER.out OR.out ?_))
  obtain ⟨b, hlb, hD2⟩ := hD2.out
  obtain ⟨W3, hW3⟩ : ∃ W, W = W2.alloc (.cells rA 31) := ⟨_, rfl⟩
  have hs2 := hk2.size
  have g3 : W3.heap[W2.heap.size]? = some (.cells rA 31 (0, 0)) := by rw [hW3, hget_at _ _ rfl]
  have hs3 : W3.heap.size = W2.heap.size + 1 := by rw [hW3]; simp
  have hB3 : Below w.heap.size w W3 := by
    rw [hW3]
    exact (hb1.trans (hk2.below hb1.size (by intro k hk; omega))).alloc (by omega) _
  have hD3 := hD2.below (show Below W2.heap.size W2 W3 by rw [hW3]; exact (Below.refl _ _).alloc (Nat.le_refl _) _) hD2.lt hD2.map.lt
  rw [← hW3]
  have ho3 := hop _ _ _ W3 hD3
  have G3 := hideIt g3
  have HB3 := hideIt hB3
  clear hW3 g3 hB3 hD2 hf1 hop hD3 hk2 HD1 hb1
  go_upto_region 6 with (first
    | (with_reducible refine wl_load rfl G3.out Tryz.underlying31 rfl IR.out ?_)
    | (go_at_call 9; (with_reducible refine ho3.mono ?_); rintro e W4 ⟨tb, pm, tm, sm, rfl, hb4, l1, l2, l3, l4, hT4⟩)
    | (with_reducible refine wl_extract rfl rfl ?_))
  obtain ⟨T, hTe⟩ : ∃ T : Tab, T = { tb := tb, db := w.heap.size + 1, mb := w.heap.size, pm := pm, tm := tm, sm := sm, n := n, gen := 1, picks := 0, G := putD [] 1 b, pk := z16, tl := fun _ => z64 } := ⟨_, rfl⟩
  have hT : NewT T n := by rw [hTe]; exact new_t _ _ _ _ _ _ _ h1 h2 _
  have hA4 : TabAt T W4 [] := by rw [hTe]; exact hT4 z16 (fun _ => z64)
  have etb : T.tb = tb := by rw [hTe]
  have hF : ∀ k, (k = T.pm ∨ k = T.tm ∨ k = T.sm) → W3.heap.size ≤ k := by
    rw [hTe]
    rintro k (rfl | rfl | rfl)
    · exact l2
    · exact l3
    · exact l4
  have hB4 := HB3.out.trans (hb4.mono HB3.out.size)
  have hz4 := hb4.size
  have HF := hideIt hF
  have HT := hideIt hT
  have HA4 := hideIt hA4
  have HB4 := hideIt hB4
  have HL := hideIt hL
  clear hF hT hA4 hB4 hT4 hTe l1 l2 l3 l4 hb4 ho3 G3 HB3 hL IR ER OR
  go_upto_region 9 with fail
  clear hmk
  obtain ⟨W5, hW5⟩ : ∃ W, W = W4.alloc (.cells (nowV (fun _ => 0) n) 39) := ⟨_, rfl⟩
  have hb45 : Below W4.heap.size W4 W5 := by rw [hW5]; exact (Below.refl _ _).alloc (Nat.le_refl _) _
  have hs5 : W5.heap.size = W4.heap.size + 1 := by rw [hW5]; simp
  have hB5 : Below w.heap.size w W5 := HB4.out.trans (hb45.mono HB4.out.size)
  have hA5 : LoopA T L n W4.heap.size W4 0 W5 := by
    refine ⟨HA4.out.below hb45, ?_, Keeps.of_below hb45⟩
    rw [hW5, hget_at _ _ rfl]
    congr 2
    refine nowV_congr fun a ha => ?_
    show (0 : Int) = T.now [] a
    unfold Tab.now
    split
    · rfl
    · rw [lookS_nil]; exact (HT.out.old a).symm
  rw [← hW5]
  have HA5 := hideIt hA5
  have HB5 := hideIt hB5
  have hw4 := HB4.out.size
  have hlt4 := HA4.out.lt
  obtain ⟨nb, hnb⟩ : ∃ nb, nb = W4.heap.size := ⟨_, rfl⟩
  rw [← hnb]
  rw [← hnb] at HA5 hlt4
  have hw5 : W4.heap.size ≤ nb := by omega
  have hw6 : w.heap.size ≤ nb := by omega
  have hs6 : W5.heap.size = nb + 1 := by omega
  have HNB := hideIt hnb
  clear hnb hs5
  clear hA5 hB5 hb45 hW5 hD2 hlb
  go_upto_region 9 with fail
  go_wp2
  go_loopw [12] (fun vi wr => ∃ i : Nat, vi = .int .i64 i ∧ i ≤ len ∧ i ≤ 60 ∧ LoopA T L n nb W4 i wr) (fun vi _ => 60 - (intOf vi).toNat)
  case atStart => exact ⟨0, rfl, Nat.zero_le _, by omega, HA5.out⟩
  case round =>
    obtain ⟨i, rfl, hil, hi60, hA⟩ := hrel
    by_cases hc : i < len ∧ i < 60
    · obtain ⟨hc1, hc2⟩ := hc
      have hc1' : (i : Int) < (len : Int) := by omega
      have hc2' : (i : Int) < 60 := by omega
      have hBr : Below w.heap.size w wr := HB4.out.trans (hA.keeps.below hw4 (fun k hk => by have := HF.out k hk; omega))
      obtain ⟨blk, off, rfl, hblk, ca0, cx0⟩ := HL.out.at_ i hc1
      have hca : ∀ W, Below w.heap.size w W → W.cell? ⟨blk, off + i * 260, none⟩ = some (.int .u32 (L i).1) := fun W h => (World.cell?_of_block (w := w) (h.block _ hblk)).trans ca0
      have hcx : ∀ W, Below w.heap.size w W → W.cell? ⟨blk, off + i * 260 + 1, none⟩ = some (.int .u16 (L i).2) := fun W h => (World.cell?_of_block (w := w) (h.block _ hblk)).trans cx0
      obtain ⟨a, hae⟩ : ∃ a : Nat, (L i).1 = a := ⟨(L i).1.toNat, by have := HL.out.r1 i hc1; omega⟩
      have ha : a < 4294967296 := by have := HL.out.r1 i hc1; omega
      have ca := hca wr hBr
      have cx := hcx wr hBr
      obtain ⟨x, hxe⟩ : ∃ x, (L i).2 = x := ⟨_, rfl⟩
      rw [hae] at ca hca
      rw [hxe] at cx hcx
      have hset := tset_any T HT.out.ok wr.drew (setsS T L i) (hA.tab.of_blocks fun _ _ => rfl) a ha x
      rw [etb] at hset
      have HA := hideIt hA
      have HBR := hideIt hBr
      have HCA := hideIt hca
      have HCX := hideIt hcx
      have hlx : (L i).1 = a ∧ (L i).2 = x := ⟨hae, hxe⟩
      clear hA hBr hca hcx ca0 cx0 hae hxe
      go_upto_region 12 with fail
      go_region_with (go_at_call 10; (with_reducible refine hset.mono ?_); rintro e w1 ⟨rfl, hA1, hk1⟩)
      all_goals
        have hk1' : Keeps (fun k => k = T.pm ∨ k = T.tm ∨ k = T.sm) wr w1 := (Keeps.refl _ wr).drew.trans hk1
        have hB1 : Below w.heap.size w w1 := HBR.out.trans (hk1'.below HBR.out.size (fun k hk => by have := HF.out k hk; omega))
        have g1 : w1.heap[nb]? = some (.cells (nowV (fun a => T.now (setsS T L i) a) n) 39 (0, 0)) := (hk1'.block nb (Array.getElem?_eq_some_iff.1 HA.out.now).1 (by intro hc; omega)).trans HA.out.now
        have HA1 := hideIt hA1
        have HK1 := hideIt hk1'
        have HBL1 := hideIt hB1
        have HG1 := hideIt g1
        have HLX := hideIt hlx
        have hlt4' := hlt4
        have HLT := hideIt hlt4'
        clear hA1 hk1 hk1' hB1 g1 hset ca cx hlx hlt4'
        go_wp2
        · -- a count that was set
          have he : T.setErr (a : Int) = 0 := by simpa using (show (T.setErr (a : Int) == 0) = true by assumption)
          have hn0 : ¬ n = 0 := by omega
          have hr : T.fi ≤ (a : Int) ∧ (a : Int) < n := by
            have hn := HT.out.n
            unfold Tab.setErr at he
            by_cases hc : (a : Int) < T.fi ∨ T.n ≤ a
            · rw [if_pos hc] at he; omega
            · omega
          have ca1 := HCA.out w1 HBL1.out
          have cx1 := HCX.out w1 HBL1.out
          have hmod : (a : Int) % (n : Int) = a := Int.emod_eq_of_lt (by omega) (by omega)
          have hmod' : (a : Int).tmod (n : Int) = a := by rw [Int.tmod_eq_emod_of_nonneg (by omega)]; exact hmod
          have cn1 : w1.cell? ⟨nb, a, none⟩ = some (.int .u16 (T.now (setsS T L i) a)) := by rw [cell_of_row _ _ _ _ _ _ HG1.out]; exact nowV_get _ _ _ (by omega)
          have fn1 : w1.frozen? ⟨nb, a, none⟩ = false := by
            unfold World.frozen?
            rw [HG1.out]; rfl
          go_region
          all_goals
            go_wp2
            go_roundw
            case rel => exact ⟨i + 1, by go_num, by omega, by omega, (HA.out.store (setsS_ok HL.out.r2 i hil).1 HLX.out (by omega) (by omega) hw5 HT.out.n HA1.out HK1.out he).drew⟩
            case measure => simp [intOf]; omega
        · have he : ¬ T.setErr (a : Int) = 0 := by simpa using (show (T.setErr (a : Int) == 0) = false by assumption)
          go_roundw
          case rel => exact ⟨i + 1, by go_num, by omega, by omega, HA.out.next HLX.out (by omega) HA1.out HK1.out he⟩
          case measure => simp [intOf]; omega
    · -- OUT1: the first loop is done
      obtain ⟨S, hSe⟩ : ∃ S, S = setsS T L i := ⟨_, rfl⟩
      obtain ⟨hS, hSl⟩ := setsS_ok (T := T) (L := L) HL.out.r2 i hil
      rw [← hSe] at hS hSl
      obtain ⟨tA, tN, tK⟩ := hA
      simp only [← hSe] at tA tN
      clear hSe HL HA5 HB5 hs6
      have HTA := hideIt tA
      have HTN := hideIt tN
      have HTK := hideIt tK
      clear tA tN tK
      go_upto_region 10 with fail
      go_cut [66] from 59 to 95 (fun s66 wx => s66 = .bool false ∧ wx = wr)
      case first =>
        by_cases h : i < len
        · have h' : ¬ (i : Int) < 60 := by omega
          go_wp2_with fail
          go_meet
          case rel => exact ⟨rfl, rfl⟩
        · have h' : ¬ (i : Int) < (len : Int) := by omega
          go_wp2_with fail
          go_meet
          case rel => exact ⟨rfl, rfl⟩
      case rest =>
      obtain ⟨rfl, rfl⟩ := hcut
      go_upto_region 14 with fail
      obtain ⟨M, hM⟩ : ∃ M : Nat, (n : Int) / 64 + 1 = M := ⟨n / 64 + 1, by omega⟩
      have hmk2 := run_make_row' (P := Tryz.prog) 44 4 (.bool false) 1 Tryz.underlying44 (by kernel_rfl) rfl .u32 .u32 M (by omega) (by omega)
      rw [madeTch] at hmk2
      go_upto_region 15 with fail
      clear hmk2
      obtain ⟨W6, hW6⟩ : ∃ W, W = wc.alloc (.cells (tchV (fun _ => false) M) 4) := ⟨_, rfl⟩
      obtain ⟨ub, hub⟩ : ∃ ub, ub = wc.heap.size := ⟨_, rfl⟩
      have hnu : nb < ub := by rw [hub]; exact (Array.getElem?_eq_some_iff.1 HTN.out).1
      have hb6 : Below wc.heap.size wc W6 := by rw [hW6]; exact (Below.refl _ _).alloc (Nat.le_refl _) _
      have hB0 : LoopB T S n M nb ub W4 0 W6 := by
        refine ⟨HTA.out.below hb6, (hb6.block nb (by omega)).trans HTN.out, ?_, HTK.out.trans (Keeps.of_below hb6)⟩
        rw [hW6, hget_at _ _ hub]
        congr 3
      have hfirst := tfirst_any T W6 S hB0.tab
      obtain ⟨F, hFe⟩ : ∃ F : Nat, T.fi = F := ⟨T.fi.toNat, by have := planFi_lt n (by omega) (by omega); have hn := HT.out.n; unfold Tab.fi; rw [hn]; omega⟩
      have hFn : F < n := by have := planFi_lt n (by omega) (by omega); have hn := HT.out.n; unfold Tab.fi at hFe; rw [hn] at hFe; omega
      rw [etb, hFe] at hfirst
      rw [← hW6, ← hub]
      have HB0 := hideIt hB0
      have HFE := hideIt hFe
      clear hB0 hW6 hub hb6 HTA HTN HTK hFe
      go_upto_region 16 with (first
        | (go_at_call 11; (with_reducible refine hfirst.mono ?_); rintro e w' ⟨rfl, rfl⟩))
      clear hfirst
      go_wp2
      go_loopw [14, 16] (fun vq va wr => ∃ a : Nat, va = .int .u32 a ∧ a ≤ n ∧ vq = .int .i64 (pgs (fun a => T.now S a) a).length ∧ LoopB T S n M nb ub W4 a wr) (fun _ va _ => n - (intOf va).toNat)
      case atStart => exact ⟨0, rfl, Nat.zero_le _, rfl, HB0.out⟩
      case round =>
        obtain ⟨a, rfl, han, rfl, hB⟩ := hrel
        by_cases hal : a < n
        · have hal' : (a : Int) < (n : Int) := by omega
          have hget := tgetc_any T HT.out.ok wr S hB.tab a (by omega)
          have hea : T.err (a : Int) = 0 := by unfold Tab.err; rw [HT.out.n, if_neg (by omega)]
          rw [etb, hea] at hget
          obtain ⟨x, hx⟩ : ∃ x, T.now S a = x := ⟨_, rfl⟩
          obtain ⟨q, hq⟩ : ∃ q, (pgs (fun a => T.now S a) a).length = q := ⟨_, rfl⟩
          have hql : q ≤ a := by rw [← hq]; exact pgs_len _ _
          obtain ⟨k, hk⟩ : ∃ k : Nat, (a : Int) / 64 = k := ⟨a / 64, by omega⟩
          have hkM : k < M := by omega
          rw [hx] at hget
          rw [hq]
          have HB := hideIt hB
          have HQ := hideIt hq
          have HX := hideIt hx
          have HK := hideIt hk
          clear hB hq hx
          go_upto_region 20 with (first
            | (go_at_call 12; (with_reducible refine hget.mono ?_); rintro e w1 ⟨rfl, hA1, hk1⟩)
            | (with_reducible refine wl_extract rfl rfl ?_))
          have hB1 := HB.out.got (by omega) hnu hA1 hk1
          have cn : w1.cell? ⟨nb, a, none⟩ = some (.int .u16 x) := by rw [cell_of_row _ _ _ _ _ _ hB1.now, nowV_get _ _ _ hal, ← HX.out]
          have ct : w1.cell? ⟨ub, k, none⟩ = some (.bool (decide ((k : Int) ∈ pgs (fun a => T.now S a) a))) := by rw [cell_of_row _ _ _ _ _ _ hB1.tch, tchV_get _ _ _ hkM]
          have ft : w1.frozen? ⟨ub, k, none⟩ = false := by unfold World.frozen?; rw [hB1.tch]; rfl
          have HB1 := hideIt hB1
          clear HB hA1 hk1 hget hB1
          go_wp2
          · have he := pgs_same (N := fun a => T.now S a) HK.out (Or.inl (HX.out.trans (by assumption)))
            go_roundw
            case rel => exact ⟨a + 1, by go_num, by omega, by rw [he, HQ.out], HB1.out.same he⟩
            case measure => simp [intOf]; omega
          · have h0 : x ≠ 0 := by assumption
            have h1 : (x != 0) = true ∧ (!decide ((k : Int) ∈ pgs (fun a => T.now S a) a)) = true := by assumption
            have he := pgs_new (N := fun a => T.now S a) HK.out (show T.now S a ≠ 0 by rw [HX.out]; exact h0) (by simpa using h1.2)
            go_roundw
            case rel => exact ⟨a + 1, by go_num, by omega, by rw [he, List.length_cons, HQ.out]; go_num, HB1.out.store hlt4 hnu hw5 he⟩
            case measure => simp [intOf]; omega
          · have h0 : x ≠ 0 := by assumption
            have h1 : (x != 0) = false ∨ (!decide ((k : Int) ∈ pgs (fun a => T.now S a) a)) = false := by assumption
            have he := pgs_same (N := fun a => T.now S a) HK.out (Or.inr (by simpa [h0] using h1))
            go_roundw
            case rel => exact ⟨a + 1, by go_num, by omega, by rw [he, HQ.out], HB1.out.same he⟩
            case measure => simp [intOf]; omega
        · -- OUT2: the second loop is done
          have hae : n = a := by omega
          subst hae
          obtain ⟨q, hq, hq2, hq3, hq4, hq5⟩ := sealed_new HT.out hS
          have hsl := tseal_any 60 (fun m => sortsAll m 60 (by omega)) (by omega) (by omega) T HT.out.ok wr S hS (by omega) hB.tab
          have hqn : q ≤ n := by rw [hq]; exact pgs_len _ _
          rw [etb] at hsl
          rw [← hq]
          have HKB := hideIt hB.keeps
          have HQ2 := hideIt hq2
          have HQ3 := hideIt hq3
          have HQ4 := hideIt hq4
          have HQ5 := hideIt hq5
          have HSO := hideIt hS
          clear hB hq hq2 hq3 hq4 hq5 hS HB0 hM hal han hSl hc
          go_upto_region 26 with (first
            | (go_at_call 13; (with_reducible refine hsl.mono ?_); rintro e W7 ⟨v7, rfl, ho7, hl7, hA7, hk7⟩)
            | (with_reducible refine wl_extract rfl rfl ?_))
          obtain ⟨p7, c7, rfl⟩ := own_slice ho7
          have hK7 : Keeps (fun k => k = T.pm ∨ k = T.tm ∨ k = T.sm) W4 W7 := HKB.out.trans (hk7.mono fun k _ hk => by rcases hk with h | h <;> simp [h])
          have hcells := fun i hi => puts_cells (i := i) ho7 hl7 hi
          obtain ⟨K, hK⟩ : ∃ K, K = (sealPuts T S).length := ⟨_, rfl⟩
          obtain ⟨P, hP⟩ : ∃ P, P = sealPicks T S := ⟨_, rfl⟩
          rw [← hK, ← hP]
          rw [← hP] at HQ3
          simp only [← hK] at HQ2 HQ4 hcells
          have HA7 := hideIt hA7
          have HK7 := hideIt hK7
          have HO7 := hideIt ho7
          have HC7 := hideIt hcells
          clear hsl hA7 hK7 ho7 hl7 hk7 hcells HKB hP
          have HKE := hideIt hK
          clear hK
          go_cut [165] from 148 to 165 (fun s165 wx => s165 = .bool false ∧ wx = W7)
          case first =>
            by_cases h0 : q = 0
            · have hp0 := HQ3.out
              rw [if_pos h0] at hp0
              subst hp0
              have hm : min (q : Int) 1 = 0 := by omega
              have hKz : (K : Int) = (q : Int) := by have := HQ2.out; omega
              have H0 := hideIt h0
              clear h0
              go_wp2_with fail
              go_meet
              case rel => exact ⟨by rw [H0.out]; simp, rfl⟩
            · have hp0 := HQ3.out
              rw [if_neg h0] at hp0
              subst hp0
              have hz : ¬ (q : Int) = 0 := by omega
              have hm : min (q : Int) 1 = 1 := by omega
              have hKz : (K : Int) = (q : Int) + 1 := by have := HQ2.out; omega
              go_wp2_with fail
              go_meet
              case rel => exact ⟨by rw [show ((q : Int) == 0) = false by simpa using hz], rfl⟩
          case rest =>
          obtain ⟨rfl, rfl⟩ := hcut
          go_upto_region 29 with fail
          have hC0 : LoopC T S K p7 W4 wc := ⟨HA7.out, HK7.out, HC7.out⟩
          have HC0 := hideIt hC0
          have hKb : K ≤ 5001 := by have := HQ2.out; omega
          clear hC0 HA7 HK7 HC7 HO7 HKE HQ3
          go_loopw [22] (fun vi wr => ∃ i : Nat, vi = .int .i64 i ∧ i ≤ K ∧ LoopC T S K p7 W4 wr) (fun vi _ => K - (intOf vi).toNat)
          case atStart => exact ⟨0, rfl, Nat.zero_le _, HC0.out⟩
          case round =>
            obtain ⟨i, rfl, hiK, hC⟩ := hrel
            by_cases hil : i < K
            · have hil' : (i : Int) < (K : Int) := by omega
              obtain ⟨g, rfl, hcc⟩ := hC.cells i hil
              have hx1 := HQ4.out i hil
              have cx := hcc i hil
              obtain ⟨x, hx⟩ : ∃ x, atL T S i = x := ⟨_, rfl⟩
              rw [hx, HFE.out] at hx1
              rw [hx] at cx
              have hx2 : ¬ x < 2 := by omega
              have hx3 : ¬ (F : Int) ≤ x := by omega
              obtain ⟨hx4, hx5⟩ := hx1
              have HC := hideIt hC
              have HX := hideIt hx
              have HCC := hideIt hcc
              clear hC hx hcc
              by_cases hi0 : i = 0
              · have hiz : ¬ (0 : Int) < (i : Int) := by omega
                have hin : ¬ 0 < i := by omega
                clear hi0
                go_upto_region 31 with fail
                go_big_quiet (fail)
                go_wp2
                go_roundw
                case rel => exact ⟨i + 1, by go_num, by omega, HC.out.drewN _⟩
                case measure => simp [intOf]; omega
              · have hiz : (0 : Int) < (i : Int) := by omega
                have hin : 0 < i := by omega
                clear hi0
                obtain ⟨m, hm⟩ : ∃ m : Nat, (i : Int) - 1 = m := ⟨i - 1, by omega⟩
                have cy := HCC.out m (by omega)
                obtain ⟨y, hy⟩ : ∃ y, atL T S m = y := ⟨_, rfl⟩
                rw [hy] at cy
                by_cases hiq : i < q
                · have hiq' : (i : Int) < (q : Int) := by omega
                  have hyx := HQ5.out m (by omega)
                  rw [hy, show m + 1 = i by omega, HX.out] at hyx
                  have hyx' : ¬ x ≤ y := by omega
                  clear hy
                  go_upto_region 31 with fail
                  go_big_quiet (fail)
                  go_wp2
                  go_roundw
                  case rel => exact ⟨i + 1, by go_num, by omega, HC.out.drewN _⟩
                  case measure => simp [intOf]; omega
                · have hiq' : ¬ (i : Int) < (q : Int) := by omega
                  clear hy
                  go_upto_region 31 with fail
                  go_big_quiet (fail)
                  go_wp2
                  go_roundw
                  case rel => exact ⟨i + 1, by go_num, by omega, HC.out.drewN _⟩
                  case measure => simp [intOf]; omega
            · -- OUT3: the third loop is done
              have hLD : LoopD T W4 F wr := ⟨S, hC.tab, HSO.out, fun b h1 h2 => by have := HFE.out; omega, hC.keeps⟩
              have HLD := hideIt hLD
              clear hC hLD HC0 HSO
              go_upto_region 34 with fail
              go_loopw [23] (fun va wr => ∃ a : Nat, va = .int .u32 a ∧ F ≤ a ∧ a ≤ n ∧ LoopD T W4 a wr) (fun va _ => n - (intOf va).toNat)
              case atStart => exact ⟨F, rfl, Nat.le_refl _, by omega, HLD.out⟩
              case round =>
                obtain ⟨a, rfl, hFa, han, hD⟩ := hrel
                obtain ⟨S', hA', hS', hN', hK'⟩ := hD.out
                by_cases hal : a < n
                · have hal' : (a : Int) < (n : Int) := by omega
                  have hset := tset_any T HT.out.ok wr S' hA' a (by omega) 0
                  rw [etb] at hset
                  have har : T.fi ≤ (a : Int) ∧ (a : Int) < T.n := by rw [HFE.out, HT.out.n]; omega
                  have hS2 := setTo_ok hS' a 0 (by omega)
                  have hN2 := setBack HT.out hS' har hN'
                  have HK' := hideIt hK'
                  have HS2 := hideIt hS2
                  have HN2 := hideIt hN2
                  clear hD hA' hS' hN' hK' har hS2 hN2
                  go_wp2_with (first
                    | (go_at_call 10; (with_reducible refine hset.mono ?_); rintro e w1 ⟨rfl, hA1, hk1⟩))
                  go_roundw
                  case rel => exact ⟨a + 1, by go_num, by omega, by omega, ⟨_, hA1, HS2.out, HN2.out, HK'.out.trans hk1⟩⟩
                  case measure => simp [intOf]; omega
                · -- OUT4: all counts are set back
                  have hnil : S' = [] := nil_of_look hS' fun b h1 h2 => hN' b h1 (by rw [HT.out.n] at h2; omega)
                  subst hnil
                  have hsl := tseal_any 60 (fun m => sortsAll m 60 (by omega)) (by omega) (by omega) T HT.out.ok wr [] (setOk_nil T) (by simp) hA'
                  have hp0 : sealPuts T [] = [] := by unfold sealPuts; rw [keyL0]; rfl
                  have hp1 : sealPicks T [] = 0 := by unfold sealPicks; rw [keyL0]; exact HT.out.picks
                  rw [etb] at hsl
                  unfold SealPost at hsl
                  rw [hp0, hp1] at hsl
                  have HK' := hideIt hK'
                  clear hD hA' hS' hN' hK' hp0 hp1 HLD
                  go_upto_region 38 with (first
                    | (go_at_call 13; (with_reducible refine hsl.mono ?_); rintro e W9 ⟨v9, rfl, ho9, _, hA9, hk9⟩)
                    | (with_reducible refine wl_extract rfl rfl ?_))
                  obtain ⟨p9, c9, rfl⟩ := own_slice ho9
                  have hch := tchanged_any 60 (fun m => sortsAll m 60 (by omega)) (by omega) T HT.out.ok W9 [] (setOk_nil T) (by simp) hA9
                  rw [etb, keyL0] at hch
                  unfold KeysPost at hch
                  have hK9 : Keeps (fun k => k = T.pm ∨ k = T.tm ∨ k = T.sm) W4 W9 := HK'.out.trans (hk9.mono fun k _ hk => by rcases hk with h | h <;> simp [h])
                  have hB9 : Below w.heap.size w W9 := HB4.out.trans (hK9.below hw4 (fun k hk => by have := HF.out k hk; omega))
                  have HB9 := hideIt hB9
                  clear hsl ho9 hA9 hk9 hK9 hB9 HK'
                  simp only [List.length_nil]
                  go_wp2_with (first
                    | (go_at_call 14; (with_reducible refine hch.mono ?_); rintro e W10 ⟨v10, rfl, ho10, hb10⟩; obtain ⟨p10, c10, rfl⟩ := own_slice ho10; simp only [List.length_nil])
                    | (go_at_call 6; (with_reducible refine (head_any _).mono ?_); rintro e W11 ⟨rfl, hb11⟩))
                  go_ret
                  exact ⟨rfl, HB9.out.trans ((hb10.trans (hb11.mono hb10.size)).mono HB9.out.size)⟩
set_option maxRecDepth 100000 in
theorem apart_any (n : Nat) (p : Option Addr) (len cap : Nat) (L : Nat → Int × Int) (w : World) (hL : SetsAt w p len L) :
    Calls Tryz.prog 3 #[.int .u32 n, .slice p len cap] w fun e w' => e = .returned (.bool true) ∧ Below w.heap.size w w' := by
  by_cases h1 : 64 ≤ n
  · by_cases h2 : n ≤ 5000
    · exact apart_go n h1 h2 p len cap L w hL
    · have h2' : ¬ (n : Int) ≤ 5000 := by omega
      have h3 : (5000 : Int) < n := by omega
      have h4 : ¬ (n : Int) < 64 := by omega
      clear hL
      go_enter Tryz.func3, Tryz.ntmps3
      go_wp2_with (first
        | (go_at_call 6; (with_reducible refine (head_any _).mono ?_); rintro e W11 ⟨rfl, hb11⟩))
      go_ret
      exact ⟨rfl, hb11⟩
  · have h4 : (n : Int) < 64 := by omega
    clear hL
    go_enter Tryz.func3, Tryz.ntmps3
    go_wp2_with (first
      | (go_at_call 6; (with_reducible refine (head_any _).mono ?_); rintro e W11 ⟨rfl, hb11⟩))
    go_ret
    exact ⟨rfl, hb11⟩
end Go.Proofs.YtnibehcgnhdcgaaGreatDoor
