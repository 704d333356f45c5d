/- Counts that are set one by one: what is known of them in plain terms; the pages that are sealed. -/
import Derived.Test.YtnibehcgnhdcgaaGreatDoorM21
namespace Go.Proofs.YtnibehcgnhdcgaaGreatDoor
open Go.RowKit

/-! ### rows of pairs as maps -/
theorem lookS_nil (a : Int) : lookS [] a = none := rfl
theorem lookS_put (S : List (Int × Int)) (k v a : Int) : lookS (putS S k v) a = if a = k then some v else lookS S a := by
  induction S with
  | nil =>
    rw [putS, lookS_cons, lookS_nil]
    by_cases h : a = k <;> simp [h]
  | cons p r ih =>
    rw [putS]
    by_cases hk : k = p.1
    · rw [if_pos (by simpa using hk), lookS_cons, lookS_cons]
      by_cases h : a = k
      · simp [h]
      · have h' : a ≠ p.1 := by rw [← hk]; exact h
        simp [h, h']
    · rw [if_neg (by simpa using hk), lookS_cons, ih, lookS_cons]
      by_cases h : a = p.1
      · have h' : a ≠ k := by rw [h]; exact fun e => hk e.symm
        simp [h]
        intro e; exact absurd e.symm hk
      · simp [h]
theorem lookS_none {S : List (Int × Int)} {a : Int} : lookS S a = none ↔ a ∉ S.map (·.1) := by
  induction S with
  | nil => simp [lookS_nil]
  | cons p r ih =>
    rw [lookS_cons]
    by_cases h : a = p.1
    · simp [h]
    · simp only [List.map_cons, List.mem_cons, not_or]
      rw [if_neg (by simpa using h), ih]
      simp [h]
theorem lookS_del {S : List (Int × Int)} (hn : (S.map (·.1)).Nodup) (k a : Int) : lookS (delS S k) a = if a = k then none else lookS S a := by
  induction S with
  | nil => simp [delS, lookS_nil]
  | cons p r ih =>
    simp only [List.map_cons, List.nodup_cons] at hn
    rw [delS]
    by_cases hk : k = p.1
    · rw [if_pos (by simpa using hk), lookS_cons]
      by_cases h : a = k
      · rw [if_pos h, lookS_none, h, hk]; exact hn.1
      · have h' : a ≠ p.1 := by rw [← hk]; exact h
        rw [if_neg h, if_neg (by simpa using h')]
    · rw [if_neg (by simpa using hk), lookS_cons, ih hn.2, lookS_cons]
      by_cases h : a = p.1
      · have h' : a ≠ k := by rw [h]; exact fun e => hk e.symm
        rw [if_neg h']
        simp [h]
        exact fun e => hk e.symm
      · simp [h]
theorem putS_mem {S : List (Int × Int)} {k v : Int} : ∀ q ∈ putS S k v, q ∈ S ∨ q = (k, v) := by
  induction S with
  | nil => intro q h; simp [putS] at h; exact Or.inr h
  | cons p r ih =>
    intro q h
    rw [putS] at h
    by_cases hk : k == p.1
    · rw [if_pos hk] at h
      rcases List.mem_cons.1 h with h | h
      · exact Or.inr h
      · exact Or.inl (List.mem_cons_of_mem _ h)
    · rw [if_neg hk] at h
      rcases List.mem_cons.1 h with h | h
      · exact Or.inl (h ▸ List.mem_cons_self)
      · rcases ih q h with h | h
        · exact Or.inl (List.mem_cons_of_mem _ h)
        · exact Or.inr h
theorem delS_mem {S : List (Int × Int)} {k : Int} : ∀ q ∈ delS S k, q ∈ S := by
  induction S with
  | nil => intro q h; simp [delS] at h
  | cons p r ih =>
    intro q h
    rw [delS] at h
    by_cases hk : k == p.1
    · rw [if_pos hk] at h; exact List.mem_cons_of_mem _ h
    · rw [if_neg hk] at h
      rcases List.mem_cons.1 h with h | h
      · exact h ▸ List.mem_cons_self
      · exact List.mem_cons_of_mem _ (ih q h)
theorem putS_keys {S : List (Int × Int)} {k v : Int} (x : Int) : x ∈ (putS S k v).map (·.1) ↔ x = k ∨ x ∈ S.map (·.1) := by
  rw [← Decidable.not_iff_not, ← lookS_none, lookS_put, not_or, ← lookS_none]
  by_cases h : x = k <;> simp [h]
theorem putS_nodup {S : List (Int × Int)} {k v : Int} (hn : (S.map (·.1)).Nodup) : ((putS S k v).map (·.1)).Nodup := by
  induction S with
  | nil => simp [putS]
  | cons p r ih =>
    have hn' := hn
    simp only [List.map_cons, List.nodup_cons] at hn'
    rw [putS]
    by_cases hk : k = p.1
    · rw [if_pos (by simpa using hk)]
      simp only [List.map_cons, List.nodup_cons]
      rw [hk]
      exact hn'
    · rw [if_neg (by simpa using hk)]
      simp only [List.map_cons, List.nodup_cons]
      refine ⟨fun h => ?_, ih hn'.2⟩
      rcases (putS_keys p.1).1 h with h | h
      · exact hk h.symm
      · exact hn'.1 h
theorem delS_nodup {S : List (Int × Int)} {k : Int} (hn : (S.map (·.1)).Nodup) : ((delS S k).map (·.1)).Nodup := by
  induction S with
  | nil => simp [delS]
  | cons p r ih =>
    have hn' := hn
    simp only [List.map_cons, List.nodup_cons] at hn'
    rw [delS]
    by_cases hk : k == p.1
    · rw [if_pos hk]; exact hn'.2
    · rw [if_neg hk]
      simp only [List.map_cons, List.nodup_cons]
      refine ⟨fun h => ?_, ih hn'.2⟩
      obtain ⟨q, hq, e⟩ := List.mem_map.1 h
      exact hn'.1 (List.mem_map.2 ⟨q, delS_mem q hq, e⟩)
theorem putS_len (S : List (Int × Int)) (k v : Int) : (putS S k v).length ≤ S.length + 1 := by
  induction S with
  | nil => simp [putS]
  | cons p r ih =>
    rw [putS]
    split
    · simp
    · simp only [List.length_cons]; omega
theorem delS_len (S : List (Int × Int)) (k : Int) : (delS S k).length ≤ S.length := by
  induction S with
  | nil => simp [delS]
  | cons p r ih =>
    rw [delS]
    split
    · simp
    · simp only [List.length_cons]; omega

/-! ### a table's counts -/
theorem setOk_nil (T : Tab) : SetOk T [] := ⟨by simp, by simp, by simp, by simp⟩
theorem look_of_mem {S : List (Int × Int)} (hn : (S.map (·.1)).Nodup) {p : Int × Int} (hp : p ∈ S) : lookS S p.1 = some p.2 := by
  induction S with
  | nil => simp at hp
  | cons q r ih =>
    simp only [List.map_cons, List.nodup_cons] at hn
    rw [lookS_cons]
    rcases List.mem_cons.1 hp with h | h
    · rw [h]; simp
    · have : p.1 ≠ q.1 := fun e => hn.1 (e ▸ List.mem_map.2 ⟨p, h, rfl⟩)
      rw [if_neg (by simpa using this)]
      exact ih hn.2 h
theorem mem_of_look {S : List (Int × Int)} {a x : Int} (h : lookS S a = some x) : (a, x) ∈ S := by
  induction S with
  | nil => simp [lookS_nil] at h
  | cons q r ih =>
    rw [lookS_cons] at h
    by_cases e : a = q.1
    · rw [if_pos (by simpa using e)] at h
      have : q = (a, x) := by
        obtain ⟨q1, q2⟩ := q
        simp at e h
        rw [e, h]
      exact this ▸ List.mem_cons_self
    · rw [if_neg (by simpa using e)] at h
      exact List.mem_cons_of_mem _ (ih h)
theorem setTo_ok {T : Tab} {S : List (Int × Int)} (h : SetOk T S) (a x : Int) (hx : 0 ≤ x ∧ x < 65536) : SetOk T (T.setTo S a x) := by
  unfold Tab.setTo
  split
  · exact h
  · rename_i hr
    have hr' : T.fi ≤ a ∧ a < T.n := by omega
    have hp : ∀ q ∈ putS S a x, T.fi ≤ q.1 ∧ q.1 < T.n ∧ 0 ≤ q.2 ∧ q.2 < 65536 := by
      intro q hq
      rcases putS_mem q hq with hq | hq
      · exact ⟨(h.key q hq).1, (h.key q hq).2, h.val q hq⟩
      · subst hq; exact ⟨hr'.1, hr'.2, hx⟩
    unfold Tab.set
    split
    · rename_i he
      have he' : x = T.old a := by simpa using he
      refine ⟨delS_nodup (putS_nodup h.nodup), fun q hq => ?_, fun q hq => ?_, fun q hq => ?_⟩
      · have := hp q (delS_mem q hq); exact ⟨this.1, this.2.1⟩
      · have := hp q (delS_mem q hq); exact this.2.2
      · rcases putS_mem q (delS_mem q hq) with h1 | h1
        · exact h.new q h1
        · exfalso
          have h2 : lookS (delS (putS S a x) a) q.1 = some q.2 := look_of_mem (delS_nodup (putS_nodup h.nodup)) hq
          rw [lookS_del (putS_nodup h.nodup), h1, if_pos rfl] at h2
          simp at h2
    · rename_i he
      have he' : x ≠ T.old a := by simpa using he
      refine ⟨putS_nodup h.nodup, fun q hq => ?_, fun q hq => ?_, fun q hq => ?_⟩
      · have := hp q hq; exact ⟨this.1, this.2.1⟩
      · have := hp q hq; exact this.2.2
      · rcases putS_mem q hq with h1 | h1
        · exact h.new q h1
        · subst h1; exact he'
theorem setTo_len (T : Tab) (S : List (Int × Int)) (a x : Int) : (T.setTo S a x).length ≤ S.length + 1 := by
  unfold Tab.setTo Tab.set
  split
  · omega
  · split
    · exact Nat.le_trans (delS_len _ _) (putS_len _ _ _)
    · exact putS_len _ _ _
theorem setTo_look {T : Tab} {S : List (Int × Int)} (h : SetOk T S) (a x b : Int) :
    lookS (T.setTo S a x) b = if T.setErr a = 0 ∧ b = a then (if x = T.old a then none else some x) else lookS S b := by
  unfold Tab.setTo Tab.setErr
  by_cases hr : a < T.fi ∨ T.n ≤ a
  · simp [if_pos hr]
  · rw [if_neg hr, if_neg hr]
    unfold Tab.set
    by_cases he : x = T.old a
    · rw [if_pos (by simpa using he), lookS_del (putS_nodup h.nodup), lookS_put]
      by_cases hb : b = a <;> simp [hb, he]
    · rw [if_neg (by simpa using he), lookS_put]
      by_cases hb : b = a <;> simp [hb, he]
theorem setTo_now {T : Tab} {S : List (Int × Int)} (h : SetOk T S) (a x b : Int) (hb : b < T.n) :
    T.now (T.setTo S a x) b = if T.setErr a = 0 ∧ b = a then x else T.now S b := by
  unfold Tab.now
  simp only [if_neg (show ¬ T.n ≤ b by omega)]
  rw [setTo_look h]
  by_cases hc : T.setErr a = 0 ∧ b = a
  · rw [if_pos hc, if_pos hc]
    by_cases he : x = T.old a
    · simp [he, hc.2]
    · simp [he]
  · rw [if_neg hc, if_neg hc]

/-! ### rows that rise -/
def Rises (l : List Int) : Prop := l.Pairwise (· < ·)
theorem rises_ext : ∀ {l m : List Int}, Rises l → Rises m → (∀ x, x ∈ l ↔ x ∈ m) → l = m
  | [], [], _, _, _ => rfl
  | [], b :: m, _, _, h => absurd ((h b).2 List.mem_cons_self) (by simp)
  | a :: l, [], _, _, h => absurd ((h a).1 List.mem_cons_self) (by simp)
  | a :: l, b :: m, hl, hm, h => by
    unfold Rises at hl hm
    rw [List.pairwise_cons] at hl hm
    have hab : a = b := by
      rcases List.mem_cons.1 ((h a).1 List.mem_cons_self) with e | e
      · exact e
      · rcases List.mem_cons.1 ((h b).2 List.mem_cons_self) with e' | e'
        · exact e'.symm
        · have := hl.1 b e'; have := hm.1 a e; omega
    subst hab
    congr 1
    refine rises_ext hl.2 hm.2 fun x => ⟨fun hx => ?_, fun hx => ?_⟩
    · rcases List.mem_cons.1 ((h x).1 (List.mem_cons_of_mem _ hx)) with e | e
      · have := hl.1 x hx; omega
      · exact e
    · rcases List.mem_cons.1 ((h x).2 (List.mem_cons_of_mem _ hx)) with e | e
      · have := hm.1 x hx; omega
      · exact e
theorem keyL_mem (S : List (Int × Int)) (a : Int) : a ∈ keyL S ↔ lookS S a ≠ none := by
  rw [Ne, lookS_none, Decidable.not_not]
  unfold keyL sortI
  rw [List.mem_mergeSort]
theorem keyL_rises {S : List (Int × Int)} (hn : (S.map (·.1)).Nodup) : Rises (keyL S) := by
  have h1 : (keyL S).Pairwise (fun x y => decide (x ≤ y) = true) := List.pairwise_mergeSort (le := fun (x y : Int) => decide (x ≤ y)) (fun a b c h1 h2 => by simp at *; omega) (fun a b => by simp; omega) _
  have h2 : (keyL S).Nodup := by
    unfold keyL sortI
    exact (List.mergeSort_perm _ _).nodup_iff.2 hn
  unfold Rises
  refine (h1.and h2).imp ?_
  intro a b ⟨h, h'⟩
  simp at h
  have h' : a ≠ b := h'
  omega

/-! ### the pages that are sealed -/
theorem fillP_left_eq (S : List (Int × Int)) (p : Int) (cs l : List Int) : (fillP S p cs l).2 = l.dropWhile (fun a => decide (a / 64 = p)) := by
  induction l generalizing cs with
  | nil => simp [fillP]
  | cons a r ih =>
    rw [fillP, List.dropWhile_cons]
    by_cases h : a / 64 = p
    · rw [if_pos h, if_pos (by simpa using h)]; exact ih _
    · rw [if_neg h, if_neg (by simpa using h)]
theorem dropPage {a : Int} {r : List Int} (h : Rises (a :: r)) : Rises ((a :: r).dropWhile (fun b => decide (b / 64 = a / 64))) ∧
    (∀ b, b ∈ (a :: r).dropWhile (fun b => decide (b / 64 = a / 64)) ↔ b ∈ a :: r ∧ b / 64 ≠ a / 64) ∧ ∀ b ∈ a :: r, a ≤ b := by
  have hge : ∀ b ∈ a :: r, a ≤ b := by
    intro b hb
    rcases List.mem_cons.1 hb with e | e
    · omega
    · have := (List.pairwise_cons.1 h).1 b e; omega
  refine ⟨h.sublist (List.dropWhile_sublist _), fun b => ?_, hge⟩
  suffices H : ∀ (l : List Int), Rises l → (∀ c ∈ l, a / 64 ≤ c / 64) → (b ∈ l.dropWhile (fun b => decide (b / 64 = a / 64)) ↔ b ∈ l ∧ b / 64 ≠ a / 64) from
    H _ h (fun c hc => by have := hge c hc; omega)
  intro l
  induction l with
  | nil => intro _ _; simp
  | cons c m ih =>
    intro hl hc
    rw [List.dropWhile_cons]
    have hm := List.pairwise_cons.1 hl
    by_cases e : c / 64 = a / 64
    · rw [if_pos (by simpa using e), ih hm.2 (fun x hx => hc x (List.mem_cons_of_mem _ hx)), List.mem_cons]
      constructor
      · intro ⟨h1, h2⟩; exact ⟨Or.inr h1, h2⟩
      · intro ⟨h1, h2⟩
        rcases h1 with h1 | h1
        · subst h1; exact absurd e h2
        · exact ⟨h1, h2⟩
    · rw [if_neg (by simpa using e)]
      constructor
      · intro hb
        refine ⟨hb, ?_⟩
        have h0 := hc c List.mem_cons_self
        rcases List.mem_cons.1 hb with h1 | h1
        · subst h1; exact e
        · have := hm.1 b h1; omega
      · intro hb; exact hb.1
/-- The pages of a rising row, each once. -/
theorem sealG_eq (T : Tab) (S : List (Int × Int)) : ∀ (k : Nat) (l : List Int), Rises l → l.length < k → ∀ (o : Option (List Int)) (acc : List (Int × List UInt8)),
    ∃ (Q : List Int) (R : List (Int × List UInt8)), (sealG T S k l o acc).2 = acc ++ R ∧ R.map (·.1) = Q.map (fun p => otherI (T.at p)) ∧ Rises Q ∧ (∀ p, p ∈ Q ↔ ∃ a ∈ l, a / 64 = p) ∧
      (l = [] → (sealG T S k l o acc).1 = o) ∧ (l ≠ [] → (sealG T S k l o acc).1.isSome = true) := by
  intro k
  induction k with
  | zero => intro l _ h; omega
  | succ k ih =>
    intro l hl hk o acc
    cases l with
    | nil => exact ⟨[], [], by simp [sealG], rfl, List.Pairwise.nil, by simp, fun _ => by simp [sealG], fun h => absurd rfl h⟩
    | cons a r =>
      rw [sealG, fillP_left_eq]
      obtain ⟨h1, h2, h3⟩ := dropPage hl
      have hlen : ((a :: r).dropWhile (fun b => decide (b / 64 = a / 64))).length < k := by
        have : ((a :: r).dropWhile (fun b => decide (b / 64 = a / 64))).length ≤ r.length := by
          rw [List.dropWhile_cons, if_pos (by simp)]
          exact (List.dropWhile_sublist _).length_le
        simp only [List.length_cons] at hk
        omega
      obtain ⟨Q, R, e1, e2, e3, e4, e5, e6⟩ := ih _ h1 hlen (some (turnL (o.getD T.pk) (a / 64).toNat)) (acc ++ [(otherI (T.at (a / 64)), putB 84 (a / 64) 2 (fillP S (a / 64) (T.tl (a / 64)) (a :: r)).1)])
      refine ⟨a / 64 :: Q, (otherI (T.at (a / 64)), putB 84 (a / 64) 2 (fillP S (a / 64) (T.tl (a / 64)) (a :: r)).1) :: R, ?_, ?_, ?_, ?_, fun h => by simp at h, fun _ => ?_⟩
      · rw [e1]; simp
      · simp [e2]
      · refine List.pairwise_cons.2 ⟨fun p hp => ?_, e3⟩
        obtain ⟨b, hb, e⟩ := (e4 p).1 hp
        have hb' := (h2 b).1 hb
        have := h3 b hb'.1
        omega
      · intro p
        rw [List.mem_cons, e4]
        constructor
        · rintro (e | ⟨b, hb, e⟩)
          · exact ⟨a, List.mem_cons_self, e.symm⟩
          · exact ⟨b, ((h2 b).1 hb).1, e⟩
        · rintro ⟨b, hb, e⟩
          by_cases hp : b / 64 = a / 64
          · exact Or.inl (by omega)
          · exact Or.inr ⟨b, (h2 b).2 ⟨hb, hp⟩, e⟩
      · by_cases hn : (a :: r).dropWhile (fun b => decide (b / 64 = a / 64)) = []
        · rw [e5 hn]; rfl
        · exact e6 hn
/-- What is sealed: a page of counts for each page that is touched, rising, and the pick. -/
theorem seal_eq (T : Tab) {S : List (Int × Int)} (hS : SetOk T S) :
    ∃ Q : List Int, Rises Q ∧ (∀ p, p ∈ Q ↔ ∃ a, lookS S a ≠ none ∧ a / 64 = p) ∧ (sealPuts T S).map (·.1) = Q.map (fun p => otherI (T.at p)) ++ (if Q = [] then [] else [otherI (2 + T.picks)]) ∧
      sealPicks T S = if Q = [] then T.picks else 1 - T.picks := by
  obtain ⟨Q, R, e1, e2, e3, e4, e5, e6⟩ := sealG_eq T S ((keyL S).length + 1) (keyL S) (keyL_rises hS.nodup) (by omega) none []
  have hQ : Q = [] ↔ keyL S = [] := by
    constructor
    · intro h
      cases hk : keyL S with
      | nil => rfl
      | cons a r =>
        have := (e4 (a / 64)).2 ⟨a, by rw [hk]; exact List.mem_cons_self, rfl⟩
        rw [h] at this; simp at this
    · intro h
      cases hk : Q with
      | nil => rfl
      | cons p r =>
        obtain ⟨a, ha, _⟩ := (e4 p).1 (by rw [hk]; exact List.mem_cons_self)
        rw [h] at ha; simp at ha
  refine ⟨Q, e3, fun p => ?_, ?_, ?_⟩
  · rw [e4]
    constructor
    · rintro ⟨a, ha, e⟩; exact ⟨a, (keyL_mem S a).1 ha, e⟩
    · rintro ⟨a, ha, e⟩; exact ⟨a, (keyL_mem S a).2 ha, e⟩
  · unfold sealPuts
    obtain ⟨o', l', hg⟩ : ∃ o' l', sealG T S ((keyL S).length + 1) (keyL S) none [] = (o', l') := ⟨_, _, rfl⟩
    rw [hg] at e1 e5 e6 ⊢
    simp only [List.nil_append] at e1
    by_cases h : Q = []
    · rw [if_pos h]
      have := e5 (hQ.1 h)
      simp only at this
      subst this
      simp only [e1, e2, List.append_nil]
    · rw [if_neg h]
      have := e6 (fun hk => h (hQ.2 hk))
      simp only at this
      cases o' with
      | none => simp at this
      | some cs => simp only [List.map_append, e1, e2]; rfl
  · unfold sealPicks
    obtain ⟨o', l', hg⟩ : ∃ o' l', sealG T S ((keyL S).length + 1) (keyL S) none [] = (o', l') := ⟨_, _, rfl⟩
    rw [hg] at e5 e6 ⊢
    by_cases h : Q = []
    · rw [if_pos h]
      have := e5 (hQ.1 h)
      simp only at this
      subst this
      rfl
    · rw [if_neg h]
      have := e6 (fun hk => h (hQ.2 hk))
      simp only at this
      cases o' with
      | none => simp at this
      | some cs => rfl

/-! ### the pages that are touched, as they are met -/
def pgs (N : Int → Int) : Nat → List Int
  | 0 => []
  | a + 1 => if N a ≠ 0 ∧ ¬ ((a : Int) / 64 ∈ pgs N a) then ((a : Int) / 64) :: pgs N a else pgs N a
theorem pgs_le (N : Int → Int) (a : Nat) : ∀ p ∈ pgs N a, p * 64 < a := by
  induction a with
  | zero => simp [pgs]
  | succ a ih =>
    intro p hp
    rw [pgs] at hp
    split at hp
    · rcases List.mem_cons.1 hp with h | h
      · omega
      · have := ih p h; omega
    · have := ih p hp; omega
theorem pgs_falls (N : Int → Int) (a : Nat) : Rises (pgs N a).reverse := by
  induction a with
  | zero => simp [pgs, Rises]
  | succ a ih =>
    rw [pgs]
    split
    · rename_i h
      unfold Rises at ih ⊢
      rw [List.reverse_cons, List.pairwise_append]
      refine ⟨ih, by simp, fun x hx y hy => ?_⟩
      have hy' : y = (a : Int) / 64 := by simpa using hy
      have hx' : x ∈ pgs N a := List.mem_reverse.1 hx
      have h1 := pgs_le N a x hx'
      have h2 : x ≠ (a : Int) / 64 := fun e => h.2 (e ▸ hx')
      omega
    · exact ih
theorem pgs_mem (N : Int → Int) (n : Nat) (p : Int) : p ∈ pgs N n ↔ ∃ a : Nat, a < n ∧ N a ≠ 0 ∧ (a : Int) / 64 = p := by
  induction n with
  | zero => simp [pgs]
  | succ a ih =>
    rw [pgs]
    split
    · rename_i h
      rw [List.mem_cons, ih]
      constructor
      · rintro (e | ⟨b, h1, h2, h3⟩)
        · exact ⟨a, by omega, h.1, e.symm⟩
        · exact ⟨b, by omega, h2, h3⟩
      · rintro ⟨b, h1, h2, h3⟩
        by_cases e : b = a
        · exact Or.inl (by rw [← h3, e])
        · exact Or.inr ⟨b, by omega, h2, h3⟩
    · rename_i h
      rw [ih]
      constructor
      · rintro ⟨b, h1, h2, h3⟩; exact ⟨b, by omega, h2, h3⟩
      · rintro ⟨b, h1, h2, h3⟩
        by_cases e : b = a
        · subst e
          have : (b : Int) / 64 ∈ pgs N b := by
            by_cases hc : (b : Int) / 64 ∈ pgs N b
            · exact hc
            · exact absurd ⟨h2, hc⟩ h
          obtain ⟨c, h4, h5, h6⟩ := ih.1 (h3 ▸ this)
          exact ⟨c, h4, h5, h6⟩
        · exact ⟨b, by omega, h2, h3⟩
end Go.Proofs.YtnibehcgnhdcgaaGreatDoor
