/- Keys of the kind uint32: collected, sorted (plain). Lines of the kit's worked proof for keys of another kind, turned. -/
import Derived.Test.YtnibehcgnhdcgaaGreatDoorM12
import Derived.Sort.KeysCollected
import Derived.Sort.OwnSorted
import Derived.Lib.SlKeysI
namespace Go.Proofs.YtnibehcgnhdcgaaGreatDoor
open Go.RowKit Go.Maps Go.Sort

/-- An int (64 bits) as a value. -/
abbrev encU : Int → Value := Value.int .u32
/-- The number of a key that is an int. -/
def keyInt : Lit → Int
  | .int _ a => a
  | _ => 0
/-- A map's keys, as they stand in the datum; of a nil map: none. FOR A SPECIFICATION. -/
def u32Keys {H : Type} : DataW H → List Int
  | .map es => es.map fun p => keyInt p.1
  | _ => []
/-- Go's '<=' on ints. -/
abbrev leU : Int → Int → Bool := fun x y => decide (x ≤ y)

theorem encU_inj {x y : Int} (h : encU x = encU y) : x = y := by simpa [encU] using h

/-- What reads as a key of a type over int (64 bits): the number, what it reads as, its bounds. -/
theorem keyOf_u32 {P : Program} {k : TypeId} (hk : P.underlying k = some (.int .u32)) {key : Value} {kl : Lit} (h : keyOf P k key = some kl) : ∃ x : Int, key = encU x ∧ kl = .int .u32 x ∧ (Lit.int .u32 x).wf = true := by
  cases key <;> simp [keyOf, hk, mapKey] at h
  rename_i q a
  obtain ⟨⟨rfl, hw⟩, rfl⟩ := h
  exact ⟨a, rfl, rfl, hw⟩

/-- PERMUTATIONS SORT TO ONE LIST. -/
theorem mergeSort_of_perm_u {l l' : List Int} (h : l.Perm l') : l.mergeSort leU = l'.mergeSort leU := by
  have tr : ∀ a b c : Int, leU a b = true → leU b c = true → leU a c = true := fun a b c h1 h2 => by simp only [leU, decide_eq_true_eq] at *; exact Int.le_trans h1 h2
  have to : ∀ a b : Int, (leU a b || leU b a) = true := fun a b => by simp only [leU, Bool.or_eq_true, decide_eq_true_eq]; exact Int.le_total a b
  refine List.Perm.eq_of_pairwise (le := fun a b => leU a b = true) (fun a b _ _ h1 h2 => ?_) (List.pairwise_mergeSort tr to l) (List.pairwise_mergeSort tr to l') (((List.mergeSort_perm l leU).trans h).trans (List.mergeSort_perm l' leU).symm)
  simp only [leU, decide_eq_true_eq] at h1 h2
  exact Int.le_antisymm h1 h2

theorem perm_u32Keys {H : Type} {es : List (Lit × DataW H)} (hp : es.Pairwise (fun p q => p.1 ≠ q.1)) (hk : ∀ p ∈ es, ∃ x, p.1 = .int .u32 x) {ss : List Int} (hnd : ss.Nodup) (hm : ∀ x, x ∈ ss ↔ has (.map es) (.int .u32 x) = true) :
    ss.Perm (u32Keys (.map es)) := by
  refine (List.perm_ext_iff_of_nodup hnd ?_).2 fun x => ?_
  · show (es.map fun p => keyInt p.1).Nodup
    refine List.pairwise_map.2 (hp.imp_of_mem fun {p q} hp' hq' hne e => hne ?_)
    obtain ⟨a, ha⟩ := hk p hp'
    obtain ⟨b, hb⟩ := hk q hq'
    rw [ha, hb] at e ⊢
    exact congrArg _ e
  · rw [hm x, has_eq, List.any_eq_true]
    show _ ↔ x ∈ es.map fun p => keyInt p.1
    rw [List.mem_map]
    constructor
    · rintro ⟨p, hp', hs⟩
      obtain ⟨a, ha⟩ := hk p hp'
      rw [ha] at hs
      exact ⟨p, hp', by rw [ha]; simpa [Lit.sameKey, keyInt] using hs⟩
    · rintro ⟨p, hp', rfl⟩
      obtain ⟨a, ha⟩ := hk p hp'
      exact ⟨p, hp', by rw [ha]; simp [Lit.sameKey, keyInt]⟩

/-- THE RELATION's WORD: no key twice; a key is on the list just where the map has it and it is no longer to come. -/
def CollU {H : Type} (D0 : DataW H) (left : Lit → Bool) (ss : List Int) : Prop := ss.Nodup ∧ ∀ x, x ∈ ss ↔ (has D0 (.int .u32 x) = true ∧ left (.int .u32 x) = false)

section
variable {H : Type} {D0 : DataW H} {left : Lit → Bool} {ss : List Int}

theorem CollU.start (D0 : DataW H) : CollU D0 (has D0) [] := ⟨List.nodup_nil, fun x => by cases has D0 (.int .u32 x) <;> simp⟩

theorem CollU.step (h : CollU D0 left ss) {x : Int} {y : DataW H} (hlk : left (.int .u32 x) = true) (hat : ∀ zd, D0.atKey (.int .u32 x) zd = y) : CollU D0 (fun z => left z && !z.sameKey (.int .u32 x)) (ss ++ [x]) := by
  have hhas : has D0 (.int .u32 x) = true := has_true_of_atKey hat
  have hnew : x ∉ ss := fun hx => by have := ((h.2 x).1 hx).2; rw [hlk] at this; cases this
  refine ⟨List.nodup_append.2 ⟨h.1, by simp, fun a ha b hb => by simp at hb; subst hb; exact fun e => hnew (e ▸ ha)⟩, fun y => ?_⟩
  by_cases hy : y = x
  · subst hy; simp [hhas, Lit.sameKey]
  · simp [h.2 y, hy, Lit.sameKey]

variable {P : Program} {k : TypeId} {R : Value → Option (DataW H × List MemPlace)} {w : World} {b n : Nat}

/-- AT THE END. -/
theorem CollU.perm (h : CollU D0 left ss) (hown : w.ownsMap P k R b n D0) (K : Keyed P k) (hk : P.underlying k = some (.int .u32)) (hl : ∀ kl, left kl = false) : ss.Perm (u32Keys D0) := by
  obtain ⟨es, hD, hpw, _⟩ := hown.entries K
  obtain ⟨es', hD', hko⟩ := hown.keysOf
  obtain rfl : es = es' := by rw [hD] at hD'; simpa using hD'
  subst hD
  exact perm_u32Keys hpw (fun p hp => by obtain ⟨v, hv⟩ := hko p hp; obtain ⟨x, _, hx, _⟩ := keyOf_u32 hk hv; exact ⟨x, hx⟩) h.1 (fun x => by rw [h.2 x, hl]; simp)


/-- Each key is a number of the kind. -/
theorem u32Keys_wf (hown : w.ownsMap P k R b n D0) (hk : P.underlying k = some (.int .u32)) : ∀ x ∈ u32Keys D0, (Lit.int .u32 x).wf = true := by
  obtain ⟨es, rfl, hko⟩ := hown.keysOf
  intro x hx
  obtain ⟨p, hp, rfl⟩ := List.mem_map.1 hx
  obtain ⟨v, hv⟩ := hko p hp
  obtain ⟨y, _, hy, hl⟩ := keyOf_u32 hk hv
  rw [hy]; exact hl
end



theorem holds_of_block_u {w : World} {g : Nat} {cur : Array Value} {e : TypeId} {ss : List Int} (hb : w.heap[g]? = some (.cells cur e (0, 0))) (ht : cur.toList.take ss.length = ss.map encU) : Holds encU w g 0 ss.toArray := by
  intro j hj
  have hj' : j < ss.length := by simpa using hj
  refine ⟨?_, by simp [World.frozen?, hb]⟩
  have h1 : (cur.toList.take ss.length)[j]? = (ss.map encU)[j]? := by rw [ht]
  rw [List.getElem?_take_of_lt hj'] at h1
  simp only [World.cell?, hb, Nat.zero_add]
  simp only [Option.isSome_none, Bool.false_eq_true, if_false]
  rw [← Array.getElem?_toList, h1]
  simp [hj']

theorem heap_sorted_u {w : World} {g n : Nat} {os : Array Obj} {cur : Array Value} {e : TypeId} {fr : Nat × Nat} (d : Array Int) (hb : w.heap[g]? = some (.cells cur e fr)) :
    (grow (putRow encU (Sort.ahead w n) g 0 d) os).heap[g]? = some (.cells (putCells encU 0 d cur) e fr) := by
  have hg : g < w.heap.size := (Array.getElem?_eq_some_iff.1 hb).1
  rw [heap_grow_old _ _ (by simpa using hg)]
  simp [putRow, mapBlock, Sort.ahead, Array.getElem?_modify, hb, onCells]

theorem grownBy_sorted_u {w : World} {g n : Nat} {os : Array Obj} (d : Array Int) : w.grownBy (grow (putRow encU (Sort.ahead w n) g 0 d) os) (some g) := by
  refine ⟨rfl, rfl, rfl, by simp, fun k hk hne => ?_⟩
  rw [heap_grow_old _ _ (by simpa using hk)]
  have : g ≠ k := fun e => hne (by rw [e])
  simp [putRow, mapBlock, Sort.ahead, Array.getElem?_modify, this]

theorem take_putCells_u (cur : Array Value) (ts : List Int) (h : ts.length ≤ cur.size) : (putCells encU 0 ts.toArray cur).toList.take ts.length = ts.map encU := by
  apply List.ext_getElem?
  intro j
  by_cases hj : j < ts.length
  · rw [List.getElem?_take_of_lt hj, Array.getElem?_toList]
    simp [putCells, hj, show j < cur.size by omega]
  · rw [List.getElem?_take_eq_none (by omega), List.getElem?_eq_none (by simp; omega)]

/-- BEHIND THE SORT the same slice owns the sorted list. -/
theorem ownsRow_sorted_u {w : World} {base g cap n : Nat} {e : TypeId} {os : Array Obj} {cur : Array Value} {ss ts : List Int} (hl : ts.length = ss.length) (hbase : base ≤ g) (hb : w.heap[g]? = some (.cells cur e (0, 0)))
    (h1 : ss.length ≤ cap) (h2 : cap ≤ maxLen) (h3 : cur.size = cap * 1) :
    (grow (putRow encU (Sort.ahead w n) g 0 ts.toArray) os).ownsRow base e 1 (.slice (some ⟨g, 0, none⟩) ss.length cap) ss.length (ts.map encU) :=
  ⟨by simp [hl], .inr ⟨g, cap, _, rfl, hbase, heap_sorted_u _ hb, h1, h2, by simp [putCells, h3], by rw [Nat.mul_one, ← hl]; exact take_putCells_u cur ts (by omega)⟩⟩



/-- A map's values read as nothing in particular. -/
def Rk : Value → Option (DataW Unit × List MemPlace) := fun _ => some (.lit (.bool true), [])
theorem ownsMap_of {P : Program} {kT : TypeId} (hk : P.underlying kT = some (.int .u32)) {w : World} {b : Nat} {l : List (Int × Value)} (h : MapAt w b l) (hr : ∀ p ∈ l, 0 ≤ p.1 ∧ p.1 < 4294967296) (hl : l.length ≤ maxLen) :
    ∃ D, w.ownsMap P kT Rk b l.length D ∧ (u32Keys D).Perm (l.map (·.1)) ∧ Maps.size D = l.length := by
  obtain ⟨es, clock, hb, hst, he⟩ := h
  have hlen : es.size = l.length := by have := congrArg List.length he; simpa using this
  have hkey : ∀ x ∈ es.toList, ∃ a : Int, x.key = .int .u32 a ∧ keyOf P kT x.key = some (.int .u32 a) := by
    intro x hx
    have hx' : (x.key, x.val) ∈ l.map (fun p => (Value.int .u32 p.1, p.2)) := by rw [← he]; exact List.mem_map.2 ⟨x, hx, rfl⟩
    obtain ⟨p, hp, hpx⟩ := List.mem_map.1 hx'
    simp only [Prod.mk.injEq] at hpx
    refine ⟨p.1, hpx.1.symm, ?_⟩
    rw [← hpx.1]
    have hw : (Lit.int .u32 p.1).wf = true := by
      have := hr p hp
      simp [Lit.wf, IntKind.min, IntKind.max, IntKind.signed, IntKind.bits]
      omega
    simp [keyOf, hk, mapKey, hw]
  have hrg : ∀ x ∈ es.toList, ∃ a : Int, x.key = .int .u32 a ∧ WideElems.rd P kT Rk x = some (.int .u32 a, .lit (.bool true)) := by
    intro x hx
    obtain ⟨a, h1, h2⟩ := hkey x hx
    exact ⟨a, h1, by simp [WideElems.rd, h2, Rk]⟩
  refine ⟨.map ((es.toList.map (WideElems.rg P kT Rk)).foldr DataW.insert []), ⟨es, clock, hb, ⟨by omega, hst, fun x hx => ?_⟩, by omega, rfl⟩, ?_, ?_⟩
  · obtain ⟨a, _, h2⟩ := hrg x hx
    exact ⟨_, h2⟩
  · show ((List.foldr DataW.insert [] (es.toList.map (WideElems.rg P kT Rk))).map fun p => keyInt p.1).Perm _
    refine ((WideShapes.sorted_perm _).map _).trans ?_
    rw [List.map_map]
    have e : es.toList.map ((fun p : Lit × DataW Unit => keyInt p.1) ∘ WideElems.rg P kT Rk) = l.map (·.1) := by
      have e1 : es.toList.map ((fun p : Lit × DataW Unit => keyInt p.1) ∘ WideElems.rg P kT Rk) = (es.toList.map (fun e => (e.key, e.val))).map (fun q => match q.1 with | .int _ a => a | _ => 0) := by
        rw [List.map_map]
        apply List.map_congr_left
        intro x hx
        obtain ⟨a, h1, h2⟩ := hrg x hx
        simp [WideElems.rg, h2, keyInt, h1]
      rw [e1, he, List.map_map]
      rfl
    rw [e]
  · show (List.foldr DataW.insert [] (es.toList.map (WideElems.rg P kT Rk))).length = _
    rw [(WideShapes.sorted_perm _).length_eq]
    simpa using hlen
end Go.Proofs.YtnibehcgnhdcgaaGreatDoor
