/- What Seal tells, plainly; the other block of two. -/
import Derived.Test.YtnibehcgnhdcgaaGreatDoorM18
import Derived.Laws.BitsAllLaws
import Derived.Deep.DeepCutAuto
import Derived.Deep.CutBlock
namespace Go.Proofs.YtnibehcgnhdcgaaGreatDoor
open Go.RowKit

/-- The other block of two. -/
def otherI (a : Int) : Int := if a % 2 = 0 then a + 1 else a - 1
theorem xor1 (n : Nat) : n ^^^ 1 = if n % 2 = 0 then n + 1 else n - 1 := by
  have h1 : (n ^^^ 1) / 2 = n / 2 := by rw [Nat.xor_div_two]; simp
  have h2 := @Nat.xor_mod_two_eq_one n 1
  have h3 : (n ^^^ 1) % 2 = 1 ↔ n % 2 = 0 := by rw [h2]; omega
  split <;> omega
theorem xor_other (a : Int) (h0 : 0 ≤ a) (h1 : a < 4294967296) : bits .xor .u32 a 1 = otherI a := by
  rw [u32_xor a 1 h0 h1 (by omega) (by omega)]
  have e : (1 : Int).toNat = 1 := rfl
  rw [e, xor1]
  unfold otherI
  split <;> split <;> omega
set_option maxHeartbeats 400000 in
theorem cother_any (a : Int) (h0 : 0 ≤ a) (h1 : a < 4294967296) (w : World) :
    Calls Tryz.prog 34 #[.int .u32 a] w fun e w' => e = .returned (.int .u32 (otherI a)) ∧ w = w' := by
  go_enter Tryz.func34, Tryz.ntmps34
  go_wp2_with fail
  go_ret
  exact ⟨by rw [xor_other a h0 h1]; rfl, rfl⟩

/-- A count that is set. -/
def valS (S : List (Int × Int)) (a : Int) : Int := (lookS S a).getD 0
/-- A page's counts, those that are set laid in; what is left. -/
def fillP (S : List (Int × Int)) (p : Int) : List Int → List Int → List Int × List Int
  | cs, [] => (cs, [])
  | cs, a :: r => if a / 64 = p then fillP S p (cs.set (a % 64).toNat (valS S a)) r else (cs, a :: r)
/-- All pages that are turned: the pick then; what is put. -/
def sealG (T : Tab) (S : List (Int × Int)) : Nat → List Int → Option (List Int) → List (Int × List UInt8) → Option (List Int) × List (Int × List UInt8)
  | 0, _, o, acc => (o, acc)
  | _ + 1, [], o, acc => (o, acc)
  | k + 1, a :: r, o, acc =>
    sealG T S k (fillP S (a / 64) (T.tl (a / 64)) (a :: r)).2 (some (turnL (o.getD T.pk) (a / 64).toNat))
      (acc ++ [(otherI (T.at (a / 64)), putB 84 (a / 64) 2 (fillP S (a / 64) (T.tl (a / 64)) (a :: r)).1)])
theorem fillP_len (S : List (Int × Int)) (p : Int) (cs l : List Int) : (fillP S p cs l).1.length = cs.length := by
  induction l generalizing cs with
  | nil => rfl
  | cons a r ih =>
    rw [fillP]
    split
    · rw [ih, List.length_set]
    · rfl
theorem fillP_left (S : List (Int × Int)) (p : Int) (cs l : List Int) : (fillP S p cs l).2.length ≤ l.length := by
  induction l generalizing cs with
  | nil => exact Nat.le_refl _
  | cons a r ih =>
    rw [fillP]
    split
    · exact Nat.le_trans (ih _) (Nat.le_succ _)
    · exact Nat.le_refl _
theorem fillP_lt (S : List (Int × Int)) (cs : List Int) (a : Int) (r : List Int) : (fillP S (a / 64) cs (a :: r)).2.length < (a :: r).length := by
  rw [fillP, if_pos rfl]
  exact Nat.lt_succ_of_le (fillP_left _ _ _ _)
theorem mem_set {l : List Int} {i : Nat} {x y : Int} (h : y ∈ l.set i x) : y ∈ l ∨ y = x := List.mem_or_eq_of_mem_set h
theorem fillP_mem (S : List (Int × Int)) (p : Int) (hS : ∀ a, 0 ≤ valS S a ∧ valS S a < 65536) (cs l : List Int) (h : ∀ x ∈ cs, 0 ≤ x ∧ x < 65536) : ∀ x ∈ (fillP S p cs l).1, 0 ≤ x ∧ x < 65536 := by
  induction l generalizing cs with
  | nil => exact h
  | cons a r ih =>
    rw [fillP]
    split
    · refine ih _ (fun x hx => ?_)
      rcases mem_set hx with hx | rfl
      · exact h x hx
      · exact hS a
    · exact h
theorem turnL_len (cs : List Int) (i : Nat) : (turnL cs i).length = cs.length := by rw [turnL, List.length_set]
theorem turnL_mem (cs : List Int) (i : Nat) (h : ∀ x ∈ cs, 0 ≤ x ∧ x < 18446744073709551616) : ∀ x ∈ turnL cs i, 0 ≤ x ∧ x < 18446744073709551616 := by
  intro x hx
  rcases mem_set hx with hx | rfl
  · exact h x hx
  · simp only [bits, IntKind.wrap_u64]
    omega
theorem valS_ok {T : Tab} {S : List (Int × Int)} (h : SetOk T S) (a : Int) : 0 ≤ valS S a ∧ valS S a < 65536 := by
  unfold valS lookS
  cases hf : S.find? (fun p => a == p.1) with
  | none => simp
  | some p => simpa using h.val p (List.mem_of_find?_eq_some hf)
/-- What Seal puts, and the picks then. -/
def sealPuts (T : Tab) (S : List (Int × Int)) : List (Int × List UInt8) :=
  match sealG T S ((keyL S).length + 1) (keyL S) none [] with
  | (none, l) => l
  | (some cs, l) => l ++ [(otherI (2 + T.picks), putB 80 0 8 cs)]
def sealPicks (T : Tab) (S : List (Int × Int)) : Int :=
  match sealG T S ((keyL S).length + 1) (keyL S) none [] with
  | (none, _) => T.picks
  | (some _, _) => 1 - T.picks
end Go.Proofs.YtnibehcgnhdcgaaGreatDoor
/- Seal: its walk. -/
namespace Go.Proofs.YtnibehcgnhdcgaaGreatDoor
open Go.RowKit

/-- What is left of a row of keys. -/
def LeftV (w : World) (g : Nat) (v : Value) (l : List Int) : Prop :=
  ∃ p c, v = .slice p l.length c ∧ l.length ≤ c ∧ c ≤ maxLen ∧ (l ≠ [] → ∃ o, p = some ⟨g, o, none⟩ ∧ ∀ i x, l[i]? = some x → w.cell? ⟨g, o + i, none⟩ = some (.int .u32 x))
theorem LeftV.of_block {w w' : World} {g : Nat} {v : Value} {l : List Int} (h : LeftV w g v l) (e : w'.heap[g]? = w.heap[g]?) : LeftV w' g v l := by
  obtain ⟨p, c, h1, h2, h3, h4⟩ := h
  refine ⟨p, c, h1, h2, h3, fun hl => ?_⟩
  obtain ⟨o, h5, h6⟩ := h4 hl
  exact ⟨o, h5, fun i x hx => by rw [World.cell?_of_block (w := w) e, h6 i x hx]⟩
theorem LeftV.of_keys {B : Nat} {w : World} {v : Value} {l : List Int} (h : KeysAt B w v l) : ∃ g, LeftV w g v l ∧ (l ≠ [] → B ≤ g ∧ g < w.heap.size) := by
  rcases h.2 with ⟨rfl, h0⟩ | ⟨g, cap, cur, rfl, hB, hg, h1, h2, h3, h4⟩
  · have : l = [] := List.eq_nil_of_length_eq_zero h0
    subst this
    exact ⟨0, ⟨none, 0, rfl, Nat.le_refl _, by unfold maxLen; omega, fun h => absurd rfl h⟩, fun h => absurd rfl h⟩
  · refine ⟨g, ⟨_, cap, rfl, h1, h2, fun _ => ⟨0, rfl, fun i x hx => ?_⟩⟩, fun _ => ⟨hB, (Array.getElem?_eq_some_iff.1 hg).1⟩⟩
    have hi : i < l.length := (List.getElem?_eq_some_iff.1 hx).1
    rw [cell_of_row w g _ _ _ _ hg, Nat.zero_add]
    have e : (cur.toList.take (l.length * 1))[i]? = (l.map encU)[i]? := by rw [h4]
    rw [List.getElem?_take, if_pos (by omega), Array.getElem?_toList, List.getElem?_map, hx] at e
    simpa [encU] using e
/-- The turned pick, as a map's entries. -/
def encO : Option (List Int) → List (Int × Value)
  | none => []
  | some cs => [(0, .agg (pickA 0 cs))]

/-- Seal's state at its label, behind the frame. -/
structure SealSt (T : Tab) (S : List (Int × Int)) (B g tm : Nat) (W4 : World) (vo vl : Value) (w : World) (l : List Int) (o : Option (List Int)) (acc : List (Int × List UInt8)) : Prop where
  left : LeftV w g vl l
  tab : TabAt T w S
  turn : MapAt w tm (encO o)
  out : w.ownsRow B 52 257 vo acc.length (rowsL acc)
  keep : Keeps (fun k => k = T.pm ∨ k = T.tm ∨ k = tm ∨ B ≤ k) W4 w
  spec : ∃ f, l.length < f ∧ sealG T S f l o acc = sealG T S ((keyL S).length + 1) (keyL S) none []
  good : ∀ p ∈ acc, p.2.length = 256
  few : acc.length + l.length ≤ (keyL S).length
  pick : ∀ cs, o = some cs → cs.length = 16 ∧ ∀ x ∈ cs, 0 ≤ x ∧ x < 18446744073709551616
  keys : ∀ a ∈ l, T.fi ≤ a ∧ a < T.n

theorem frameN (n : Nat) (A : Array Value) (h : A.size = n) : A = (List.ofFn (n := n) fun i => A.getD i undef).toArray := by
  subst h
  apply Array.ext
  · simp
  · intro i h1 h2
    simp [h1]
set_option maxRecDepth 100000 in
theorem frame160 (A : Array Value) (h : A.size = 160) : A = #[A.getD 0 undef, A.getD 1 undef, A.getD 2 undef, A.getD 3 undef, A.getD 4 undef, A.getD 5 undef, A.getD 6 undef, A.getD 7 undef, A.getD 8 undef, A.getD 9 undef, A.getD 10 undef, A.getD 11 undef, A.getD 12 undef, A.getD 13 undef, A.getD 14 undef, A.getD 15 undef, A.getD 16 undef, A.getD 17 undef, A.getD 18 undef, A.getD 19 undef, A.getD 20 undef, A.getD 21 undef, A.getD 22 undef, A.getD 23 undef, A.getD 24 undef, A.getD 25 undef, A.getD 26 undef, A.getD 27 undef, A.getD 28 undef, A.getD 29 undef, A.getD 30 undef, A.getD 31 undef, A.getD 32 undef, A.getD 33 undef, A.getD 34 undef, A.getD 35 undef, A.getD 36 undef, A.getD 37 undef, A.getD 38 undef, A.getD 39 undef, A.getD 40 undef, A.getD 41 undef, A.getD 42 undef, A.getD 43 undef, A.getD 44 undef, A.getD 45 undef, A.getD 46 undef, A.getD 47 undef, A.getD 48 undef, A.getD 49 undef, A.getD 50 undef, A.getD 51 undef, A.getD 52 undef, A.getD 53 undef, A.getD 54 undef, A.getD 55 undef, A.getD 56 undef, A.getD 57 undef, A.getD 58 undef, A.getD 59 undef, A.getD 60 undef, A.getD 61 undef, A.getD 62 undef, A.getD 63 undef, A.getD 64 undef, A.getD 65 undef, A.getD 66 undef, A.getD 67 undef, A.getD 68 undef, A.getD 69 undef, A.getD 70 undef, A.getD 71 undef, A.getD 72 undef, A.getD 73 undef, A.getD 74 undef, A.getD 75 undef, A.getD 76 undef, A.getD 77 undef, A.getD 78 undef, A.getD 79 undef, A.getD 80 undef, A.getD 81 undef, A.getD 82 undef, A.getD 83 undef, A.getD 84 undef, A.getD 85 undef, A.getD 86 undef, A.getD 87 undef, A.getD 88 undef, A.getD 89 undef, A.getD 90 undef, A.getD 91 undef, A.getD 92 undef, A.getD 93 undef, A.getD 94 undef, A.getD 95 undef, A.getD 96 undef, A.getD 97 undef, A.getD 98 undef, A.getD 99 undef, A.getD 100 undef, A.getD 101 undef, A.getD 102 undef, A.getD 103 undef, A.getD 104 undef, A.getD 105 undef, A.getD 106 undef, A.getD 107 undef, A.getD 108 undef, A.getD 109 undef, A.getD 110 undef, A.getD 111 undef, A.getD 112 undef, A.getD 113 undef, A.getD 114 undef, A.getD 115 undef, A.getD 116 undef, A.getD 117 undef, A.getD 118 undef, A.getD 119 undef, A.getD 120 undef, A.getD 121 undef, A.getD 122 undef, A.getD 123 undef, A.getD 124 undef, A.getD 125 undef, A.getD 126 undef, A.getD 127 undef, A.getD 128 undef, A.getD 129 undef, A.getD 130 undef, A.getD 131 undef, A.getD 132 undef, A.getD 133 undef, A.getD 134 undef, A.getD 135 undef, A.getD 136 undef, A.getD 137 undef, A.getD 138 undef, A.getD 139 undef, A.getD 140 undef, A.getD 141 undef, A.getD 142 undef, A.getD 143 undef, A.getD 144 undef, A.getD 145 undef, A.getD 146 undef, A.getD 147 undef, A.getD 148 undef, A.getD 149 undef, A.getD 150 undef, A.getD 151 undef, A.getD 152 undef, A.getD 153 undef, A.getD 154 undef, A.getD 155 undef, A.getD 156 undef, A.getD 157 undef, A.getD 158 undef, A.getD 159 undef] := by
  exact (frameN 160 A h).trans rfl
def SealAt (T : Tab) (S : List (Int × Int)) (B g tm : Nat) (W4 : World) (a : Act) (w : World) : Prop :=
  ∃ (l : List Int) (o : Option (List Int)) (acc : List (Int × List UInt8)) (A : Array Value), a = ⟨A, []⟩ ∧ A.size = 160 ∧
    A.getD 0 undef = .pointer (some ⟨T.tb, 0, none⟩) ∧ A.getD 2 undef = .slice none 0 0 ∧ A.getD 3 undef = .int .u32 0 ∧ A.getD 4 undef = .int .i64 0 ∧ A.getD 7 undef = .map (some tm) ∧ A.getD 8 undef = .int .u32 T.picks ∧ Hid (SealSt T S B g tm W4 (A.getD 5 undef) (A.getD 6 undef) w l o acc)
def SealMu (a : Act) (_ : World) : Nat := match a.tmps.getD 6 undef with | .slice _ n _ => n | _ => 0

theorem wp_label_seq {P : Program} {l : Nat} {X : Code} {Q : Exit → Act → World → Prop} {a : Act} {w : World} (h : X.wp P Q a w) : ((Code.label l).seq X).wp P Q a w := wp_seq (wp_label h)
theorem jump_mono {l : Nat} {J J' : Act → World → Prop} {Q : Exit → Act → World → Prop} (h : ∀ a w, J a w → J' a w) (e : Exit) (a : Act) (w : World) (hq : Exit.jump l J Q e a w) : Exit.jump l J' Q e a w := by
  cases e <;> first | exact hq | exact ⟨hq.1, h _ _ hq.2⟩
theorem wp_scope_once {P : Program} {c X : Code} {Q : Exit → Act → World → Prop} {a : Act} {w : World} (l : Nat) (J : Act → World → Prop) (μ : Act → World → Nat) (hf : findLabel c l = some (Code.skip.seq X))
    (pass : ∀ a w, J a w → X.wp P (Exit.jump l (fun a' w' => J a' w' ∧ μ a' w' < μ a w) Q) a w)
    (first : Hid (∀ a w, J a w → X.wp P (Exit.jump l J Q) a w) → c.wp P (Exit.jump l J Q) a w) : (Code.scope c).wp P Q a w :=
  wp_scope_jumps l J μ hf (first fun a w hJ => wp_mono (pass a w hJ) (jump_mono fun _ _ h => h.1)) (fun a w hJ => wp_seq (wp_skip (pass a w hJ)))

theorem yieldsIf_lookup {P : Program} {ops : Array Oper} {S : World → Prop} {o : Oper} {a : Act} {t kT eT : TypeId} {x y : Operand} {b : Nat} {l : List (Int × Value)} {k : Int} {z v : Value} (hg : o.guard = none) (ho : o.op = .lookup t x y false)
    (hx : a.eval x = .map (some b)) (hy : a.eval y = .int .u32 k) (hS : ∀ w, S w → MapAt w b l) (ht : P.underlying t = some (.map kT eT)) (hk : P.underlying kT = some (.int .u32)) (hz : ∀ w, (zeroValue eT).run P w = .ok z w) (hv : (look l k).getD z = v) : YieldsIf P ops S o v a := by
  refine Or.inl ⟨by simp [Region.wanted, hg], fun w hw => ?_⟩
  have hr := run_look (hS w hw) ht hk (hz w) k false
  simp only [Bool.false_eq_true, if_false, hv] at hr
  unfold execOp
  rw [ho]
  simp only [hx, hy, Sem.run_bind, hr, Result.andThen_ok, Sem.run_pure]
theorem wl_lookup_no {P : Program} {w : World} {b : Nat} {l : List (Int × Value)} {t kT eT : TypeId} {ops : Array Oper} {Q : Exit → Act → World → Prop} {rest : List Oper} {T : Array Value} {D : List Deferred} {d x y tt : Nat} {pos : String} {af : Array Edge} {k : Int} {z v : Value}
    (hx : T.getD x undef = .map (some b)) (hy : T.getD y undef = .int .u32 k) (hm : MapAt w b l) (ht : P.underlying t = some (.map kT eT)) (hk : P.underlying kT = some (.int .u32)) (hz : ∀ w, (zeroValue eT).run P w = .ok z w)
    (hv : (look l k).getD z = v) (h : wpList P ops Q rest (Act.put ⟨T, D⟩ (some d) v) w) :
    wpList P ops Q ({ dst := some d, op := .lookup t (.tmp x) (.tmp y) false, type := tt, pos := pos, after := af, guard := none } :: rest) ⟨T, D⟩ w :=
  wl_lookup hx hy hm ht hk hz (by simpa using hv) h
theorem look_val (S : List (Int × Int)) (a : Int) : (look (encS S) a).getD (.int .u16 0) = .int .u16 (valS S a) := by
  rw [look_encS, valS]
  cases lookS S a <;> rfl
theorem tallyA_set (idx : Int) (cs : List Int) (j : Nat) (x : Int) : (tallyA idx cs).setIfInBounds (1 + j) (.int .u16 x) = tallyA idx (cs.set j x) := by
  simp [tallyA, Nat.add_comm 1 j, List.map_set]
def sliceLen : Value → Nat | .slice _ n _ => n | _ => 0
/-- Inside a page. -/
def InPage (T : Tab) (S : List (Int × Int)) (g xb : Nat) (p : Int) (l0 : List Int) (W7 : World) (v : Value) (wr : World) : Prop :=
  ∃ (ll cs : List Int), Hid (LeftV wr g v ll) ∧ Hid (wr.heap[xb]? = some (.cells (tallyA p cs) 69 (0, 0))) ∧ Hid (fillP S p cs ll = fillP S p (T.tl p) l0) ∧ cs.length = 64 ∧ Hid (∀ a ∈ ll, T.fi ≤ a ∧ a < T.n) ∧ Keeps (fun k => k = xb) W7 wr
/-- Behind a page. -/
def PageOut (T : Tab) (S : List (Int × Int)) (g xb : Nat) (p : Int) (l0 : List Int) (W7 : World) (v : Value) (wr : World) : Prop :=
  ∃ (ll cs : List Int), Hid (LeftV wr g v ll) ∧ Hid (wr.heap[xb]? = some (.cells (tallyA p cs) 69 (0, 0))) ∧ Hid (fillP S p (T.tl p) l0 = (cs, ll)) ∧ Hid (∀ a ∈ ll, T.fi ≤ a ∧ a < T.n) ∧ Keeps (fun k => k = xb) W7 wr
/-- What stands still while Seal goes round. -/
structure SealEnv (T : Tab) (S : List (Int × Int)) (w : World) (B g tm : Nat) (W4 : World) : Prop where
  below : Below w.heap.size w W4
  size : B = W4.heap.size
  tm1 : w.heap.size ≤ tm
  tm2 : tm < B
  g1 : keyL S ≠ [] → w.heap.size ≤ g ∧ g < B ∧ g ≠ tm
def SealJ (T : Tab) (S : List (Int × Int)) (w : World) (a : Act) (w1 : World) : Prop :=
  ∃ B g tm W4, SealEnv T S w B g tm W4 ∧ SealAt T S B g tm W4 a w1
def SealPost (T : Tab) (S : List (Int × Int)) (w : World) (e : Ending) (w' : World) : Prop :=
  ∃ v, e = .returned (.tuple #[v, .int .u32 (sealPicks T S), .int .i64 0]) ∧ w'.ownsRow w.heap.size 52 257 v (sealPuts T S).length (rowsL (sealPuts T S)) ∧ (∀ p ∈ sealPuts T S, p.2.length = 256) ∧ TabAt T w' S ∧ Keeps (fun k => k = T.pm ∨ k = T.tm) w w'
theorem KeysAt.not_map {B : Nat} {w : World} {v : Value} {l : List Int} {g : Nat} (h : KeysAt B w v l) (hg : LeftV w g v l) (hl : l ≠ []) {tm : Nat} {m : List (Int × Value)} (hm : MapAt w tm m) : g ≠ tm := by
  obtain ⟨p, c, _, _, _, h4⟩ := hg
  obtain ⟨o, _, h6⟩ := h4 hl
  cases l with
  | nil => exact absurd rfl hl
  | cons a r =>
    have := h6 0 a rfl
    rintro rfl
    obtain ⟨es, clock, e, _⟩ := hm
    simp [World.cell?, e] at this
theorem keysL_ok {T : Tab} {S : List (Int × Int)} (hS : SetOk T S) : ∀ a ∈ keyL S, T.fi ≤ a ∧ a < T.n := by
  intro a ha
  have := (List.mergeSort_perm (S.map (·.1)) (fun x y => decide (x ≤ y))).mem_iff.1 ha
  obtain ⟨p, hp, rfl⟩ := List.mem_map.1 this
  exact hS.key p hp

theorem SealSt.next {T : Tab} {S : List (Int × Int)} {B g tm : Nat} {W4 w1 W : World} {vo vl vo' vl' : Value} {a : Int} {r ll cs pk0 : List Int} {o : Option (List Int)} {acc : List (Int × List UInt8)} {sB : List UInt8}
    (h : SealSt T S B g tm W4 vo vl w1 (a :: r) o acc) (hk : Keeps (fun k => k = T.pm ∨ k = T.tm ∨ k = tm ∨ B ≤ k) w1 W) (hL : LeftV W g vl' ll) (hA : TabAt T W S) (hm : MapAt W tm (encO (some (turnL pk0 (a / 64).toNat)))) (hpk : pk0 = o.getD T.pk)
    (hpl : pk0.length = 16 ∧ ∀ x ∈ pk0, 0 ≤ x ∧ x < 18446744073709551616)
    (ho : W.ownsRow B 52 257 vo' (acc.length + 1) (rowsL acc ++ (putA (otherI (T.at (a / 64))) sB).toList)) (hsp : fillP S (a / 64) (T.tl (a / 64)) (a :: r) = (cs, ll)) (hky : ∀ a ∈ ll, T.fi ≤ a ∧ a < T.n)
    (hsB : sB = putB 84 (a / 64) 2 cs) (hsl : sB.length = 256) : SealSt T S B g tm W4 vo' vl' W ll (some (turnL pk0 (a / 64).toNat)) (acc ++ [(otherI (T.at (a / 64)), sB)]) := by
  have hlt := fillP_lt S (T.tl (a / 64)) a r
  rw [hsp] at hlt
  simp only [List.length_cons] at hlt
  have hf := h.few
  simp only [List.length_cons] at hf
  refine ⟨hL, hA, hm, ?_, h.keep.trans hk, ?_, ?_, ?_, ?_, hky⟩
  · have e : rowsL (acc ++ [(otherI (T.at (a / 64)), sB)]) = rowsL acc ++ (putA (otherI (T.at (a / 64))) sB).toList := by simp [rowsL]
    rw [e, List.length_append]
    exact ho
  · obtain ⟨f, h1, h2⟩ := h.spec
    simp only [List.length_cons] at h1
    obtain ⟨f', rfl⟩ : ∃ f', f = f' + 1 := ⟨f - 1, by omega⟩
    refine ⟨f', by omega, ?_⟩
    rw [← h2, sealG, hsp, hpk, hsB]
  · intro p hp
    rcases List.mem_append.1 hp with hp | hp
    · exact h.good p hp
    · simp at hp; subst hp; exact hsl
  · rw [List.length_append]
    simp only [List.length_cons, List.length_nil]
    omega
  · intro q hq
    cases hq
    exact ⟨by rw [turnL_len]; exact hpl.1, turnL_mem _ _ hpl.2⟩
end Go.Proofs.YtnibehcgnhdcgaaGreatDoor
