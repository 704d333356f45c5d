/- A new device is formatted. -/
import Derived.Test.YtnibehcgnhdcgaaGreatDoorM9
import Derived.Test.YtnibehcgnhdcgaaGreatDoorM4
namespace Go.Proofs.YtnibehcgnhdcgaaGreatDoor
open Go.RowKit

theorem zero31 : ∀ w, (zeroValue 31).run Tryz.prog w = .ok (.agg (rootA 0 0 0 0 0 0)) w :=
  (zero_of_info (t := 31) (v := .agg (rootA 0 0 0 0 0 0)) (n := 8) (by kernel_rfl)).1
theorem zero57 : ∀ w, (zeroValue 57).run Tryz.prog w = .ok (.agg #[.int .u32 0, .int .u32 0, .int .u32 0]) w :=
  (zero_of_info (t := 57) (v := .agg #[.int .u32 0, .int .u32 0, .int .u32 0]) (n := 3) (by kernel_rfl)).1
theorem planFi_lt (n : Int) (h1 : 64 ≤ n) (h2 : n ≤ 1048576) : 6 ≤ planFi n ∧ planFi n < n ∧ planFi n ≤ 40000 := by
  simp only [planFi, planTl, planPk, upI]
  omega
theorem size31 (a b c d e f : Int) : (Tryz.prog.info? 31).map (·.size) = some (rootA a b c d e f).size := by
  show _ = some 8
  kernel_rfl
theorem rootA_one (a b c d e f : Int) : (rootA a b c d e f).all (·.oneCell') = true := by simp [rootA, Value.oneCell']
theorem rootA_sz (a b c d e f a' b' c' d' e' f' : Int) : (rootA a b c d e f).size = (rootA a' b' c' d' e' f').size := rfl

set_option maxRecDepth 100000 in
set_option maxHeartbeats 2000000 in
theorem format_any (db mb : Nat) (n : Int) (h1 : 64 ≤ n) (h2 : n ≤ 1048576) (w : World) (hD : DevAt w db mb n []) :
    Calls Tryz.prog 8 #[.pointer (some ⟨db, 0, none⟩)] w fun e w' => e = .returned (.tuple #[.agg (rootA 1 n 0 (n - planFi n) 1 (planFi n)), .int .i64 0]) ∧
      Hid (∃ b, b.length = 256 ∧ DevAt w' db mb n (putD [] 1 b)) ∧ Keeps (fun k => k = db ∨ k = mb) w w' := by
  obtain ⟨pf1, pf2, pf3⟩ := planFi_lt n h1 h2
  have hdl := hD.lt
  have hml := hD.map.lt
  obtain ⟨W1, hW1⟩ : ∃ W, W = w.alloc (.cells (rootA 0 0 0 0 0 0) 31) := ⟨_, rfl⟩
  have hs1 : W1.heap.size = w.heap.size + 1 := by rw [hW1]; simp
  have hB1 : Below w.heap.size w W1 := by rw [hW1]; exact (Below.refl _ w).alloc (Nat.le_refl _) _
  have g1 : W1.heap[w.heap.size]? = some (.cells (rootA 0 0 0 0 0 0) 31 (0, 0)) := by rw [hW1, hget_at _ _ rfl]
  have hD1 := hD.below hB1 hdl hml
  have hno := rnone_any db mb n (by omega) W1 hD1.c1 hD1.c0
  have hsi := dsize_any db mb n W1 hD1.c1 hD1.c0
  have hla := layout_any n h1 h2 W1
  have hpa : planA n = #[.int .u32 (planTl n), .int .u32 (planPk n), .int .u32 (planFi n)] := rfl
  have HW1 := hideIt hW1
  have G1 := hideIt g1
  have HD := hideIt hD
  have HD1 := hideIt hD1
  have HPA := hideIt hpa
  have iP : (Tryz.prog.info? 57).map (·.size) = some (planA n).size := by show _ = some 3; kernel_rfl
  have eP : (#[.int .u32 0, .int .u32 0, .int .u32 0] : Array Value).size = (planA n).size := rfl
  have oP : (planA n).all (·.oneCell') = true := by simp [planA, Value.oneCell']
  have cP : ∀ W : World, ∀ g t fr, W.heap[g]? = some (.cells (planA n) t fr) → W.cell? ⟨g, 2, none⟩ = some (.int .u32 (planFi n)) := fun W g t fr h => by rw [cell_of_row _ _ 2 _ _ _ h]; rfl
  have CP := hideIt cP
  generalize hPA : planA n = pA at hla iP eP oP CP HPA
  clear hW1 g1 hD hD1 hpa cP hPA
  go_enter Tryz.func8, Tryz.ntmps8
  go_wp2_with (first
    | (with_reducible refine wl_alloc zero31 ?_; rw [← HW1.out])
    | (go_at_call 22; (with_reducible refine hno.mono ?_); rintro e w' ⟨rfl, rfl⟩)
    | (go_at_call 24; (with_reducible refine hsi.mono ?_); rintro e w' ⟨rfl, rfl⟩)
    | (go_at_call 23; (with_reducible refine hla.mono ?_); rintro e W2 ⟨rfl, hb2⟩
       have cp3 := CP.out (W2.alloc (.cells pA 57)) W2.heap.size _ _ (hget_at _ _ rfl))
    | (with_reducible refine wl_extract rfl rfl ?_)
    | (with_reducible refine wl_alloc_store zero57 (by simp [Act.put]) rfl rfl iP eP oP ?_))
  have hz2 := hb2.size
  have hb3 : Below W1.heap.size W1 (W2.alloc (.cells pA 57)) := hb2.alloc hz2 _
  have hl3 : W2.heap.size < (W2.alloc (.cells pA 57)).heap.size := by simp
  generalize W2.alloc (.cells pA 57) = W3 at cp3 hb3 hl3 ⊢
  have hB3 : Below w.heap.size w W3 := hB1.trans (hb3.mono (by omega))
  have g3 := (hb3.block _ (by omega)).trans G1.out
  have HP3 := hideIt cp3
  have HB3 := hideIt hB3
  have G3 := hideIt g3
  have hz3 := hb3.size
  clear cp3 hB3 g3 hb2 hB1 hno hsi hla
  go_loopw [6, 23] (fun s v wr => ∃ i : Nat, (i : Int) ≤ planFi n ∧ s = .slice none 0 0 ∧ v = .int .u32 i ∧ Below W3.heap.size W3 wr) (fun _ v _ => (planFi n - intOf v).toNat)
  case atStart => exact ⟨0, by omega, rfl, rfl, Below.refl _ _⟩
  case round =>
    obtain ⟨i, hi, rfl, rfl, hbi⟩ := hrel
    have hDi := HD.out.below (HB3.out.trans (hbi.mono (by omega))) hdl hml
    have hzi := hbi.size
    have HBI := hideIt hbi
    clear hbi
    by_cases hlt : (i : Int) < planFi n
    · have hrd := read_any db mb n [] i (by omega) wr hDi
      change Calls _ _ _ _ (fun e w' => e = .returned (.tuple #[.agg (blkA zb), .int .i64 0]) ∧ Below wr.heap.size wr w') at hrd
      have hzr := fun W => zero_any zb zb_length W
      have hzz : (zb == zb) = true := by simp
      rw [hzz] at hzr
      have iZ := size41' zb_length
      have oZ := blkA_one zb
      have GZ : ∀ W : World, Hid ((W.alloc (.cells (blkA zb) 41)).heap[W.heap.size]? = some (.cells (blkA zb) 41 (0, 0))) := fun W => hget_at _ _ rfl
      clear hDi hzz
      obtain ⟨zA, hzA⟩ : ∃ z, z = blkA zb := ⟨_, rfl⟩
      rw [← hzA] at hrd iZ oZ
      simp only [← hzA] at hzr GZ
      have eZ : (blkA zb).size = zA.size := by rw [hzA]
      have HIZ := hideIt iZ
      clear hzA iZ
      go_wp2_with (first
        | (go_at_call 25; (with_reducible refine hrd.mono ?_); rintro e W4 ⟨rfl, hb4⟩)
        | (go_at_call 26; (with_reducible refine (hzr _).mono ?_); rintro e W5 ⟨rfl, hb5⟩)
        | (with_reducible refine wl_extract rfl rfl ?_)
        | (with_reducible refine wl_load rfl (GZ _).out Tryz.underlying41 rfl HIZ.out ?_)
        | (with_reducible refine wl_alloc_store zero41 (by simp [Act.put]) rfl rfl HIZ.out eZ oZ ?_))
      go_roundw
      case rel => exact ⟨i + 1, by omega, rfl, by go_num, HBI.out.trans ((((hb4.mono (by omega)).alloc (by have := hb4.size; omega) _).trans (hb5.mono (by have := hb4.size; simp; omega))))⟩
      case measure => simp [intOf]; omega
    · obtain hie : (i : Int) = planFi n := by omega
      have hki : wr.cell? ⟨db, 1, none⟩ = some (.map (some mb)) := hDi.c1
      have hk0 : wr.cell? ⟨db, 0, none⟩ = some (.int .u32 n) := hDi.c0
      have hkp : wr.cell? ⟨W2.heap.size, 2, none⟩ = some (.int .u32 (planFi n)) := by rw [HBI.out.cell (p := ⟨W2.heap.size, 2, none⟩) (by show W2.heap.size < _; omega), HP3.out]
      have HDI := hideIt hDi
      have hbu : Tryz.prog.built 31 [(0, .int .u64 1), (1, .int .u32 n), (4, .int .u32 (n - planFi n)), (5, .int .u32 1), (6, .int .u32 (planFi n))] = some (rootA 1 n 0 (n - planFi n) 1 (planFi n)) := by kernel_rfl
      have HBU := hideIt hbu
      clear hDi hbu
      have hwp : IntKind.u32.wrap (n - planFi n) = n - planFi n := by simp only [IntKind.wrap, IntKind.signed, IntKind.bits]; simp; omega
      obtain ⟨W4, hW4⟩ : ∃ W, W = (wr.alloc (.cells (rootA 1 n 0 (n - planFi n) 1 (planFi n)) 31)).drew := ⟨_, rfl⟩
      have hb4 : Below wr.heap.size wr W4 := by rw [hW4]; exact ((Below.refl _ _).alloc (Nat.le_refl _) _).drew
      have g4 : W4.heap[wr.heap.size]? = some (.cells (rootA 1 n 0 (n - planFi n) 1 (planFi n)) 31 (0, 0)) := by rw [hW4, hget_drew, hget_at _ _ rfl]
      have hB4 : Below w.heap.size w W4 := (HB3.out.trans (HBI.out.mono (by omega))).trans (hb4.mono (by omega))
      have gz4 : W4.heap[w.heap.size]? = some (.cells (rootA 0 0 0 0 0 0) 31 (0, 0)) := (hb4.block _ (by omega)).trans ((HBI.out.block _ (by omega)).trans G3.out)
      have hD4 := HD.out.below hB4 hdl hml
      have htu := rturn_any db mb 0 none n (by omega) [] [] (by simp) (by simp) 1 n 0 (n - planFi n) 1 (planFi n) (by constructor <;> omega) W4 hD4 (by intro i a b hi; simp at hi)
      change Calls _ _ #[_, .slice none 0 0, _] _ _ at htu
      have hrow : rootA 1 n 0 (n - planFi n) 1 (planFi n) = #[.int .u64 1, .int .u32 n, .int .u32 0, .int .u32 0, .int .u32 (n - planFi n), .int .u32 1, .int .u32 (planFi n), .int .u8 0] := rfl
      have HW4 : Hid ((wr.alloc (.cells #[.int .u64 1, .int .u32 n, .int .u32 0, .int .u32 0, .int .u32 (n - planFi n), .int .u32 1, .int .u32 (planFi n), .int .u8 0] 31)).drew = W4) := by rw [hW4, hrow]; exact rfl
      have iR := size31 1 n 0 (n - planFi n) 1 (planFi n)
      have oR := rootA_one 1 n 0 (n - planFi n) 1 (planFi n)
      have eR := rootA_sz 0 0 0 0 0 0 1 n 0 (n - planFi n) 1 (planFi n)
      have z4 := hb4.size
      have l4 : wr.heap.size < W4.heap.size := (Array.getElem?_eq_some_iff.1 g4).1
      have HR4 := hideIt g4
      have GZ4 := hideIt gz4
      have HB4 := hideIt hB4
      have hdn : wr.heap.size ≠ db ∧ wr.heap.size ≠ mb ∧ w.heap.size ≠ db ∧ w.heap.size ≠ mb := by omega
      have HDN := hideIt hdn
      clear hW4 g4 gz4 hB4 hD4 hrow hdn hb4
      generalize hRA : rootA 1 n 0 (n - planFi n) 1 (planFi n) = rA at htu iR oR eR HR4 HBU ⊢
      have HRA := hideIt hRA
      clear hRA
      go_wp2_with fail
      go_region_held3 (fun w' => w'.cell? ⟨db, 1, none⟩ = some (.map (some mb)) ∧ w'.cell? ⟨db, 0, none⟩ = some (.int .u32 n) ∧ w'.cell? ⟨W2.heap.size, 2, none⟩ = some (.int .u32 (planFi n))) (go_keep)
        ((go_at_call 24; refine (dsize_any db mb n _ ?_ ?_).mono ?_; (simp [*]); (simp [*]); rintro e w' ⟨rfl, rfl⟩))
      all_goals
        rw [HW4.out]
        go_wp2_with (first
          | (with_reducible refine wl_load rfl HR4.out Tryz.underlying31 rfl iR ?_)
          | (go_at_call 27; (with_reducible refine htu.mono ?_); rintro e W5 ⟨rfl, hd5, hk5⟩
             have HR5 : Hid _ := (hk5.block _ l4 (by have := HDN.out; omega)).trans HR4.out
             have GZ5 : Hid _ := (hk5.block _ (by omega) (by have := HDN.out; omega)).trans GZ4.out)
          | (with_reducible refine wl_load rfl HR5.out Tryz.underlying31 rfl iR ?_)
          | (with_reducible refine wl_store rfl rfl GZ5.out iR eR oR ?_))
        exact ret_cell_tmp rfl rfl rfl (setRow_heap _ _ _ _ _ _ GZ5.out) Tryz.underlying31 rfl iR ⟨by rw [HRA.out]; rfl, by
          obtain ⟨b, hb, hd⟩ := hd5.out
          exact ⟨b, hb, hd.of_blocks (setRow_other _ _ _ _ (by have := HDN.out; omega)) (setRow_other _ _ _ _ (by have := HDN.out; omega))⟩, ((Keeps.of_below HB4.out).trans hk5).setRow (.inl (Nat.le_refl _)) _⟩
end Go.Proofs.YtnibehcgnhdcgaaGreatDoor
/- A table of counts: what it is; its small methods. -/
namespace Go.Proofs.YtnibehcgnhdcgaaGreatDoor
open Go.RowKit

/-- What a page reads as. -/
def PickOn (b : List UInt8) (s : Int) (cs : List Int) : Prop :=
  ∀ W : World, Calls Tryz.prog 63 #[.agg (blkA b), .int .u32 s] W fun e w' => e = .returned (.tuple #[.agg (pickA s cs), .int .i64 0]) ∧ Below W.heap.size W w'
def TallyOn (b : List UInt8) (p : Int) (cs : List Int) : Prop :=
  ∀ W : World, Calls Tryz.prog 59 #[.agg (blkA b), .int .u32 p] W fun e w' => e = .returned (.tuple #[.agg (tallyA p cs), .int .i64 0]) ∧ Below W.heap.size W w'

/-- A table: where it lies; its device's blocks; its root's generation and picks; what the pages hold (at most 5000 blocks: one pick). -/
structure Tab where
  tb : Nat
  db : Nat
  mb : Nat
  pm : Nat
  tm : Nat
  sm : Nat
  n : Int
  gen : Int
  picks : Int
  G : List (Int × List UInt8)
  pk : List Int
  tl : Int → List Int
def Tab.fi (T : Tab) : Int := planFi T.n
/-- Bit i of the pick. -/
def bitI (pk : List Int) (i : Int) : Int := pk.getD (i / 64).toNat 0 / 2 ^ (i % 64).toNat % 2
/-- Where a tally stands. -/
def Tab.at (T : Tab) (p : Int) : Int := 4 + 2 * p + bitI T.pk p
/-- A table as a row. -/
def tblA (db : Nat) (gen n picks : Int) (pm tm sm : Nat) : Array Value :=
  #[.pointer (some ⟨db, 0, none⟩), .int .u64 gen, .int .u32 n, .int .u32 picks, .int .u32 0, .int .u32 (n - planFi n), .int .u32 1, .int .u32 (planFi n), .int .u8 0,
    .int .u32 (planTl n), .int .u32 (planPk n), .int .u32 (planFi n), .map (some pm), .map (some tm), .map (some sm)]
/-- The old count. -/
def Tab.old (T : Tab) (a : Int) : Int := if a < T.fi ∨ T.n ≤ a then 0 else (T.tl (a / 64)).getD (a % 64).toNat 0
structure TabOk (T : Tab) : Prop where
  n1 : 64 ≤ T.n
  n2 : T.n ≤ 5000
  p0 : 0 ≤ T.picks
  p1 : T.picks < 2
  pick : PickOn (dblk T.G (2 + T.picks)) 0 T.pk
  plen : T.pk.length = 16
  pb : ∀ x ∈ T.pk, 0 ≤ x ∧ x < 18446744073709551616
  tally : ∀ p, 0 ≤ p → p < planTl T.n → TallyOn (dblk T.G (T.at p)) p (T.tl p)
  tlen : ∀ p, (T.tl p).length = 64
  tb : ∀ p, ∀ x ∈ T.tl p, 0 ≤ x ∧ x < 65536
/-- Counts that were set, as a map's entries. -/
def encS (S : List (Int × Int)) : List (Int × Value) := S.map fun p => (p.1, .int .u16 p.2)
structure TabAt (T : Tab) (w : World) (S : List (Int × Int)) : Prop where
  row : w.heap[T.tb]? = some (.cells (tblA T.db T.gen T.n T.picks T.pm T.tm T.sm) 62 (0, 0))
  dev : DevAt w T.db T.mb T.n T.G
  mp : ∃ l, MapAt w T.pm l ∧ ∀ q ∈ l, q.2 = .agg (pickA q.1 T.pk)
  mt : ∃ l, MapAt w T.tm l ∧ ∀ q ∈ l, q.2 = .agg (tallyA q.1 (T.tl q.1))
  ms : MapAt w T.sm (encS S)
  d1 : T.pm ≠ T.mb ∧ T.pm ≠ T.tm ∧ T.pm ≠ T.sm ∧ T.tm ≠ T.mb ∧ T.tm ≠ T.sm ∧ T.sm ≠ T.mb
theorem plan5 (n : Int) (h1 : 64 ≤ n) (h2 : n ≤ 5000) : planPk n = 1 ∧ 1 ≤ planTl n ∧ planTl n ≤ 79 ∧ planFi n = 4 + 2 * planTl n ∧ planTl n = (n + 63) / 64 := by
  simp only [planFi, planTl, planPk, upI]
  omega
theorem MapAt.nocells {w : World} {b : Nat} {l : List (Int × Value)} (h : MapAt w b l) {cs : Array Value} {t : TypeId} {fr : Nat × Nat} (hc : w.heap[b]? = some (.cells cs t fr)) : False := by
  obtain ⟨es, clock, e, _⟩ := h
  rw [e] at hc
  cases hc
section
variable {T : Tab} {w w' : World} {S : List (Int × Int)}
theorem TabAt.ne (h : TabAt T w S) : T.tb ≠ T.db ∧ T.tb ≠ T.mb ∧ T.tb ≠ T.pm ∧ T.tb ≠ T.tm ∧ T.tb ≠ T.sm ∧ T.db ≠ T.pm ∧ T.db ≠ T.tm ∧ T.db ≠ T.sm ∧ T.db ≠ T.mb := by
  obtain ⟨_, _, _, hd⟩ := h.dev.cells
  obtain ⟨lp, hp, _⟩ := h.mp
  obtain ⟨lt, ht, _⟩ := h.mt
  have hr := h.row
  refine ⟨fun e => ?_, fun e => ?_, fun e => ?_, fun e => ?_, fun e => ?_, fun e => ?_, fun e => ?_, fun e => ?_, fun e => ?_⟩
  · rw [e, hd] at hr; simp at hr
  · rw [e] at hr; exact h.dev.map.nocells hr
  · rw [e] at hr; exact hp.nocells hr
  · rw [e] at hr; exact ht.nocells hr
  · rw [e] at hr; exact h.ms.nocells hr
  · rw [e] at hd; exact hp.nocells hd
  · rw [e] at hd; exact ht.nocells hd
  · rw [e] at hd; exact h.ms.nocells hd
  · rw [e] at hd; exact h.dev.map.nocells hd
theorem TabAt.lt (h : TabAt T w S) : T.tb < w.heap.size ∧ T.db < w.heap.size ∧ T.mb < w.heap.size ∧ T.pm < w.heap.size ∧ T.tm < w.heap.size ∧ T.sm < w.heap.size := by
  obtain ⟨lp, hp, _⟩ := h.mp
  obtain ⟨lt, ht, _⟩ := h.mt
  exact ⟨(Array.getElem?_eq_some_iff.1 h.row).1, h.dev.lt, h.dev.map.lt, hp.lt, ht.lt, h.ms.lt⟩
theorem TabAt.of_blocks (h : TabAt T w S) (e : ∀ k, k = T.tb ∨ k = T.db ∨ k = T.mb ∨ k = T.pm ∨ k = T.tm ∨ k = T.sm → w'.heap[k]? = w.heap[k]?) : TabAt T w' S := by
  obtain ⟨lp, hp, hp2⟩ := h.mp
  obtain ⟨lt, ht, ht2⟩ := h.mt
  exact ⟨(e _ (by simp)).trans h.row, h.dev.of_blocks (e _ (by simp)) (e _ (by simp)), ⟨lp, hp.of_block (e _ (by simp)), hp2⟩, ⟨lt, ht.of_block (e _ (by simp)), ht2⟩, h.ms.of_block (e _ (by simp)), h.d1⟩
theorem TabAt.below (h : TabAt T w S) (hb : Below w.heap.size w w') : TabAt T w' S :=
  h.of_blocks fun k hk => hb.block k (by have := h.lt; rcases hk with rfl | rfl | rfl | rfl | rfl | rfl <;> omega)
theorem TabAt.cell (h : TabAt T w S) (j : Nat) : w.cell? ⟨T.tb, j, none⟩ = (tblA T.db T.gen T.n T.picks T.pm T.tm T.sm)[j]? := cell_of_row _ _ _ _ _ _ h.row
end

set_option maxHeartbeats 400000 in
theorem tnone_no (tb db : Nat) (w : World) (h : w.cell? ⟨tb, 0, none⟩ = some (.pointer (some ⟨db, 0, none⟩))) :
    Calls Tryz.prog 28 #[.pointer (some ⟨tb, 0, none⟩)] w fun e w' => e = .returned (.bool false) ∧ w = w' := by
  go_enter Tryz.func28, Tryz.ntmps28
  go_wp2
  go_ret
  exact ⟨rfl, rfl⟩
set_option maxHeartbeats 400000 in
theorem tnone_zero (tb : Nat) (w : World) (h : w.cell? ⟨tb, 0, none⟩ = some (.pointer none)) :
    Calls Tryz.prog 28 #[.pointer (some ⟨tb, 0, none⟩)] w fun e w' => e = .returned (.bool true) ∧ w = w' := by
  go_enter Tryz.func28, Tryz.ntmps28
  go_wp2
  go_ret
  exact ⟨rfl, rfl⟩
set_option maxHeartbeats 400000 in
theorem tnone_nil (w : World) :
    Calls Tryz.prog 28 #[.pointer none] w fun e w' => e = .returned (.bool true) ∧ w = w' := by
  go_enter Tryz.func28, Tryz.ntmps28
  go_wp2
  go_ret
  exact ⟨rfl, rfl⟩
set_option maxHeartbeats 400000 in
theorem tfirst_any (T : Tab) (w : World) (S : List (Int × Int)) (hT : TabAt T w S) :
    Calls Tryz.prog 11 #[.pointer (some ⟨T.tb, 0, none⟩)] w fun e w' => e = .returned (.int .u32 T.fi) ∧ w = w' := by
  have hn := tnone_no T.tb T.db w (hT.cell 0)
  have h1 : w.cell? ⟨T.tb, 11, none⟩ = some (.int .u32 T.fi) := hT.cell 11
  clear hT
  go_enter Tryz.func11, Tryz.ntmps11
  go_wp2_with (first
    | (go_at_call 28; (with_reducible refine hn.mono ?_); rintro e w' ⟨rfl, rfl⟩))
  go_ret
  exact ⟨rfl, rfl⟩
set_option maxHeartbeats 400000 in
theorem tsize_any (T : Tab) (w : World) (S : List (Int × Int)) (hT : TabAt T w S) :
    Calls Tryz.prog 16 #[.pointer (some ⟨T.tb, 0, none⟩)] w fun e w' => e = .returned (.int .u32 T.n) ∧ w = w' := by
  have hn := tnone_no T.tb T.db w (hT.cell 0)
  have h1 : w.cell? ⟨T.tb, 2, none⟩ = some (.int .u32 T.n) := hT.cell 2
  clear hT
  go_enter Tryz.func16, Tryz.ntmps16
  go_wp2_with (first
    | (go_at_call 28; (with_reducible refine hn.mono ?_); rintro e w' ⟨rfl, rfl⟩))
  go_ret
  exact ⟨rfl, rfl⟩
set_option maxHeartbeats 400000 in
theorem tpickat_any (T : Tab) (hT : TabOk T) (w : World) (S : List (Int × Int)) (hA : TabAt T w S) :
    Calls Tryz.prog 38 #[.pointer (some ⟨T.tb, 0, none⟩), .int .u32 0] w fun e w' => e = .returned (.int .u32 (2 + T.picks)) ∧ w = w' := by
  have h1 : w.cell? ⟨T.tb, 3, none⟩ = some (.int .u32 T.picks) := hA.cell 3
  have h2 := hT.p0
  have h3 := hT.p1
  clear hT hA
  generalize T.picks = p at h1 h2 h3 ⊢
  obtain rfl | rfl : p = 0 ∨ p = 1 := by omega
  all_goals
    go_enter Tryz.func38, Tryz.ntmps38
    go_wp2
    go_ret
    exact ⟨rfl, rfl⟩
end Go.Proofs.YtnibehcgnhdcgaaGreatDoor
