/-
  DERIVED. GIVEN WITH THE SEED: THE CARDS: each row of YtnibehcgnhdcgaaGreatDoorRows.lean that lists a variable, with what it lists TIED to the program's text (the seventh form; the later family's looks); each row that meets fmt, with fmt's text TOLD by the authors' own Lean function (tested against real Go, not proved from fmt's source: count such statements apart). THE CARD IS WHAT COUNTS. Prove the row's statement (the work); the ties are given (YtnibehcgnhdcgaaGreatDoorTie.lean); close each card by the builder's one call (the guide's Derived/Test/ToyasCard.lean, 'card_holds'). Laid BY PROGRAM, IN A SANDBOX (cutbox-door.mjs). By AI agents, Wed Nov 11 2026. No macro, syntax, notation, axiom, sorry.
-/
import Derived.Test.YtnibehcgnhdcgaaGreatDoorRows
import GoSem.ClaimSeven
namespace Go.Proofs.YtnibehcgnhdcgaaGreatDoor
namespace Rows

/-- THE TIED CARD OF 'pantilelaw09.CountApart'. -/
def countApartCard : Claim7 := { stood := { row := countApartRow, standIns := [], harness := (true, "6c1126f2dc6261b36a069b31f35023b8c902a731a8d6761d425291ee93adadf0"), looks := true }, kinds := [], alts := [], laidByText := true, laidKinds := [.data, .pinned], laidTests := true, laidLooks := .later }
def CountApartCardSaid : Prop := Claim7.holds Tryz.pinned (.plain (OpenSpec.ofChange countApartSpec)) countApartCard

/-- THE TIED CARD OF 'pantilelaw09.CountNone'. -/
def countNoneCard : Claim7 := { stood := { row := countNoneRow, standIns := [], harness := (true, "6c1126f2dc6261b36a069b31f35023b8c902a731a8d6761d425291ee93adadf0"), looks := true }, kinds := [], alts := [], laidByText := true, laidKinds := [.data, .pinned], laidTests := true, laidLooks := .later }
def CountNoneCardSaid : Prop := Claim7.holds Tryz.pinned (.plain (OpenSpec.ofChange countNoneSpec)) countNoneCard

/-- THE TIED CARD OF 'pantilelaw09.CountCommits'. -/
def countCommitsCard : Claim7 := { stood := { row := countCommitsRow, standIns := [], harness := (true, "6c1126f2dc6261b36a069b31f35023b8c902a731a8d6761d425291ee93adadf0"), looks := true }, kinds := [], alts := [], laidByText := true, laidKinds := [.data, .pinned], laidTests := true, laidLooks := .later }
def CountCommitsCardSaid : Prop := Claim7.holds Tryz.pinned (.plain (OpenSpec.ofChange countCommitsSpec)) countCommitsCard

/-- THE SECOND FORM's CARD OF 'pantilelaw09.CountApart'. -/
def countApartUptoCard : Claim7 := { stood := { row := countApartUptoRow, standIns := [], harness := (true, "6c1126f2dc6261b36a069b31f35023b8c902a731a8d6761d425291ee93adadf0"), looks := true }, kinds := [], alts := [], laidByText := true, laidKinds := [.data, .pinned], laidTests := true, laidLooks := .later }
def CountApartUptoCardSaid : Prop := Claim7.holds Tryz.pinned (.plain (OpenSpec.upto countApartSpec)) countApartUptoCard

/-- THE SECOND FORM's CARD OF 'pantilelaw09.CountNone'. -/
def countNoneUptoCard : Claim7 := { stood := { row := countNoneUptoRow, standIns := [], harness := (true, "6c1126f2dc6261b36a069b31f35023b8c902a731a8d6761d425291ee93adadf0"), looks := true }, kinds := [], alts := [], laidByText := true, laidKinds := [.data, .pinned], laidTests := true, laidLooks := .later }
def CountNoneUptoCardSaid : Prop := Claim7.holds Tryz.pinned (.plain (OpenSpec.upto countNoneSpec)) countNoneUptoCard

/-- THE SECOND FORM's CARD OF 'pantilelaw09.CountCommits'. -/
def countCommitsUptoCard : Claim7 := { stood := { row := countCommitsUptoRow, standIns := [], harness := (true, "6c1126f2dc6261b36a069b31f35023b8c902a731a8d6761d425291ee93adadf0"), looks := true }, kinds := [], alts := [], laidByText := true, laidKinds := [.data, .pinned], laidTests := true, laidLooks := .later }
def CountCommitsUptoCardSaid : Prop := Claim7.holds Tryz.pinned (.plain (OpenSpec.upto countCommitsSpec)) countCommitsUptoCard
end Rows
end Go.Proofs.YtnibehcgnhdcgaaGreatDoor
