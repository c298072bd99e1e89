/-
  DERIVED. GIVEN WITH THE SEED: THE CARDS: each row of YtbldegmanbmpmaaGreatDoorRows.lean that lists a variable, with what it lists TIED to the program's text (the seventh form; the later family's looks); each row that meets fmt, with fmt's text TOLD by the authors' own Lean function (tested against real Go, not proved from fmt's source: count such statements apart). THE CARD IS WHAT COUNTS. Prove the row's statement (the work); the ties are given (YtbldegmanbmpmaaGreatDoorTie.lean); close each card by the builder's one call (the guide's Derived/Test/ToyasCard.lean, 'card_holds'). Laid BY PROGRAM, IN A SANDBOX (cutbox-door.mjs). By AI agents, Wed Nov 11 2026. No macro, syntax, notation, axiom, sorry.
-/
import Derived.Test.YtbldegmanbmpmaaGreatDoorRows
import GoSem.ClaimSeven
namespace Go.Proofs.YtbldegmanbmpmaaGreatDoor
namespace Rows

/-- THE TIED CARD OF 'cottonpadlaw11.DeskTexts'. -/
def deskTextsCard : Claim7 := { stood := { row := deskTextsRow, standIns := [], harness := (true, "8032bd6e436779fbc339955e3fe42ab43e6281ad1cd49b93d6b01cd09cb939b6"), looks := true }, kinds := [], alts := [], laidByText := true, laidKinds := [.data, .data, .data, .data, .sentinel, .sentinel, .funcs, .funcs, .pinned], laidTests := true, laidLooks := .later }
def DeskTextsCardSaid : Prop := Claim7.holds Tryz.pinned (.plain (OpenSpec.ofChange deskTextsSpec)) deskTextsCard

/-- THE SECOND FORM's CARD OF 'cottonpadlaw11.DeskTexts'. -/
def deskTextsUptoCard : Claim7 := { stood := { row := deskTextsUptoRow, standIns := [], harness := (true, "8032bd6e436779fbc339955e3fe42ab43e6281ad1cd49b93d6b01cd09cb939b6"), looks := true }, kinds := [], alts := [], laidByText := true, laidKinds := [.data, .data, .data, .data, .sentinel, .sentinel, .funcs, .funcs, .pinned], laidTests := true, laidLooks := .later }
def DeskTextsUptoCardSaid : Prop := Claim7.holds Tryz.pinned (.plain (OpenSpec.upto deskTextsSpec)) deskTextsUptoCard
end Rows
end Go.Proofs.YtbldegmanbmpmaaGreatDoor
