/-
  DERIVED. GIVEN WITH THE SEED: THE CARDS: each row of YtcbhldfipfcjaaaGreatDoorRows.lean that lists a variable, with what it lists TIED to the program's text (the seventh form; the later family's looks); each row that meets fmt, with fmt's text TOLD by the authors' own Lean function (tested against real Go, not proved from fmt's source: count such statements apart). THE CARD IS WHAT COUNTS. Prove the row's statement (the work); the ties are given (YtcbhldfipfcjaaaGreatDoorTie.lean); close each card by the builder's one call (the guide's Derived/Test/ToyasCard.lean, 'card_holds'). Laid BY PROGRAM, IN A SANDBOX (cutbox-door.mjs). By AI agents, Wed Nov 11 2026. No macro, syntax, notation, axiom, sorry.
-/
import Derived.Test.YtcbhldfipfcjaaaGreatDoorRows
import GoSem.ClaimSeven
namespace Go.Proofs.YtcbhldfipfcjaaaGreatDoor
namespace Rows

/-- THE TIED CARD OF 'thatchlaw08.MendTexts'. -/
def mendTextsCard : Claim7 := { stood := { row := mendTextsRow, standIns := [], harness := (true, "4131bd2fc326f179a76a6cd46a4541eccb8a62756ef3ac571ee293ca0aef688e"), looks := true }, kinds := [], alts := [], laidByText := true, laidKinds := [.data, .data, .data, .data, .sentinel, .sentinel, .pinned], laidTests := true, laidLooks := .later }
def MendTextsCardSaid : Prop := Claim7.holds Tryz.pinned (.plain (OpenSpec.ofChange mendTextsSpec)) mendTextsCard

/-- THE TIED CARD OF 'thatchlaw08.MendBack'. -/
def mendBackCard : Claim7 := { stood := { row := mendBackRow, standIns := [], harness := (true, "4131bd2fc326f179a76a6cd46a4541eccb8a62756ef3ac571ee293ca0aef688e"), looks := true }, kinds := [], alts := [], laidByText := true, laidKinds := [.data, .data, .data, .data, .sentinel, .sentinel, .pinned], laidTests := true, laidLooks := .later }
def MendBackCardSaid : Prop := Claim7.holds Tryz.pinned (.plain (OpenSpec.ofChange mendBackSpec)) mendBackCard

/-- THE SECOND FORM's CARD OF 'thatchlaw08.MendTexts'. -/
def mendTextsUptoCard : Claim7 := { stood := { row := mendTextsUptoRow, standIns := [], harness := (true, "4131bd2fc326f179a76a6cd46a4541eccb8a62756ef3ac571ee293ca0aef688e"), looks := true }, kinds := [], alts := [], laidByText := true, laidKinds := [.data, .data, .data, .data, .sentinel, .sentinel, .pinned], laidTests := true, laidLooks := .later }
def MendTextsUptoCardSaid : Prop := Claim7.holds Tryz.pinned (.plain (OpenSpec.upto mendTextsSpec)) mendTextsUptoCard

/-- THE SECOND FORM's CARD OF 'thatchlaw08.MendBack'. -/
def mendBackUptoCard : Claim7 := { stood := { row := mendBackUptoRow, standIns := [], harness := (true, "4131bd2fc326f179a76a6cd46a4541eccb8a62756ef3ac571ee293ca0aef688e"), looks := true }, kinds := [], alts := [], laidByText := true, laidKinds := [.data, .data, .data, .data, .sentinel, .sentinel, .pinned], laidTests := true, laidLooks := .later }
def MendBackUptoCardSaid : Prop := Claim7.holds Tryz.pinned (.plain (OpenSpec.upto mendBackSpec)) mendBackUptoCard
end Rows
end Go.Proofs.YtcbhldfipfcjaaaGreatDoor
