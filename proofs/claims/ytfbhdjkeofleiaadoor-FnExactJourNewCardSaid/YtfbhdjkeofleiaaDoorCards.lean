/-
  DERIVED. GIVEN WITH THE SEED: THE CARDS: each row of YtfbhdjkeofleiaaDoorRows.lean that lists a variable, with what it lists TIED to the program's text (the seventh form; the later family's looks); each row that meets fmt, with fmt's text TOLD by the authors' own Lean function (tested against real Go, not proved from fmt's source: count such statements apart). THE CARD IS WHAT COUNTS. Prove the row's statement (the work); the ties are given (YtfbhdjkeofleiaaDoorTie.lean); close each card by the builder's one call (the guide's Derived/Test/ToyasCard.lean, 'card_holds'). Laid BY PROGRAM, IN A SANDBOX (cutbox-door.mjs). By AI agents, Wed Nov 11 2026. No macro, syntax, notation, axiom, sorry.
-/
import Derived.Test.YtfbhdjkeofleiaaDoorRows
import GoSem.ClaimSeven
namespace Go.Proofs.YtfbhdjkeofleiaaDoor
namespace Rows

/-- THE TIED CARD OF 'laws.FnExactJourNew'. -/
def fnExactJourNewCard : Claim7 := { stood := { row := fnExactJourNewRow, standIns := [], harness := (true, "4f3122004f75afc0b7a189e25c280c083313c3f76bd6f79eae190672d475ec8d"), looks := false }, kinds := [], alts := [], laidByText := true, laidKinds := [.data, .data, .data], laidTests := true, laidLooks := .later }
def FnExactJourNewCardSaid : Prop := Claim7.holds Tryd.pinned (.plain (OpenSpec.ofChange fnExactJourNewSpec)) fnExactJourNewCard

/-- THE SECOND FORM's CARD OF 'laws.FnExactJourNew'. -/
def fnExactJourNewUptoCard : Claim7 := { stood := { row := fnExactJourNewUptoRow, standIns := [], harness := (true, "4f3122004f75afc0b7a189e25c280c083313c3f76bd6f79eae190672d475ec8d"), looks := false }, kinds := [], alts := [], laidByText := true, laidKinds := [.data, .data, .data], laidTests := true, laidLooks := .later }
def FnExactJourNewUptoCardSaid : Prop := Claim7.holds Tryd.pinned (.plain (OpenSpec.upto fnExactJourNewSpec)) fnExactJourNewUptoCard
end Rows
end Go.Proofs.YtfbhdjkeofleiaaDoor
