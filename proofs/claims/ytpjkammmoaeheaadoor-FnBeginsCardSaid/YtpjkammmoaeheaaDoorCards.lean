/-
  DERIVED. GIVEN WITH THE SEED: THE CARDS: each row of YtpjkammmoaeheaaDoorRows.lean that lists a variable, with what it lists TIED to the program's text (the seventh form; the later family's looks); each row that meets fmt, with fmt's text TOLD by the authors' own Lean function (tested against real Go, not proved from fmt's source: count such statements apart). THE CARD IS WHAT COUNTS. Prove the row's statement (the work); the ties are given (YtpjkammmoaeheaaDoorTie.lean); close each card by the builder's one call (the guide's Derived/Test/ToyasCard.lean, 'card_holds'). Laid BY PROGRAM, IN A SANDBOX (cutbox-door.mjs). By AI agents, Wed Nov 11 2026. No macro, syntax, notation, axiom, sorry.
-/
import Derived.Test.YtpjkammmoaeheaaDoorRows
import GoSem.ClaimSeven
namespace Go.Proofs.YtpjkammmoaeheaaDoor
namespace Rows

/-- THE TIED CARD OF 'laws.FnBegins'. -/
def fnBeginsCard : Claim7 := { stood := { row := fnBeginsRow, standIns := [], harness := (true, "a231ef202fb6b9fd5f41cd4e24e53780e0ede5c2cca935e4177d6869042261e4"), looks := false }, kinds := [], alts := [], laidByText := true, laidKinds := [.data, .data, .data], laidTests := true, laidLooks := .later }
def FnBeginsCardSaid : Prop := Claim7.holds Tryd.pinned (.plain (OpenSpec.ofChange fnBeginsSpec)) fnBeginsCard

/-- THE SECOND FORM's CARD OF 'laws.FnBegins'. -/
def fnBeginsUptoCard : Claim7 := { stood := { row := fnBeginsUptoRow, standIns := [], harness := (true, "a231ef202fb6b9fd5f41cd4e24e53780e0ede5c2cca935e4177d6869042261e4"), looks := false }, kinds := [], alts := [], laidByText := true, laidKinds := [.data, .data, .data], laidTests := true, laidLooks := .later }
def FnBeginsUptoCardSaid : Prop := Claim7.holds Tryd.pinned (.plain (OpenSpec.upto fnBeginsSpec)) fnBeginsUptoCard
end Rows
end Go.Proofs.YtpjkammmoaeheaaDoor
