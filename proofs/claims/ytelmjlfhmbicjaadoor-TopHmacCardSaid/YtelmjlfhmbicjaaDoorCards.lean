/-
  DERIVED. GIVEN WITH THE SEED: THE CARDS: each row of YtelmjlfhmbicjaaDoorRows.lean that lists a variable, with what it lists TIED to the program's text (the seventh form; the later family's looks); each row that meets fmt, with fmt's text TOLD by the authors' own Lean function (tested against real Go, not proved from fmt's source: count such statements apart). THE CARD IS WHAT COUNTS. Prove the row's statement (the work); the ties are given (YtelmjlfhmbicjaaDoorTie.lean); close each card by the builder's one call (the guide's Derived/Test/ToyasCard.lean, 'card_holds'). Laid BY PROGRAM, IN A SANDBOX (cutbox-door.mjs). By AI agents, Wed Nov 11 2026. No macro, syntax, notation, axiom, sorry.
-/
import Derived.Test.YtelmjlfhmbicjaaDoorRows
import GoSem.ClaimSeven
namespace Go.Proofs.YtelmjlfhmbicjaaDoor
namespace Rows

/-- THE TIED CARD OF 'palfreytop.TopHmac'. -/
def topHmacCard : Claim7 := { stood := { row := topHmacRow, standIns := [], harness := (true, "9ea3de21819082ab5032d6efd0fbd82299bfb01abfcf4943b1f8ddb34f96323a"), looks := false }, kinds := [], alts := [], laidByText := true, laidKinds := [.data], laidTests := true, laidLooks := .later }
def TopHmacCardSaid : Prop := Claim7.holds Tryd.pinned (.plain (OpenSpec.ofChange topHmacSpec)) topHmacCard

/-- THE SECOND FORM's CARD OF 'palfreytop.TopHmac'. -/
def topHmacUptoCard : Claim7 := { stood := { row := topHmacUptoRow, standIns := [], harness := (true, "9ea3de21819082ab5032d6efd0fbd82299bfb01abfcf4943b1f8ddb34f96323a"), looks := false }, kinds := [], alts := [], laidByText := true, laidKinds := [.data], laidTests := true, laidLooks := .later }
def TopHmacUptoCardSaid : Prop := Claim7.holds Tryd.pinned (.plain (OpenSpec.upto topHmacSpec)) topHmacUptoCard
end Rows
end Go.Proofs.YtelmjlfhmbicjaaDoor
