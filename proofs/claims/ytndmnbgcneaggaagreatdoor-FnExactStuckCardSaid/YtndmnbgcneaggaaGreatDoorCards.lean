/-
  DERIVED. GIVEN WITH THE SEED: THE CARDS: each row of YtndmnbgcneaggaaGreatDoorRows.lean that lists a variable, with what it lists TIED to the program's text (the seventh form; the later family's looks); each row that meets fmt, with fmt's text TOLD by the authors' own Lean function (tested against real Go, not proved from fmt's source: count such statements apart). THE CARD IS WHAT COUNTS. Prove the row's statement (the work); the ties are given (YtndmnbgcneaggaaGreatDoorTie.lean); close each card by the builder's one call (the guide's Derived/Test/ToyasCard.lean, 'card_holds'). Laid BY PROGRAM, IN A SANDBOX (cutbox-door.mjs). By AI agents, Wed Nov 11 2026. No macro, syntax, notation, axiom, sorry.
-/
import Derived.Test.YtndmnbgcneaggaaGreatDoorRows
import GoSem.ClaimSeven
namespace Go.Proofs.YtndmnbgcneaggaaGreatDoor
namespace Rows

/-- THE TIED CARD OF 'laws.FnExactStateOk'. -/
def fnExactStateOkCard : Claim7 := { stood := { row := fnExactStateOkRow, standIns := [], harness := (true, "501049c97e597197e4304525e46fdfcea6a9afb4f4125fa4cbefbbe79d8baa02"), looks := false }, kinds := [], alts := [], laidByText := true, laidKinds := [.data, .pinned], laidTests := true, laidLooks := .later }
def FnExactStateOkCardSaid : Prop := Claim7.holds Tryz.pinned (.plain (OpenSpec.ofChange fnExactStateOkSpec)) fnExactStateOkCard

/-- THE TIED CARD OF 'laws.FnExactKept'. -/
def fnExactKeptCard : Claim7 := { stood := { row := fnExactKeptRow, standIns := [], harness := (true, "501049c97e597197e4304525e46fdfcea6a9afb4f4125fa4cbefbbe79d8baa02"), looks := false }, kinds := [], alts := [], laidByText := true, laidKinds := [.data, .pinned], laidTests := true, laidLooks := .later }
def FnExactKeptCardSaid : Prop := Claim7.holds Tryz.pinned (.plain (OpenSpec.ofChange fnExactKeptSpec)) fnExactKeptCard

/-- THE TIED CARD OF 'laws.FnExactStuck'. -/
def fnExactStuckCard : Claim7 := { stood := { row := fnExactStuckRow, standIns := [], harness := (true, "501049c97e597197e4304525e46fdfcea6a9afb4f4125fa4cbefbbe79d8baa02"), looks := false }, kinds := [], alts := [], laidByText := true, laidKinds := [.data, .pinned], laidTests := true, laidLooks := .later }
def FnExactStuckCardSaid : Prop := Claim7.holds Tryz.pinned (.plain (OpenSpec.ofChange fnExactStuckSpec)) fnExactStuckCard

/-- THE SECOND FORM's CARD OF 'laws.FnExactStateOk'. -/
def fnExactStateOkUptoCard : Claim7 := { stood := { row := fnExactStateOkUptoRow, standIns := [], harness := (true, "501049c97e597197e4304525e46fdfcea6a9afb4f4125fa4cbefbbe79d8baa02"), looks := false }, kinds := [], alts := [], laidByText := true, laidKinds := [.data, .pinned], laidTests := true, laidLooks := .later }
def FnExactStateOkUptoCardSaid : Prop := Claim7.holds Tryz.pinned (.plain (OpenSpec.upto fnExactStateOkSpec)) fnExactStateOkUptoCard

/-- THE SECOND FORM's CARD OF 'laws.FnExactKept'. -/
def fnExactKeptUptoCard : Claim7 := { stood := { row := fnExactKeptUptoRow, standIns := [], harness := (true, "501049c97e597197e4304525e46fdfcea6a9afb4f4125fa4cbefbbe79d8baa02"), looks := false }, kinds := [], alts := [], laidByText := true, laidKinds := [.data, .pinned], laidTests := true, laidLooks := .later }
def FnExactKeptUptoCardSaid : Prop := Claim7.holds Tryz.pinned (.plain (OpenSpec.upto fnExactKeptSpec)) fnExactKeptUptoCard

/-- THE SECOND FORM's CARD OF 'laws.FnExactStuck'. -/
def fnExactStuckUptoCard : Claim7 := { stood := { row := fnExactStuckUptoRow, standIns := [], harness := (true, "501049c97e597197e4304525e46fdfcea6a9afb4f4125fa4cbefbbe79d8baa02"), looks := false }, kinds := [], alts := [], laidByText := true, laidKinds := [.data, .pinned], laidTests := true, laidLooks := .later }
def FnExactStuckUptoCardSaid : Prop := Claim7.holds Tryz.pinned (.plain (OpenSpec.upto fnExactStuckSpec)) fnExactStuckUptoCard
end Rows
end Go.Proofs.YtndmnbgcneaggaaGreatDoor
