/-
  DERIVED. GIVEN WITH THE SEED: THE CARDS: each row of YtailkfoodjgipaaGreatDoorRows.lean that lists a variable, with what it lists TIED to the program's text (the seventh form; the later family's looks); each row that meets fmt, with fmt's text TOLD by the authors' own Lean function (tested against real Go, not proved from fmt's source: count such statements apart). THE CARD IS WHAT COUNTS. Prove the row's statement (the work); the ties are given (YtailkfoodjgipaaGreatDoorTie.lean); close each card by the builder's one call (the guide's Derived/Test/ToyasCard.lean, 'card_holds'). Laid BY PROGRAM, IN A SANDBOX (cutbox-door.mjs). By AI agents, Wed Nov 11 2026. No macro, syntax, notation, axiom, sorry.
-/
import Derived.Test.YtailkfoodjgipaaGreatDoorRows
import GoSem.ClaimSeven
namespace Go.Proofs.YtailkfoodjgipaaGreatDoor
namespace Rows

/-- THE TIED CARD OF 'laws.FnCallBack'. -/
def fnCallBackCard : Claim7 := { stood := { row := fnCallBackRow, standIns := [], harness := (true, "49e23695c0cc8460919ca6f4716e150e0d3d963e4ca54690c29ee4347e081a2c"), looks := false }, kinds := [], alts := [], laidByText := true, laidKinds := [.data, .pinned], laidTests := true, laidLooks := .later }
def FnCallBackCardSaid : Prop := Claim7.holds Tryz.pinned (.plain (OpenSpec.ofChange fnCallBackSpec)) fnCallBackCard

/-- THE TIED CARD OF 'laws.FnProgBack'. -/
def fnProgBackCard : Claim7 := { stood := { row := fnProgBackRow, standIns := [], harness := (true, "49e23695c0cc8460919ca6f4716e150e0d3d963e4ca54690c29ee4347e081a2c"), looks := false }, kinds := [], alts := [], laidByText := true, laidKinds := [.data, .pinned], laidTests := true, laidLooks := .later }
def FnProgBackCardSaid : Prop := Claim7.holds Tryz.pinned (.plain (OpenSpec.ofChange fnProgBackSpec)) fnProgBackCard

/-- THE SECOND FORM's CARD OF 'laws.FnCallBack'. -/
def fnCallBackUptoCard : Claim7 := { stood := { row := fnCallBackUptoRow, standIns := [], harness := (true, "49e23695c0cc8460919ca6f4716e150e0d3d963e4ca54690c29ee4347e081a2c"), looks := false }, kinds := [], alts := [], laidByText := true, laidKinds := [.data, .pinned], laidTests := true, laidLooks := .later }
def FnCallBackUptoCardSaid : Prop := Claim7.holds Tryz.pinned (.plain (OpenSpec.upto fnCallBackSpec)) fnCallBackUptoCard

/-- THE SECOND FORM's CARD OF 'laws.FnProgBack'. -/
def fnProgBackUptoCard : Claim7 := { stood := { row := fnProgBackUptoRow, standIns := [], harness := (true, "49e23695c0cc8460919ca6f4716e150e0d3d963e4ca54690c29ee4347e081a2c"), looks := false }, kinds := [], alts := [], laidByText := true, laidKinds := [.data, .pinned], laidTests := true, laidLooks := .later }
def FnProgBackUptoCardSaid : Prop := Claim7.holds Tryz.pinned (.plain (OpenSpec.upto fnProgBackSpec)) fnProgBackUptoCard
end Rows
end Go.Proofs.YtailkfoodjgipaaGreatDoor
