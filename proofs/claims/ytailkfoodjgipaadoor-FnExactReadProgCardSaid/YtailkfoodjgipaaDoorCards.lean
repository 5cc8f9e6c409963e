/-
  DERIVED. GIVEN WITH THE SEED: THE CARDS: each row of YtailkfoodjgipaaDoorRows.lean that lists a variable, with what it lists TIED to the program's text (the seventh form; the later family's looks); each row that meets fmt, with fmt's text TOLD by the authors' own Lean function (tested against real Go, not proved from fmt's source: count such statements apart). THE CARD IS WHAT COUNTS. Prove the row's statement (the work); the ties are given (YtailkfoodjgipaaDoorTie.lean); close each card by the builder's one call (the guide's Derived/Test/ToyasCard.lean, 'card_holds'). Laid BY PROGRAM, IN A SANDBOX (cutbox-door.mjs). By AI agents, Wed Nov 11 2026. No macro, syntax, notation, axiom, sorry.
-/
import Derived.Test.YtailkfoodjgipaaDoorRows
import GoSem.ClaimSeven
namespace Go.Proofs.YtailkfoodjgipaaDoor
namespace Rows

/-- THE TIED CARD OF 'laws.FnExactCallText'. -/
def fnExactCallTextCard : Claim7 := { stood := { row := fnExactCallTextRow, standIns := [], harness := (true, "58c94795c61bdac0c3311be95b612b6447ec3ef1ed9857252a67c39bec4b1400"), looks := false }, kinds := [], alts := [], laidByText := true, laidKinds := [.data, .pinned], laidTests := true, laidLooks := .later }
def FnExactCallTextCardSaid : Prop := Claim7.holds Tryd.pinned (.plain (OpenSpec.ofChange fnExactCallTextSpec)) fnExactCallTextCard

/-- THE TIED CARD OF 'laws.FnExactProgText'. -/
def fnExactProgTextCard : Claim7 := { stood := { row := fnExactProgTextRow, standIns := [], harness := (true, "58c94795c61bdac0c3311be95b612b6447ec3ef1ed9857252a67c39bec4b1400"), looks := false }, kinds := [], alts := [], laidByText := true, laidKinds := [.data, .pinned], laidTests := true, laidLooks := .later }
def FnExactProgTextCardSaid : Prop := Claim7.holds Tryd.pinned (.plain (OpenSpec.ofChange fnExactProgTextSpec)) fnExactProgTextCard

/-- THE TIED CARD OF 'laws.FnExactReadCall'. -/
def fnExactReadCallCard : Claim7 := { stood := { row := fnExactReadCallRow, standIns := [], harness := (true, "58c94795c61bdac0c3311be95b612b6447ec3ef1ed9857252a67c39bec4b1400"), looks := false }, kinds := [], alts := [], laidByText := true, laidKinds := [.data, .pinned], laidTests := true, laidLooks := .later }
def FnExactReadCallCardSaid : Prop := Claim7.holds Tryd.pinned (.plain (OpenSpec.ofChange fnExactReadCallSpec)) fnExactReadCallCard

/-- THE TIED CARD OF 'laws.FnExactReadProg'. -/
def fnExactReadProgCard : Claim7 := { stood := { row := fnExactReadProgRow, standIns := [], harness := (true, "58c94795c61bdac0c3311be95b612b6447ec3ef1ed9857252a67c39bec4b1400"), looks := false }, kinds := [], alts := [], laidByText := true, laidKinds := [.data, .pinned], laidTests := true, laidLooks := .later }
def FnExactReadProgCardSaid : Prop := Claim7.holds Tryd.pinned (.plain (OpenSpec.ofChange fnExactReadProgSpec)) fnExactReadProgCard

/-- THE SECOND FORM's CARD OF 'laws.FnExactCallText'. -/
def fnExactCallTextUptoCard : Claim7 := { stood := { row := fnExactCallTextUptoRow, standIns := [], harness := (true, "58c94795c61bdac0c3311be95b612b6447ec3ef1ed9857252a67c39bec4b1400"), looks := false }, kinds := [], alts := [], laidByText := true, laidKinds := [.data, .pinned], laidTests := true, laidLooks := .later }
def FnExactCallTextUptoCardSaid : Prop := Claim7.holds Tryd.pinned (.plain (OpenSpec.upto fnExactCallTextSpec)) fnExactCallTextUptoCard

/-- THE SECOND FORM's CARD OF 'laws.FnExactProgText'. -/
def fnExactProgTextUptoCard : Claim7 := { stood := { row := fnExactProgTextUptoRow, standIns := [], harness := (true, "58c94795c61bdac0c3311be95b612b6447ec3ef1ed9857252a67c39bec4b1400"), looks := false }, kinds := [], alts := [], laidByText := true, laidKinds := [.data, .pinned], laidTests := true, laidLooks := .later }
def FnExactProgTextUptoCardSaid : Prop := Claim7.holds Tryd.pinned (.plain (OpenSpec.upto fnExactProgTextSpec)) fnExactProgTextUptoCard

/-- THE SECOND FORM's CARD OF 'laws.FnExactReadCall'. -/
def fnExactReadCallUptoCard : Claim7 := { stood := { row := fnExactReadCallUptoRow, standIns := [], harness := (true, "58c94795c61bdac0c3311be95b612b6447ec3ef1ed9857252a67c39bec4b1400"), looks := false }, kinds := [], alts := [], laidByText := true, laidKinds := [.data, .pinned], laidTests := true, laidLooks := .later }
def FnExactReadCallUptoCardSaid : Prop := Claim7.holds Tryd.pinned (.plain (OpenSpec.upto fnExactReadCallSpec)) fnExactReadCallUptoCard

/-- THE SECOND FORM's CARD OF 'laws.FnExactReadProg'. -/
def fnExactReadProgUptoCard : Claim7 := { stood := { row := fnExactReadProgUptoRow, standIns := [], harness := (true, "58c94795c61bdac0c3311be95b612b6447ec3ef1ed9857252a67c39bec4b1400"), looks := false }, kinds := [], alts := [], laidByText := true, laidKinds := [.data, .pinned], laidTests := true, laidLooks := .later }
def FnExactReadProgUptoCardSaid : Prop := Claim7.holds Tryd.pinned (.plain (OpenSpec.upto fnExactReadProgSpec)) fnExactReadProgUptoCard
end Rows
end Go.Proofs.YtailkfoodjgipaaDoor
