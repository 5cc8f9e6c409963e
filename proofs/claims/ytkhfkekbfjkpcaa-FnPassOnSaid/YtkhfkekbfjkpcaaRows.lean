/-
  No cell of these rows narrows 'for every input' (looked for: loops, veiled, ifaces, maps, wideKeys, modest, calm, conditions, laid).
  DERIVED. THE GIVEN ROWS OF THIS SEAT. 5 by the template 'for every input the law returns true; each argument reads behind the call as it read before'; 0 by the template 'total and deterministic' (their statements: YtkhfkekbfjkpcaaTotals.lean).
  GIVEN WITH THE SEED: the statements are not yours to turn. If you find one false, say at which input.
  Laid BY PROGRAM, IN A SANDBOX (cutbox-rows.mjs): the forced cells as the released guide's own fill.sh prints them over the translation 12cd2345e4c2ab9a… (all of the seat's roots in one cut). By AI agents, Wed Nov 11 2026. No macro, syntax, notation, axiom, sorry.
-/
import Derived.Test.YtkhfkekbfjkpcaaChecked
import GoSem.Claim
import GoSem.ClaimJoined
import GoSem.ClaimMapViews
import Derived.JoinedTies
import Derived.KernelRfl
namespace Go.Proofs.Ytkhfkekbfjkpcaa
/- THE CELL 'sum', in the pinned program and in every row, IS THE sha256 OF THE DUMP (.gsa) THAT YtkhfkekbfjkpcaaProg.lean LOADS. Nothing in Lean hashes anything: it is a label: what it is worth is what the hold of that sum in a sandbox is worth. -/
noncomputable def Try.pinned : Pinned := { name := "ytkhfkekbfjkpcaa", sum := "12cd2345e4c2ab9aa370f1a64021d0701df50565258c3e8773d2f3bb8045eb14", checked := Try.checked }
namespace Rows
def none {H : Type} : Left H := { results := [], args := [] }

/-- 'laws.FnExactTellOne': WHATEVER THE INPUT: true; the input reads as it did. -/
def fnExactTellOneSpec : ChangeSpec := { name := "fnExactTellOne", fn := fun _ => fun
  | [d] => { results := [.lit (.bool true)], args := [d] }
  | _ => none }
def fnExactTellOneRow : OpenClaim := { program := "ytkhfkekbfjkpcaa", sum := "12cd2345e4c2ab9aa370f1a64021d0701df50565258c3e8773d2f3bb8045eb14", func := "loop.example/g00098/laws.FnExactTellOne", spec := "fnExactTellOne", unfollowed := true, recurses := true, apart := false }
def FnExactTellOneSaid : Prop := fnExactTellOneRow.holds Try.pinned (OpenSpec.ofChange fnExactTellOneSpec)

/-- ITS FALSE NEIGHBOUR: 'it returns false'. Refute it at one input. -/
def fnExactTellOneWrong : ChangeSpec := { name := "fnExactTellOne", fn := fun _ => fun
  | [d] => { results := [.lit (.bool false)], args := [d] }
  | _ => none }
def FnExactTellOneWrongFalsely : Prop := fnExactTellOneRow.holds Try.pinned (OpenSpec.ofChange fnExactTellOneWrong)

/-- 'laws.FnBalanced': WHATEVER THE INPUT: true; the input reads as it did. -/
def fnBalancedSpec : ChangeSpec := { name := "fnBalanced", fn := fun _ => fun
  | [d] => { results := [.lit (.bool true)], args := [d] }
  | _ => none }
def fnBalancedRow : OpenClaim := { program := "ytkhfkekbfjkpcaa", sum := "12cd2345e4c2ab9aa370f1a64021d0701df50565258c3e8773d2f3bb8045eb14", func := "loop.example/g00098/laws.FnBalanced", spec := "fnBalanced", unfollowed := true, recurses := true, apart := false }
def FnBalancedSaid : Prop := fnBalancedRow.holds Try.pinned (OpenSpec.ofChange fnBalancedSpec)

/-- ITS FALSE NEIGHBOUR: 'it returns false'. Refute it at one input. -/
def fnBalancedWrong : ChangeSpec := { name := "fnBalanced", fn := fun _ => fun
  | [d] => { results := [.lit (.bool false)], args := [d] }
  | _ => none }
def FnBalancedWrongFalsely : Prop := fnBalancedRow.holds Try.pinned (OpenSpec.ofChange fnBalancedWrong)

/-- 'laws.FnPermit': WHATEVER THE INPUT: true; the input reads as it did. -/
def fnPermitSpec : ChangeSpec := { name := "fnPermit", fn := fun _ => fun
  | [d] => { results := [.lit (.bool true)], args := [d] }
  | _ => none }
def fnPermitRow : OpenClaim := { program := "ytkhfkekbfjkpcaa", sum := "12cd2345e4c2ab9aa370f1a64021d0701df50565258c3e8773d2f3bb8045eb14", func := "loop.example/g00098/laws.FnPermit", spec := "fnPermit", unfollowed := true, recurses := true, apart := false }
def FnPermitSaid : Prop := fnPermitRow.holds Try.pinned (OpenSpec.ofChange fnPermitSpec)

/-- ITS FALSE NEIGHBOUR: 'it returns false'. Refute it at one input. -/
def fnPermitWrong : ChangeSpec := { name := "fnPermit", fn := fun _ => fun
  | [d] => { results := [.lit (.bool false)], args := [d] }
  | _ => none }
def FnPermitWrongFalsely : Prop := fnPermitRow.holds Try.pinned (OpenSpec.ofChange fnPermitWrong)

/-- 'laws.FnExactWithdraw': WHATEVER THE INPUT: true; the input reads as it did. -/
def fnExactWithdrawSpec : ChangeSpec := { name := "fnExactWithdraw", fn := fun _ => fun
  | [d1, d2] => { results := [.lit (.bool true)], args := [d1, d2] }
  | _ => none }
def fnExactWithdrawRow : OpenClaim := { program := "ytkhfkekbfjkpcaa", sum := "12cd2345e4c2ab9aa370f1a64021d0701df50565258c3e8773d2f3bb8045eb14", func := "loop.example/g00098/laws.FnExactWithdraw", spec := "fnExactWithdraw", unfollowed := true, recurses := true, apart := false }
def FnExactWithdrawSaid : Prop := fnExactWithdrawRow.holds Try.pinned (OpenSpec.ofChange fnExactWithdrawSpec)

/-- ITS FALSE NEIGHBOUR: 'it returns false'. Refute it at one input. -/
def fnExactWithdrawWrong : ChangeSpec := { name := "fnExactWithdraw", fn := fun _ => fun
  | [d1, d2] => { results := [.lit (.bool false)], args := [d1, d2] }
  | _ => none }
def FnExactWithdrawWrongFalsely : Prop := fnExactWithdrawRow.holds Try.pinned (OpenSpec.ofChange fnExactWithdrawWrong)

/-- 'laws.FnPassOn': WHATEVER THE INPUT: true; the input reads as it did. -/
def fnPassOnSpec : ChangeSpec := { name := "fnPassOn", fn := fun _ => fun
  | [d] => { results := [.lit (.bool true)], args := [d] }
  | _ => none }
def fnPassOnRow : OpenClaim := { program := "ytkhfkekbfjkpcaa", sum := "12cd2345e4c2ab9aa370f1a64021d0701df50565258c3e8773d2f3bb8045eb14", func := "loop.example/g00098/laws.FnPassOn", spec := "fnPassOn", unfollowed := true, recurses := true, apart := false }
def FnPassOnSaid : Prop := fnPassOnRow.holds Try.pinned (OpenSpec.ofChange fnPassOnSpec)

/-- ITS FALSE NEIGHBOUR: 'it returns false'. Refute it at one input. -/
def fnPassOnWrong : ChangeSpec := { name := "fnPassOn", fn := fun _ => fun
  | [d] => { results := [.lit (.bool false)], args := [d] }
  | _ => none }
def FnPassOnWrongFalsely : Prop := fnPassOnRow.holds Try.pinned (OpenSpec.ofChange fnPassOnWrong)

/- THE SECOND FORM. 'bulk': how many values and letters a reading holds, each counted each time it is reached (what is shared counts as often as it is met; a slice's spare places count too). A statement '..UptoSaid' is the law's where the arguments, and the package variables that the reading takes, are together of bulk at most 1048576: NARROWER than '..Said'. Prove '..Said' where nothing that the law and all that it calls make is longer than what came in: it says more and counts as full. Else prove '..UptoSaid'. A law counts once. -/
mutual
def uptoBulk {H : Type} : DataW H → Nat
  | .lit (.string bytes) => bytes.length + 1
  | .lit _ => 1
  | .nil => 1
  | .ptr d => uptoBulk d + 1
  | .slice elems spare => uptoBulkAll elems + uptoBulkAll spare + 1
  | .agg parts => uptoBulkAll parts + 1
  | .iface _ d => uptoBulk d + 1
  | .map entries => uptoBulkEntries entries + 1
  | .held _ => 1
def uptoBulkAll {H : Type} : List (DataW H) → Nat
  | [] => 0
  | d :: r => uptoBulk d + uptoBulkAll r
def uptoBulkEntries {H : Type} : List (Lit × DataW H) → Nat
  | [] => 0
  | x :: r => uptoBulkEntry x + uptoBulkEntries r
def uptoBulkEntry {H : Type} : Lit × DataW H → Nat
  | (.string bytes, d) => bytes.length + uptoBulk d + 1
  | (_, d) => uptoBulk d + 1
 end
def uptoSmall : (H : Type) → List (DataW H) → Bool := fun _ ds => decide (uptoBulkAll ds ≤ 1048576)
def OpenSpec.upto (s : _root_.Go.ChangeSpec) : _root_.Go.OpenSpec := { _root_.Go.OpenSpec.ofChange s with cond := some uptoSmall }

/-- 'laws.FnExactTellOne', WHERE WHAT IT READS IS OF BULK AT MOST 1048576: true; the input reads as it did. -/
def fnExactTellOneUptoRow : OpenClaim := { program := "ytkhfkekbfjkpcaa", sum := "12cd2345e4c2ab9aa370f1a64021d0701df50565258c3e8773d2f3bb8045eb14", func := "loop.example/g00098/laws.FnExactTellOne", spec := "fnExactTellOne", unfollowed := true, recurses := true, apart := false, narrowed := true }
def FnExactTellOneUptoSaid : Prop := fnExactTellOneUptoRow.holds Try.pinned (OpenSpec.upto fnExactTellOneSpec)

/-- 'laws.FnBalanced', WHERE WHAT IT READS IS OF BULK AT MOST 1048576: true; the input reads as it did. -/
def fnBalancedUptoRow : OpenClaim := { program := "ytkhfkekbfjkpcaa", sum := "12cd2345e4c2ab9aa370f1a64021d0701df50565258c3e8773d2f3bb8045eb14", func := "loop.example/g00098/laws.FnBalanced", spec := "fnBalanced", unfollowed := true, recurses := true, apart := false, narrowed := true }
def FnBalancedUptoSaid : Prop := fnBalancedUptoRow.holds Try.pinned (OpenSpec.upto fnBalancedSpec)

/-- 'laws.FnPermit', WHERE WHAT IT READS IS OF BULK AT MOST 1048576: true; the input reads as it did. -/
def fnPermitUptoRow : OpenClaim := { program := "ytkhfkekbfjkpcaa", sum := "12cd2345e4c2ab9aa370f1a64021d0701df50565258c3e8773d2f3bb8045eb14", func := "loop.example/g00098/laws.FnPermit", spec := "fnPermit", unfollowed := true, recurses := true, apart := false, narrowed := true }
def FnPermitUptoSaid : Prop := fnPermitUptoRow.holds Try.pinned (OpenSpec.upto fnPermitSpec)

/-- 'laws.FnExactWithdraw', WHERE WHAT IT READS IS OF BULK AT MOST 1048576: true; the input reads as it did. -/
def fnExactWithdrawUptoRow : OpenClaim := { program := "ytkhfkekbfjkpcaa", sum := "12cd2345e4c2ab9aa370f1a64021d0701df50565258c3e8773d2f3bb8045eb14", func := "loop.example/g00098/laws.FnExactWithdraw", spec := "fnExactWithdraw", unfollowed := true, recurses := true, apart := false, narrowed := true }
def FnExactWithdrawUptoSaid : Prop := fnExactWithdrawUptoRow.holds Try.pinned (OpenSpec.upto fnExactWithdrawSpec)

/-- 'laws.FnPassOn', WHERE WHAT IT READS IS OF BULK AT MOST 1048576: true; the input reads as it did. -/
def fnPassOnUptoRow : OpenClaim := { program := "ytkhfkekbfjkpcaa", sum := "12cd2345e4c2ab9aa370f1a64021d0701df50565258c3e8773d2f3bb8045eb14", func := "loop.example/g00098/laws.FnPassOn", spec := "fnPassOn", unfollowed := true, recurses := true, apart := false, narrowed := true }
def FnPassOnUptoSaid : Prop := fnPassOnUptoRow.holds Try.pinned (OpenSpec.upto fnPassOnSpec)

end Rows
end Go.Proofs.Ytkhfkekbfjkpcaa
