/- The by-value interpreter: heads' states as lists; how slices of numbers are told. -/
import Derived.Test.YtndmnbgcneaggaaGreatDoorFyA
set_option linter.unusedVariables false
namespace Go.Fw

def mkT : List (Nat × AV) → Nat → AV
  | [] => fun _ => .bad
  | (d, v) :: l => upd (mkT l) d v
def mkO {α : Type} : List (Nat × α) → Nat → Option α
  | [] => fun _ => none
  | (d, v) :: l => upd (mkO l) d (some v)
def mkB : List (Nat × Nat × List AV) → Nat → Option (Nat × (Nat → AV))
  | [] => fun _ => none
  | (d, n, v) :: l => upd (mkB l) d (some (n, lstG v))
/-- A head's state: temporaries, rows, boxes. -/
def hdS (ts : List (Nat × AV)) (as : List (Nat × Arr)) (bs : List (Nat × Nat × List AV)) : St := ⟨mkT ts, mkO as, mkB bs⟩

abbrev zN (n : Nat) : Int := (n : Int)
open Classical in
/-- What is so, by the evaluator's own way. -/
noncomputable def okT : Bool := decide (∀ _i : Nat, true = true)
theorem okT_eq : okT = true := by unfold okT; simp
/-- Whole numbers in a row. -/
def gI (xs : List Int) : Nat → Nat → AV := fun i => lstG [.I .i64 (xs.getD i 0)]
/-- A number and a truth, in a row. -/
def gG (xs : List (Int × Bool)) : Nat → Nat → AV := fun i => lstG [.I .i64 (xs.getD i (0, false)).1, .B (xs.getD i (0, false)).2]
/-- Bytes in a row. -/
def gB (xs : List Int) : Nat → Nat → AV := fun i => lstG [.I .u8 (xs.getD i 0)]
abbrev slB (xs : List Int) : AV := .sl xs.length 1 (gB xs)
abbrev slI (xs : List Int) : AV := .sl xs.length 1 (gI xs)
abbrev owI (xs : List Int) : AV := .own xs.length 1 (gI xs)
abbrev slG (xs : List (Int × Bool)) : AV := .sl xs.length 2 (gG xs)
abbrev owG (xs : List (Int × Bool)) : AV := .own xs.length 2 (gG xs)
abbrev nI (x : Int) : AV := .I .i64 x
structure NT where
  p : Bool
  l : List Int
  g : List (Int × Bool)
  o : Int
  s : Int
  t : Int
abbrev slN (n : NT) : AV := .ag 6 (lstG [.B n.p, slI n.l, slG n.g, nI n.o, nI n.s, nI n.t])
abbrev owN (n : NT) : AV := .ag 6 (lstG [.B n.p, owI n.l, owG n.g, nI n.o, nI n.s, nI n.t])
end Go.Fw
