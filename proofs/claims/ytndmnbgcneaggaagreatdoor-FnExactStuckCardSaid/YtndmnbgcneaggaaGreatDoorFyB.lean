/- The by-value interpreter: heads' states as lists; how slices of numbers are told. -/
import Derived.Test.YtndmnbgcneaggaaGreatDoorFyA
set_option linter.unusedVariables false
namespace Go.Fw
def mkT : List (Nat × AV) → Nat → AV
 | [] => fun _ => .bad
 | (d, v) :: l => upd (mkT l) d v
def mkO {α : Type} : List (Nat × α) → Nat → Option α
 | [] => fun _ => none
 | (d, v) :: l => upd (mkO l) d (some v)
def mkB : List (Nat × Nat × List AV) → Nat → Option (Nat × (Nat → AV))
 | [] => fun _ => none
 | (d, n, v) :: l => upd (mkB l) d (some (n, lstG v))
def hdS (ts : List (Nat × AV)) (as : List (Nat × Arr)) (bs : List (Nat × Nat × List AV)) : St := ⟨mkT ts, mkO as, mkB bs⟩
abbrev zN (n : Nat) : Int := (n : Int)
open Classical in
noncomputable def okT : Bool := decide (∀ _i : Nat, true = true)
theorem okT_eq : okT = true := by unfold okT; simp
def gI (xs : List Int) : Nat → Nat → AV := fun i => lstG [.I .i64 (xs.getD i 0)]
abbrev nI (x : Int) : AV := .I .i64 x
structure NT where
 p : Bool
 l : List Int
 g : List (Int × Bool)
 o : Int
 s : Int
 t : Int
end Go.Fw
