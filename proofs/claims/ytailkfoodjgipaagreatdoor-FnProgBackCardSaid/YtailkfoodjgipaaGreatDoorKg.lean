/- Values: filters. -/
import Derived.Test.YtailkfoodjgipaaGreatDoorKf
set_option linter.unusedVariables false
set_option linter.unusedSimpArgs false
namespace Go.Fw
open Go.Proofs
theorem bselB (a b c : Bool) : (bif a then some (AV.B b, ([] : List AV)) else some (AV.B c, [])) = some (AV.B (bif a then b else c), []) := by cases a <;> rfl
theorem bselI (a : Bool) (b c : Int) : (bif a then some (AV.I .i64 b, ([] : List AV)) else some (AV.I .i64 c, [])) = some (AV.I .i64 (bif a then b else c), []) := by cases a <;> rfl
def isOp (n : Int) (l : List Int) : Bool := l.any fun k => decide (n = k)
/-- Is a term right? -/
def okTm (t : VTerm) : Bool :=
  if isOp t.Op [1, 2, 3, 8, 9, 10] = true then decide (t.Num = 0) && emp t.Text
  else if t.Op = 4 then inR t.Num (-999999999) 999999999 && emp t.Text
  else if t.Op = 5 then inR t.Num 1 999999999 && emp t.Text
  else if isOp t.Op [6, 7] = true then decide (t.Num = 0) && okPart t.Text
  else false
def tk (t : VTerm) : Int := if t.Op = 8 then 1 else if isOp t.Op [9, 10] = true then 2 else 0
theorem op_cases (n : Int) : n = 1 ∨ n = 2 ∨ n = 3 ∨ n = 4 ∨ n = 5 ∨ n = 6 ∨ n = 7 ∨ n = 8 ∨ n = 9 ∨ n = 10 ∨ (n ≠ 1 ∧ n ≠ 2 ∧ n ≠ 3 ∧ n ≠ 4 ∧ n ≠ 5 ∧ n ≠ 6 ∧ n ≠ 7 ∧ n ≠ 8 ∧ n ≠ 9 ∧ n ≠ 10) := by omega
theorem v83 (t : VTerm) : E 77 [slTerm t] [] = some (nI (tk t), []) := by
  refine ev1 0 rfl ((e83 ..).trans ?_)
  rcases op_cases t.Op with h | h | h | h | h | h | h | h | h | h | ⟨h1, h2, h3, h4, h5, h6, h7, h8, h9, h10⟩
  all_goals first | simp [tk, isOp, h] | simp [tk, isOp, h1, h2, h3, h4, h5, h6, h7, h8, h9, h10]
theorem v82 (t : VTerm) (hs : t.Text.size ≤ 4294967296) : E 76 [slTerm t] [] = some (.B (okTm t), []) := by
  have a1 := v56 t.Num (-999999999) 999999999
  have a2 := v56 t.Num 1 999999999
  have a3 := v96 t.Text hs
  refine ev1 0 rfl ((e82 ..).trans ?_)
  simp only [a1, a2, a3, Option.bind_some, asB]
  unfold okTm emp
  generalize inR t.Num (-999999999) 999999999 = x1
  generalize inR t.Num 1 999999999 = x2
  generalize okPart t.Text = x3
  generalize (t.Text.toList == ByteArray.empty.toList) = x4
  generalize decide (t.Num = 0) = x5
  rcases op_cases t.Op with h | h | h | h | h | h | h | h | h | h | ⟨h1, h2, h3, h4, h5, h6, h7, h8, h9, h10⟩
  all_goals first
    | (simp only [h, isOp]; cases x1 <;> cases x2 <;> cases x3 <;> cases x4 <;> cases x5 <;> rfl)
    | (simp [isOp, h1, h2, h3, h4, h5, h6, h7, h8, h9, h10])
theorem v81 (t : VTerm) (hs : t.Text.size ≤ 4294967296) : E 85 [slTerm t] [] = some (nI (if okTm t = true then tk t else -1), []) := by
  have a1 := v31 t.Num (-999999999) 999999999
  have a2 := v31 t.Num 1 999999999
  have a3 := v95 t.Text hs
  refine ev1 0 rfl ((e81 ..).trans ?_)
  simp only [a1, a2, a3, Option.bind_some, asB]
  unfold okTm emp tk
  by_cases hn : t.Num = 0
  · simp only [decide_eq_true hn]
    generalize inR t.Num (-999999999) 999999999 = x1
    generalize inR t.Num 1 999999999 = x2
    generalize okPart t.Text = x3
    generalize (t.Text.toList == ByteArray.empty.toList) = x4
    rcases op_cases t.Op with h | h | h | h | h | h | h | h | h | h | ⟨h1, h2, h3, h4, h5, h6, h7, h8, h9, h10⟩
    all_goals first
      | (simp only [h, isOp]; cases x1 <;> cases x2 <;> cases x3 <;> cases x4 <;> rfl)
      | (simp [isOp, h1, h2, h3, h4, h5, h6, h7, h8, h9, h10])
  · simp only [decide_eq_false hn]
    generalize inR t.Num (-999999999) 999999999 = x1
    generalize inR t.Num 1 999999999 = x2
    generalize okPart t.Text = x3
    generalize (t.Text.toList == ByteArray.empty.toList) = x4
    rcases op_cases t.Op with h | h | h | h | h | h | h | h | h | h | ⟨h1, h2, h3, h4, h5, h6, h7, h8, h9, h10⟩
    all_goals first
      | (simp only [h, isOp]; cases x1 <;> cases x2 <;> cases x3 <;> cases x4 <;> rfl)
      | (simp [isOp, h1, h2, h3, h4, h5, h6, h7, h8, h9, h10])
end Go.Fw
