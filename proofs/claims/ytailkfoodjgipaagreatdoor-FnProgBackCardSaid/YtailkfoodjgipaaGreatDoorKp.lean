/- The law's value: ProgText. -/
import Derived.Test.YtailkfoodjgipaaGreatDoorL2
set_option linter.unusedVariables false
set_option linter.unusedSimpArgs false
namespace Go.Fw
open Go.Proofs
theorem termTxt_size2 {t : VTerm} (h : okTm t = true) : (termTxt t).size ≤ szTerm t + 12 := by
  have hn := @okTm_num t h
  have e1 : ∀ c : UInt8, (bs [c]).size = 1 := fun _ => rfl
  have ez : ∀ a b c : UInt8, (bs [a, b, c]).size = 3 := fun _ _ _ => rfl
  have ey : ∀ a b c d : UInt8, (bs [a, b, c, d]).size = 4 := fun _ _ _ _ => rfl
  unfold termTxt szTerm
  repeat' split
  all_goals first
    | (have := txt_size10 (hn (.inl ‹_›)).1 (hn (.inl ‹_›)).2; rw [ByteArray.size_append, e1]; omega)
    | (have := txt_size10 (hn (.inr ‹_›)).1 (hn (.inr ‹_›)).2; rw [ByteArray.size_append, e1]; omega)
    | (rw [ByteArray.size_append, e1]; omega)
    | (rw [e1]; omega)
    | (rw [ez]; omega)
    | (rw [ey]; omega)
theorem jn_size2 (ts : List VTerm) : ∀ (k i : Nat) (s : ByteArray), i + k = ts.length → (∀ j, i ≤ j → j < i + k → okTm (ts.getD j zTerm) = true) → (jn ts k i s).size ≤ s.size + ((ts.drop i).map fun t => szTerm t + 13).sum := by
  intro k
  induction k with
  | zero => intro i s hi ho; show s.size ≤ _; omega
  | succ k ih =>
    intro i s hi ho
    have htt := termTxt_size2 (ho i (by omega) (by omega))
    have := ih (i + 1) ((if 0 < i then s ++ bs [32] else s) ++ termTxt (ts.getD i zTerm)) (by omega) (fun j h1 h2 => ho j (by omega) (by omega))
    unfold jn
    rw [ByteArray.size_append] at this
    have h3 : (if 0 < i then s ++ bs [32] else s).size ≤ s.size + 1 := by
      split
      · rw [ByteArray.size_append, z1]; omega
      · omega
    rw [drop_getD (d := zTerm) (show i < ts.length by omega), List.map_cons, List.sum_cons]
    omega
theorem sum_add {α : Type} (f : α → Nat) (c : Nat) (xs : List α) : (xs.map fun t => f t + c).sum = (xs.map f).sum + xs.length * c := by
  induction xs with
  | nil => simp
  | cons x r ih => simp only [List.map_cons, List.sum_cons, ih, List.length_cons, Nat.add_mul]; omega
theorem filtTxt_size2 (ts : List VTerm) : (filtTxt ts).size ≤ szTermS ts + 156 := by
  unfold filtTxt
  split
  · rename_i h
    have ho := filtOk_all h
    have := jn_size2 ts ts.length 0 ByteArray.empty (by omega) (fun j h1 h2 => ho.2 j (by omega))
    rw [List.drop_zero, sum_add] at this
    have hz : ByteArray.empty.size = 0 := rfl
    have hl : ts.length * 13 ≤ 12 * 13 := Nat.mul_le_mul_right _ ho.1
    unfold szTermS sumL
    omega
  · show 0 ≤ _; omega
abbrev lenS (ws : List ByteArray) : Nat := (ws.map fun w => w.size + 1).sum
theorem ex_size2 (ws : List ByteArray) : ∀ s : ByteArray, (ex s ws).size = s.size + lenS ws := by
  induction ws with
  | nil => intro s; show s.size = _; simp [lenS]
  | cons w r ih =>
    intro s
    show (ex (s ++ bs [32] ++ w) r).size = _
    rw [ih, ByteArray.size_append, ByteArray.size_append, z1]
    simp only [lenS, List.map_cons, List.sum_cons]
    omega
theorem jw_size2 (ws : List ByteArray) : (jw ws).size ≤ lenS ws := by
  cases ws with
  | nil => exact Nat.zero_le _
  | cons x r => rw [jw_ex, ex_size2]; simp only [lenS, List.map_cons, List.sum_cons]; omega
theorem msgTxt_size2 (m : VMsg) : (msgTxt m).size ≤ szMsg m + 12 := by
  unfold msgTxt szMsg
  split
  · rename_i hk
    split
    · rename_i h1
      have := txt_size10 (okMs_num hk h1).1 (okMs_num hk h1).2
      omega
    · have e : (bs [34]).size = 1 := rfl
      rw [ByteArray.size_append, ByteArray.size_append, e]; omega
  · have e : (bs [63]).size = 1 := rfl
    rw [e]; omega
theorem callT_size2 (c : VCall) (hx : Fit c) : (callT c).size ≤ szCall c + 400 := by
  unfold callT callB
  cases hk : callOk c with
  | false => show 0 ≤ _; omega
  | true =>
    cases KK c with
    | false => show 0 ≤ _; omega
    | true =>
      show (jw (WW c)).size ≤ _
      have h0 := jw_size2 (WW c)
      have h1 := word1_size hk
      have h2 := txt_size21 hx.hA
      have h3 := txt_size21 hx.hB
      have h4 := txt_size21 hx.hT
      have h5 := msgTxt_size2 c.Msg
      have h6 := filtTxt_size2 c.Filter
      have b1 : (bs [98, 121]).size = 2 := rfl
      have b2 : (bs [98, 97, 99, 107]).size = 4 := rfl
      have b3 : (bs [105, 102]).size = 2 := rfl
      have g1 : lenS (W1 c) ≤ 34 + c.Name.size := by
        rw [W1]; simp only [lenS, List.cons_append, List.nil_append, List.map_cons, List.map_nil, List.sum_cons, List.sum_nil]
        split
        · omega
        · split <;> omega
      have g2 : lenS (W2 c) ≤ 22 := by rw [W2]; split <;> simp [lenS] <;> omega
      have g3 : lenS (W3 c) ≤ 25 := by rw [W3]; split <;> simp [lenS] <;> omega
      have g4 : lenS (W4 c) ≤ szMsg c.Msg + 13 := by rw [W4]; split <;> simp [lenS] <;> omega
      have g5 : lenS (W5 c) ≤ szTermS c.Filter + 165 := by
        have a : lenS (if c.Op = 14 ∧ c.B = 1 then [bs [98, 97, 99, 107]] else []) ≤ 5 := by split <;> simp [lenS] <;> omega
        have b : lenS (if emp (filtTxt c.Filter) = true then [] else [bs [105, 102], filtTxt c.Filter]) ≤ szTermS c.Filter + 160 := by
          split
          · simp [lenS]
          · simp only [lenS, List.map_cons, List.map_nil, List.sum_cons, List.sum_nil]; omega
        rw [W5]; simp only [lenS, List.map_append, List.sum_append] at a b ⊢; omega
      have hs : lenS (WW c) = lenS (W1 c) + lenS (W2 c) + lenS (W3 c) + lenS (W4 c) + lenS (W5 c) := by
        have key : ∀ a b d e f : List ByteArray, lenS (a ++ b ++ d ++ e ++ f) = lenS a + lenS b + lenS d + lenS e + lenS f := fun a b d e f => by
          simp only [lenS, List.map_append, List.sum_append]
        exact key _ _ _ _ _
      unfold szCall
      omega
end Go.Fw
