/- Values: filters, their texts. -/
import Derived.Test.YtailkfoodjgipaaGreatDoorKg
import Derived.Laws.Strings
set_option linter.unusedVariables false
set_option linter.unusedSimpArgs false
namespace Go.Fw
open Go.Proofs
theorem and2_self {R : Type} (x : Option R) : and2 x x = x := by simp [and2]
theorem emp_eq {x : ByteArray} (h : emp x = true) : x = ByteArray.empty := by
  refine ba_ext ?_
  have h' : x.toList = ByteArray.empty.toList := by simpa [emp] using h
  rw [ByteArray.toList_eq, ByteArray.toList_eq] at h'
  exact h'
theorem dapp (a b : ByteArray) : (a ++ b).data.toList = a.data.toList ++ b.data.toList := by
  obtain ⟨⟨a⟩⟩ := a
  obtain ⟨⟨b⟩⟩ := b
  simp
theorem txt_size10 {n : Int} (h1 : -999999999 ≤ n) (h2 : n ≤ 999999999) : (txt n).size ≤ 10 := by
  have := digs_pow 8 n.natAbs (by omega)
  unfold txt
  split
  · rw [ByteArray.size_append]
    have : (bs [45]).size = 1 := rfl
    omega
  · omega
def ff (ts : List VTerm) : Nat → Nat → Int → Bool
  | 0, _, n => decide (n = 1) || decide (ts.length = 0)
  | k + 1, i, n => okTm (ts.getD i zTerm) && (decide (tk (ts.getD i zTerm) ≤ n) && ff ts k (i + 1) (n - tk (ts.getD i zTerm) + 1))
def filtOk (ts : List VTerm) : Bool := decide (ts.length ≤ 12) && ff ts ts.length 0 0
theorem tk_rng (t : VTerm) : 0 ≤ tk t ∧ tk t ≤ 2 := by
  unfold tk; split
  · omega
  · split <;> omega
abbrev small (ts : List VTerm) : Prop := ∀ x ∈ ts, x.Text.size ≤ 1048576
theorem l53 (ts : List VTerm) (hl : ts.length ≤ 4294967296) (hs : small ts) : ∀ (k i : Nat) (n : Int), i + k = ts.length → 0 ≤ n → n ≤ i →
    HH 60 [] (k + 1) [true, true, true, false, true] (hdS [(0, slTermS ts), (3, nI n), (4, nI (i : Int))] [] []) = some (.B (ff ts k i n), []) := by
  intro k
  induction k with
  | zero =>
    intro i n hi h0 h1
    rw [hstep, h53, bf (by simp [zN]; omega)]
    have : decide (zN ts.length = 0) = decide (ts.length = 0) := by by_cases h : ts.length = 0 <;> simp [zN, h]
    rw [this]
    show _ = some (AV.B (decide (n = 1) || decide (ts.length = 0)), [])
    cases decide (n = 1) <;> rfl
  | succ k ih =>
    intro i n hi h0 h1
    have hi2 : i < ts.length := by omega
    have q := v81 (ts.getD i zTerm) (Nat.le_trans (hs _ (getD_mem hi2)) (by omega))
    have ht := tk_rng (ts.getD i zTerm)
    rw [hstep, h53, bt (by simp [zN]; omega), bt (bndL hi2), Int.toNat_natCast]
    refine obind' q ?_
    show _ = some (AV.B (okTm (ts.getD i zTerm) && (decide (tk (ts.getD i zTerm) ≤ n) && ff ts k (i + 1) (n - tk (ts.getD i zTerm) + 1))), [])
    cases ho : okTm (ts.getD i zTerm) with
    | false => exact bt' (by rfl) rfl
    | true =>
      refine bf' (by show decide (tk (ts.getD i zTerm) < 0) = false; exact decide_eq_false (by omega)) ?_
      show (bif decide (n < tk (ts.getD i zTerm)) then _ else _) = _
      by_cases c : tk (ts.getD i zTerm) ≤ n
      · refine bf' (decide_eq_false (by omega)) ?_
        rw [decide_eq_true c]
        show HH 60 [] (k + 1) _ (hdS [(0, slTermS ts), (3, nI (IntKind.i64.wrap (IntKind.i64.wrap (n - tk (ts.getD i zTerm)) + 1))), (4, nI (IntKind.i64.wrap ((i : Int) + 1)))] [] []) = _
        rw [wrapN (by omega), wrapS (x := n - tk (ts.getD i zTerm)) (by omega) (by omega), wrapS (by omega) (by omega)]
        exact ih (i + 1) _ (by omega) (by omega) (by omega)
      · refine bt' (decide_eq_true (by omega)) ?_
        rw [decide_eq_false c]; rfl
theorem v53 (ts : List VTerm) (hl : ts.length ≤ 4294967296) (hs : small ts) : E 60 [slTermS ts] [] = some (.B (filtOk ts), []) := by
  refine ev1 (ts.length + 1) rfl ((e53 ..).trans ?_)
  unfold filtOk
  by_cases c : ts.length ≤ 12
  · rw [decide_eq_true c]
    exact bf' (by simp [zN]; omega) (l53 ts hl hs ts.length 0 0 (by omega) (by omega) (by omega))
  · rw [decide_eq_false c]
    exact bt' (by simp [zN]; omega) rfl
theorem l57 (ts : List VTerm) (hl : ts.length ≤ 4294967296) (hs : small ts) : ∀ (k i : Nat) (n : Int), i + k = ts.length → 0 ≤ n → n ≤ i →
    HH 45 [] (k + 1) [true, true, false, true] (hdS [(0, slTermS ts), (3, nI n), (6, slTermS ts), (7, nI (zN ts.length)), (8, nI (i : Int))] [] []) = some (.B (decide (ts.length ≤ 12) && ff ts k i n), []) := by
  intro k
  induction k with
  | zero =>
    intro i n hi h0 h1
    rw [hstep, h57, bf (by simp [zN]; omega)]
    have e1 : decide (zN ts.length = 0) = decide (ts.length = 0) := by by_cases h : ts.length = 0 <;> simp [zN, h]
    have e2 : decide (zN ts.length ≤ 12) = decide (ts.length ≤ 12) := by simp only [zN]; by_cases h : ts.length ≤ 12 <;> simp [h] <;> omega
    rw [e1, e2]
    show _ = some (AV.B (decide (ts.length ≤ 12) && (decide (n = 1) || decide (ts.length = 0))), [])
    cases decide (n = 1) <;> cases decide (ts.length ≤ 12) <;> rfl
  | succ k ih =>
    intro i n hi h0 h1
    have hi2 : i < ts.length := by omega
    have q := v82 (ts.getD i zTerm) (Nat.le_trans (hs _ (getD_mem hi2)) (by omega))
    have q2 := v83 (ts.getD i zTerm)
    have ht := tk_rng (ts.getD i zTerm)
    rw [hstep, h57, bt (by simp [zN]; omega), bt (bndL hi2), Int.toNat_natCast]
    refine obind' q ?_
    show _ = some (AV.B (decide (ts.length ≤ 12) && (okTm (ts.getD i zTerm) && (decide (tk (ts.getD i zTerm) ≤ n) && ff ts k (i + 1) (n - tk (ts.getD i zTerm) + 1)))), [])
    cases ho : okTm (ts.getD i zTerm) with
    | false => refine bt' rfl ?_; cases decide (ts.length ≤ 12) <;> rfl
    | true =>
      refine bf' rfl (obind' q2 ?_)
      show (bif decide (n < tk (ts.getD i zTerm)) then _ else _) = _
      by_cases c : tk (ts.getD i zTerm) ≤ n
      · refine bf' (decide_eq_false (by omega)) (obind' q2 ?_)
        rw [decide_eq_true c]
        show HH 45 [] (k + 1) _ (hdS [(0, slTermS ts), (3, nI (IntKind.i64.wrap (n + IntKind.i64.wrap (1 - tk (ts.getD i zTerm))))), (6, slTermS ts), (7, nI (zN ts.length)), (8, nI (IntKind.i64.wrap ((i : Int) + 1)))] [] []) = _
        rw [wrapN (by omega), wrapS (x := 1 - tk (ts.getD i zTerm)) (by omega) (by omega), wrapS (by omega) (by omega), show n + (1 - tk (ts.getD i zTerm)) = n - tk (ts.getD i zTerm) + 1 by omega]
        exact ih (i + 1) _ (by omega) (by omega) (by omega)
      · refine bt' (decide_eq_true (by omega)) ?_
        rw [decide_eq_false c]; cases decide (ts.length ≤ 12) <;> rfl
theorem v57 (ts : List VTerm) (hl : ts.length ≤ 4294967296) (hs : small ts) : E 45 [slTermS ts] [] = some (.B (filtOk ts), []) :=
  ev1 (ts.length + 1) rfl ((e57 ..).trans (l57 ts hl hs ts.length 0 0 (by omega) (by omega) (by omega)))
theorem ff_all {ts : List VTerm} : ∀ (k i : Nat) (n : Int), ff ts k i n = true → ∀ j, i ≤ j → j < i + k → okTm (ts.getD j zTerm) = true := by
  intro k
  induction k with
  | zero => intro i n h j h1 h2; omega
  | succ k ih =>
    intro i n h j h1 h2
    simp only [ff, Bool.and_eq_true] at h
    by_cases e : j = i
    · rw [e]; exact h.1
    · exact ih (i + 1) _ h.2.2 j (by omega) (by omega)
/-- A right term's text. -/
def termTxt (t : VTerm) : ByteArray :=
  if t.Op = 1 then bs [97, 108, 108] else if t.Op = 2 then bs [110, 117, 109] else if t.Op = 3 then bs [116, 101, 120, 116] else if t.Op = 4 then bs [60] ++ txt t.Num else if t.Op = 5 then bs [37] ++ txt t.Num
  else if t.Op = 6 then bs [94] ++ t.Text else if t.Op = 7 then bs [126] ++ t.Text else if t.Op = 8 then bs [33] else if t.Op = 9 then bs [38] else bs [124]
theorem okTm_num {t : VTerm} (h : okTm t = true) (ho : t.Op = 4 ∨ t.Op = 5) : -999999999 ≤ t.Num ∧ t.Num ≤ 999999999 := by
  rcases ho with e | e <;> simp [okTm, isOp, e, inR] at h <;> omega
theorem okTm_op {t : VTerm} (h : okTm t = true) : 1 ≤ t.Op ∧ t.Op ≤ 10 := by
  rcases op_cases t.Op with h' | h' | h' | h' | h' | h' | h' | h' | h' | h' | ⟨h1, h2, h3, h4, h5, h6, h7, h8, h9, h10⟩
  all_goals first | omega | (simp [okTm, isOp, h1, h2, h3, h4, h5, h6, h7, h8, h9, h10] at h)
theorem termTxt_size {t : VTerm} (h : okTm t = true) (hs : t.Text.size ≤ 1048576) : (termTxt t).size ≤ 1048588 := by
  have hn := @okTm_num t h
  have e1 : ∀ c : UInt8, (bs [c]).size = 1 := fun _ => rfl
  unfold termTxt
  repeat' split
  all_goals first
    | (show _ ≤ 1048588; decide)
    | (have := txt_size10 (hn (.inl ‹_›)).1 (hn (.inl ‹_›)).2; rw [ByteArray.size_append, e1]; omega)
    | (have := txt_size10 (hn (.inr ‹_›)).1 (hn (.inr ‹_›)).2; rw [ByteArray.size_append, e1]; omega)
    | (rw [ByteArray.size_append, e1]; omega)
theorem v86 (t : VTerm) (h : okTm t = true) (hs : t.Text.size ≤ 1048576) : E 80 [slTerm t] [] = some (.S (termTxt t), []) := by
  have hn := @okTm_num t h
  refine ev1 0 rfl ((e86 ..).trans ?_)
  unfold termTxt
  by_cases c4 : t.Op = 4
  · have a := v63 t.Num (by have := hn (.inl c4); omega) (by have := hn (.inl c4); omega)
    have b := txt_size10 (hn (.inl c4)).1 (hn (.inl c4)).2
    have hb : decide (1 + (txt t.Num).size ≤ 4294967296) = true := decide_eq_true (by omega)
    simp only [a, Option.bind_some, asS, hb]
    simp [c4]
    exact bt' hb rfl
  by_cases c5 : t.Op = 5
  · have a := v63 t.Num (by have := hn (.inr c5); omega) (by have := hn (.inr c5); omega)
    have b := txt_size10 (hn (.inr c5)).1 (hn (.inr c5)).2
    have hb : decide (1 + (txt t.Num).size ≤ 4294967296) = true := decide_eq_true (by omega)
    simp only [a, Option.bind_some, asS, hb]
    simp [c5]
    exact bt' hb rfl
  have hz : decide (1 + t.Text.size ≤ 4294967296) = true := decide_eq_true (by omega)
  rw [hz]
  rcases op_cases t.Op with h' | h' | h' | h' | h' | h' | h' | h' | h' | h' | ⟨h1, h2, h3, h4, h5, h6, h7, h8, h9, h10⟩
  all_goals first | (exact absurd h' c4) | (exact absurd h' c5) | (simp [h']; done) | (simp [h1, h2, h3, h4, h5, h6, h7, h8, h9, h10])
end Go.Fw
