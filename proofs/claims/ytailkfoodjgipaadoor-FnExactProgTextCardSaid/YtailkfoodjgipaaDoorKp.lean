/- The law's value: ProgText. -/
import Derived.Test.YtailkfoodjgipaaDoorKm
set_option linter.unusedVariables false
set_option linter.unusedSimpArgs false
namespace Go.Fw
open Go.Proofs
theorem termTxt_size2 {t : VTerm} (h : okTm t = true) : (termTxt t).size ≤ szTerm t + 12 := by
  have hn := @okTm_num t h
  have e1 : ∀ c : UInt8, (bs [c]).size = 1 := fun _ => rfl
  have ez : ∀ a b c : UInt8, (bs [a, b, c]).size = 3 := fun _ _ _ => rfl
  have ey : ∀ a b c d : UInt8, (bs [a, b, c, d]).size = 4 := fun _ _ _ _ => rfl
  unfold termTxt szTerm
  repeat' split
  all_goals first
    | (have := txt_size10 (hn (.inl ‹_›)).1 (hn (.inl ‹_›)).2; rw [ByteArray.size_append, e1]; omega)
    | (have := txt_size10 (hn (.inr ‹_›)).1 (hn (.inr ‹_›)).2; rw [ByteArray.size_append, e1]; omega)
    | (rw [ByteArray.size_append, e1]; omega)
    | (rw [e1]; omega)
    | (rw [ez]; omega)
    | (rw [ey]; omega)
theorem jn_size2 (ts : List VTerm) : ∀ (k i : Nat) (s : ByteArray), i + k = ts.length → (∀ j, i ≤ j → j < i + k → okTm (ts.getD j zTerm) = true) → (jn ts k i s).size ≤ s.size + ((ts.drop i).map fun t => szTerm t + 13).sum := by
  intro k
  induction k with
  | zero => intro i s hi ho; show s.size ≤ _; omega
  | succ k ih =>
    intro i s hi ho
    have htt := termTxt_size2 (ho i (by omega) (by omega))
    have := ih (i + 1) ((if 0 < i then s ++ bs [32] else s) ++ termTxt (ts.getD i zTerm)) (by omega) (fun j h1 h2 => ho j (by omega) (by omega))
    unfold jn
    rw [ByteArray.size_append] at this
    have h3 : (if 0 < i then s ++ bs [32] else s).size ≤ s.size + 1 := by
      split
      · rw [ByteArray.size_append, z1]; omega
      · omega
    rw [drop_getD (d := zTerm) (show i < ts.length by omega), List.map_cons, List.sum_cons]
    omega
theorem sum_add {α : Type} (f : α → Nat) (c : Nat) (xs : List α) : (xs.map fun t => f t + c).sum = (xs.map f).sum + xs.length * c := by
  induction xs with
  | nil => simp
  | cons x r ih => simp only [List.map_cons, List.sum_cons, ih, List.length_cons, Nat.add_mul]; omega
theorem filtTxt_size2 (ts : List VTerm) : (filtTxt ts).size ≤ szTermS ts + 156 := by
  unfold filtTxt
  split
  · rename_i h
    have ho := filtOk_all h
    have := jn_size2 ts ts.length 0 ByteArray.empty (by omega) (fun j h1 h2 => ho.2 j (by omega))
    rw [List.drop_zero, sum_add] at this
    have hz : ByteArray.empty.size = 0 := rfl
    have hl : ts.length * 13 ≤ 12 * 13 := Nat.mul_le_mul_right _ ho.1
    unfold szTermS sumL
    omega
  · show 0 ≤ _; omega
abbrev lenS (ws : List ByteArray) : Nat := (ws.map fun w => w.size + 1).sum
theorem ex_size2 (ws : List ByteArray) : ∀ s : ByteArray, (ex s ws).size = s.size + lenS ws := by
  induction ws with
  | nil => intro s; show s.size = _; simp [lenS]
  | cons w r ih =>
    intro s
    show (ex (s ++ bs [32] ++ w) r).size = _
    rw [ih, ByteArray.size_append, ByteArray.size_append, z1]
    simp only [lenS, List.map_cons, List.sum_cons]
    omega
theorem jw_size2 (ws : List ByteArray) : (jw ws).size ≤ lenS ws := by
  cases ws with
  | nil => exact Nat.zero_le _
  | cons x r => rw [jw_ex, ex_size2]; simp only [lenS, List.map_cons, List.sum_cons]; omega
theorem msgTxt_size2 (m : VMsg) : (msgTxt m).size ≤ szMsg m + 12 := by
  unfold msgTxt szMsg
  split
  · rename_i hk
    split
    · rename_i h1
      have := txt_size10 (okMs_num hk h1).1 (okMs_num hk h1).2
      omega
    · have e : (bs [34]).size = 1 := rfl
      rw [ByteArray.size_append, ByteArray.size_append, e]; omega
  · have e : (bs [63]).size = 1 := rfl
    rw [e]; omega
theorem callT_size2 (c : VCall) (hx : Fit c) : (callT c).size ≤ szCall c + 400 := by
  unfold callT callB
  cases hk : callOk c with
  | false => show 0 ≤ _; omega
  | true =>
    cases KK c with
    | false => show 0 ≤ _; omega
    | true =>
      show (jw (WW c)).size ≤ _
      have h0 := jw_size2 (WW c)
      have h1 := word1_size hk
      have h2 := txt_size21 hx.hA
      have h3 := txt_size21 hx.hB
      have h4 := txt_size21 hx.hT
      have h5 := msgTxt_size2 c.Msg
      have h6 := filtTxt_size2 c.Filter
      have b1 : (bs [98, 121]).size = 2 := rfl
      have b2 : (bs [98, 97, 99, 107]).size = 4 := rfl
      have b3 : (bs [105, 102]).size = 2 := rfl
      have g1 : lenS (W1 c) ≤ 34 + c.Name.size := by
        rw [W1]; simp only [lenS, List.cons_append, List.nil_append, List.map_cons, List.map_nil, List.sum_cons, List.sum_nil]
        split
        · omega
        · split <;> omega
      have g2 : lenS (W2 c) ≤ 22 := by rw [W2]; split <;> simp [lenS] <;> omega
      have g3 : lenS (W3 c) ≤ 25 := by rw [W3]; split <;> simp [lenS] <;> omega
      have g4 : lenS (W4 c) ≤ szMsg c.Msg + 13 := by rw [W4]; split <;> simp [lenS] <;> omega
      have g5 : lenS (W5 c) ≤ szTermS c.Filter + 165 := by
        have a : lenS (if c.Op = 14 ∧ c.B = 1 then [bs [98, 97, 99, 107]] else []) ≤ 5 := by split <;> simp [lenS] <;> omega
        have b : lenS (if emp (filtTxt c.Filter) = true then [] else [bs [105, 102], filtTxt c.Filter]) ≤ szTermS c.Filter + 160 := by
          split
          · simp [lenS]
          · simp only [lenS, List.map_cons, List.map_nil, List.sum_cons, List.sum_nil]; omega
        rw [W5]; simp only [lenS, List.map_append, List.sum_append] at a b ⊢; omega
      have hs : lenS (WW c) = lenS (W1 c) + lenS (W2 c) + lenS (W3 c) + lenS (W4 c) + lenS (W5 c) := by
        have key : ∀ a b d e f : List ByteArray, lenS (a ++ b ++ d ++ e ++ f) = lenS a + lenS b + lenS d + lenS e + lenS f := fun a b d e f => by
          simp only [lenS, List.map_append, List.sum_append]
        exact key _ _ _ _ _
      unfold szCall
      omega
def prT (cs : List VCall) : Nat → Nat → ByteArray → ByteArray × Bool
  | 0, _, s => (s, true)
  | k + 1, i, s => if callB (cs.getD i zCall) = true then prT cs k (i + 1) (s ++ callT (cs.getD i zCall) ++ bs [10]) else (ByteArray.empty, false)
abbrev rPr (r : ByteArray × Bool) : Option (AV × List AV) := some (.tup 2 (lstG [.S r.1, .B r.2]), [])
abbrev left (cs : List VCall) (i : Nat) : Nat := ((cs.drop i).map fun c => szCall c + 402).sum
theorem left_succ (cs : List VCall) (i : Nat) (h : i < cs.length) : left cs i = szCall (cs.getD i zCall) + 402 + left cs (i + 1) := by
  unfold left
  rw [drop_getD (d := zCall) h, List.map_cons, List.sum_cons]
theorem z10 : (bs [10]).size = 1 := rfl
theorem l13 (cs : List VCall) (hl : cs.length ≤ 4294967296) (hf : ∀ c ∈ cs, Fit c) : ∀ (k i : Nat) (s : ByteArray), i + k = cs.length → s.size + left cs i ≤ 4000000000 →
    HH 13 [] (k + 1) [true, true, true, false, true] (hdS [(0, slCallS cs), (4, .S s), (5, nI (i : Int))] [] []) = rPr (prT cs k i s) := by
  intro k
  induction k with
  | zero => intro i s hi hs; rw [hstep, h13, bf (by simp [zN]; omega)]; rfl
  | succ k ih =>
    intro i s hi hs
    have hi2 : i < cs.length := by omega
    have hx := hf _ (getD_mem (d := zCall) hi2)
    have hz := callT_size2 _ hx
    rw [left_succ cs i hi2] at hs
    rw [hstep, h13, bt (by simp [zN]; omega), bt (bndL hi2), Int.toNat_natCast]
    refine obind' (v8 _ hx) ?_
    unfold prT
    cases hb : callB (cs.getD i zCall) with
    | false => exact bt' rfl rfl
    | true =>
      rw [if_pos rfl]
      refine bf' rfl (bt' (decide_eq_true (by show s.size + (callT (cs.getD i zCall)).size ≤ _; omega)) (bt' (decide_eq_true (by show (s ++ callT (cs.getD i zCall)).size + 1 ≤ _; rw [ByteArray.size_append]; omega)) ?_))
      rw [wrapN (by omega)]
      exact ih (i + 1) (s ++ callT (cs.getD i zCall) ++ bs [10]) (by omega) (by rw [ByteArray.size_append, ByteArray.size_append, z10]; omega)
def progR (cs : List VCall) : ByteArray × Bool := if cs.length ≤ 30 then prT cs cs.length 0 ByteArray.empty else (ByteArray.empty, false)
theorem l15 (cs : List VCall) (hl : cs.length ≤ 4294967296) (hf : ∀ c ∈ cs, Fit c) : ∀ (k i : Nat) (s : ByteArray), i + k = cs.length → s.size + left cs i ≤ 4000000000 →
    HH 15 [] (k + 1) [true, true, false, true] (hdS [(0, slCallS cs), (4, .S s), (9, slCallS cs), (10, nI (zN cs.length)), (11, nI (i : Int))] [] []) = rPr (if cs.length ≤ 30 then prT cs k i s else (ByteArray.empty, false)) := by
  intro k
  induction k with
  | zero =>
    intro i s hi hs
    rw [hstep, h15, bf (by simp [zN]; omega)]
    by_cases c : cs.length ≤ 30
    · rw [if_pos c]; exact bf' (decide_eq_false (by simp only [zN]; omega)) rfl
    · rw [if_neg c]; exact bt' (decide_eq_true (by simp only [zN]; omega)) rfl
  | succ k ih =>
    intro i s hi hs
    have hi2 : i < cs.length := by omega
    have hx := hf _ (getD_mem (d := zCall) hi2)
    have hz := callT_size2 _ hx
    rw [left_succ cs i hi2] at hs
    rw [hstep, h15, bt (by simp [zN]; omega), bt (bndL hi2), Int.toNat_natCast]
    refine obind' (v10 _ hx) ?_
    unfold prT
    cases hb : callB (cs.getD i zCall) with
    | false =>
      refine bt' rfl ?_
      rw [if_neg (by simp : ¬ false = true)]
      split <;> rfl
    | true =>
      rw [if_pos rfl]
      refine bf' rfl (bt' (decide_eq_true (by show (callT (cs.getD i zCall)).size + 1 ≤ _; omega)) (bt' (decide_eq_true (by show s.size + (callT (cs.getD i zCall) ++ bs [10]).size ≤ _; rw [ByteArray.size_append, z10]; omega)) ?_))
      rw [wrapN (by omega)]
      show HH 15 [] (k + 1) [true, true, false, true] (hdS [(0, slCallS cs), (4, AV.S (s ++ (callT (cs.getD i zCall) ++ bs [10]))), (9, slCallS cs), (10, nI (zN cs.length)), (11, nI ((i + 1 : Nat) : Int))] [] []) = _
      rw [← ByteArray.append_assoc]
      exact ih (i + 1) (s ++ callT (cs.getD i zCall) ++ bs [10]) (by omega) (by rw [ByteArray.size_append, ByteArray.size_append, z10]; omega)
theorem left_small {cs : List VCall} (h : szCallS cs ≤ 1048576) : left cs 0 ≤ 4000000000 := by
  unfold left
  rw [List.drop_zero, sum_add]
  unfold szCallS sumL at h
  have : cs.length * 402 ≤ 1048576 * 402 := Nat.mul_le_mul_right _ (by omega)
  omega
theorem fits_of {cs : List VCall} (h : szCallS cs ≤ 1048576) (hi : ∀ c ∈ cs, intsOk c) : ∀ c ∈ cs, Fit c := fun c hc => fit_of (sumL_mem h hc) (hi c hc)
theorem v13 (cs : List VCall) (h : szCallS cs ≤ 1048576) (hi : ∀ c ∈ cs, intsOk c) : E 13 [slCallS cs] [] = rPr (progR cs) := by
  have hl := sumL_len h
  refine ev1 (cs.length + 1) rfl ((e13 ..).trans ?_)
  unfold progR
  by_cases c : cs.length ≤ 30
  · rw [if_pos c]
    exact bf' (decide_eq_false (by simp only [zN]; omega)) (l13 cs (by omega) (fits_of h hi) cs.length 0 ByteArray.empty (by omega) (by have := left_small h; have hz : ByteArray.empty.size = 0 := rfl; omega))
  · rw [if_neg c]
    exact bt' (decide_eq_true (by simp only [zN]; omega)) rfl
theorem v15 (cs : List VCall) (h : szCallS cs ≤ 1048576) (hi : ∀ c ∈ cs, intsOk c) : E 15 [slCallS cs] [] = rPr (progR cs) := by
  have hl := sumL_len h
  exact ev1 (cs.length + 1) rfl ((e15 ..).trans (l15 cs (by omega) (fits_of h hi) cs.length 0 ByteArray.empty (by omega) (by have := left_small h; have hz : ByteArray.empty.size = 0 := rfl; omega)))
theorem v4 (cs : List VCall) (ok2 : okCallS2 cs) : E 4 [slCallS cs] [] = some (.B true, []) := by
  have ok : okCallS cs := ⟨ok2.1, fun c hc => (ok2.2 c hc).1⟩
  have hi : ∀ c ∈ cs, intsOk c := fun c hc => (ok2.2 c hc).2
  refine ev1 0 rfl ((e4 ..).trans (obind' (v12 cs 1048576 ok (by omega) (by omega)) ?_))
  by_cases hz : szCallS cs ≤ 1048576
  · have h1 : subZ 1048576 (szCallS cs) = 1048576 - (szCallS cs : Int) := subZ_le (by omega)
    refine bf' (by show decide (subZ 1048576 (szCallS cs) < 0) = false; rw [h1]; exact decide_eq_false (by omega)) (obind' (v14 cs hz) (obind' (v13 cs hz hi) (obind' (v14 cs hz) (obind' (v15 cs hz hi) ?_))))
    exact bf' (by show (!(progR cs).1.toList == (progR cs).1.toList) = false; simp) (bf' (by show (!(progR cs).2 == (progR cs).2) = false; simp) (obind' (v14 cs hz) (obind' (w16 cs hz) (bf' rfl rfl))))
  · have h1 : subZ 1048576 (szCallS cs) = -1 := subZ_gt (by omega)
    exact bt' (by show decide (subZ 1048576 (szCallS cs) < 0) = true; rw [h1]; rfl) rfl
end Go.Fw
