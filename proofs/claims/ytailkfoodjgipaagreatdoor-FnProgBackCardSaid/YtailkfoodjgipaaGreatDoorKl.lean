/- Values: a call's text as the reference makes it; both agree. -/
import Derived.Test.YtailkfoodjgipaaGreatDoorKk
set_option linter.unusedVariables false
set_option linter.unusedSimpArgs false
namespace Go.Fw
open Go.Proofs
abbrev R8 (x : ByteArray) (b : Bool) : Option (AV × List AV) := some (.tup 2 (lstG [.S (bif b then x else ByteArray.empty), .B b]), [])
abbrev ex (s : ByteArray) (ws : List ByteArray) : ByteArray := ws.foldl (fun s w => s ++ bs [32] ++ w) s
theorem jw_ex (x : ByteArray) (r : List ByteArray) : jw (x :: r) = ex x r := rfl
theorem inR_num {n : Int} (h : inR n 0 999999999 = true) : 0 ≤ n ∧ n ≤ 999999999 := by simpa [inR] using h
theorem bs_size (l : List UInt8) : (bs l).size = l.length := rfl
theorem z1 : (bs [32]).size = 1 := rfl
theorem z4 : (bs [32, 98, 121, 32]).size = 4 := rfl
theorem z5 : (bs [32, 98, 97, 99, 107]).size = 5 := rfl
theorem z4' : (bs [32, 105, 102, 32]).size = 4 := rfl
theorem termTxt_pos (t : VTerm) : 1 ≤ (termTxt t).size := by
  unfold termTxt
  repeat' split
  all_goals first
    | (show 1 ≤ _; decide)
    | (rw [ByteArray.size_append, bs_size]; simp)
theorem jn_ge (ts : List VTerm) : ∀ (k i : Nat) (s : ByteArray), s.size ≤ (jn ts k i s).size := by
  intro k
  induction k with
  | zero => intro i s; exact Nat.le_refl _
  | succ k ih =>
    intro i s
    refine Nat.le_trans ?_ (ih (i + 1) _)
    rw [ByteArray.size_append]
    split
    · rw [ByteArray.size_append]; omega
    · omega
theorem filt_nil : emp (filtTxt []) = true := by
  have : filtTxt [] = ByteArray.empty := by unfold filtTxt; rw [if_pos filtOk_nil]; rfl
  rw [this]; simp
theorem filt_cons {ts : List VTerm} (h : filtOk ts = true) (h0 : ts ≠ []) : emp (filtTxt ts) = false := by
  cases he : emp (filtTxt ts) with
  | false => rfl
  | true =>
    exfalso
    have e := emp_eq he
    unfold filtTxt at e
    rw [if_pos h] at e
    cases ts with
    | nil => exact h0 rfl
    | cons t r =>
      have h1 := jn_ge (t :: r) r.length 1 ((if 0 < 0 then ByteArray.empty ++ bs [32] else ByteArray.empty) ++ termTxt t)
      have h2 : jn (t :: r) (t :: r).length 0 ByteArray.empty = jn (t :: r) r.length 1 ((if 0 < 0 then ByteArray.empty ++ bs [32] else ByteArray.empty) ++ termTxt t) := rfl
      rw [← h2, e, ByteArray.size_append] at h1
      have := termTxt_pos t
      have hz : ByteArray.empty.size = 0 := rfl
      omega
theorem msgTxt_size (m : VMsg) (h : m.Text.size ≤ 1048576) : (msgTxt m).size ≤ 1048578 := by
  unfold msgTxt
  split
  · rename_i hk
    split
    · rename_i h1
      have := txt_size10 (okMs_num hk h1).1 (okMs_num hk h1).2
      omega
    · rw [ByteArray.size_append, ByteArray.size_append, bs_size]; simp; omega
  · rw [bs_size]; simp
theorem l8d (c : VCall) (s : ByteArray) (hs : s.size ≤ 4000000000) (k : Nat) :
    HH 8 [] (k + 1) [true, true, true, true, true, true, true, true, false, false] (hdS [(1, .pb 65 0), (4, .S s), (99, .B (decide (0 ≤ c.Tok)))] [] [bx65 c]) = R8 (ex s (W3 c)) (K3 c true) := by
  rw [hstep, h8d]
  by_cases h : 0 ≤ c.Tok
  · rw [W3, if_pos h, K3, if_pos h, Bool.true_and]
    refine bt' (decide_eq_true h) ?_
    by_cases h2 : 999999999 < c.Tok
    · have : inR c.Tok 0 999999999 = false := by unfold inR; simp; omega
      rw [this]
      exact bt' (decide_eq_true h2) rfl
    · have : inR c.Tok 0 999999999 = true := by unfold inR; simp; omega
      rw [this]
      have t10 := txt_size10 (n := c.Tok) (by omega) (by omega)
      refine bf' (decide_eq_false h2) (bt' (decide_eq_true (by omega)) (obind' (v32 c.Tok (by omega) (by omega)) (bt' (decide_eq_true ?_) ?_)))
      · show (s ++ bs [32, 98, 121, 32]).size + (txt c.Tok).size ≤ _
        rw [ByteArray.size_append, z4]; omega
      · show some (AV.tup 2 (lstG [AV.S (s ++ bs [32, 98, 121, 32] ++ txt c.Tok), AV.B true]), []) = _
        have : s ++ bs [32, 98, 121, 32] ++ txt c.Tok = ex s [bs [98, 121], txt c.Tok] := ba_ext (by simp [dapp, ex, bs])
        rw [this]; rfl
  · rw [W3, if_neg h, K3, if_neg h]
    exact bf' (decide_eq_false h) rfl
theorem okBody_fil {c : VCall} (h : okBody c = true) (h14 : c.Op ≠ 14) : c.Filter = [] := by
  unfold okBody at h
  rw [if_neg h14] at h
  repeat' split at h
  all_goals (simp at h; first | exact h.2.2.2 | exact h.2.2.2.2 | exact h.2.2)
theorem okBody14 {c : VCall} (h : okBody c = true) (h14 : c.Op = 14) : filtOk c.Filter = true := by
  unfold okBody at h
  rw [if_neg (by omega), if_neg (by omega), if_neg (by omega), if_pos h14] at h
  simp at h
  exact h.2.1
theorem tokNo {c : VCall} (h : callOk c = true) (hb : blk c.Op = false) : ¬ 0 ≤ c.Tok := by
  have := (callOk_op h).2.2.1
  rw [hb] at this
  simp at this
  omega
theorem l8c (c : VCall) (hx : Fit c) (hk : callOk c = true) (h13 : c.Op ≠ 13) (s : ByteArray) (hs : s.size ≤ 3000000000) (k : Nat) :
    HH 8 [] (k + 2) [true, true, true, true, true, true, true, false, false] (hdS [(1, .pb 65 0), (4, .S s), (53, nI c.Op)] [] [bx65 c]) = R8 (ex s (W2 c ++ W3 c ++ W4 c ++ W5 c)) (K3 c (K2' c true)) := by
  have ho := callOk_op hk
  have hm := hx.hm
  rw [hstep, h8c]
  by_cases h9 : c.Op = 9
  · have tn := tokNo hk (by rw [h9]; rfl)
    have hf := okBody_fil ho.2.2.2 (by omega)
    have mt := msgTxt_size c.Msg hm
    have e5 : W5 c = [] := by rw [W5, if_neg (by omega), hf, filt_nil]; rfl
    rw [e5, W2, if_neg (by omega), W3, if_neg tn, W4, if_pos (.inl h9), K3, if_neg tn, K2', if_neg (by omega)]
    refine bt' (decide_eq_true h9) (bt' (decide_eq_true (by omega)) (obind' (v30 c.Msg (by omega)) (bt' (decide_eq_true ?_) rfl)))
    show (s ++ bs [32]).size + (msgTxt c.Msg).size ≤ _
    rw [ByteArray.size_append, z1]; omega
  refine bf' (decide_eq_false h9) ?_
  have seven : c.Op = 7 ∨ c.Op = 19 → (Option.bind (E 29 [nI c.B, nI 0, nI 999999999] []) fun r3 =>
        bif !asB r3.fst then
          (some (AV.tup 2 (lstG [AV.S ByteArray.empty, AV.B false]), ([] : List AV)))
        else
          (bif decide (s.size + 1 ≤ 4294967296) then
            (Option.bind (E 30 [nI c.B] []) fun r6 =>
            bif decide ((s ++ (bs [32])).size + (asS r6.fst).size ≤ 4294967296) then
              (some (AV.tup 2 (lstG [AV.S (s ++ (bs [32]) ++ asS r6.fst), AV.B true]), []))
            else
              (none))
          else
            (none))) = R8 (ex s (W2 c ++ W3 c ++ W4 c ++ W5 c)) (K3 c (K2' c true)) := fun h7 => by
    have tn := tokNo hk (by rcases h7 with e | e <;> rw [e] <;> rfl)
    have hf := okBody_fil ho.2.2.2 (by omega)
    have e5 : W5 c = [] := by rw [W5, if_neg (by omega), hf, filt_nil]; rfl
    rw [e5, W2, if_pos h7, W3, if_neg tn, W4, if_neg (by omega), K3, if_neg tn, K2', if_pos h7, Bool.true_and]
    refine obind' (v31 ..) ?_
    cases hi : inR c.B 0 999999999 with
    | false => exact bt' rfl rfl
    | true =>
      have hb := inR_num hi
      have t10 := txt_size10 (n := c.B) (by omega) (by omega)
      refine bf' rfl (bt' (decide_eq_true (by omega)) (obind' (v32 c.B (by omega) (by omega)) (bt' (decide_eq_true ?_) rfl)))
      show (s ++ bs [32]).size + (txt c.B).size ≤ _
      rw [ByteArray.size_append, z1]; omega
  by_cases h7 : c.Op = 7
  · exact bt' (decide_eq_true h7) (bt' (decide_eq_true h7) (seven (.inl h7)))
  refine bf' (decide_eq_false h7) ?_
  by_cases h19 : c.Op = 19
  · exact bt' (decide_eq_true h19) (seven (.inr h19))
  refine bf' (decide_eq_false h19) ?_
  by_cases h14 : c.Op = 14
  · have tn := tokNo hk (by rw [h14]; rfl)
    have hfo := okBody14 ho.2.2.2 h14
    have fs := filtTxt_size c.Filter hx.hs
    rw [W2, if_neg (by omega), W3, if_neg tn, W4, if_neg (by omega), K3, if_neg tn, K2', if_neg (by omega)]
    refine bt' (decide_eq_true h14) ?_
    by_cases h1 : c.B = 1
    · rw [W5, if_pos ⟨h14, h1⟩]
      refine bt' (decide_eq_true h1) (bt' (decide_eq_true (by omega)) ?_)
      by_cases h0 : c.Filter = []
      · rw [h0, filt_nil, if_pos rfl]
        refine bf' (by simp [zN]) ?_
        have : s ++ bs [32, 98, 97, 99, 107] = ex s [bs [98, 97, 99, 107]] := ba_ext (by simp [dapp, ex, bs])
        rw [this]; rfl
      · rw [filt_cons hfo h0, if_neg (by simp)]
        have hl : 0 < c.Filter.length := List.length_pos_iff.2 h0
        refine bt' (decide_eq_true (by simp only [zN]; omega)) (obind' (v33 c.Filter hx.hf hx.hs) (bt' (decide_eq_true ?_) (bt' (decide_eq_true ?_) ?_)))
        · rw [ByteArray.size_append, z5]; omega
        · show (s ++ bs [32, 98, 97, 99, 107] ++ bs [32, 105, 102, 32]).size + (filtTxt c.Filter).size ≤ _
          rw [ByteArray.size_append, ByteArray.size_append, z5, z4']; omega
        · show some (AV.tup 2 (lstG [AV.S (s ++ bs [32, 98, 97, 99, 107] ++ bs [32, 105, 102, 32] ++ filtTxt c.Filter), AV.B true]), []) = _
          have : s ++ bs [32, 98, 97, 99, 107] ++ bs [32, 105, 102, 32] ++ filtTxt c.Filter = ex s [bs [98, 97, 99, 107], bs [105, 102], filtTxt c.Filter] := ba_ext (by simp [dapp, ex, bs])
          rw [this]; rfl
    · rw [W5, if_neg (fun h => h1 h.2)]
      refine bf' (decide_eq_false h1) ?_
      by_cases h0 : c.Filter = []
      · rw [h0, filt_nil, if_pos rfl]
        exact bf' (by simp [zN]) rfl
      · rw [filt_cons hfo h0, if_neg (by simp)]
        have hl : 0 < c.Filter.length := List.length_pos_iff.2 h0
        refine bt' (decide_eq_true (by simp only [zN]; omega)) (obind' (v33 c.Filter hx.hf hx.hs) (bt' (decide_eq_true (by omega)) (bt' (decide_eq_true ?_) ?_)))
        · show (s ++ bs [32, 105, 102, 32]).size + (filtTxt c.Filter).size ≤ _
          rw [ByteArray.size_append, z4']; omega
        · show some (AV.tup 2 (lstG [AV.S (s ++ bs [32, 105, 102, 32] ++ filtTxt c.Filter), AV.B true]), []) = _
          have : s ++ bs [32, 105, 102, 32] ++ filtTxt c.Filter = ex s [bs [105, 102], filtTxt c.Filter] := ba_ext (by simp [dapp, ex, bs])
          rw [this]; rfl
  · have hf := okBody_fil ho.2.2.2 h14
    have e5 : W5 c = [] := by rw [W5, if_neg (fun h => h14 h.1), hf, filt_nil]; rfl
    rw [e5, W2, if_neg (by omega), W4, if_neg (by omega), K2', if_neg (by omega), List.nil_append, List.append_nil, List.append_nil]
    exact bf' (decide_eq_false h14) (l8d c s (by omega) k)
theorem K_and (c : VCall) (q : Bool) : K3 c (K2' c q) = (q && K3 c (K2' c true)) := by
  unfold K3 K2'
  cases q <;> split <;> split <;> simp
theorem l8b (c : VCall) (hx : Fit c) (hk : callOk c = true) (h13 : c.Op ≠ 13) (s : ByteArray) (hs : s.size ≤ 2000000000) (n : Int) (k : Nat) :
    HH 8 [] (k + 3) [true, true, true, true, true, false, false] (hdS [(1, .pb 65 0), (4, .S s), (5, nI n), (46, .B (!inR n 0 999999999))] [] [bx65 c]) = R8 (ex s ([txt n] ++ (W2 c ++ W3 c ++ W4 c ++ W5 c))) (K3 c (K2' c (inR n 0 999999999))) := by
  rw [hstep, h8b, K_and]
  cases hi : inR n 0 999999999 with
  | false => exact bt' rfl rfl
  | true =>
    have hb := inR_num hi
    have t10 := txt_size10 (n := n) (by omega) (by omega)
    have z : (s ++ bs [32]).size = s.size + 1 := by rw [ByteArray.size_append, z1]
    refine bf' rfl (bt' (decide_eq_true (by omega)) (obind' (v32 n (by omega) (by omega)) (bt' (decide_eq_true ?_) ?_)))
    · show (s ++ bs [32]).size + (txt n).size ≤ _; omega
    · rw [Bool.true_and]
      exact l8c c hx hk h13 (s ++ bs [32] ++ txt n) (by rw [ByteArray.size_append]; omega) k
theorem v29 : ∃ X, E 27 [] [] = some (X, []) ∧ asN X = 5 ∧ ∀ b : Int, 1 ≤ b → b ≤ 4 → asS (asG X b.toNat 0) = kindsL.getD b.toNat ByteArray.empty :=
  ⟨_, ev1 0 rfl ((e29 ..).trans (bt' okT_eq rfl)), rfl, fun b h1 h2 => by
    have : b = 1 ∨ b = 2 ∨ b = 3 ∨ b = 4 := by omega
    rcases this with rfl | rfl | rfl | rfl <;> rfl⟩
theorem v28 : ∃ X, E 26 [] [] = some (X, []) ∧ asN X = 20 ∧ ∀ b : Int, 1 ≤ b → b ≤ 19 → asS (asG X b.toNat 0) = wordsL.getD b.toNat ByteArray.empty :=
  ⟨_, ev1 0 rfl ((e28 ..).trans (bt' okT_eq rfl)), rfl, fun b h1 h2 => by
    have : b = 1 ∨ b = 2 ∨ b = 3 ∨ b = 4 ∨ b = 5 ∨ b = 6 ∨ b = 7 ∨ b = 8 ∨ b = 9 ∨ b = 10 ∨ b = 11 ∨ b = 12 ∨ b = 13 ∨ b = 14 ∨ b = 15 ∨ b = 16 ∨ b = 17 ∨ b = 18 ∨ b = 19 := by omega
    rcases this with rfl | rfl | rfl | rfl | rfl | rfl | rfl | rfl | rfl | rfl | rfl | rfl | rfl | rfl | rfl | rfl | rfl | rfl | rfl <;> rfl⟩
theorem word1_size {c : VCall} (h : callOk c = true) : (word1 c).size ≤ 10 := by
  have ho := callOk_op h
  unfold word1
  split
  · rename_i h9
    have hb := (okBody9 ho.2.2.2 h9).1
    have : c.B = 1 ∨ c.B = 2 ∨ c.B = 3 ∨ c.B = 4 := by omega
    rcases this with e | e | e | e <;> rw [e] <;> decide
  · have hb := ho.1
    generalize c.Op = b at hb
    have : b = 1 ∨ b = 2 ∨ b = 3 ∨ b = 4 ∨ b = 5 ∨ b = 6 ∨ b = 7 ∨ b = 8 ∨ b = 9 ∨ b = 10 ∨ b = 11 ∨ b = 12 ∨ b = 13 ∨ b = 14 ∨ b = 15 ∨ b = 16 ∨ b = 17 ∨ b = 18 ∨ b = 19 := by omega
    rcases this with rfl | rfl | rfl | rfl | rfl | rfl | rfl | rfl | rfl | rfl | rfl | rfl | rfl | rfl | rfl | rfl | rfl | rfl | rfl <;> decide
theorem WW_eq (c : VCall) (x : ByteArray) (h : W1 c = [word1 c] ++ [x]) : jw (WW c) = ex (word1 c) ([x] ++ (W2 c ++ W3 c ++ W4 c ++ W5 c)) := by
  rw [WW, h]
  simp only [List.cons_append, List.nil_append, List.append_assoc]
  rfl
theorem l8a (c : VCall) (hx : Fit c) (hk : callOk c = true) (k : Nat) :
    HH 8 [] (k + 4) [true, true, false] (hdS [(1, .pb 65 0), (4, .S (wordsL.getD c.Op.toNat ByteArray.empty))] [] [bx65 c]) = R8 (jw (WW c)) (KK c) := by
  have ho := callOk_op hk
  have hm := hx.hm
  have hn := hx.hn
  have hw := word1_size hk
  have bb : ∀ n, (c.Op ≠ 13) → W1 c = [word1 c] ++ [txt n] → K1 c = inR n 0 999999999 → (Option.bind (E 29 [nI n, nI 0, nI 999999999] []) fun r4 =>
        HH 8 [] (k + 3) [true, true, true, true, true, false, false] (hdS [(1, AV.pb 65 0), (4, AV.S (word1 c)), (5, nI n), (46, AV.B !asB r4.fst)] [] [bx65 c])) = R8 (jw (WW c)) (KK c) := fun n h13 h1 h2 => by
    rw [WW_eq c _ h1, KK, h2]
    exact obind' (v31 ..) (l8b c hx hk h13 (word1 c) (by omega) n k)
  rw [hstep, h8a]
  by_cases h9 : c.Op = 9
  · obtain ⟨X, qx, x1, x2⟩ := v29
    have hb := (okBody9 ho.2.2.2 h9).1
    have hw1 : word1 c = asS (asG X c.B.toNat 0) := by rw [x2 c.B hb.1 hb.2, word1, if_pos h9]
    have hbd : (bif decide (0 ≤ c.B) then decide (c.B < zN (asN X)) else false) = true := by rw [x1, decide_eq_true (show 0 ≤ c.B by omega)]; exact decide_eq_true (show c.B < zN 5 by simp only [zN]; omega)
    have B := bb c.A (by omega) (by rw [W1, if_neg (by omega), if_neg (by omega)]) (by rw [K1, if_neg (by omega), if_neg (by omega)])
    rw [hw1] at B
    refine bt' (decide_eq_true h9) (and2_both ?_ ?_)
    · exact obind' qx (bt' hbd B)
    · exact obind' qx (bt' hbd B)
  have hw1 : word1 c = wordsL.getD c.Op.toNat ByteArray.empty := by rw [word1, if_neg h9]
  rw [← hw1]
  refine bf' (decide_eq_false h9) ?_
  by_cases h15 : c.Op = 15
  · exact bt' (decide_eq_true h15) (bt' (decide_eq_true h15) (bb c.B (by omega) (by rw [W1, if_neg (by omega), if_pos (.inl h15)]) (by rw [K1, if_neg (by omega), if_pos (.inl h15)])))
  refine bf' (decide_eq_false h15) ?_
  by_cases h16 : c.Op = 16
  · exact bt' (decide_eq_true h16) (bb c.B (by omega) (by rw [W1, if_neg (by omega), if_pos (.inr h16)]) (by rw [K1, if_neg (by omega), if_pos (.inr h16)]))
  refine bf' (decide_eq_false h16) ?_
  by_cases h13 : c.Op = 13
  · have tn := tokNo hk (by rw [h13]; rfl)
    have hf := okBody_fil ho.2.2.2 (by omega)
    have mt := msgTxt_size c.Msg hm
    have e5 : W5 c = [] := by rw [W5, if_neg (by omega), hf, filt_nil]; rfl
    have hres : R8 (jw (WW c)) (KK c) = some (AV.tup 2 (lstG [AV.S (word1 c ++ bs [32] ++ c.Name ++ bs [32] ++ msgTxt c.Msg), AV.B true]), []) := by
      rw [WW_eq c c.Name (by rw [W1, if_pos h13]), e5, W2, if_neg (by omega), W3, if_neg tn, W4, if_pos (.inr h13), KK, K1, if_pos h13, K3, if_neg tn, K2', if_neg (by omega)]
      rfl
    rw [hres]
    have a1 : (word1 c ++ bs [32]).size ≤ 11 := by rw [ByteArray.size_append, z1]; omega
    have a2 : (word1 c ++ bs [32] ++ c.Name).size ≤ 1048587 := by rw [ByteArray.size_append]; omega
    have a3 : (word1 c ++ bs [32] ++ c.Name ++ bs [32]).size ≤ 1048588 := by rw [ByteArray.size_append, z1]; omega
    have q30 := v30 c.Msg (by omega)
    refine bt' (decide_eq_true h13) (bt' (decide_eq_true (by omega)) (and2_both ?_ (and2_both ?_ ?_)))
    · exact bt' (decide_eq_true (by omega)) (bt' (decide_eq_true (by omega)) (obind' q30 (bt' (decide_eq_true (by show (word1 c ++ bs [32] ++ c.Name ++ bs [32]).size + (msgTxt c.Msg).size ≤ _; omega)) rfl)))
    · exact bt' (decide_eq_true (by omega)) (bt' (decide_eq_true (by omega)) (obind' q30 (bt' (decide_eq_true (by show (word1 c ++ bs [32] ++ c.Name ++ bs [32]).size + (msgTxt c.Msg).size ≤ _; omega)) rfl)))
    · exact obind' q30 (bt' (decide_eq_true (by omega)) (bt' (decide_eq_true (by omega)) (bt' (decide_eq_true (by show (word1 c ++ bs [32] ++ c.Name ++ bs [32]).size + (msgTxt c.Msg).size ≤ _; omega)) rfl)))
  · exact bf' (decide_eq_false h13) (bb c.A h13 (by rw [W1, if_neg h13, if_neg (by omega)]) (by rw [K1, if_neg h13, if_neg (by omega)]))
/-- A call's text, and whether it has one. -/
def callB (c : VCall) : Bool := callOk c && KK c
def callT (c : VCall) : ByteArray := bif callB c then jw (WW c) else ByteArray.empty
abbrev rCall (c : VCall) : Option (AV × List AV) := some (.tup 2 (lstG [.S (callT c), .B (callB c)]), [])
theorem v8 (c : VCall) (hx : Fit c) : E 8 [slCall c] [] = rCall c := by
  have q27 := v27 c hx.hf hx.hs (by have := hx.hn; omega) (by have := hx.hm; omega)
  refine ev1 4 rfl ((e8 ..).trans (obind' q27 ?_))
  unfold callT callB
  cases hk : callOk c with
  | false => exact bt' rfl rfl
  | true =>
    have ho := callOk_op hk
    obtain ⟨X, qx, x1, x2⟩ := v28
    have L := l8a c hx hk 0
    rw [← x2 c.Op ho.1.1 ho.1.2] at L
    have hbd : (bif decide (0 ≤ c.Op) then decide (c.Op < zN (asN X)) else false) = true := by rw [x1, decide_eq_true (show 0 ≤ c.Op by omega)]; exact decide_eq_true (show c.Op < zN 20 by simp only [zN]; omega)
    refine bf' rfl (and2_both ?_ ?_)
    · exact obind' qx (bt' hbd L)
    · exact obind' qx (bt' hbd L)
theorem ex_size (B : Nat) (ws : List ByteArray) : ∀ s : ByteArray, (∀ w ∈ ws, w.size ≤ B) → (ex s ws).size ≤ s.size + ws.length * (B + 1) := by
  induction ws with
  | nil => intro s h; show s.size ≤ _; omega
  | cons w r ih =>
    intro s h
    have h1 := ih (s ++ bs [32] ++ w) (fun x hx => h x (List.mem_cons_of_mem _ hx))
    have h2 := h w List.mem_cons_self
    rw [ByteArray.size_append, ByteArray.size_append, z1] at h1
    show (ex (s ++ bs [32] ++ w) r).size ≤ _
    rw [List.length_cons, Nat.add_mul]
    omega
theorem txt_size21 {n : Int} (h : i64R n) : (txt n).size ≤ 21 := by
  have := digs_s20 (n := n.natAbs) (by omega)
  unfold txt
  split
  · rw [ByteArray.size_append]
    have : (bs [45]).size = 1 := rfl
    omega
  · omega
theorem WW_small (c : VCall) (hx : Fit c) (hk : callOk c = true) : (WW c).length ≤ 12 ∧ ∀ w ∈ WW c, w.size ≤ 12583200 := by
  have h1 := word1_size hk
  have h2 := txt_size21 hx.hA
  have h3 := txt_size21 hx.hB
  have h4 := txt_size21 hx.hT
  have h5 := msgTxt_size c.Msg hx.hm
  have h6 := filtTxt_size c.Filter hx.hs
  have h7 := hx.hn
  have b1 : (bs [98, 121]).size = 2 := rfl
  have b2 : (bs [98, 97, 99, 107]).size = 4 := rfl
  have b3 : (bs [105, 102]).size = 2 := rfl
  have g1 : (W1 c).length ≤ 2 ∧ ∀ w ∈ W1 c, w.size ≤ 12583200 := by
    rw [W1]
    refine ⟨by simp, fun w hw => ?_⟩
    simp only [List.cons_append, List.nil_append, List.mem_cons, List.not_mem_nil, or_false] at hw
    rcases hw with rfl | rfl
    · omega
    · split
      · omega
      · split <;> omega
  have g2 : (W2 c).length ≤ 1 ∧ ∀ w ∈ W2 c, w.size ≤ 12583200 := by
    rw [W2]; split
    · exact ⟨by simp, fun w hw => by simp at hw; subst hw; omega⟩
    · exact ⟨by simp, fun w hw => by simp at hw⟩
  have g3 : (W3 c).length ≤ 2 ∧ ∀ w ∈ W3 c, w.size ≤ 12583200 := by
    rw [W3]; split
    · exact ⟨by simp, fun w hw => by simp only [List.mem_cons, List.not_mem_nil, or_false] at hw; rcases hw with rfl | rfl <;> omega⟩
    · exact ⟨by simp, fun w hw => by simp at hw⟩
  have g4 : (W4 c).length ≤ 1 ∧ ∀ w ∈ W4 c, w.size ≤ 12583200 := by
    rw [W4]; split
    · exact ⟨by simp, fun w hw => by simp at hw; subst hw; omega⟩
    · exact ⟨by simp, fun w hw => by simp at hw⟩
  have g5 : (W5 c).length ≤ 3 ∧ ∀ w ∈ W5 c, w.size ≤ 12583200 := by
    rw [W5]
    refine ⟨by split <;> split <;> simp, fun w hw => ?_⟩
    rcases List.mem_append.1 hw with hw | hw
    · split at hw
      · simp only [List.mem_cons, List.not_mem_nil, or_false] at hw; subst hw; omega
      · simp at hw
    · split at hw
      · simp at hw
      · simp only [List.mem_cons, List.not_mem_nil, or_false] at hw; rcases hw with rfl | rfl <;> omega
  have key : ∀ a b d e f : List ByteArray, (a.length ≤ 2 ∧ ∀ w ∈ a, w.size ≤ 12583200) → (b.length ≤ 1 ∧ ∀ w ∈ b, w.size ≤ 12583200) → (d.length ≤ 2 ∧ ∀ w ∈ d, w.size ≤ 12583200) → (e.length ≤ 1 ∧ ∀ w ∈ e, w.size ≤ 12583200) → (f.length ≤ 3 ∧ ∀ w ∈ f, w.size ≤ 12583200) →
      (a ++ b ++ d ++ e ++ f).length ≤ 12 ∧ ∀ w ∈ a ++ b ++ d ++ e ++ f, w.size ≤ 12583200 := fun a b d e f ha hb hd he hf => by
    refine ⟨by simp only [List.length_append]; omega, fun w hw => ?_⟩
    simp only [List.mem_append] at hw
    rcases hw with (((hw | hw) | hw) | hw) | hw
    · exact ha.2 w hw
    · exact hb.2 w hw
    · exact hd.2 w hw
    · exact he.2 w hw
    · exact hf.2 w hw
  exact key _ _ _ _ _ g1 g2 g3 g4 g5
theorem jw_size (ws : List ByteArray) (B : Nat) (h : ∀ w ∈ ws, w.size ≤ B) : (jw ws).size ≤ ws.length * (B + 1) := by
  cases ws with
  | nil => show 0 ≤ _; omega
  | cons x r =>
    have := ex_size B r x (fun w hw => h w (List.mem_cons_of_mem _ hw))
    have h1 := h x List.mem_cons_self
    rw [jw_ex, List.length_cons, Nat.add_mul]
    omega
theorem callT_size (c : VCall) (hx : Fit c) : (callT c).size ≤ 150998412 := by
  unfold callT callB
  cases hk : callOk c with
  | false => show 0 ≤ _; omega
  | true =>
    cases KK c with
    | false => show 0 ≤ _; omega
    | true =>
      have hw := WW_small c hx hk
      have := jw_size (WW c) _ hw.2
      have h2 : (WW c).length * (12583200 + 1) ≤ 12 * (12583200 + 1) := Nat.mul_le_mul_right _ hw.1
      show (jw (WW c)).size ≤ _
      omega
theorem v10 (c : VCall) (hx : Fit c) : E 7 [slCall c] [] = rCall c := by
  have q36 := v36 c hx.hf hx.hs (by have := hx.hn; omega) (by have := hx.hm; omega)
  refine ev1 0 rfl ((e10 ..).trans (obind' q36 ?_))
  unfold callT callB
  cases hk : callOk c with
  | false => exact bt' rfl rfl
  | true =>
    refine bf' rfl (obind' (v37 c hx hk) ?_)
    show (bif !KK c then _ else _) = _
    cases hq : KK c with
    | false => exact bt' rfl rfl
    | true =>
      have hw := WW_small c hx hk
      have hj := jw_size (WW c) _ hw.2
      have h2 : (WW c).length * (12583200 + 1) ≤ 12 * (12583200 + 1) := Nat.mul_le_mul_right _ hw.1
      have hl : (Lib.join ((WW c).map (·.data.toList)) (bs [32]).data.toList).length ≤ 140737488355328 := by
        have e := congrArg ByteArray.size (jw_join (WW c))
        have e2 : (⟨(Lib.join ((WW c).map (·.data.toList)) [32]).toArray⟩ : ByteArray).size = (Lib.join ((WW c).map (·.data.toList)) [32]).length := by simp [ByteArray.size]
        show (Lib.join ((WW c).map (·.data.toList)) [32]).length ≤ _
        omega
      refine bf' rfl (obind' (v38 (WW c) (bs [32]) (by omega) hl) ?_)
      show some (AV.tup 2 (lstG [AV.S ⟨(Lib.join ((WW c).map (·.data.toList)) [32]).toArray⟩, AV.B true]), []) = _
      rw [jw_join]
      rfl
end Go.Fw
