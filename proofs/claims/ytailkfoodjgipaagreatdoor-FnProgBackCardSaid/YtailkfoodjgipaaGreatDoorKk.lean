/- Values: a call's words; its text as the program makes it. -/
import Derived.Test.YtailkfoodjgipaaGreatDoorKj
import Derived.Test.YtailkfoodjgipaaGreatDoorM1
set_option linter.unusedVariables false
set_option linter.unusedSimpArgs false
namespace Go.Fw
open Go.Proofs
abbrev i64R (n : Int) : Prop := -9223372036854775808 ≤ n ∧ n ≤ 9223372036854775807
theorem okTb : (bif okT then true else false) = true := by rw [okT_eq]; rfl
theorem hLen {n m : Nat} (h : n + m ≤ 4294967296) : (decide (n + m ≤ 4294967296) && true && true && true && true) = true := by simp; omega
theorem v62 (n : Int) (b : Bool) (ws : List ByteArray) (hn : i64R n) (hw : ws.length ≤ 100) : E 50 [nI n, .pb 0 0, .pb 1 0] [.nbx 1 (lstG [.B b]), .nbx 1 (lstG [owStrS ws])] =
    some (.tup 0 (lstG []), [.nbx 1 (lstG [.B (b && inR n 0 999999999)]), .nbx 1 (lstG [owStrS (ws ++ [txt n])])]) := by
  refine ev1 0 rfl ((e62 ..).trans ?_)
  have q := v63 n hn.1 hn.2
  have e1 : (ws ++ [txt n]).length = ws.length + 1 := by simp
  have e2 : (AV.own (ws.length + 1) 1 fun i => lstG [AV.S (bif decide (i < ws.length) then ws.getD i ByteArray.empty else bif decide (i - ws.length = 0) then txt n else ByteArray.empty)]) = owStrS (ws ++ [txt n]) := by
    rw [app_StrS, ← e1]
  have fin : ∀ b' : Bool, (some (AV.tup 0 (lstG []), [AV.nbx 1 (lstG [AV.B b']), AV.nbx 1 (lstG [AV.own (ws.length + 1) 1 fun i => lstG [AV.S (bif decide (i < ws.length) then ws.getD i ByteArray.empty else bif decide (i - ws.length = 0) then txt n else ByteArray.empty)]])]) : Option (AV × List AV)) = some (.tup 0 (lstG []), [.nbx 1 (lstG [.B b']), .nbx 1 (lstG [owStrS (ws ++ [txt n])])]) := fun b' => by rw [e2]
  cases b with
  | true => exact bt' rfl (obind' (v56 ..) (and2_both (obind' q (bt' (hLen (by omega)) (bt' okTb (fin _)))) (obind' q (bt' (hLen (by omega)) (bt' okTb (fin _))))))
  | false => exact bf' rfl (and2_both (obind' q (bt' (hLen (by omega)) (bt' okTb (fin _)))) (obind' q (bt' (hLen (by omega)) (bt' okTb (fin _)))))
def wordsL : List ByteArray := [bs [], bs [116, 101, 108, 108], bs [116, 101, 108, 108, 97, 108, 108], bs [97, 119, 97, 105, 116], bs [114, 97, 105, 115, 101], bs [114, 101, 115, 101, 116], bs [115, 116, 97, 110, 100], bs [100, 111, 119, 110], bs [108, 97, 116, 99, 104], bs [], bs [108, 111, 111, 107], bs [119, 97, 116, 99, 104], bs [115, 104, 117, 116], bs [112, 117, 98], bs [115, 117, 98], bs [114, 101, 99, 118], bs [117, 110, 115, 117, 98], bs [99, 108, 111, 115, 101], bs [99, 97, 110, 99, 101, 108], bs [116, 105, 109, 101, 114]]
def kindsL : List ByteArray := [bs [], bs [112, 117, 116], bs [97, 100, 100], bs [106, 111, 105, 110], bs [109, 111, 115, 116]]
/-- A call's first word. -/
def word1 (c : VCall) : ByteArray := if c.Op = 9 then kindsL.getD c.B.toNat ByteArray.empty else wordsL.getD c.Op.toNat ByteArray.empty
theorem callOk_op {c : VCall} (h : callOk c = true) : (1 ≤ c.Op ∧ c.Op ≤ 19) ∧ -1 ≤ c.Tok ∧ (blk c.Op = true ∨ c.Tok = -1) ∧ okBody c = true := by
  unfold callOk inR at h
  simp only [Bool.and_eq_true, Bool.or_eq_true, decide_eq_true_eq] at h
  exact ⟨h.1, h.2.1, h.2.2.1, h.2.2.2⟩
theorem okBody9 {c : VCall} (h : okBody c = true) (ho : c.Op = 9) : (1 ≤ c.B ∧ c.B ≤ 4) ∧ okMs c.Msg = true ∧ c.Filter = [] := by
  unfold okBody at h
  rw [if_neg (by omega), if_pos ho] at h
  simp [inR] at h
  exact ⟨h.1, h.2.1, h.2.2.2⟩
theorem v61 (c : VCall) (h1 : 1 ≤ c.Op ∧ c.Op ≤ 19) (h2 : c.Op = 9 → 1 ≤ c.B ∧ c.B ≤ 4) : E 49 [slCall c] [] = some (.S (word1 c), []) := by
  obtain ⟨Op, A, B, Tok, Name, Msg, Filter⟩ := c
  refine ev1 0 rfl ((e61 ..).trans ?_)
  simp only at h1 h2
  by_cases h9 : Op = 9
  · subst h9
    have hb := h2 rfl
    have : B = 1 ∨ B = 2 ∨ B = 3 ∨ B = 4 := by omega
    rcases this with rfl | rfl | rfl | rfl <;> rfl
  · have : Op = 1 ∨ Op = 2 ∨ Op = 3 ∨ Op = 4 ∨ Op = 5 ∨ Op = 6 ∨ Op = 7 ∨ Op = 8 ∨ Op = 10 ∨ Op = 11 ∨ Op = 12 ∨ Op = 13 ∨ Op = 14 ∨ Op = 15 ∨ Op = 16 ∨ Op = 17 ∨ Op = 18 ∨ Op = 19 := by omega
    rcases this with rfl | rfl | rfl | rfl | rfl | rfl | rfl | rfl | rfl | rfl | rfl | rfl | rfl | rfl | rfl | rfl | rfl | rfl <;> rfl
/-- Words with blanks between. -/
def jw : List ByteArray → ByteArray
  | [] => ByteArray.empty
  | x :: r => r.foldl (fun s w => s ++ bs [32] ++ w) x
theorem jw_snoc (ws : List ByteArray) (w : ByteArray) (h : ws ≠ []) : jw (ws ++ [w]) = jw ws ++ bs [32] ++ w := by
  cases ws with
  | nil => exact absurd rfl h
  | cons x r => simp [jw, List.foldl_append]
theorem foldl_tail (r : List ByteArray) : ∀ x : ByteArray, (r.foldl (fun s w => s ++ bs [32] ++ w) x).data.toList = x.data.toList ++ Lib.joinTail [32] (r.map (·.data.toList)) := by
  induction r with
  | nil => intro x; simp [Lib.joinTail]
  | cons w r ih => intro x; rw [List.foldl_cons, ih, dapp, dapp]; simp [Lib.joinTail]
theorem jw_join (ws : List ByteArray) : (⟨(Lib.join (ws.map (·.data.toList)) [32]).toArray⟩ : ByteArray) = jw ws := by
  refine ba_ext ?_
  cases ws with
  | nil => rfl
  | cons x r =>
    show Lib.join _ _ = (r.foldl (fun s w => s ++ bs [32] ++ w) x).data.toList
    rw [foldl_tail, List.map_cons, Lib.join_cons]
abbrev W1 (c : VCall) : List ByteArray := [word1 c] ++ [if c.Op = 13 then c.Name else txt (if c.Op = 15 ∨ c.Op = 16 then c.B else c.A)]
abbrev W2 (c : VCall) : List ByteArray := if c.Op = 7 ∨ c.Op = 19 then [txt c.B] else []
abbrev W3 (c : VCall) : List ByteArray := if 0 ≤ c.Tok then [bs [98, 121], txt c.Tok] else []
abbrev W4 (c : VCall) : List ByteArray := if c.Op = 9 ∨ c.Op = 13 then [msgTxt c.Msg] else []
abbrev W5 (c : VCall) : List ByteArray := (if c.Op = 14 ∧ c.B = 1 then [bs [98, 97, 99, 107]] else []) ++ (if emp (filtTxt c.Filter) = true then [] else [bs [105, 102], filtTxt c.Filter])
abbrev st37 (c : VCall) (ts : List (Nat × AV)) (ws : List ByteArray) (q : Bool) : St := hdS ts [(643072, ⟨ws.length, 1, gsStrS ws⟩)] [bx65 c, (68, 1, [.rf 643072]), (69, 1, [.B q])]
abbrev clo37 : AV := .clo 50 2 (lstG [.pb 69 0, .pb 68 0])
theorem app2 (ws : List ByteArray) (x y : ByteArray) : (fun i => lstG [AV.S (bif decide (i < ws.length) then ws.getD i ByteArray.empty else bif decide (i - ws.length = 0) then x else bif decide (i - ws.length - 1 = 0) then y else ByteArray.empty)]) = goStrS (ws ++ [x, y]) := by
  funext i
  unfold goStrS
  congr 2
  by_cases h : i < ws.length
  · simp [h, List.getD_eq_getElem?_getD, List.getElem?_append_left h]
  · rw [decide_eq_false h]
    simp only [cond_false, List.getD_eq_getElem?_getD]
    rw [List.getElem?_append_right (by omega)]
    generalize i - ws.length = j
    match j with
    | 0 => rfl
    | 1 => rfl
    | j + 2 => simp
theorem app1D (ws : List ByteArray) (x : ByteArray) (i : Nat) : (bif decide (i < ws.length) then ws.getD i ByteArray.empty else bif decide (i - ws.length = 0) then x else ByteArray.empty) = (ws ++ [x]).getD i ByteArray.empty := by
  by_cases h : i < ws.length
  · simp [h, List.getD_eq_getElem?_getD, List.getElem?_append_left h]
  · rw [decide_eq_false h]
    simp only [cond_false, List.getD_eq_getElem?_getD]
    rw [List.getElem?_append_right (by omega)]
    generalize i - ws.length = j
    match j with
    | 0 => rfl
    | j + 1 => simp
theorem l37e (c : VCall) (hf : c.Filter.length ≤ 4294967296) (hs : small c.Filter) (ws : List ByteArray) (hw : ws.length ≤ 50) (q : Bool) (k : Nat) :
    HH 23 [] (k + 1) [true, true, true, true, true, true, true, true, false, false] (st37 c [(1, .pb 65 0), (4, .pb 68 0), (5, .pb 69 0), (76, .B (decide (c.Op = 14) && decide (c.B = 1)))] ws q) = some (.tup 2 (lstG [owStrS (ws ++ W5 c), .B q]), []) := by
  have q65 := v65 c.Filter hf hs
  rw [hstep, h37e]
  have e1 : ∀ x : ByteArray, (ws ++ [x]).length = ws.length + 1 := fun x => by simp
  have e2 : ∀ x y : ByteArray, (ws ++ [x, y]).length = ws.length + 2 := fun x y => by simp
  by_cases h : c.Op = 14 ∧ c.B = 1
  · rw [W5, if_pos h]
    refine bt' (by simp [h]) (bt' (hLen (by omega)) (obind' q65 ?_))
    cases he : emp (filtTxt c.Filter) with
    | true =>
      refine bf' (by show (!emp (filtTxt c.Filter)) = false; rw [he]; rfl) (bt' okTb ?_)
      rw [if_pos rfl, List.append_nil]
      show some (AV.tup 2 (lstG [AV.own (ws.length + 1) 1 _, AV.B q]), []) = _
      rw [app_StrS, ← e1 (bs [98, 97, 99, 107])]
    | false =>
      refine bt' (by show (!emp (filtTxt c.Filter)) = true; rw [he]; rfl) (bt' (hLen (by omega)) (bt' okTb ?_))
      rw [if_neg (by simp)]
      have e3 : ws.length + 1 + 2 = (ws ++ [bs [98, 97, 99, 107]] ++ [bs [105, 102], filtTxt c.Filter]).length := by simp
      show some (AV.tup 2 (lstG [AV.own (ws.length + 1 + 2) 1 fun i => lstG [AV.S (bif decide (i < ws.length + 1) then bif decide (i < ws.length) then ws.getD i ByteArray.empty else bif decide (i - ws.length = 0) then bs [98, 97, 99, 107] else ByteArray.empty else bif decide (i - (ws.length + 1) = 0) then bs [105, 102] else bif decide (i - (ws.length + 1) - 1 = 0) then filtTxt c.Filter else ByteArray.empty)], AV.B q]), []) = _
      simp only [app1D]
      rw [← e1 (bs [98, 97, 99, 107]), app2, e1, e3, List.append_assoc]
  · rw [W5, if_neg h, List.nil_append]
    refine bf' (by simp only [Bool.and_eq_false_iff, decide_eq_false_iff_not]; omega) (obind' q65 ?_)
    cases he : emp (filtTxt c.Filter) with
    | true =>
      refine bf' (by show (!emp (filtTxt c.Filter)) = false; rw [he]; rfl) (bt' okTb ?_)
      rw [if_pos rfl, List.append_nil]
      rfl
    | false =>
      refine bt' (by show (!emp (filtTxt c.Filter)) = true; rw [he]; rfl) (bt' (hLen (by omega)) (bt' okTb ?_))
      rw [if_neg (by simp)]
      show some (AV.tup 2 (lstG [AV.own (ws.length + 2) 1 fun i => lstG [AV.S (bif decide (i < ws.length) then ws.getD i ByteArray.empty else bif decide (i - ws.length = 0) then bs [105, 102] else bif decide (i - ws.length - 1 = 0) then filtTxt c.Filter else ByteArray.empty)], AV.B q]), []) = _
      rw [app2, ← e2 (bs [105, 102]) (filtTxt c.Filter)]
theorem l37d (c : VCall) (hf : c.Filter.length ≤ 4294967296) (hs : small c.Filter) (hm : c.Msg.Text.size ≤ 4000000000) (ws : List ByteArray) (hw : ws.length ≤ 40) (q : Bool) (k : Nat) :
    HH 23 [] (k + 2) [true, true, true, true, true, true, true, false, false] (st37 c [(1, .pb 65 0), (4, .pb 68 0), (5, .pb 69 0), (62, .B (decide (c.Op = 9) || decide (c.Op = 13)))] ws q) = some (.tup 2 (lstG [owStrS (ws ++ W4 c ++ W5 c), .B q]), []) := by
  have q64 := v64 c.Msg hm
  have e1 : ∀ x : ByteArray, (ws ++ [x]).length = ws.length + 1 := fun x => by simp
  rw [hstep, h37d]
  by_cases h : c.Op = 9 ∨ c.Op = 13
  · have L := l37e c hf hs (ws ++ [msgTxt c.Msg]) (by rw [e1]; omega) q k
    have h14 : decide (c.Op = 14) = false := decide_eq_false (by omega)
    rw [W4, if_pos h]
    rw [h14, Bool.false_and] at L
    have fin : (Option.bind (E 52 [slMsg c.Msg] []) fun r2 =>
      bif decide (ws.length + 1 ≤ 4294967296) && true && true && true && true then
        (bif decide (c.Op = 14) then
          (HH 23 [] (k + 1) [true, true, true, true, true, true, true, true, false, false] (hdS [(1, AV.pb 65 0), (4, AV.pb 68 0), (5, AV.pb 69 0), (76, AV.B (decide (c.B = 1)))] [(643072, ⟨ws.length + 1, 1, fun i => lstG [AV.S (bif decide (i < ws.length) then ws.getD i ByteArray.empty else bif decide (i - ws.length = 0) then asS r2.fst else ByteArray.empty)]⟩)] [bx65 c, (68, 1, [AV.rf 643072]), (69, 1, [AV.B q])]))
        else
          (HH 23 [] (k + 1) [true, true, true, true, true, true, true, true, false, false] (hdS [(1, AV.pb 65 0), (4, AV.pb 68 0), (5, AV.pb 69 0), (76, AV.B false)] [(643072, ⟨ws.length + 1, 1, fun i => lstG [AV.S (bif decide (i < ws.length) then ws.getD i ByteArray.empty else bif decide (i - ws.length = 0) then asS r2.fst else ByteArray.empty)]⟩)] [bx65 c, (68, 1, [AV.rf 643072]), (69, 1, [AV.B q])])))
      else
        (none)) = some (.tup 2 (lstG [owStrS (ws ++ [msgTxt c.Msg] ++ W5 c), .B q]), []) := by
      refine obind' q64 (bt' (hLen (by omega)) (bf' h14 ?_))
      show HH 23 [] (k + 1) [true, true, true, true, true, true, true, true, false, false] (hdS [(1, AV.pb 65 0), (4, AV.pb 68 0), (5, AV.pb 69 0), (76, AV.B false)] [(643072, ⟨ws.length + 1, 1, fun i => lstG [AV.S (bif decide (i < ws.length) then ws.getD i ByteArray.empty else bif decide (i - ws.length = 0) then msgTxt c.Msg else ByteArray.empty)]⟩)] [bx65 c, (68, 1, [AV.rf 643072]), (69, 1, [AV.B q])]) = _
      rw [app_StrS, ← e1 (msgTxt c.Msg)]
      exact L
    refine bt' (by simpa using h) (and2_both ?_ ?_)
    · exact fin
    · exact fin
  · have L := l37e c hf hs ws (by omega) q k
    rw [W4, if_neg h, List.append_nil]
    refine bf' (by simpa using h) ?_
    by_cases h14 : c.Op = 14
    · rw [decide_eq_true h14, Bool.true_and] at L
      exact bt' (decide_eq_true h14) L
    · rw [decide_eq_false h14, Bool.false_and] at L
      exact bf' (decide_eq_false h14) L
theorem l37c (c : VCall) (hf : c.Filter.length ≤ 4294967296) (hs : small c.Filter) (hm : c.Msg.Text.size ≤ 4000000000) (ht : i64R c.Tok) (ws : List ByteArray) (hw : ws.length ≤ 20) (q : Bool) (k : Nat) :
    HH 23 [] (k + 3) [true, true, true, true, true, true, false, false] (st37 c [(1, .pb 65 0), (4, .pb 68 0), (5, .pb 69 0), (6, clo37), (47, .B (decide (0 ≤ c.Tok)))] ws q) = some (.tup 2 (lstG [owStrS (ws ++ W3 c ++ W4 c ++ W5 c), .B (if 0 ≤ c.Tok then q && inR c.Tok 0 999999999 else q)]), []) := by
  have e1 : ∀ x : ByteArray, (ws ++ [x]).length = ws.length + 1 := fun x => by simp
  have hor : ∀ X Y : Option (AV × List AV), ∀ r, (decide (c.Op = 9) = true → X = r) → (decide (c.Op = 9) = false → Y = r) → (bif decide (c.Op = 9) then X else Y) = r := fun X Y r h1 h2 => by
    cases hd : decide (c.Op = 9) with
    | true => exact h1 hd
    | false => exact h2 hd
  rw [hstep, h37c]
  by_cases h : 0 ≤ c.Tok
  · have q62 := v62 c.Tok q (ws ++ [bs [98, 121]]) ht (by rw [e1]; omega)
    have L := l37d c hf hs hm (ws ++ [bs [98, 121]] ++ [txt c.Tok]) (by simp; omega) (q && inR c.Tok 0 999999999) k
    rw [W3, if_pos h, if_pos h]
    have ew : ws ++ [bs [98, 121]] ++ [txt c.Tok] = ws ++ [bs [98, 121], txt c.Tok] := by simp
    rw [ew] at L q62
    refine bt' (decide_eq_true h) (bt' (hLen (by omega)) ?_)
    have eo : (AV.own (ws.length + 1) 1 fun i j => mrg (decide (i < ws.length)) (gsStrS ws i j) (mrg (decide (i - ws.length = 0)) (lstG [AV.S (bs [98, 121])] j) (lstG [AV.S ByteArray.empty] j)).noOwn) = owStrS (ws ++ [bs [98, 121]]) := by
      have ef : (fun i j => mrg (decide (i < ws.length)) (gsStrS ws i j) (mrg (decide (i - ws.length = 0)) (lstG [AV.S (bs [98, 121])] j) (lstG [AV.S ByteArray.empty] j)).noOwn) = goStrS (ws ++ [bs [98, 121]]) := by
        funext i j
        cases j with
        | zero =>
          have a : ∀ (p q : Bool) (x y z : ByteArray), mrg p (AV.S x) (mrg q (AV.S y) (AV.S z)).noOwn = AV.S (bif p then x else bif q then y else z) := fun p q x y z => rfl
          exact (a (decide (i < ws.length)) (decide (i - ws.length = 0)) (ws.getD i ByteArray.empty) (bs [98, 121]) ByteArray.empty).trans (congrArg AV.S (app1D ws (bs [98, 121]) i))
        | succ j =>
          have a : ∀ (p q : Bool), mrg p AV.bad (mrg q AV.bad AV.bad).noOwn = AV.bad := fun p q => by cases p <;> cases q <;> rfl
          exact a (decide (i < ws.length)) (decide (i - ws.length = 0))
      rw [ef, ← e1 (bs [98, 121])]
    rw [eo]
    refine obind' q62 (hor _ _ _ (fun hd => ?_) (fun hd => ?_))
    · rw [hd, Bool.true_or] at L; exact L
    · rw [hd, Bool.false_or] at L; exact L
  · have L := l37d c hf hs hm ws (by omega) q k
    rw [W3, if_neg h, if_neg h, List.append_nil]
    refine bf' (decide_eq_false h) (hor _ _ _ (fun hd => ?_) (fun hd => ?_))
    · rw [hd, Bool.true_or] at L; exact L
    · rw [hd, Bool.false_or] at L; exact L
theorem bor {X Y r : Option (AV × List AV)} (d : Bool) (h1 : d = true → X = r) (h2 : d = false → Y = r) : (bif d then X else Y) = r := by cases d; exact h2 rfl; exact h1 rfl
abbrev K3 (c : VCall) (q : Bool) : Bool := if 0 ≤ c.Tok then q && inR c.Tok 0 999999999 else q
abbrev K2' (c : VCall) (q : Bool) : Bool := if c.Op = 7 ∨ c.Op = 19 then q && inR c.B 0 999999999 else q
abbrev K1 (c : VCall) : Bool := if c.Op = 13 then true else inR (if c.Op = 15 ∨ c.Op = 16 then c.B else c.A) 0 999999999
/-- What the text of a call asks of its members. -/
structure Fit (c : VCall) : Prop where
  hf : c.Filter.length ≤ 4294967296
  hs : small c.Filter
  hn : c.Name.size ≤ 1048576
  hm : c.Msg.Text.size ≤ 1048576
  hA : i64R c.A
  hB : i64R c.B
  hT : i64R c.Tok
theorem l37b (c : VCall) (hx : Fit c) (ws : List ByteArray) (hw : ws.length ≤ 10) (q : Bool) (k : Nat) :
    HH 23 [] (k + 4) [true, true, true, true, true, false, false] (st37 c [(1, .pb 65 0), (4, .pb 68 0), (5, .pb 69 0), (6, clo37), (40, .B (decide (c.Op = 7) || decide (c.Op = 19)))] ws q) = some (.tup 2 (lstG [owStrS (ws ++ W2 c ++ W3 c ++ W4 c ++ W5 c), .B (K3 c (K2' c q))]), []) := by
  have e1 : ∀ x : ByteArray, (ws ++ [x]).length = ws.length + 1 := fun x => by simp
  rw [hstep, h37b]
  by_cases h : c.Op = 7 ∨ c.Op = 19
  · have L := l37c c hx.hf hx.hs (by have := hx.hm; omega) hx.hT (ws ++ [txt c.B]) (by rw [e1]; omega) (q && inR c.B 0 999999999) k
    rw [W2, if_pos h, K2', if_pos h]
    exact bt' (by simpa using h) (obind' (v62 c.B q ws hx.hB (by omega)) L)
  · have L := l37c c hx.hf hx.hs (by have := hx.hm; omega) hx.hT ws (by omega) q k
    rw [W2, if_neg h, K2', if_neg h, List.append_nil]
    exact bf' (by simpa using h) L
theorem l37a (c : VCall) (hx : Fit c) (k : Nat) :
    HH 23 [] (k + 5) [true, true, true, true, false, false] (st37 c [(1, .pb 65 0), (4, .pb 68 0), (5, .pb 69 0), (6, clo37), (14, nI c.Op)] [word1 c] true) = some (.tup 2 (lstG [owStrS (W1 c ++ W2 c ++ W3 c ++ W4 c ++ W5 c), .B (K3 c (K2' c (K1 c)))]), []) := by
  have q62 := fun n hn => v62 n true [word1 c] hn (by simp)
  rw [hstep, h37a]
  by_cases h13 : c.Op = 13
  · have L := l37b c hx ([word1 c] ++ [c.Name]) (by simp) true k
    rw [W1, if_pos h13, K1, if_pos h13]
    refine bt' (decide_eq_true h13) (bt' (hLen (by simp)) (bor _ (fun hd => ?_) (fun hd => ?_)))
    · have := of_decide_eq_true hd; omega
    · rw [hd, Bool.false_or] at L
      show HH 23 [] (k + 4) [true, true, true, true, true, false, false] (hdS [(1, AV.pb 65 0), (4, AV.pb 68 0), (5, AV.pb 69 0), (6, clo37), (40, AV.B (decide (c.Op = 19)))] [(643072, ⟨[word1 c].length + 1, 1, fun i => lstG [AV.S (bif decide (i < [word1 c].length) then [word1 c].getD i ByteArray.empty else bif decide (i - [word1 c].length = 0) then c.Name else ByteArray.empty)]⟩)] [bx65 c, (68, 1, [AV.rf 643072]), (69, 1, [AV.B true])]) = _
      rw [app_StrS]
      exact L
  · rw [W1, if_neg h13, K1, if_neg h13]
    refine bf' (decide_eq_false h13) ?_
    have fin : ∀ n, i64R n → (Option.bind (E 50 [nI n, AV.pb 0 0, AV.pb 1 0] [AV.nbx 1 (lstG [AV.B true]), AV.nbx 1 (lstG [owStrS [word1 c]])]) fun r3 =>
        bif decide (c.Op = 7) then
          (HH 23 [] (k + 4) [true, true, true, true, true, false, false] (hdS [(1, AV.pb 65 0), (4, AV.pb 68 0), (5, AV.pb 69 0), (6, clo37), (40, AV.B true)] [(643072, ⟨asN (asA (r3.snd.tail.headD AV.bad) 0), 1, fun i => lstG [AV.S (asS (asG (asA (r3.snd.tail.headD AV.bad) 0) i 0))]⟩)] [bx65 c, (68, 1, [AV.rf 643072]), (69, 1, [AV.B (asB (asA (r3.snd.headD AV.bad) 0))])]))
        else
          (HH 23 [] (k + 4) [true, true, true, true, true, false, false] (hdS [(1, AV.pb 65 0), (4, AV.pb 68 0), (5, AV.pb 69 0), (6, clo37), (40, AV.B (decide (c.Op = 19)))] [(643072, ⟨asN (asA (r3.snd.tail.headD AV.bad) 0), 1, fun i => lstG [AV.S (asS (asG (asA (r3.snd.tail.headD AV.bad) 0) i 0))]⟩)] [bx65 c, (68, 1, [AV.rf 643072]), (69, 1, [AV.B (asB (asA (r3.snd.headD AV.bad) 0))])]))) =
        some (.tup 2 (lstG [owStrS ([word1 c] ++ [txt n] ++ W2 c ++ W3 c ++ W4 c ++ W5 c), .B (K3 c (K2' c (inR n 0 999999999)))]), []) := fun n hn => by
      have L := l37b c hx ([word1 c] ++ [txt n]) (by simp) (inR n 0 999999999) k
      refine obind' (q62 n hn) (bor _ (fun hd => ?_) (fun hd => ?_))
      · rw [hd, Bool.true_or] at L; exact L
      · rw [hd, Bool.false_or] at L; exact L
    by_cases h15 : c.Op = 15
    · rw [if_pos (.inl h15)]
      exact bt' (decide_eq_true h15) (bt' (decide_eq_true h15) (fin c.B hx.hB))
    · refine bf' (decide_eq_false h15) ?_
      by_cases h16 : c.Op = 16
      · rw [if_pos (.inr h16)]
        exact bt' (decide_eq_true h16) (fin c.B hx.hB)
      · rw [if_neg (by omega)]
        exact bf' (decide_eq_false h16) (fin c.A hx.hA)
/-- A call's words, and whether its numbers have texts. -/
abbrev WW (c : VCall) : List ByteArray := W1 c ++ W2 c ++ W3 c ++ W4 c ++ W5 c
abbrev KK (c : VCall) : Bool := K3 c (K2' c (K1 c))
theorem v37 (c : VCall) (hx : Fit c) (hk : callOk c = true) : E 23 [slCall c] [] = some (.tup 2 (lstG [owStrS (WW c), .B (KK c)]), []) := by
  have ho := callOk_op hk
  refine ev1 5 rfl ((e37 ..).trans (obind' (v61 c ho.1 (fun h9 => (okBody9 ho.2.2.2 h9).1)) ?_))
  have e : (fun i => lstG [AV.S (bif decide (i = 0) then word1 c else ByteArray.empty)]) = gsStrS [word1 c] := by
    funext i
    unfold gsStrS
    cases i with
    | zero => rfl
    | succ i => simp
  have L := l37a c hx 0
  show HH 23 [] 5 [true, true, true, true, false, false] (hdS [(1, AV.pb 65 0), (4, AV.pb 68 0), (5, AV.pb 69 0), (6, clo37), (14, nI c.Op)] [(643072, ⟨1, 1, fun i => lstG [AV.S (bif decide (i = 0) then word1 c else ByteArray.empty)]⟩)] [bx65 c, (68, 1, [AV.rf 643072]), (69, 1, [AV.B true])]) = _
  rw [e]
  exact L
end Go.Fw
