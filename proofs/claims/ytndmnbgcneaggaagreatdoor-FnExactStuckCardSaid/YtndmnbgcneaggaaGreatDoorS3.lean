/- Values: filters, calls. -/
import Derived.Test.YtndmnbgcneaggaaGreatDoorS2
set_option linter.unusedVariables false
set_option linter.unusedSimpArgs false
namespace Go.Fw
open Go.Proofs
theorem bselB (a b c : Bool) : (bif a then some (AV.B b, ([] : List AV)) else some (AV.B c, [])) = some (AV.B (bif a then b else c), []) := by cases a <;> rfl
def isOp (n : Int) (l : List Int) : Bool := l.any fun k => decide (n = k)
def okTm (t : VTerm) : Bool :=
 if isOp t.Op [1, 2, 3, 8, 9, 10] = true then decide (t.Num = 0) && emp t.Text
 else if t.Op = 4 then inR t.Num (-999999999) 999999999 && emp t.Text
 else if t.Op = 5 then inR t.Num 1 999999999 && emp t.Text
 else if isOp t.Op [6, 7] = true then decide (t.Num = 0) && okPart t.Text
 else false
def tk (t : VTerm) : Int := if t.Op = 8 then 1 else if isOp t.Op [9, 10] = true then 2 else 0
theorem op_cases (n : Int) : n = 1 ∨ n = 2 ∨ n = 3 ∨ n = 4 ∨ n = 5 ∨ n = 6 ∨ n = 7 ∨ n = 8 ∨ n = 9 ∨ n = 10 ∨ (n ≠ 1 ∧ n ≠ 2 ∧ n ≠ 3 ∧ n ≠ 4 ∧ n ≠ 5 ∧ n ≠ 6 ∧ n ≠ 7 ∧ n ≠ 8 ∧ n ≠ 9 ∧ n ≠ 10) := by omega
theorem v237 (t : VTerm) : E 237 [slTerm t] [] = some (nI (tk t), []) := by
 refine ev1 0 rfl ((e237 ..).trans ?_)
 rcases op_cases t.Op with h | h | h | h | h | h | h | h | h | h | ⟨h1, h2, h3, h4, h5, h6, h7, h8, h9, h10⟩
 all_goals first | simp [tk, isOp, h] | simp [tk, isOp, h1, h2, h3, h4, h5, h6, h7, h8, h9, h10]
theorem v236 (t : VTerm) (hs : t.Text.size ≤ 4294967296) : E 236 [slTerm t] [] = some (.B (okTm t), []) := by
 have a1 := v86 t.Num (-999999999) 999999999
 have a2 := v86 t.Num 1 999999999
 have a3 := v263 t.Text hs
 refine ev1 0 rfl ((e236 ..).trans ?_)
 simp only [a1, a2, a3, Option.bind_some, asB]
 unfold okTm emp
 generalize inR t.Num (-999999999) 999999999 = x1
 generalize inR t.Num 1 999999999 = x2
 generalize okPart t.Text = x3
 generalize (t.Text.toList == ByteArray.empty.toList) = x4
 generalize decide (t.Num = 0) = x5
 rcases op_cases t.Op with h | h | h | h | h | h | h | h | h | h | ⟨h1, h2, h3, h4, h5, h6, h7, h8, h9, h10⟩
 all_goals first
  | (simp only [h, isOp]; cases x1 <;> cases x2 <;> cases x3 <;> cases x4 <;> cases x5 <;> rfl)
  | (simp [isOp, h1, h2, h3, h4, h5, h6, h7, h8, h9, h10])
theorem v128 (t : VTerm) (hs : t.Text.size ≤ 4294967296) : E 128 [slTerm t] [] = some (nI (if okTm t = true then tk t else -1), []) := by
 have a1 := v22 t.Num (-999999999) 999999999
 have a2 := v22 t.Num 1 999999999
 have a3 := v203 t.Text hs
 refine ev1 0 rfl ((e128 ..).trans ?_)
 simp only [a1, a2, a3, Option.bind_some, asB]
 unfold okTm emp tk
 by_cases hn : t.Num = 0
 · simp only [decide_eq_true hn]
   generalize inR t.Num (-999999999) 999999999 = x1
   generalize inR t.Num 1 999999999 = x2
   generalize okPart t.Text = x3
   generalize (t.Text.toList == ByteArray.empty.toList) = x4
   rcases op_cases t.Op with h | h | h | h | h | h | h | h | h | h | ⟨h1, h2, h3, h4, h5, h6, h7, h8, h9, h10⟩
   all_goals first
    | (simp only [h, isOp]; cases x1 <;> cases x2 <;> cases x3 <;> cases x4 <;> rfl)
    | (simp [isOp, h1, h2, h3, h4, h5, h6, h7, h8, h9, h10])
 · simp only [decide_eq_false hn]
   generalize inR t.Num (-999999999) 999999999 = x1
   generalize inR t.Num 1 999999999 = x2
   generalize okPart t.Text = x3
   generalize (t.Text.toList == ByteArray.empty.toList) = x4
   rcases op_cases t.Op with h | h | h | h | h | h | h | h | h | h | ⟨h1, h2, h3, h4, h5, h6, h7, h8, h9, h10⟩
   all_goals first
    | (simp only [h, isOp]; cases x1 <;> cases x2 <;> cases x3 <;> cases x4 <;> rfl)
    | (simp [isOp, h1, h2, h3, h4, h5, h6, h7, h8, h9, h10])
theorem and2_self {R : Type} (x : Option R) : and2 x x = x := by simp [and2]
def ff (ts : List VTerm) : Nat → Nat → Int → Bool
 | 0, _, n => decide (n = 1) || decide (ts.length = 0)
 | k + 1, i, n => okTm (ts.getD i zTerm) && (decide (tk (ts.getD i zTerm) ≤ n) && ff ts k (i + 1) (n - tk (ts.getD i zTerm) + 1))
def filtOk (ts : List VTerm) : Bool := decide (ts.length ≤ 12) && ff ts ts.length 0 0
theorem tk_rng (t : VTerm) : 0 ≤ tk t ∧ tk t ≤ 2 := by
 unfold tk; split
 · omega
 · split <;> omega
abbrev small (ts : List VTerm) : Prop := ∀ x ∈ ts, x.Text.size ≤ 1048576
theorem l51 (ts : List VTerm) (hl : ts.length ≤ 4294967296) (hs : small ts) : ∀ (k i : Nat) (n : Int), i + k = ts.length → 0 ≤ n → n ≤ i →
  HH 51 [] (k + 1) [true, true, true, false, true] (hdS [(0, slTermS ts), (3, nI n), (4, nI (i : Int))] [] []) = some (.B (ff ts k i n), []) := by
 intro k
 induction k with
 | zero =>
  intro i n hi h0 h1
  rw [hstep, h51, bf (by simp [zN]; omega)]
  have : decide (zN ts.length = 0) = decide (ts.length = 0) := by by_cases h : ts.length = 0 <;> simp [zN, h]
  rw [this]
  show _ = some (AV.B (decide (n = 1) || decide (ts.length = 0)), [])
  cases decide (n = 1) <;> rfl
 | succ k ih =>
  intro i n hi h0 h1
  have hi2 : i < ts.length := by omega
  have q := v128 (ts.getD i zTerm) (Nat.le_trans (hs _ (getD_mem hi2)) (by omega))
  have ht := tk_rng (ts.getD i zTerm)
  rw [hstep, h51, bt (by simp [zN]; omega), bt (bndL hi2), Int.toNat_natCast]
  refine obind' q ?_
  show _ = some (AV.B (okTm (ts.getD i zTerm) && (decide (tk (ts.getD i zTerm) ≤ n) && ff ts k (i + 1) (n - tk (ts.getD i zTerm) + 1))), [])
  cases ho : okTm (ts.getD i zTerm) with
  | false => exact bt' (by rfl) rfl
  | true =>
   refine bf' (by show decide (tk (ts.getD i zTerm) < 0) = false; exact decide_eq_false (by omega)) ?_
   show (bif decide (n < tk (ts.getD i zTerm)) then _ else _) = _
   by_cases c : tk (ts.getD i zTerm) ≤ n
   · refine bf' (decide_eq_false (by omega)) ?_
     rw [decide_eq_true c]
     show HH 51 [] (k + 1) _ (hdS [(0, slTermS ts), (3, nI (IntKind.i64.wrap (IntKind.i64.wrap (n - tk (ts.getD i zTerm)) + 1))), (4, nI (IntKind.i64.wrap ((i : Int) + 1)))] [] []) = _
     rw [wrapN (by omega), wrapS (x := n - tk (ts.getD i zTerm)) (by omega) (by omega), wrapS (by omega) (by omega)]
     exact ih (i + 1) _ (by omega) (by omega) (by omega)
   · refine bt' (decide_eq_true (by omega)) ?_
     rw [decide_eq_false c]; rfl
theorem v51 (ts : List VTerm) (hl : ts.length ≤ 4294967296) (hs : small ts) : E 51 [slTermS ts] [] = some (.B (filtOk ts), []) := by
 refine ev1 (ts.length + 1) rfl ((e51 ..).trans ?_)
 unfold filtOk
 by_cases c : ts.length ≤ 12
 · rw [decide_eq_true c]
   exact bf' (by simp [zN]; omega) (l51 ts hl hs ts.length 0 0 (by omega) (by omega) (by omega))
 · rw [decide_eq_false c]
   exact bt' (by simp [zN]; omega) rfl
theorem l165 (ts : List VTerm) (hl : ts.length ≤ 4294967296) (hs : small ts) : ∀ (k i : Nat) (n : Int), i + k = ts.length → 0 ≤ n → n ≤ i →
  HH 165 [] (k + 1) [true, true, false, true] (hdS [(0, slTermS ts), (3, nI n), (6, slTermS ts), (7, nI (zN ts.length)), (8, nI (i : Int))] [] []) = some (.B (decide (ts.length ≤ 12) && ff ts k i n), []) := by
 intro k
 induction k with
 | zero =>
  intro i n hi h0 h1
  rw [hstep, h165, bf (by simp [zN]; omega)]
  have e1 : decide (zN ts.length = 0) = decide (ts.length = 0) := by by_cases h : ts.length = 0 <;> simp [zN, h]
  have e2 : decide (zN ts.length ≤ 12) = decide (ts.length ≤ 12) := by simp only [zN]; by_cases h : ts.length ≤ 12 <;> simp [h] <;> omega
  rw [e1, e2]
  show _ = some (AV.B (decide (ts.length ≤ 12) && (decide (n = 1) || decide (ts.length = 0))), [])
  cases decide (n = 1) <;> cases decide (ts.length ≤ 12) <;> rfl
 | succ k ih =>
  intro i n hi h0 h1
  have hi2 : i < ts.length := by omega
  have q := v236 (ts.getD i zTerm) (Nat.le_trans (hs _ (getD_mem hi2)) (by omega))
  have q2 := v237 (ts.getD i zTerm)
  have ht := tk_rng (ts.getD i zTerm)
  rw [hstep, h165, bt (by simp [zN]; omega), bt (bndL hi2), Int.toNat_natCast]
  refine obind' q ?_
  show _ = some (AV.B (decide (ts.length ≤ 12) && (okTm (ts.getD i zTerm) && (decide (tk (ts.getD i zTerm) ≤ n) && ff ts k (i + 1) (n - tk (ts.getD i zTerm) + 1)))), [])
  cases ho : okTm (ts.getD i zTerm) with
  | false => refine bt' rfl ?_; cases decide (ts.length ≤ 12) <;> rfl
  | true =>
   refine bf' rfl (obind' q2 ?_)
   show (bif decide (n < tk (ts.getD i zTerm)) then _ else _) = _
   by_cases c : tk (ts.getD i zTerm) ≤ n
   · refine bf' (decide_eq_false (by omega)) (obind' q2 ?_)
     rw [decide_eq_true c]
     show HH 165 [] (k + 1) _ (hdS [(0, slTermS ts), (3, nI (IntKind.i64.wrap (n + IntKind.i64.wrap (1 - tk (ts.getD i zTerm))))), (6, slTermS ts), (7, nI (zN ts.length)), (8, nI (IntKind.i64.wrap ((i : Int) + 1)))] [] []) = _
     rw [wrapN (by omega), wrapS (x := 1 - tk (ts.getD i zTerm)) (by omega) (by omega), wrapS (by omega) (by omega), show n + (1 - tk (ts.getD i zTerm)) = n - tk (ts.getD i zTerm) + 1 by omega]
     exact ih (i + 1) _ (by omega) (by omega) (by omega)
   · refine bt' (decide_eq_true (by omega)) ?_
     rw [decide_eq_false c]; cases decide (ts.length ≤ 12) <;> rfl
theorem v165 (ts : List VTerm) (hl : ts.length ≤ 4294967296) (hs : small ts) : E 165 [slTermS ts] [] = some (.B (filtOk ts), []) :=
 ev1 (ts.length + 1) rfl ((e165 ..).trans (l165 ts hl hs ts.length 0 0 (by omega) (by omega) (by omega)))
def blk (n : Int) : Bool := isOp n [3, 6, 8, 11, 15]
theorem v87 (n : Int) : E 87 [nI n] [] = some (.B (blk n), []) := by
 refine ev1 0 rfl ((e87 ..).trans ?_)
 simp only [bselB, blk, isOp, List.any_cons, List.any_nil]
 cases decide (n = 3) <;> cases decide (n = 6) <;> cases decide (n = 8) <;> cases decide (n = 11) <;> cases decide (n = 15) <;> rfl
theorem v24 (n : Int) : E 24 [nI n] [] = some (.B (blk n), []) := by
 refine ev1 0 rfl ((e24 ..).trans ?_)
 simp only [bselB, blk, isOp, List.any_cons, List.any_nil]
 cases decide (n = 3) <;> cases decide (n = 6) <;> cases decide (n = 8) <;> cases decide (n = 11) <;> cases decide (n = 15) <;> rfl
abbrev zm (m : VMsg) : Bool := bif decide (m.Kind = 0) then bif decide (m.Num = 0) then bif m.Text.toList == ByteArray.empty.toList then true else false else false else false
def okBody (c : VCall) : Bool :=
 if c.Op = 7 ∨ c.Op = 19 then emp c.Name && (zm c.Msg && decide (c.Filter.length = 0))
 else if c.Op = 9 then inR c.B 1 4 && (okMs c.Msg && (emp c.Name && decide (c.Filter.length = 0)))
 else if c.Op = 13 then okPatS c.Name && (okMs c.Msg && (decide (c.A = 0) && (decide (c.B = 0) && decide (c.Filter.length = 0))))
 else if c.Op = 14 then inR c.B 0 1 && (filtOk c.Filter && (emp c.Name && zm c.Msg))
 else if c.Op = 15 ∨ c.Op = 16 then decide (c.A = 0) && (emp c.Name && (zm c.Msg && decide (c.Filter.length = 0)))
 else decide (c.B = 0) && (emp c.Name && (zm c.Msg && decide (c.Filter.length = 0)))
def callOk (c : VCall) : Bool := inR c.Op 1 19 && (decide (-1 ≤ c.Tok) && ((blk c.Op || decide (c.Tok = -1)) && okBody c))
theorem filtOk_nil : filtOk [] = true := rfl
theorem len0 {α : Type} (xs : List α) : decide (zN xs.length = 0) = decide (xs.length = 0) := by by_cases h : xs.length = 0 <;> simp [zN, h]
theorem lenP {α : Type} (xs : List α) : decide (0 < zN xs.length) = !decide (xs.length = 0) := by
 by_cases h : xs.length = 0
 · simp [zN, h]
 · rw [decide_eq_false h, decide_eq_true (by simp only [zN]; omega)]; rfl
abbrev bx65 (c : VCall) : Nat × Nat × List AV := (65, 9, [nI c.Op, nI c.A, nI c.B, nI c.Tok, .S c.Name, nI c.Msg.Kind, nI c.Msg.Num, .S c.Msg.Text, slTermS c.Filter])
abbrev bx67 (c : VCall) : Nat × Nat × List AV := (67, 9, [nI c.Op, nI c.A, nI c.B, nI c.Tok, .S c.Name, nI c.Msg.Kind, nI c.Msg.Num, .S c.Msg.Text, .nsl 3 (fun _ => lstG [nI 0, nI 0, .S ByteArray.empty])])
def same27 (c d : VCall) : Bool := inR c.Op 1 19 && (decide (c.A = d.A) && (decide (c.B = d.B) && (decide (c.Tok = d.Tok) && ((c.Name.toList == d.Name.toList) && (bif decide (c.Msg.Kind = d.Msg.Kind) then bif decide (c.Msg.Num = d.Msg.Num) then bif c.Msg.Text.toList == d.Msg.Text.toList then true else false else false else false)))))
theorem andS (a b : Bool) : (bif a then some (AV.B b, ([] : List AV)) else some (AV.B false, [])) = some (AV.B (a && b), []) := by cases a <;> rfl
theorem l23b (c d : VCall) (b : Bool) (k : Nat) : HH 23 [] (k + 1) [true, true, true, true, false, false] (hdS [(1, .pb 65 0), (3, .pb 67 0), (99, .B b)] [] [bx65 c, bx67 d]) = some (.B (!b && same27 c d), []) := by
 rw [hstep, h23b]
 cases b with
 | true => rfl
 | false =>
  refine bf' rfl (obind' (v22 ..) ?_)
  simp only [andS, asB]
  rfl
theorem v85 (c : VCall) (hf : c.Filter.length ≤ 4294967296) (hs : small c.Filter) (hn : c.Name.size ≤ 4294967200) (hm : c.Msg.Text.size ≤ 4294967296) : E 85 [slCall c] [] = some (.B (callOk c), []) := by
 obtain ⟨Op, A, B, Tok, Name, Msg, Filter⟩ := c
 have a1 := v86 Op 1 19
 have a2 := v165 Filter hf hs
 have a3 := v87 Op
 have a4 := v86 B 1 4
 have a5 := v86 B 0 1
 have a6 := v155 Msg hm
 have a7 := v166 Name hn
 refine ev1 0 rfl ((e85 ..).trans ?_)
 simp only [a1, a2, a3, a4, a5, a6, a7, Option.bind_some, asB, len0, andS, bselB]
 unfold callOk okBody emp zm
 have hfl : filtOk Filter = true ∨ decide (Filter.length = 0) = false := by
  cases Filter with
  | nil => exact .inl filtOk_nil
  | cons => exact .inr rfl
 refine congrArg (fun b => some (AV.B b, ([] : List AV))) ?_
 simp only
 generalize inR Op 1 19 = x1
 generalize decide (-1 ≤ Tok) = x2
 generalize decide (Tok = -1) = x3
 generalize blk Op = x4
 generalize inR B 1 4 = y1
 generalize inR B 0 1 = y2
 generalize okMs Msg = y3
 generalize okPatS Name = y4
 generalize (Name.toList == ByteArray.empty.toList) = y5
 generalize decide (Msg.Kind = 0) = k1
 generalize decide (Msg.Num = 0) = k2
 generalize (Msg.Text.toList == ByteArray.empty.toList) = k3
 generalize decide (A = 0) = z1
 generalize decide (B = 0) = z2
 generalize hq : filtOk Filter = z3 at hfl ⊢
 generalize decide (Filter.length = 0) = z4 at hfl ⊢
 have hc : Op = 7 ∨ Op = 19 ∨ Op = 9 ∨ Op = 13 ∨ Op = 14 ∨ Op = 15 ∨ Op = 16 ∨ (Op ≠ 7 ∧ Op ≠ 19 ∧ Op ≠ 9 ∧ Op ≠ 13 ∧ Op ≠ 14 ∧ Op ≠ 15 ∧ Op ≠ 16) := by omega
 rcases hc with h | h | h | h | h | h | h | ⟨h1, h2, h3, h4, h5, h6, h7⟩
 all_goals first
  | (simp [h]; cases x4 <;> cases x3 <;> rcases hfl with h' | h' <;> simp [h'] <;> (cases z3 <;> cases y2 <;> simp))
  | (simp [h1, h2, h3, h4, h5, h6, h7]; cases x4 <;> cases x3 <;> rcases hfl with h' | h' <;> simp [h'] <;> (cases z3 <;> cases y2 <;> simp))
theorem ngu {x q : Bool} {Y : Option (AV × List AV)} (h : Y = some (AV.B q, [])) : (bif !x then some (AV.B false, ([] : List AV)) else Y) = some (AV.B (x && q), []) := by cases x; rfl; exact h
theorem someB {x y : Bool} {Z : Option (AV × List AV)} (h : Z = some (AV.B x, [])) (e : x = y) : Z = some (AV.B y, []) := by subst e; exact h
theorem l23a (c : VCall) (t : Int) (hf : c.Filter.length ≤ 4294967296) (hs : small c.Filter) (hn : c.Name.size ≤ 4294967200) (hm : c.Msg.Text.size ≤ 4294967296) (k : Nat) :
  HH 23 [] (k + 2) [true, true, true, false, false] (hdS [(1, .pb 65 0), (3, .pb 67 0), (21, nI c.Op)] [] [bx65 c, bx67 ⟨c.Op, c.A, 0, t, ByteArray.empty, zMsg, []⟩]) = some (.B (inR c.Op 1 19 && (decide (c.Tok = t) && okBody c)), []) := by
 obtain ⟨Op, A, B, Tok, Name, Msg, Filter⟩ := c
 have a4 := v22 B 1 4
 have a6 := v49 Msg hm
 have a7 := v50 Name hn
 have a8 := v51 Filter hf hs
 have hb : inR B 0 1 = (decide (B = 0) || decide (B = 1)) := by
  unfold inR
  by_cases h0 : B = 0
  · subst h0; rfl
  · by_cases h1 : B = 1
    · subst h1; rfl
    · simp [h0, h1]; omega
 have hl := lenP Filter
 have fin : ∀ (d : VCall) (b : Bool), HH 23 [] (k + 1) [true, true, true, true, false, false] (hdS [(1, .pb 65 0), (3, .pb 67 0), (99, .B b)] [] [bx65 ⟨Op, A, B, Tok, Name, Msg, Filter⟩, bx67 d]) = some (.B (!b && same27 ⟨Op, A, B, Tok, Name, Msg, Filter⟩ d), []) := fun d b => l23b _ d b k
 have hc : Op = 7 ∨ Op = 19 ∨ Op = 9 ∨ Op = 13 ∨ Op = 14 ∨ Op = 15 ∨ Op = 16 ∨ (Op ≠ 7 ∧ Op ≠ 19 ∧ Op ≠ 9 ∧ Op ≠ 13 ∧ Op ≠ 14 ∧ Op ≠ 15 ∧ Op ≠ 16) := by omega
 rw [hstep, h23a]
 rcases hc with h | h | h | h | h | h | h | ⟨h1, h2, h3, h4, h5, h6, h7⟩
 · subst h
   refine bt' rfl (bt' rfl (bt' rfl (someB (fin ⟨7, A, B, t, ByteArray.empty, zMsg, []⟩ (decide (0 < zN Filter.length))) ?_)))
   rw [hl]; simp [same27, okBody, emp, zm]; ac_rfl
 · subst h
   refine bf' rfl (bt' rfl (bt' rfl (someB (fin ⟨19, A, B, t, ByteArray.empty, zMsg, []⟩ (decide (0 < zN Filter.length))) ?_)))
   rw [hl]; simp [same27, okBody, emp, zm]; ac_rfl
 · subst h
   refine bf' rfl (bf' rfl (bt' rfl (obind' a4 (someB (ngu (x := inR B 1 4) (obind' a6 (ngu (x := okMs Msg) (bt' rfl (fin ⟨9, A, B, t, ByteArray.empty, Msg, []⟩ (decide (0 < zN Filter.length))))))) ?_))))
   rw [hl]; simp [same27, okBody, emp, zm]; ac_rfl
 · subst h
   refine bf' rfl (bf' rfl (bf' rfl (bt' rfl (obind' a7 (someB (ngu (x := okPatS Name) (obind' a6 (ngu (x := okMs Msg) (bt' rfl (fin ⟨13, 0, 0, t, Name, Msg, []⟩ (decide (0 < zN Filter.length))))))) ?_)))))
   rw [hl]; simp [same27, okBody, emp, zm]; ac_rfl
 · subst h
   refine bf' rfl (bf' rfl (bf' rfl (bf' rfl (bt' rfl ?_))))
   by_cases b0 : B = 0
   · refine bf' (by rw [decide_eq_true b0]; rfl) (obind' a8 (someB (ngu (x := filtOk Filter) (bf' rfl (fin ⟨14, A, B, t, ByteArray.empty, zMsg, []⟩ false))) ?_))
     simp [same27, okBody, emp, zm, hb, b0, show inR 14 1 19 = true from rfl]; ac_rfl
   · refine bt' (by rw [decide_eq_false b0]; rfl) ?_
     by_cases b1 : B = 1
     · refine bf' (by rw [decide_eq_true b1]; rfl) (obind' a8 (someB (ngu (x := filtOk Filter) (bf' rfl (fin ⟨14, A, B, t, ByteArray.empty, zMsg, []⟩ false))) ?_))
       simp [same27, okBody, emp, zm, hb, b1, show inR 14 1 19 = true from rfl]; ac_rfl
     · refine bt' (by rw [decide_eq_false b1]; rfl) (someB rfl ?_)
       simp [okBody, hb, b0, b1]
 · subst h
   refine bf' rfl (bf' rfl (bf' rfl (bf' rfl (bf' rfl (bt' rfl (bt' rfl (bt' rfl (someB (fin ⟨15, 0, B, t, ByteArray.empty, zMsg, []⟩ (decide (0 < zN Filter.length))) ?_))))))))
   rw [hl]; simp [same27, okBody, emp, zm]; ac_rfl
 · subst h
   refine bf' rfl (bf' rfl (bf' rfl (bf' rfl (bf' rfl (bf' rfl (bt' rfl (bt' rfl (someB (fin ⟨16, 0, B, t, ByteArray.empty, zMsg, []⟩ (decide (0 < zN Filter.length))) ?_))))))))
   rw [hl]; simp [same27, okBody, emp, zm]; ac_rfl
 · refine bf' (decide_eq_false h1) (bf' (decide_eq_false h2) (bf' (decide_eq_false h3) (bf' (decide_eq_false h4) (bf' (decide_eq_false h5) (bf' (decide_eq_false h6) (bf' (decide_eq_false h7) (bt' (by rw [decide_eq_false h5]; rfl) (someB (fin ⟨Op, A, 0, t, ByteArray.empty, zMsg, []⟩ (decide (0 < zN Filter.length))) ?_))))))))
   rw [hl]; simp [same27, okBody, emp, zm, h1, h2, h3, h4, h5, h6, h7]; ac_rfl
theorem v23 (c : VCall) (hf : c.Filter.length ≤ 4294967296) (hs : small c.Filter) (hn : c.Name.size ≤ 4294967200) (hm : c.Msg.Text.size ≤ 4294967296) : E 23 [slCall c] [] = some (.B (callOk c), []) := by
 have q := fun t => l23a c t hf hs hn hm 0
 refine ev1 2 rfl ((e23 ..).trans (obind' (v24 ..) ?_))
 unfold callOk
 by_cases t2 : c.Tok = -1
 · have t1 : -1 ≤ c.Tok := by omega
   rw [decide_eq_true t1, decide_eq_true t2]
   cases hb : blk c.Op with
   | true => exact bt' rfl (bt' rfl ((q c.Tok).trans (by simp)))
   | false => exact bf' rfl ((q (-1)).trans (by simp [t2]))
 · rw [decide_eq_false t2]
   cases hb : blk c.Op with
   | true =>
    refine bt' rfl ?_
    by_cases t1 : -1 ≤ c.Tok
    · rw [decide_eq_true t1]; exact bt' rfl ((q c.Tok).trans (by simp))
    · rw [decide_eq_false t1]; exact bf' rfl ((q (-1)).trans (by simp [t2]))
   | false => exact bf' rfl ((q (-1)).trans (by simp [t2]))
end Go.Fw
