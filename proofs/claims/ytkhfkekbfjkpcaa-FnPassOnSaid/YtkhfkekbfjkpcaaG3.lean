/- Values of the functions that TellOne's law reaches: when a Notify is right. -/
import Derived.Test.YtkhfkekbfjkpcaaG2
set_option linter.unusedVariables false
set_option linter.unusedSimpArgs false
namespace Go.Fw
open Go.Proofs

theorem hasF_congr {f g : Nat → Int} {a : Int} : ∀ (k i : Nat), (∀ j, i ≤ j → j < i + k → f j = g j) → hasF f a k i = hasF g a k i := by
  intro k
  induction k with
  | zero => intro i _; rfl
  | succ k ih =>
    intro i h
    simp only [hasF]
    rw [h i (by omega) (by omega), ih (i + 1) fun j h1 h2 => h j (by omega) (by omega)]
theorem sl_take {xs : List Int} {i : Nat} (h : i ≤ xs.length) : AV.sl (i - 0) 1 (fun i_1 j => mrg (decide (i_1 < i - 0)) (gI xs (0 + i_1) j) (gI xs xs.length j)) = slI (xs.take i) := by
  have hl : (xs.take i).length = i := by simp; omega
  unfold slI
  rw [hl, Nat.sub_zero]
  congr 1
  funext k j
  by_cases hk : k < i
  · rw [decide_eq_true hk, mrg_true]
    unfold gI
    simp [List.getD_eq_getElem?_getD, List.getElem?_take, hk]
  · rw [decide_eq_false hk, mrg_false]
    unfold gI
    simp [List.getD_eq_getElem?_getD, List.getElem?_take, hk]
def lineF (f : Nat → Int) : Nat → Nat → Bool
  | 0, _ => true
  | k + 1, i => if inR (f i) 0 63 = true then (if hasF f (f i) i 0 = true then false else lineF f k (i + 1)) else false
theorem has_take {xs : List Int} {a : Int} {i : Nat} (h : i ≤ xs.length) : hasF (fun j => (xs.take i).getD j 0) a (xs.take i).length 0 = hasF (fun j => xs.getD j 0) a i 0 := by
  have hl : (xs.take i).length = i := by simp; omega
  rw [hl]
  refine hasF_congr _ _ fun j _ hj => ?_
  have : j < i := by omega
  simp [List.getD_eq_getElem?_getD, List.getElem?_take, this]
theorem l55 (xs : List Int) (hx : xs.length ≤ 4294967296) : ∀ (k i : Nat), i + k = xs.length →
    HH 55 [] (k + 1) [true, true, false, true] (hdS [(0, slI xs), (3, nI (i : Int))] [] []) = some (.B (lineF (fun j => xs.getD j 0) k i), []) := by
  intro k
  induction k with
  | zero => intro i hi; rw [hstep, h55, bf (by simp [zN]; omega)]; rfl
  | succ k ih =>
    intro i hi
    rw [hstep, h55, bt (by simp [zN]; omega), bt (by simp [zN]; omega), obind (v57 _), wrapN (by omega)]
    simp only [Int.toNat_natCast, lineF]
    by_cases h : inR (xs.getD i 0) 0 63 = true
    · rw [if_pos h, bf (c := !asB (AV.B _)) (by show (!inR (xs.getD i 0) 0 63) = false; rw [h]; rfl), bt (by simp [zN]; omega), bt (by simp [zN]; omega), sl_take (by omega),
        obind (v50 _ _ (by simp; omega)), has_take (by omega)]
      by_cases h2 : hasF (fun j => xs.getD j 0) (xs.getD i 0) i 0 = true
      · rw [if_pos h2]; exact bt h2
      · rw [if_neg h2]; exact (bf (c := asB (AV.B _)) (eq_false_of_ne_true h2)).trans (ih (i + 1) (by omega))
    · rw [if_neg h]; exact bt (c := !asB (AV.B _)) (by show (!inR (xs.getD i 0) 0 63) = true; rw [eq_false_of_ne_true h]; rfl)
theorem v55 (xs : List Int) (hx : xs.length ≤ 4294967296) : E 55 [slI xs] [] = some (.B (lineF (fun j => xs.getD j 0) xs.length 0 && decide (xs.length ≤ 32)), []) := by
  refine ev1 (xs.length + 1) rfl ?_
  rw [e55]
  by_cases h : xs.length ≤ 32
  · rw [bf (by simp [zN]; omega), decide_eq_true h, Bool.and_true]
    exact l55 xs hx xs.length 0 (by omega)
  · rw [bt (by simp [zN]; omega), decide_eq_false h, Bool.and_false]
theorem l81 (xs : List Int) (hx : xs.length ≤ 4294967296) : ∀ (k i : Nat), i + k = xs.length →
    HH 81 [] (k + 1) [true, false, true] (hdS [(0, slI xs), (5, slI xs), (6, nI (zN xs.length)), (7, nI (i : Int))] [] []) = some (.B (lineF (fun j => xs.getD j 0) k i && decide (xs.length ≤ 32)), []) := by
  intro k
  induction k with
  | zero =>
    intro i hi
    rw [hstep, h81, bf (by simp [zN]; omega)]
    simp only [lineF, Bool.true_and]
    congr 3
    simp only [decide_eq_decide, zN]; omega
  | succ k ih =>
    intro i hi
    rw [hstep, h81, bt (by simp [zN]; omega), bt (by simp [zN]; omega), obind (v54 _), wrapN (by omega)]
    simp only [Int.toNat_natCast, lineF]
    by_cases h : inR (xs.getD i 0) 0 63 = true
    · rw [if_pos h, bf (c := !asB (AV.B _)) (by show (!inR (xs.getD i 0) 0 63) = false; rw [h]; rfl), bt (by simp [zN]; omega), sl_take (by omega),
        obind (v47 _ _ (by simp; omega)), has_take (by omega)]
      by_cases h2 : hasF (fun j => xs.getD j 0) (xs.getD i 0) i 0 = true
      · rw [if_pos h2]; exact bt h2
      · rw [if_neg h2]; exact (bf (c := asB (AV.B _)) (eq_false_of_ne_true h2)).trans (ih (i + 1) (by omega))
    · rw [if_neg h]; exact bt (c := !asB (AV.B _)) (by show (!inR (xs.getD i 0) 0 63) = true; rw [eq_false_of_ne_true h]; rfl)
theorem v81 (xs : List Int) (hx : xs.length ≤ 4294967296) : E 81 [slI xs] [] = some (.B (lineF (fun j => xs.getD j 0) xs.length 0 && decide (xs.length ≤ 32)), []) := by
  refine ev1 (xs.length + 1) rfl ?_
  rw [e81]; exact l81 xs hx xs.length 0 (by omega)
theorem v80 (xs : List Int) (hx : xs.length ≤ 4294967296) : E 80 [slI xs] [] = some (.B (lineF (fun j => xs.getD j 0) xs.length 0 && decide (xs.length ≤ 32)), []) := by
  refine ev1 0 rfl ?_
  rw [e80, obind (v81 xs hx)]; rfl
def apartF (xs ys : List Int) : Bool := (lineF (fun j => xs.getD j 0) xs.length 0 && decide (xs.length ≤ 32)) && ((lineF (fun j => ys.getD j 0) ys.length 0 && decide (ys.length ≤ 32)) &&
  !anyF (fun j => hasF (fun j => xs.getD j 0) (ys.getD j 0) xs.length 0) ys.length 0)
theorem v65 (xs ys : List Int) (hx : xs.length ≤ 4294967296) (hy : ys.length ≤ 4294967296) : E 65 [slI xs, slI ys] [] = some (.B (apartF xs ys), []) := by
  refine ev1 0 rfl ?_
  have q1 := v80 xs hx
  have q2 := v81 ys hy
  have q3 := v82 ys xs hy hx
  rw [e65]
  unfold apartF
  generalize (lineF (fun j => xs.getD j 0) xs.length 0 && decide (xs.length ≤ 32)) = c1 at q1 ⊢
  generalize (lineF (fun j => ys.getD j 0) ys.length 0 && decide (ys.length ≤ 32)) = c2 at q2 ⊢
  generalize anyF (fun j => hasF (fun j => xs.getD j 0) (ys.getD j 0) xs.length 0) ys.length 0 = c3 at q3 ⊢
  rw [obind q1]
  cases c1 with
  | false => rfl
  | true =>
    simp only [asB, cond_true]
    rw [obind q2]
    cases c2 with
    | false => rfl
    | true =>
      simp only [asB, cond_true]
      rw [obind q3]
      rfl

/-! ### NotifyOk -/
def sumF (g : List (Int × Bool)) : Int → Nat → Nat → Int
  | s, 0, _ => s
  | s, k + 1, i => sumF g (if (g.getD i (0, false)).2 = true then IntKind.i64.wrap (s + 1) else s) k (i + 1)
def whoF (g : List (Int × Bool)) : Nat → Int := fun j => (g.getD j (0, false)).1
def specF (n : NT) : Int → Nat → Nat → Bool
  | s, 0, _ => decide (s = n.o)
  | s, k + 1, i => if inR (whoF n.g i) 0 63 = true then (if ixF (whoF n.g) (whoF n.g i) n.g.length 0 = i then (if hasF (fun j => n.l.getD j 0) (whoF n.g i) n.l.length 0 = true then false else
      specF n (if (n.g.getD i (0, false)).2 = true then IntKind.i64.wrap (s + 1) else s) k (i + 1)) else false) else false
theorem l24 (n : NT) (h1 : n.l.length ≤ 4294967296) (h2 : n.g.length ≤ 4294967296) : ∀ (k i : Nat) (s : Int), i + k = n.g.length →
    HH 24 [] (k + 1) [true, true, true, true, true, false, true] (hdS [(1, .pb 65 0), (3, nI s), (4, nI (i : Int))] [] [(65, 6, [.B n.p, slI n.l, slG n.g, nI n.o, nI n.s, nI n.t])]) = some (.B (specF n s k i), []) := by
  intro k
  induction k with
  | zero => intro i s hi; rw [hstep, h24, bf (by simp [zN]; omega)]; rfl
  | succ k ih =>
    intro i s hi
    rw [hstep, h24, bt (by simp [zN]; omega), bt (by simp [zN]; omega), obind (v57 _), wrapN (by omega)]
    simp only [Int.toNat_natCast, specF]
    by_cases ha : inR (whoF n.g i) 0 63 = true
    · rw [if_pos ha, bf (c := !asB (AV.B _)) (by show (!inR (whoF n.g i) 0 63) = false; rw [ha]; rfl), obind (v49 _ _ h2)]
      by_cases hb : ixF (whoF n.g) (whoF n.g i) n.g.length 0 = i
      · rw [if_pos hb, bf (by show (!decide (ixF (whoF n.g) (whoF n.g i) n.g.length 0 = i)) = false; rw [decide_eq_true hb]; rfl), obind (v50 _ _ h1)]
        by_cases hc : hasF (fun j => n.l.getD j 0) (whoF n.g i) n.l.length 0 = true
        · rw [if_pos hc]; exact bt hc
        · rw [if_neg hc]
          refine (bf (c := asB (AV.B _)) (eq_false_of_ne_true hc)).trans ?_
          by_cases hd : (n.g.getD i (0, false)).2 = true
          · rw [if_pos hd, bt hd]; exact ih (i + 1) _ (by omega)
          · rw [if_neg hd, bf (eq_false_of_ne_true hd)]; exact ih (i + 1) _ (by omega)
      · rw [if_neg hb]; exact bt (by show (!decide (ixF (whoF n.g) (whoF n.g i) n.g.length 0 = i)) = true; rw [decide_eq_false hb]; rfl)
    · rw [if_neg ha]; exact bt (c := !asB (AV.B _)) (by show (!inR (whoF n.g i) 0 63) = true; rw [eq_false_of_ne_true ha]; rfl)
def sum0 (n : NT) : Int := IntKind.i64.wrap (n.t + n.s)
def okSp (n : NT) : Bool := (lineF (fun j => n.l.getD j 0) n.l.length 0 && decide (n.l.length ≤ 32)) && (decide (n.g.length ≤ 32) && (!(n.p && decide (0 < n.l.length)) && (inR n.o 0 1000000000 && (inR n.s 0 1000000000 && (inR n.t 0 1000000000 &&
  specF n (if n.p = true then IntKind.i64.wrap (sum0 n + 1) else sum0 n) n.g.length 0)))))
theorem v24 (n : NT) (h1 : n.l.length ≤ 4294967296) (h2 : n.g.length ≤ 4294967296) : E 24 [slN n] [] = some (.B (okSp n), []) := by
  refine ev1 (n.g.length + 1) rfl ?_
  have hL := fun s => l24 n h1 h2 n.g.length 0 s (by omega)
  simp only [Int.natCast_zero] at hL
  have hl : decide (0 < zN n.l.length) = decide (0 < n.l.length) := by simp only [decide_eq_decide, zN]; omega
  have q1 := v55 n.l h1
  have q2 := v56 n.o 0 1000000000
  have q3 := v56 n.s 0 1000000000
  have q4 := v56 n.t 0 1000000000
  rw [e24]
  unfold okSp
  rw [hl]
  have hg : decide (32 < zN n.g.length) = !decide (n.g.length ≤ 32) := by
    by_cases h : n.g.length ≤ 32
    · rw [decide_eq_true h]; simp [zN]; omega
    · rw [decide_eq_false h]; simp [zN]; omega
  rw [hg]
  generalize (lineF (fun j => n.l.getD j 0) n.l.length 0 && decide (n.l.length ≤ 32)) = c1 at q1 ⊢
  generalize decide (n.g.length ≤ 32) = c2
  generalize decide (0 < n.l.length) = c3
  generalize inR n.o 0 1000000000 = c4 at q2 ⊢
  generalize inR n.s 0 1000000000 = c5 at q3 ⊢
  generalize inR n.t 0 1000000000 = c6 at q4 ⊢
  rw [obind q1]
  cases c1
  · rfl
  cases c2
  · rfl
  simp only [asB, Bool.not_true, cond_true, cond_false]
  have tail : ∀ p : Bool, n.p = p → (Option.bind (E 56 [AV.I IntKind.i64 n.o, AV.I IntKind.i64 0, AV.I IntKind.i64 1000000000] []) fun r4 =>
        bif !asB r4.fst then
          (some (AV.B false, []))
        else
          (Option.bind (E 56 [AV.I IntKind.i64 n.s, AV.I IntKind.i64 0, AV.I IntKind.i64 1000000000] []) fun r6 =>
          bif !asB r6.fst then
            (some (AV.B false, []))
          else
            (Option.bind (E 56 [AV.I IntKind.i64 n.t, AV.I IntKind.i64 0, AV.I IntKind.i64 1000000000] []) fun r8 =>
            bif !asB r8.fst then
              (some (AV.B false, []))
            else
              (bif p then
                (HH 24 [] (n.g.length + 1) [true, true, true, true, true, false, true] (hdS [(1, AV.pb 65 0), (3, AV.I IntKind.i64 (IntKind.i64.wrap (IntKind.i64.wrap (n.t + n.s) + 1))), (4, AV.I IntKind.i64 0)] [] [(65, 6, [AV.B n.p, AV.sl n.l.length 1 (gI n.l), AV.sl n.g.length 2 (gG n.g), AV.I IntKind.i64 n.o, AV.I IntKind.i64 n.s, AV.I IntKind.i64 n.t])]))
              else
                (HH 24 [] (n.g.length + 1) [true, true, true, true, true, false, true] (hdS [(1, AV.pb 65 0), (3, AV.I IntKind.i64 (IntKind.i64.wrap (n.t + n.s))), (4, AV.I IntKind.i64 0)] [] [(65, 6, [AV.B n.p, AV.sl n.l.length 1 (gI n.l), AV.sl n.g.length 2 (gG n.g), AV.I IntKind.i64 n.o, AV.I IntKind.i64 n.s, AV.I IntKind.i64 n.t])])))))) =
      some (.B (c4 && (c5 && (c6 && specF n (if p = true then IntKind.i64.wrap (sum0 n + 1) else sum0 n) n.g.length 0))), []) := by
    intro p _
    rw [obind q2]
    cases c4
    · rfl
    simp only [asB, Bool.not_true, cond_false]
    rw [obind q3]
    cases c5
    · rfl
    simp only [asB, Bool.not_true, cond_false]
    rw [obind q4]
    cases c6
    · rfl
    simp only [asB, Bool.not_true, cond_false, Bool.true_and]
    unfold sum0
    cases p
    · simp only [cond_false, Bool.false_eq_true, if_false]; exact hL (IntKind.i64.wrap (n.t + n.s))
    · simp only [cond_true, if_true]; exact hL (IntKind.i64.wrap (IntKind.i64.wrap (n.t + n.s) + 1))
  have t1 := tail n.p rfl
  by_cases hp : n.p = true
  · rw [bt hp]
    cases c3
    · rw [show (!(n.p && false)) = true by simp]
      simp only [Bool.true_and, cond_false]
      exact t1
    · rw [show (!(n.p && true)) = false by simp [hp]]
      rfl
  · rw [bf (eq_false_of_ne_true hp), show (!(n.p && c3)) = true by simp [hp]]
    simp only [Bool.true_and]
    exact t1

theorem anyF_iff (p : Nat → Bool) : ∀ (k i : Nat), anyF p k i = false ↔ ∀ j, i ≤ j → j < i + k → p j = false := by
  intro k
  induction k with
  | zero => intro i; simp [anyF]; intro j h1 h2; omega
  | succ k ih =>
    intro i
    simp only [anyF]
    by_cases h : p i = true
    · rw [if_pos h]
      constructor
      · intro e; simp at e
      · intro e; have := e i (by omega) (by omega); rw [h] at this; simp at this
    · rw [if_neg h, ih]
      constructor
      · intro e j h1 h2
        by_cases hj : j = i
        · subst hj; exact eq_false_of_ne_true h
        · exact e j (by omega) (by omega)
      · intro e j h1 h2; exact e j (by omega) (by omega)
theorem lineF_iff (f : Nat → Int) : ∀ (k i : Nat), lineF f k i = true ↔ ∀ j, i ≤ j → j < i + k → inR (f j) 0 63 = true ∧ hasF f (f j) j 0 = false := by
  intro k
  induction k with
  | zero => intro i; simp [lineF]; intro j h1 h2; omega
  | succ k ih =>
    intro i
    simp only [lineF]
    by_cases h : inR (f i) 0 63 = true
    · rw [if_pos h]
      by_cases h2 : hasF f (f i) i 0 = true
      · rw [if_pos h2]
        constructor
        · intro e; simp at e
        · intro e; have := (e i (by omega) (by omega)).2; rw [h2] at this; simp at this
      · rw [if_neg h2, ih]
        constructor
        · intro e j h3 h4
          by_cases hj : j = i
          · subst hj; exact ⟨h, eq_false_of_ne_true h2⟩
          · exact e j (by omega) (by omega)
        · intro e j h3 h4; exact e j (by omega) (by omega)
    · rw [if_neg h]
      constructor
      · intro e; simp at e
      · intro e; exact absurd (e i (by omega) (by omega)).1 h
theorem specF_iff (n : NT) : ∀ (k i : Nat) (s : Int), specF n s k i = true ↔ (∀ j, i ≤ j → j < i + k → inR (whoF n.g j) 0 63 = true ∧ ixF (whoF n.g) (whoF n.g j) n.g.length 0 = j ∧ hasF (fun j => n.l.getD j 0) (whoF n.g j) n.l.length 0 = false) ∧ sumF n.g s k i = n.o := by
  intro k
  induction k with
  | zero =>
    intro i s
    simp only [specF, sumF, decide_eq_true_eq]
    exact ⟨fun h => ⟨fun j h1 h2 => by omega, h⟩, fun h => h.2⟩
  | succ k ih =>
    intro i s
    simp only [specF, sumF]
    by_cases h1 : inR (whoF n.g i) 0 63 = true
    · rw [if_pos h1]
      by_cases h2 : ixF (whoF n.g) (whoF n.g i) n.g.length 0 = i
      · rw [if_pos h2]
        by_cases h3 : hasF (fun j => n.l.getD j 0) (whoF n.g i) n.l.length 0 = true
        · rw [if_pos h3]
          exact ⟨fun e => by simp at e, fun e => by have := (e.1 i (by omega) (by omega)).2.2; rw [h3] at this; simp at this⟩
        · rw [if_neg h3, ih]
          refine and_congr_left fun _ => ⟨fun e j h4 h5 => ?_, fun e j h4 h5 => e j (by omega) (by omega)⟩
          by_cases hj : j = i
          · subst hj; exact ⟨h1, h2, eq_false_of_ne_true h3⟩
          · exact e j (by omega) (by omega)
      · rw [if_neg h2]
        exact ⟨fun e => by simp at e, fun e => absurd (e.1 i (by omega) (by omega)).2.1 h2⟩
    · rw [if_neg h1]
      exact ⟨fun e => by simp at e, fun e => absurd (e.1 i (by omega) (by omega)).1 h1⟩
theorem ix_first (f : Nat → Int) (a : Int) : ∀ (k i j : Nat), i ≤ j → j < i + k → f j = a → (ixF f a k i = j ↔ hasF f a (j - i) i = false) := by
  intro k
  induction k with
  | zero => intro i j h1 h2; omega
  | succ k ih =>
    intro i j h1 h2 hf
    by_cases hj : j = i
    · subst hj; simp [ixF, hf, hasF]
    · obtain ⟨m, hm⟩ : ∃ m, j - i = m + 1 := ⟨j - i - 1, by omega⟩
      rw [hm]
      simp only [ixF, hasF]
      by_cases h : f i = a
      · rw [if_pos h, if_pos h]
        constructor
        · intro e; omega
        · intro e; simp at e
      · rw [if_neg h, if_neg h, ih (i + 1) j (by omega) (by omega) hf, show j - (i + 1) = m by omega]
theorem sumF_wrap (g : List (Int × Bool)) : ∀ (k i : Nat) (s : Int), sumF g (IntKind.i64.wrap (s + 1)) k i = IntKind.i64.wrap (sumF g s k i + 1) := by
  intro k
  induction k with
  | zero => intro i s; rfl
  | succ k ih =>
    intro i s
    simp only [sumF]
    split
    · exact ih _ _
    · exact ih _ _

/-! ### The program's -/
def told (n : NT) : List Int := n.g.map (·.1)
def implT (n : NT) (s : Int) : Bool := apartF n.l (told n) && (!(n.p && decide (0 < n.l.length)) && (inR n.o 0 1000000000 && (inR n.s 0 1000000000 && (inR n.t 0 1000000000 &&
  decide ((if n.p = true then IntKind.i64.wrap (s + 1) else s) = n.o)))))
theorem row_app {os : List Int} {v : Int} : (fun i => lstG [AV.I .i64 (bif decide (i < os.length) then os.getD i 0 else bif decide (i - os.length = 0) then v else 0)]) = gI (os ++ [v]) := by
  funext i
  unfold gI
  by_cases hi : i < os.length
  · simp [List.getD_eq_getElem?_getD, hi, List.getElem?_append_left hi]
  · by_cases h2 : i - os.length = 0
    · have : i = os.length := by omega
      subst this; simp [List.getD_eq_getElem?_getD]
    · have h3 : (os ++ [v])[i]? = none := List.getElem?_eq_none (by simp; omega)
      simp [List.getD_eq_getElem?_getD, hi, h2, h3]
theorem l37 (n : NT) (h1 : n.l.length ≤ 4294967296) (h2 : n.g.length ≤ 4294967295) : ∀ (k i : Nat) (s : Int), i + k = n.g.length →
    HH 37 [] (k + 1) [true, true, true, false, true] (hdS [(1, .pb 65 0), (3, .rf 360448), (4, nI s), (14, slG n.g), (15, nI (zN n.g.length)), (16, nI (i : Int))] [(360448, ⟨((told n).take i).length, 1, gI ((told n).take i)⟩)] [(65, 6, [.B n.p, slI n.l, slG n.g, nI n.o, nI n.s, nI n.t])]) = some (.B (implT n (sumF n.g s k i)), []) := by
  intro k
  induction k with
  | zero =>
    intro i s hi
    have ht : (told n).take i = told n := List.take_of_length_le (by simp [told]; omega)
    have hl : decide (0 < zN n.l.length) = decide (0 < n.l.length) := by simp only [decide_eq_decide, zN]; omega
    have q0 := v65 n.l (told n) h1 (by simp [told]; omega)
    have q2 := v66 n.o
    have q3 := v66 n.s
    have q4 := v66 n.t
    rw [ht, hstep, h37 (z := 0), bf (by simp [zN]; omega), hl]
    simp only [implT, sumF]
    generalize apartF n.l (told n) = c1 at q0 ⊢
    generalize decide (0 < n.l.length) = c3
    generalize inR n.o 0 1000000000 = c4 at q2 ⊢
    generalize inR n.s 0 1000000000 = c5 at q3 ⊢
    generalize inR n.t 0 1000000000 = c6 at q4 ⊢
    have tail : ∀ F : Bool, (Option.bind (E 66 [AV.I IntKind.i64 n.o] []) fun r6 =>
            bif asB r6.fst then
              (Option.bind (E 66 [AV.I IntKind.i64 n.s] []) fun r8 =>
              bif asB r8.fst then
                (Option.bind (E 66 [AV.I IntKind.i64 n.t] []) fun r10 =>
                bif asB r10.fst then
                  (some (AV.B F, []))
                else
                  (some (AV.B false, [])))
              else
                (some (AV.B false, [])))
            else
              (some (AV.B false, ([] : List AV)))) = some (.B (c4 && (c5 && (c6 && F))), []) := by
      intro F
      rw [obind q2]
      cases c4
      · rfl
      simp only [asB, cond_true]
      rw [obind q3]
      cases c5
      · rfl
      simp only [asB, cond_true]
      rw [obind q4]
      cases c6
      · rfl
      rfl
    by_cases hp : n.p = true
    · rw [bt hp, obind q0]
      cases c1
      · rfl
      simp only [asB, cond_true, Bool.true_and]
      rw [bt hp]
      cases c3
      · simp only [Bool.not_false, cond_true]
        rw [show (!(n.p && false)) = true by simp, Bool.true_and]
        have hd : decide ((if n.p = true then IntKind.i64.wrap (s + 1) else s) = n.o) = decide (IntKind.i64.wrap (s + 1) = n.o) := by rw [decide_eq_decide, if_pos hp]
        exact (tail _).trans (by rw [← hd]; rfl)
      · rw [show (!(n.p && true)) = false by simp [hp]]
        rfl
    · rw [bf (eq_false_of_ne_true hp), obind q0]
      cases c1
      · rfl
      simp only [asB, cond_true, Bool.true_and]
      rw [bf (eq_false_of_ne_true hp), show (!(n.p && c3)) = true by simp [hp], Bool.true_and]
      have hd : decide ((if n.p = true then IntKind.i64.wrap (s + 1) else s) = n.o) = decide (s = n.o) := by rw [decide_eq_decide, if_neg hp]
      exact (tail _).trans (by rw [← hd]; rfl)
  | succ k ih =>
    intro i s hi
    have hlt : i < (told n).length := by simp [told]; omega
    have hlen : ((told n).take i).length = i := by simp; omega
    have hnext : (told n).take i ++ [(n.g.getD i (0, false)).1] = (told n).take (i + 1) := by
      rw [List.take_add_one]
      congr 1
      simp [told, List.getD_eq_getElem?_getD, show i < n.g.length by omega]
    rw [hstep, h37 (z := 0), bt (by simp [zN]; omega), bt (by simp [zN]; omega), bt (by simp; omega), wrapN (by omega)]
    simp only [Int.toNat_natCast]
    rw [row_app, hnext]
    have hl2 : ((told n).take i).length + 1 = ((told n).take (i + 1)).length := by simp; omega
    rw [hl2]
    simp only [sumF]
    by_cases hd : (n.g.getD i (0, false)).2 = true
    · rw [bt hd, if_pos hd]; exact ih (i + 1) (IntKind.i64.wrap (s + 1)) (by omega)
    · rw [bf (eq_false_of_ne_true hd), if_neg hd]; exact ih (i + 1) s (by omega)
theorem v37 (n : NT) (h1 : n.l.length ≤ 4294967296) (h2 : n.g.length ≤ 4294967295) : E 37 [slN n] [] = some (.B (implT n (sumF n.g (sum0 n) n.g.length 0)), []) := by
  refine ev1 (n.g.length + 1) rfl ?_
  have := l37 n h1 h2 n.g.length 0 (IntKind.i64.wrap (n.t + n.s)) (by omega)
  have hz : (fun i : Nat => lstG [AV.I IntKind.i64 0]) = gI ((told n).take 0) := by
    funext i; unfold gI; simp
  rw [e37, hz]
  exact this

theorem ok_same (n : NT) : implT n (sumF n.g (sum0 n) n.g.length 0) = okSp n := by
  have hw : ∀ j, (told n).getD j 0 = whoF n.g j := fun j => by
    unfold told whoF
    by_cases hj : j < n.g.length
    · simp [List.getD_eq_getElem?_getD, hj]
    · simp [List.getD_eq_getElem?_getD, List.getElem?_eq_none (Nat.le_of_not_lt hj)]
  have hwf : (fun j => (told n).getD j 0) = whoF n.g := funext hw
  have htl : (told n).length = n.g.length := by simp [told]
  have e1 : ((lineF (whoF n.g) n.g.length 0 && decide (n.g.length ≤ 32)) && !anyF (fun j => hasF (fun j => n.l.getD j 0) (whoF n.g j) n.l.length 0) n.g.length 0) = true ↔
      (n.g.length ≤ 32 ∧ ∀ j, j < n.g.length → inR (whoF n.g j) 0 63 = true ∧ ixF (whoF n.g) (whoF n.g j) n.g.length 0 = j ∧ hasF (fun j => n.l.getD j 0) (whoF n.g j) n.l.length 0 = false) := by
    simp only [Bool.and_eq_true, Bool.not_eq_true', decide_eq_true_eq, lineF_iff, anyF_iff]
    constructor
    · rintro ⟨⟨h1, h2⟩, h3⟩
      refine ⟨h2, fun j hj => ⟨(h1 j (by omega) (by omega)).1, ?_, h3 j (by omega) (by omega)⟩⟩
      rw [ix_first _ _ _ _ _ (Nat.zero_le _) (by omega) rfl]
      exact (h1 j (by omega) (by omega)).2
    · rintro ⟨h2, h1⟩
      refine ⟨⟨fun j _ hj => ⟨(h1 j (by omega)).1, ?_⟩, h2⟩, fun j _ hj => (h1 j (by omega)).2.2⟩
      have := (h1 j (by omega)).2.1
      rw [ix_first _ _ _ _ _ (Nat.zero_le _) (by omega) rfl] at this
      exact this
  have e2 : (if n.p = true then IntKind.i64.wrap (sumF n.g (sum0 n) n.g.length 0 + 1) else sumF n.g (sum0 n) n.g.length 0) = sumF n.g (if n.p = true then IntKind.i64.wrap (sum0 n + 1) else sum0 n) n.g.length 0 := by
    split
    · exact (sumF_wrap _ _ _ _).symm
    · rfl
  have e3 : specF n (if n.p = true then IntKind.i64.wrap (sum0 n + 1) else sum0 n) n.g.length 0 = true ↔ (∀ j, j < n.g.length → inR (whoF n.g j) 0 63 = true ∧ ixF (whoF n.g) (whoF n.g j) n.g.length 0 = j ∧ hasF (fun j => n.l.getD j 0) (whoF n.g j) n.l.length 0 = false) ∧
      sumF n.g (if n.p = true then IntKind.i64.wrap (sum0 n + 1) else sum0 n) n.g.length 0 = n.o := by
    rw [specF_iff]
    exact and_congr_left fun _ => ⟨fun h j hj => h j (by omega) (by omega), fun h j _ hj => h j (by omega)⟩
  unfold implT apartF okSp
  rw [hwf, htl, e2]
  simp only [hw]
  rw [Bool.eq_iff_iff]
  generalize (lineF (fun j => n.l.getD j 0) n.l.length 0 && decide (n.l.length ≤ 32)) = c1
  generalize (!(n.p && decide (0 < n.l.length))) = c2
  generalize inR n.o 0 1000000000 = c4
  generalize inR n.s 0 1000000000 = c5
  generalize inR n.t 0 1000000000 = c6
  rw [Bool.and_eq_true, Bool.and_eq_true, e1]
  simp only [Bool.and_eq_true, decide_eq_true_eq, e3]
  constructor
  · rintro ⟨⟨a1, a2, a3⟩, b1, b2, b3, b4, b5⟩; exact ⟨a1, a2, b1, b2, b3, b4, a3, b5⟩
  · rintro ⟨a1, a2, b1, b2, b3, b4, a3, b5⟩; exact ⟨⟨a1, a2, a3⟩, b1, b2, b3, b4, b5⟩
end Go.Fw
