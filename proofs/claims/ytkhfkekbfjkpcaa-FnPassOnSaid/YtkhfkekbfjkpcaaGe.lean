/- Values of the functions that Balanced's law reaches: tellings of all, who goes on, who comes. -/
import Derived.Test.YtkhfkekbfjkpcaaGd
set_option linter.unusedVariables false
set_option linter.unusedSimpArgs false
namespace Go.Fw
open Go.Proofs

theorem and2_both {R : Type} {x y r : Option R} (h : x = r) (h' : y = r) : and2 x y = r := by subst h h'; simp [and2]
theorem okT4 : (bif (bif okT then (bif okT then true else false) else false) then (bif okT then true else false) else false) = true := by rw [okT_eq]; rfl
theorem v15 (cs : List Int) : E 15 [slB cs] [] = some (.B (decide (1048576 < zN cs.length)), []) := ev1 0 rfl (by rw [e15])
theorem v16 (cs : List Int) (i : Int) (h : 0 ≤ i) : ∃ r, E 16 [slB cs, nI i] [] = some (nI r, []) := by
  by_cases hl : i < zN cs.length
  · exact ⟨_, ev1 0 rfl (by rw [e16, bt (decide_eq_true hl), bt (by rw [decide_eq_true h, decide_eq_true hl]; rfl)])⟩
  · exact ⟨_, ev1 0 rfl (by rw [e16, bf (decide_eq_false hl)])⟩
abbrev tel3 (r : NT × List Int × Int) : AV := .tup 3 (lstG [owN r.1, owI r.2.1, nI r.2.2])
abbrev tel2 (r : NT × Int) : AV := .tup 2 (lstG [owN r.1, nI r.2])
theorem row_appF {os : List (Int × Bool)} {v : Int} : (fun i => lstG [AV.I .i64 (bif decide (i < os.length) then (os.getD i (0, false)).1 else bif decide (i - os.length = 0) then v else 0), AV.B (bif decide (i < os.length) then (os.getD i (0, false)).2 else bif decide (i - os.length = 0) then false else false)]) = gG (os ++ [(v, false)]) := row_appG
theorem l17 (n : NT) (h1 : n.l.length ≤ 2147483648) : ∀ (k i : Nat) (os : List (Int × Bool)), i + k = n.l.length → os.length + k ≤ 4294967295 →
    HH 17 [] (k + 1) [true, true, true, false, true] (hdS [(1, .pb 65 0), (2, .pb 66 0), (5, .pb 69 0), (26, slI n.l), (27, nI (zN n.l.length)), (28, nI (i : Int))] [(299009, ⟨n.l.length, 1, gI n.l⟩), (413696, ⟨os.length, 2, gG os⟩)]
      [(65, 6, [.B n.p, slI n.l, slG n.g, nI n.o, nI n.s, nI n.t]), (66, 6, [.B false, .nsl 1 (fun _ => lstG [nI 0]), .nsl 2 (fun _ => lstG [nI 0, .B false]), nI 0, nI 0, nI 0]), (69, 6, [.B n.p, .rf 299009, .rf 413696, nI n.o, nI n.s, nI n.t])]) =
      some (tel3 (⟨n.p, [], os ++ (n.l.drop i).map (·, false), n.o, n.s, n.t⟩, n.l, 0), []) := by
  intro k
  induction k with
  | zero =>
    intro i os hi ho
    have hz : (fun i : Nat => lstG [AV.I IntKind.i64 0]) = gI [] := by funext i; unfold gI; simp
    rw [hstep, h17, bf (by simp [zN]; omega), List.drop_eq_nil_of_le (by omega), List.map_nil, List.append_nil, hz]
    refine and2_both ?_ ?_ <;> exact obind' (v45 n.l (by omega)) (bt okT4)
  | succ k ih =>
    intro i os hi ho
    rw [hstep, h17, bt (by simp [zN]; omega), bt (by simp [zN]; omega), bt (by simp; omega), wrapN (by omega)]
    simp only [Int.toNat_natCast]
    rw [row_appF, drop_getD (d := (0 : Int)) (show i < n.l.length by omega)]
    have := ih (i + 1) (os ++ [(n.l.getD i 0, false)]) (by omega) (by simp; omega)
    simp only [List.length_append, List.length_singleton, List.append_assoc, List.singleton_append] at this
    exact this
theorem v17 (n : NT) (h1 : n.l.length ≤ 1073741824) (h2 : n.g.length ≤ 1073741824) : E 17 [slN n] [] = some (tel3 (tellAllN n), []) := by
  refine ev1 (n.l.length + 1) rfl ?_
  have q1 := v37 n (by omega) (by omega)
  rw [ok_same] at q1
  have hz : (fun i : Nat => lstG [AV.I IntKind.i64 0]) = gI [] := by funext i; unfold gI; simp
  rw [e17, obind (v36 n (by omega) (by omega))]
  unfold tellAllN
  generalize okSp n = c1 at q1 ⊢
  rw [obind q1]
  cases c1
  · rw [hz]; exact bt' rfl (bt okT4)
  · simp only [asB, Bool.not_true, cond_false, if_true]
    have hw : IntKind.i64.wrap (zN n.l.length + zN n.g.length) = zN n.l.length + zN n.g.length := wrapS (by simp only [zN]; omega) (by simp only [zN]; omega)
    rw [hw]
    by_cases h : 32 < n.l.length + n.g.length
    · rw [if_pos h, bt (decide_eq_true (by simp only [zN]; omega)), hz]
      exact bt okT4
    · rw [if_neg h, bf (decide_eq_false (by simp only [zN]; omega))]
      exact l17 n (by omega) n.l.length 0 n.g (by omega) (by omega)
theorem l18 (xs : List Int) (hx : xs.length ≤ 4294967296) : ∀ (k i : Nat), i + k = xs.length →
    HH 18 [] (k + 1) [true, true, false, true] (hdS [(0, slI xs), (1, slI xs), (5, nI (i : Int))] [] []) = some (.B true, []) := by
  intro k
  induction k with
  | zero => intro i hi; rw [hstep, h18, bf (by simp [zN]; omega)]
  | succ k ih =>
    intro i hi
    rw [hstep, h18, bt (by simp [zN]; omega), bt (by simp [zN]; omega), bt (by simp [zN]; omega), bf (by simp), wrapN (by omega)]
    exact ih (i + 1) (by omega)
theorem v18 (xs : List Int) (hx : xs.length ≤ 4294967296) : E 18 [slI xs, slI xs] [] = some (.B true, []) := by
  refine ev1 (xs.length + 1) rfl ?_
  rw [e18, bf (by simp)]; exact l18 xs hx xs.length 0 (by omega)
theorem v20 (n : NT) (a : Int) (h1 : n.l.length ≤ 4294967295) (h2 : n.g.length ≤ 4294967295) : E 20 [slN n, nI a] [] = some (tel2 (resN n a), []) := by
  refine ev1 0 rfl ?_
  have q1 := v24 n (by omega) (by omega)
  have q4 := v50 n.l a (by omega)
  have q49 := v49 n.g a (by omega)
  change E 49 [slG n.g, nI a] [] = some (nI (ixF (whoF n.g) a n.g.length 0), []) at q49
  rw [e20, obind (v32 n (by omega) (by omega)), obind q49]
  unfold resN
  generalize okSp n = c1 at q1 ⊢
  rw [obind q1]
  cases c1
  · exact bt okT3
  simp only [asB, Bool.not_true, cond_false, if_true]
  generalize hasF (fun j => n.l.getD j 0) a n.l.length 0 = c2 at q4 ⊢
  rw [obind q4]
  cases c2
  · simp only [asB, cond_false, Bool.false_eq_true, if_false]
    rcases ixF_spec (whoF n.g) a n.g.length 0 with ⟨g1, g2⟩ | ⟨m, g1, g2, g3, g4, g5⟩
    · rw [g1, if_pos (by omega)]
      exact bt' (decide_eq_true (by show (-1 : Int) < 0; omega)) (bt okT3)
    · rw [g1, if_neg (by omega)]
      refine bf' (decide_eq_false (by show ¬ (m : Int) < 0; omega)) ?_
      have hbnd : (bif decide (0 ≤ (m : Int)) then decide ((m : Int) < zN n.g.length) else false) = true := by simp [zN]; omega
      refine bt' hbnd ?_
      show (bif (n.g.getD ((m : Int)).toNat (0, false)).2 then _ else _) = _
      rw [Int.toNat_natCast]
      have q51 := v51 n m (by omega) (by omega)
      have q51' := v51 ⟨n.p, n.l, n.g, n.o, n.s, IntKind.i64.wrap (n.t + 1)⟩ m (by simp only; omega) (by simp only; omega)
      by_cases hd : (n.g.getD m (0, false)).2 = true
      · rw [if_pos hd]
        refine bt' hd ?_
        by_cases ht : 1000000000 ≤ n.t
        · rw [if_pos ht]; exact bt' (decide_eq_true ht) (bt okT3)
        · rw [if_neg ht]
          exact bf' (decide_eq_false ht) (bt' hbnd (bt' hd (obind' q51' (bt okT3))))
      · rw [if_neg hd]
        exact bf' (eq_false_of_ne_true hd) (bt' hbnd (bf' (eq_false_of_ne_true hd) (obind' q51 (bt okT3))))
  · simp only [asB, cond_true, if_true]
    exact bt okT3
theorem ok_t {n : NT} (h : okSp n = true) : n.t ≤ 1000000000 ∧ n.l.length ≤ 32 := ⟨((okSp_iff n).1 h).t.2, ((okSp_iff n).1 h).lle⟩
theorem v19 (n : NT) (a : Int) (h1 : n.l.length ≤ 4294967295) (h2 : n.g.length ≤ 4294967295) : E 19 [slN n, nI a] [] = some (tel2 (resN n a), []) := by
  refine ev1 0 rfl ?_
  have q1 := v37 n (by omega) (by omega)
  rw [ok_same] at q1
  have q4 := v47 n.l a (by omega)
  have hbd := @ok_t n
  rw [e19, obind (v36 n (by omega) (by omega)), obind (v46 n.g a (by omega))]
  unfold resN
  generalize okSp n = c1 at q1 hbd ⊢
  rw [obind q1]
  cases c1
  · exact bt okT3
  have ht9 := (hbd rfl).1
  simp only [asB, Bool.not_true, cond_false, if_true]
  generalize hasF (fun j => n.l.getD j 0) a n.l.length 0 = c2 at q4 ⊢
  rw [obind q4]
  cases c2
  · simp only [asB, cond_false, Bool.false_eq_true, if_false]
    rcases ixF_spec (whoF n.g) a n.g.length 0 with ⟨g1, g2⟩ | ⟨m, g1, g2, g3, g4, g5⟩
    · rw [g1, if_pos (by omega)]
      exact bt' (decide_eq_true (by show (-1 : Int) < 0; omega)) (bt okT3)
    · rw [g1, if_neg (by omega)]
      refine bf' (decide_eq_false (by show ¬ (m : Int) < 0; omega)) ?_
      have hbnd : (bif decide (0 ≤ (m : Int)) then decide ((m : Int) < zN n.g.length) else false) = true := by simp [zN]; omega
      refine bt' hbnd ?_
      show (bif (n.g.getD ((m : Int)).toNat (0, false)).2 then _ else _) = _
      rw [Int.toNat_natCast]
      have q48 := v48 n.g m (by omega) (by omega)
      rw [← wrapN (i := m) (by omega)] at q48
      by_cases hd : (n.g.getD m (0, false)).2 = true
      · rw [if_pos hd]
        refine bt' hd ?_
        by_cases ht : 1000000000 ≤ n.t
        · rw [if_pos ht]; exact bt' (decide_eq_true (by omega)) (bt okT3)
        · rw [if_neg ht]
          exact bf' (decide_eq_false (by omega)) (bt' hbnd (bt' hd (obind' q48 (bt okT3))))
      · rw [if_neg hd]
        exact bf' (eq_false_of_ne_true hd) (bt' hbnd (bf' (eq_false_of_ne_true hd) (obind' q48 (bt okT3))))
  · simp only [asB, cond_true, if_true]
    exact bt okT3
theorem v23 (n : NT) (a : Int) (h1 : n.l.length ≤ 4294967295) (h2 : n.g.length ≤ 4294967295) : E 23 [slN n, nI a] [] = some (tel2 (awN n a), []) := by
  refine ev1 0 rfl ?_
  have q1 := v37 n (by omega) (by omega)
  rw [ok_same] at q1
  have q3 := v54 a
  have q4 := v47 n.l a (by omega)
  have hbd := @ok_t n
  rw [e23, obind (v36 n (by omega) (by omega))]
  unfold awN
  generalize okSp n = c1 at q1 hbd ⊢
  rw [obind q1]
  cases c1
  · exact bt okT3
  have ht9 := (hbd rfl).2
  simp only [asB, Bool.not_true, cond_false, if_true]
  generalize inR a 0 63 = c0 at q3 ⊢
  rw [obind q3]
  cases c0
  · exact bt okT3
  simp only [asB, Bool.not_true, cond_false, if_true]
  generalize hasF (fun j => n.l.getD j 0) a n.l.length 0 = c2 at q4 ⊢
  rw [obind q4]
  cases c2
  · simp only [asB, cond_false, Bool.false_eq_true, if_false]
    rw [obind (v46 n.g a (by omega))]
    show (bif decide (0 ≤ ixF (whoF n.g) a n.g.length 0) then _ else _) = _
    by_cases hx : 0 ≤ ixF (whoF n.g) a n.g.length 0
    · rw [if_pos hx]; exact bt' (decide_eq_true hx) (bt okT3)
    · rw [if_neg hx]
      refine bf' (decide_eq_false hx) ?_
      by_cases ht : n.t = 1000000000
      · rw [if_pos ht]; exact bt' (decide_eq_true ht) (bt okT3)
      · rw [if_neg ht]
        refine bf' (decide_eq_false ht) ?_
        by_cases hp : n.p = true
        · rw [if_pos hp]
          exact bf' (by rw [hp]; rfl) (bt' hp (bt okT3))
        · rw [if_neg hp]
          refine bt' (by rw [eq_false_of_ne_true hp]; rfl) ?_
          by_cases hl : n.l.length = 32
          · rw [if_pos hl]; exact bt' (decide_eq_true (by simp only [zN]; omega)) (bt okT3)
          · rw [if_neg hl]
            refine bf' (decide_eq_false (by simp only [zN]; omega)) (bf' (eq_false_of_ne_true hp) (bt' ?_ ((bt okT3).trans ?_)))
            · show (decide (n.l.length + 1 ≤ 4294967296) && true && true && true && true) = true
              simp; omega
            · have hr := @row_app n.l a
              have hll : (n.l ++ [a]).length = n.l.length + 1 := by simp
              unfold tel2 owN owI
              simp only
              rw [hll, ← hr]
              rfl
  · simp only [asB, cond_true, if_true]
    exact bt okT3
end Go.Fw
