/- Values of the functions that Withdraw's law reaches: who withdraws. -/
import Derived.Test.YtkhfkekbfjkpcaaG8
set_option linter.unusedVariables false
set_option linter.unusedSimpArgs false
namespace Go.Fw
open Go.Proofs

theorem hasF_none (f : Nat → Int) (a : Int) : ∀ (k i : Nat), hasF f a k i = false → ∀ j, i ≤ j → j < i + k → f j ≠ a := by
  intro k
  induction k with
  | zero => intro i _ j h1 h2; omega
  | succ k ih =>
    intro i h j h1 h2
    simp only [hasF] at h
    by_cases hi : f i = a
    · rw [if_pos hi] at h; simp at h
    · rw [if_neg hi] at h
      by_cases hj : j = i
      · subst hj; exact hi
      · exact ih (i + 1) h j (by omega) (by omega)
theorem line_nodup {xs : List Int} (h : lineF (fun j => xs.getD j 0) xs.length 0 = true) : xs.Nodup := by
  rw [lineF_iff] at h
  unfold List.Nodup
  rw [List.pairwise_iff_getElem]
  intro i j hi hj hij
  have := hasF_none _ _ _ _ (h j (by omega) (by omega)).2 i (by omega) (by omega)
  simpa [List.getD_eq_getElem?_getD, hi, hj] using this
theorem ok_line {n : NT} (h : okSp n = true) : lineF (fun j => n.l.getD j 0) n.l.length 0 = true ∧ n.s ≤ 1000000000 := by
  unfold okSp at h
  simp only [Bool.and_eq_true, decide_eq_true_eq, inR] at h
  exact ⟨h.1.1, h.2.2.2.2.1.2⟩
theorem erase_filter {n : NT} (h : okSp n = true) (a : Int) : n.l.filter (· != a) = n.l.erase a := (List.Nodup.erase_eq_filter (line_nodup (ok_line h).1) a).symm
def lessG (n : NT) (k : Nat) : NT := ⟨n.p, n.l, n.g.eraseIdx k, n.o, n.s, n.t⟩
def withN (n : NT) (a : Int) : NT × Int × Int :=
  if okSp n = true then
    if hasF (fun j => n.l.getD j 0) a n.l.length 0 = true then (⟨n.p, n.l.erase a, n.g, n.o, n.s, n.t⟩, -1, 0)
    else if ixF (whoF n.g) a n.g.length 0 < 0 then (n, -1, 3)
    else if (n.g.getD (ixF (whoF n.g) a n.g.length 0).toNat (0, false)).2 = true then
      (if n.l.length = 0 ∧ n.p = true ∧ 1000000000 ≤ n.s then (n, -1, 2) else ((giveN (lessG n (ixF (whoF n.g) a n.g.length 0).toNat)).1, (giveN (lessG n (ixF (whoF n.g) a n.g.length 0).toNat)).2, 0))
    else (lessG n (ixF (whoF n.g) a n.g.length 0).toNat, -1, 0)
  else (n, -1, 1)
theorem obind' {α β : Type} {x : Option α} {a : α} {f : α → Option β} {r : Option β} (h : x = some a) (h' : f a = r) : Option.bind x f = r := by subst h; exact h'
theorem bt' {α : Type} {c : Bool} {x y r : α} (h : c = true) (h' : x = r) : (bif c then x else y) = r := by subst h; exact h'
theorem bf' {α : Type} {c : Bool} {x y r : α} (h : c = false) (h' : y = r) : (bif c then x else y) = r := by subst h; exact h'
theorem erase_len {gs : List (Int × Bool)} {k : Nat} : (gs.eraseIdx k).length ≤ gs.length := by rw [List.length_eraseIdx]; split <;> omega
theorem v22 (n : NT) (a : Int) (h1 : n.l.length ≤ 4294967295) (h2 : n.g.length ≤ 4294967295) : E 22 [slN n, nI a] [] = some (tel (withN n a), []) := by
  refine ev1 0 rfl ?_
  have q1 := v24 n (by omega) (by omega)
  have q4 := v50 n.l a (by omega)
  rw [e22, obind (v32 n (by omega) (by omega)), obind (v49 n.g a (by omega))]
  unfold withN
  generalize okSp n = c1 at q1 ⊢
  rw [obind q1]
  cases c1
  · exact bt okT3
  simp only [asB, Bool.not_true, cond_false, if_true]
  generalize hasF (fun j => n.l.getD j 0) a n.l.length 0 = c2 at q4 ⊢
  rw [obind q4]
  cases c2
  · simp only [asB, cond_false, Bool.false_eq_true, if_false]
    show (bif decide (ixF (whoF n.g) a n.g.length 0 < 0) then _ else _) = _
    rcases ixF_spec (whoF n.g) a n.g.length 0 with ⟨g1, g2⟩ | ⟨m, g1, g2, g3, g4, g5⟩
    · rw [g1, if_pos (by omega)]
      exact bt' (decide_eq_true (by omega)) (bt okT3)
    · have hm : asI (AV.I .i64 (ixF (whoF n.g) a n.g.length 0)) = (m : Int) := g1
      rw [g1, if_neg (by omega)]
      refine bf' (decide_eq_false (by omega)) ?_
      show (bif (bif decide (0 ≤ ixF (whoF n.g) a n.g.length 0) then decide (ixF (whoF n.g) a n.g.length 0 < zN n.g.length) else false) then _ else _) = _
      rw [g1]
      refine bt' (by simp [zN]; omega) ?_
      simp only [Int.toNat_natCast]
      have q51 := v51 n m (by omega) (by omega)
      rw [← g1] at q51
      have q33 := v33 (lessG n m) (by show n.l.length ≤ _; omega) (by have := @erase_len n.g m; show (n.g.eraseIdx m).length ≤ _; omega)
      show (bif !(n.g.getD (ixF (whoF n.g) a n.g.length 0).toNat (0, false)).2 then _ else _) = _
      rw [g1, Int.toNat_natCast]
      by_cases hd : (n.g.getD m (0, false)).2 = true
      · rw [if_pos hd]
        refine bf' (by rw [hd]; rfl) ?_
        by_cases hl : n.l.length = 0
        · refine bt' (decide_eq_true (by simp only [zN]; omega)) ?_
          by_cases hp : n.p = true
          · refine bt' hp ?_
            by_cases hs : 1000000000 ≤ n.s
            · rw [if_pos ⟨hl, hp, hs⟩]; exact bt' (decide_eq_true hs) (bt okT3)
            · rw [if_neg (fun h => hs h.2.2)]
              exact bf' (decide_eq_false hs) (obind' q51 (obind' q33 (bt okT3)))
          · rw [if_neg (fun h => hp h.2.1)]
            exact bf' (eq_false_of_ne_true hp) (obind' q51 (obind' q33 (bt okT3)))
        · rw [if_neg (fun h => hl h.1)]
          exact bf' (decide_eq_false (by simp only [zN]; omega)) (obind' q51 (obind' q33 (bt okT3)))
      · rw [if_neg hd]
        refine bt' (by rw [eq_false_of_ne_true hd]; rfl) ?_
        exact obind' q51 (bt okT3)
  · simp only [asB, cond_true, if_true]
    exact obind' (v53 n.l a (by omega)) (bt okT3)
theorem v21 (n : NT) (a : Int) (h1 : n.l.length ≤ 4294967295) (h2 : n.g.length ≤ 4294967295) : E 21 [slN n, nI a] [] = some (tel (withN n a), []) := by
  refine ev1 0 rfl ?_
  have q1 := v37 n (by omega) (by omega)
  rw [ok_same] at q1
  have q4 := v47 n.l a (by omega)
  have hbd := @ok_line n
  have hef := @erase_filter n
  rw [e21, obind (v36 n (by omega) (by omega)), obind (v46 n.g a (by omega))]
  unfold withN
  generalize okSp n = c1 at q1 hbd hef ⊢
  rw [obind q1]
  cases c1
  · exact bt okT3
  have hs9 := (hbd rfl).2
  have hef := hef rfl a
  simp only [asB, Bool.not_true, cond_false, if_true]
  generalize hasF (fun j => n.l.getD j 0) a n.l.length 0 = c2 at q4 ⊢
  rw [obind q4]
  cases c2
  · simp only [asB, cond_false, Bool.false_eq_true, if_false]
    show (bif decide (ixF (whoF n.g) a n.g.length 0 < 0) then _ else _) = _
    rcases ixF_spec (whoF n.g) a n.g.length 0 with ⟨g1, g2⟩ | ⟨m, g1, g2, g3, g4, g5⟩
    · rw [g1, if_pos (by omega)]
      exact bt' (decide_eq_true (by omega)) (bt okT3)
    · rw [g1, if_neg (by omega)]
      refine bf' (decide_eq_false (by omega)) ?_
      have hbnd : (bif decide (0 ≤ (m : Int)) then decide ((m : Int) < zN n.g.length) else false) = true := by simp [zN]; omega
      refine bt' hbnd ?_
      simp only [Int.toNat_natCast]
      have q48 := v48 n.g m (by omega) (by omega)
      rw [← wrapN (i := m) (by omega)] at q48
      have q38 := v38 (lessG n m) (by show n.l.length ≤ _; omega) (by have := @erase_len n.g m; show (n.g.eraseIdx m).length ≤ _; omega)
      show (bif (n.g.getD ((m : Int)).toNat (0, false)).2 then _ else _) = _
      have hg : (n.g.getD ((m : Int)).toNat (0, false)).2 = (n.g.getD m (0, false)).2 := by rw [Int.toNat_natCast]
      by_cases hd : (n.g.getD m (0, false)).2 = true
      · rw [if_pos hd]
        refine bt' (hg.trans hd) ?_
        have hno : (!(n.g.getD ((m : Int)).toNat (0, false)).2) = false := by rw [hg, hd]; rfl
        by_cases hl : n.l.length = 0
        · refine bt' (decide_eq_true (by simp only [zN]; omega)) ?_
          by_cases hp : n.p = true
          · refine bt' hp ?_
            by_cases hs : 1000000000 ≤ n.s
            · rw [if_pos ⟨hl, hp, hs⟩]; exact bt' (decide_eq_true (by omega)) (bt okT3)
            · rw [if_neg (fun h => hs h.2.2)]
              exact bf' (decide_eq_false (by omega)) (obind' q48 (bt' hbnd (bf' hno (obind' q38 (bt okT3)))))
          · rw [if_neg (fun h => hp h.2.1)]
            exact bf' (eq_false_of_ne_true hp) (obind' q48 (bt' hbnd (bf' hno (obind' q38 (bt okT3)))))
        · rw [if_neg (fun h => hl h.1)]
          exact bf' (decide_eq_false (by simp only [zN]; omega)) (obind' q48 (bt' hbnd (bf' hno (obind' q38 (bt okT3)))))
      · rw [if_neg hd]
        refine bf' (hg.trans (eq_false_of_ne_true hd)) (obind' q48 (bt' hbnd (bt' (by show (!(n.g.getD ((m : Int)).toNat (0, false)).2) = true; rw [hg, eq_false_of_ne_true hd]; rfl) (bt okT3))))
  · simp only [asB, cond_true, if_true]
    rw [← hef]
    exact obind' (v52 n.l a (by omega)) (bt okT3)
theorem with_len (n : NT) (a : Int) : (withN n a).1.l.length ≤ n.l.length ∧ (withN n a).1.g.length ≤ n.g.length + 1 := by
  have hg : ∀ m : NT, (giveN m).1.l.length ≤ m.l.length ∧ (giveN m).1.g.length ≤ m.g.length + 1 := fun m => by
    unfold giveN
    split
    · rename_i w r h; rw [h]; simp
    · rename_i h; simp
  have hL : ∀ k, (lessG n k).l.length = n.l.length ∧ (lessG n k).g.length ≤ n.g.length := fun k => ⟨rfl, erase_len⟩
  unfold withN
  split
  · split
    · exact ⟨List.length_erase_le, Nat.le_succ _⟩
    · split
      · exact ⟨Nat.le_refl _, Nat.le_succ _⟩
      · split
        · split
          · exact ⟨Nat.le_refl _, Nat.le_succ _⟩
          · have h1 := hg (lessG n (ixF (whoF n.g) a n.g.length 0).toNat)
            have h2 := hL (ixF (whoF n.g) a n.g.length 0).toNat
            simp only
            omega
        · have h2 := hL (ixF (whoF n.g) a n.g.length 0).toNat
          simp only
          omega
  · exact ⟨Nat.le_refl _, Nat.le_succ _⟩
end Go.Fw
