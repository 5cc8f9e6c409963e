/- TellOne's law: its value. -/
import Derived.Test.YtkhfkekbfjkpcaaG5
set_option linter.unusedVariables false
set_option linter.unusedSimpArgs false
namespace Go.Fw
open Go.Proofs

theorem and2_of {R : Type} {x y r : Option R} (h : x = r) (h' : y = r) : and2 x y = r := by subst h h'; simp [and2]
theorem tell_len (n : NT) : (tellN n).1.l.length ≤ n.l.length ∧ (tellN n).1.g.length ≤ n.g.length + 1 := by
  have hg : ∀ m : NT, (giveN m).1.l.length ≤ m.l.length ∧ (giveN m).1.g.length ≤ m.g.length + 1 := fun m => by
    unfold giveN
    split
    · rename_i w r h; rw [h]; simp
    · rename_i h; simp
  have h1 := hg (oneUp n)
  have e1 : (oneUp n).l = n.l := rfl
  have e2 : (oneUp n).g = n.g := rfl
  rw [e1, e2] at h1
  unfold tellN
  split
  · split
    · exact ⟨Nat.le_refl _, Nat.le_succ _⟩
    · split
      · split
        · exact ⟨Nat.le_refl _, Nat.le_succ _⟩
        · exact h1
      · exact h1
  · exact ⟨Nat.le_refl _, Nat.le_succ _⟩
theorem neg_not {a : Int} (h : 0 ≤ a) : decide (a < 0) = false := decide_eq_false (by omega)
theorem v3 (n : NT) (h1 : n.l.length ≤ maxLen) (h2 : n.g.length ≤ maxLen) : E 3 [slN n] [] = some (.B true, []) := by
  refine ev1 0 rfl ?_
  obtain ⟨r, q8, hr⟩ := v8 n h1 h2
  rw [e3]
  refine (obind q8).trans ?_
  by_cases hneg : r < 0
  · exact bt (decide_eq_true hneg)
  · have hb := hr (by omega)
    obtain ⟨t1, t2⟩ := tell_len n
    have w10 := v10 n (by omega) (by omega)
    have w9 := v9 n (by omega) (by omega)
    have w11 := v11 n (by omega) (by omega)
    have w12 := v12 n (by omega) (by omega)
    have w12t := v12 (tellN n).1 (by omega) (by omega)
    have w13 := v13 n (by omega) (by omega)
    have w13t := v13 (tellN n).1 (by omega) (by omega)
    have w14t := v14 (tellN n).1 (by omega) (by omega)
    have z1 : 0 ≤ endN n := by unfold endN; omega
    have z2 : 0 ≤ endN (tellN n).1 := by unfold endN; omega
    refine (bf (decide_eq_false hneg)).trans ?_
    refine (obind w10).trans ?_
    refine (obind w9).trans ?_
    refine (obind w10).trans ?_
    refine (obind w11).trans ?_
    refine (obind w12t).trans ?_
    refine (bf rfl).trans ?_
    refine (bf (by rw [decide_eq_true rfl]; rfl)).trans ?_
    refine (bf (by rw [decide_eq_true rfl]; rfl)).trans ?_
    refine and2_of ?_ ?_
    all_goals
      refine (obind w10).trans ?_
      refine (obind w12).trans ?_
      refine (bf rfl).trans ?_
      refine (obind w13).trans ?_
      refine (bf (neg_not z1)).trans ?_
      refine (obind w12t).trans ?_
      refine (bf rfl).trans ?_
      refine (bf (by rw [decide_eq_true rfl]; rfl)).trans ?_
      refine (bf (by rw [decide_eq_true rfl]; rfl)).trans ?_
      refine (obind w13t).trans ?_
      refine (obind (x := E 14 _ _) (a := (nI (endN (tellN n).1), [])) (by
        refine Eq.trans ?_ w14t
        have e1 : (tellN n).1.l.length = (markN (tellN n).1).l.length := by simp [markN, mI_len]
        have e2 : (tellN n).1.g.length = (markN (tellN n).1).g.length := by simp [markN, mG_len]
        show E 14 [.ag 6 (lstG [.B (tellN n).1.p, .sl (tellN n).1.l.length 1 (gI (markN (tellN n).1).l), .sl (tellN n).1.g.length 2 (gG (markN (tellN n).1).g), nI (tellN n).1.o, nI (tellN n).1.s, nI (tellN n).1.t]), nI 1] [] = E 14 [slN (markN (tellN n).1), nI 1] []
        rw [e1, e2]; rfl)).trans ?_
      refine (bf (neg_not z2)).trans ?_
      refine (bf (by rw [decide_eq_true rfl]; rfl)).trans ?_
      refine (obind w10).trans ?_
      refine (obind w11).trans ?_
      refine (obind w12t).trans ?_
      refine (bf rfl).trans ?_
      refine (bf (by rw [decide_eq_true rfl]; rfl)).trans ?_
      refine (bf (by rw [decide_eq_true rfl]; rfl)).trans ?_
      refine (obind (x := E 14 _ _) (a := (nI (endN (tellN n).1), [])) (by
        refine Eq.trans ?_ w14t
        have e1 : (tellN n).1.l.length = (markN (tellN n).1).l.length := by simp [markN, mI_len]
        have e2 : (tellN n).1.g.length = (markN (tellN n).1).g.length := by simp [markN, mG_len]
        show E 14 [.ag 6 (lstG [.B (tellN n).1.p, .sl (tellN n).1.l.length 1 (gI (markN (tellN n).1).l), .sl (tellN n).1.g.length 2 (gG (markN (tellN n).1).g), nI (tellN n).1.o, nI (tellN n).1.s, nI (tellN n).1.t]), nI 1] [] = E 14 [slN (markN (tellN n).1), nI 1] []
        rw [e1, e2]; rfl)).trans ?_
      refine (bf (neg_not z2)).trans ?_
      exact bf (by rw [decide_eq_true rfl]; rfl)
end Go.Fw
