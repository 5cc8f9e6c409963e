/- Withdraw's law: its value. -/
import Derived.Test.YtkhfkekbfjkpcaaG5
import Derived.Test.YtkhfkekbfjkpcaaG9
set_option linter.unusedVariables false
set_option linter.unusedSimpArgs false
namespace Go.Fw
open Go.Proofs

theorem and2_of {R : Type} {x y r : Option R} (h : x = r) (h' : y = r) : and2 x y = r := by subst h h'; simp [and2]
theorem neg_not {a : Int} (h : 0 ≤ a) : decide (a < 0) = false := decide_eq_false (by omega)
theorem v6 (n : NT) (a : Int) (h1 : n.l.length ≤ maxLen) (h2 : n.g.length ≤ maxLen) : E 6 [slN n, nI a] [] = some (.B true, []) := by
  refine ev1 0 rfl ?_
  obtain ⟨r, q8, hr⟩ := v8 n h1 h2
  rw [e6]
  refine (obind q8).trans ?_
  by_cases hneg : r < 0
  · exact bt (decide_eq_true hneg)
  · have hb := hr (by omega)
    obtain ⟨t1, t2⟩ := with_len n a
    have w10 := v10 n (by omega) (by omega)
    have w9 := v22 n a (by omega) (by omega)
    have w11 := v21 n a (by omega) (by omega)
    have w12 := v12 n (by omega) (by omega)
    have w12t := v12 (withN n a).1 (by omega) (by omega)
    have w13 := v13 n (by omega) (by omega)
    have w13t := v13 (withN n a).1 (by omega) (by omega)
    have w14t := v14 (withN n a).1 (by omega) (by omega)
    have z1 : 0 ≤ endN n := by unfold endN; omega
    have z2 : 0 ≤ endN (withN n a).1 := by unfold endN; omega
    refine (bf (decide_eq_false hneg)).trans ?_
    refine (obind w10).trans ?_
    refine (obind w9).trans ?_
    refine (obind w10).trans ?_
    refine (obind w11).trans ?_
    refine (obind w12t).trans ?_
    refine (bf rfl).trans ?_
    refine (bf (by rw [decide_eq_true rfl]; rfl)).trans ?_
    refine (bf (by rw [decide_eq_true rfl]; rfl)).trans ?_
    refine and2_of ?_ ?_
    all_goals
      refine (obind w10).trans ?_
      refine (obind w12).trans ?_
      refine (bf rfl).trans ?_
      refine (obind w13).trans ?_
      refine (bf (neg_not z1)).trans ?_
      refine (obind w12t).trans ?_
      refine (bf rfl).trans ?_
      refine (bf (by rw [decide_eq_true rfl]; rfl)).trans ?_
      refine (bf (by rw [decide_eq_true rfl]; rfl)).trans ?_
      refine (obind w13t).trans ?_
      refine (obind (x := E 14 _ _) (a := (nI (endN (withN n a).1), [])) (by
        refine Eq.trans ?_ w14t
        have e1 : (withN n a).1.l.length = (markN (withN n a).1).l.length := by simp [markN, mI_len]
        have e2 : (withN n a).1.g.length = (markN (withN n a).1).g.length := by simp [markN, mG_len]
        show E 14 [.ag 6 (lstG [.B (withN n a).1.p, .sl (withN n a).1.l.length 1 (gI (markN (withN n a).1).l), .sl (withN n a).1.g.length 2 (gG (markN (withN n a).1).g), nI (withN n a).1.o, nI (withN n a).1.s, nI (withN n a).1.t]), nI 1] [] = E 14 [slN (markN (withN n a).1), nI 1] []
        rw [e1, e2]; rfl)).trans ?_
      refine (bf (neg_not z2)).trans ?_
      refine (bf (by rw [decide_eq_true rfl]; rfl)).trans ?_
      refine (obind w10).trans ?_
      refine (obind w11).trans ?_
      refine (obind w12t).trans ?_
      refine (bf rfl).trans ?_
      refine (bf (by rw [decide_eq_true rfl]; rfl)).trans ?_
      refine (bf (by rw [decide_eq_true rfl]; rfl)).trans ?_
      refine (obind (x := E 14 _ _) (a := (nI (endN (withN n a).1), [])) (by
        refine Eq.trans ?_ w14t
        have e1 : (withN n a).1.l.length = (markN (withN n a).1).l.length := by simp [markN, mI_len]
        have e2 : (withN n a).1.g.length = (markN (withN n a).1).g.length := by simp [markN, mG_len]
        show E 14 [.ag 6 (lstG [.B (withN n a).1.p, .sl (withN n a).1.l.length 1 (gI (markN (withN n a).1).l), .sl (withN n a).1.g.length 2 (gG (markN (withN n a).1).g), nI (withN n a).1.o, nI (withN n a).1.s, nI (withN n a).1.t]), nI 1] [] = E 14 [slN (markN (withN n a).1), nI 1] []
        rw [e1, e2]; rfl)).trans ?_
      refine (bf (neg_not z2)).trans ?_
      exact bf (by rw [decide_eq_true rfl]; rfl)
end Go.Fw
