/- The law's value: true, whatever the states. -/
import Derived.Test.YtonhlheceebflaaGreatV1
import Derived.Test.YtonhlheceebflaaGreatV2
import Derived.Test.YtonhlheceebflaaGreatV6
import Derived.Test.YtonhlheceebflaaGreatV7
import Derived.Test.YtonhlheceebflaaGreatW9
set_option linter.unusedVariables false
set_option linter.unusedSimpArgs false
set_option maxRecDepth 100000
namespace Go.Fw
open Go.Proofs
theorem v7 (x y : VState) (hx : arState x) (hy : arState y) (bx : szState x ≤ 1048576) (hb : szState y ≤ 1048576) : E 7 [slState x, slState y] [] = RB (dB (x = y)) := by
  have sx := zState_ hx
  have sy := zState_ hy
  have key : RB ((wState x).toList == (wState y).toList) = RB (dB (x = y)) := by rw [c_text, dB_iff ⟨wState_inj, fun h => by rw [h]⟩]
  refine evK rfl ((e7 ..).trans (and2_both ?_ ?_))
  · exact obind' (v_writing x hx (by omega)) (obind' (v_writing y hy (by omega)) key)
  · exact obind' (v_writing x hx (by omega)) (obind' (v_writing y hy (by omega)) key)
theorem v3 (x y : VState) (hx : arState x) (hy : arState y) : E 3 [slState x, slState y] [] = some (.B true, []) := by
  refine evK rfl ((e3 ..).trans ?_)
  refine obind' (v4 x 1048576 (ok_State hx) (by omega) (by omega)) ?_
  by_cases bx : szState x ≤ 1048576
  · have e1 : subZ 1048576 (szState x) = 1048576 - szState x := subZ_le (by omega)
    rw [e1]
    refine bf' (decide_eq_false (by simp only [asI]; omega)) ?_
    refine obind' (v4 y (1048576 - szState x) (ok_State hy) (by omega) (by omega)) ?_
    by_cases hb : (szState y : Int) ≤ 1048576 - szState x
    · rw [subZ_le hb]
      refine bf' (decide_eq_false (by simp only [asI]; omega)) ?_
      have b2 : szState y ≤ 1048576 := by omega
      have k6x := v6 x bx
      have k6y := v6 y b2
      have k5 := q5 x y bx
      have k7 := v7 x y hx hy bx b2
      have k8x := w8 x bx
      have k8y := w8 y b2
      refine and2_both ?_ ?_
      · refine obind' k6x (obind' k6y (obind' k5 (obind' k6x (obind' k6y (obind' k7 (bf' (by simp [asB]) ?_))))))
        refine and2_both ?_ ?_
        · refine obind' k6x (obind' k8x (bf' rfl (and2_both ?_ ?_)))
          · exact obind' k6y (obind' k8y (bf' rfl rfl))
          · exact obind' k6y (obind' k8y (bf' rfl rfl))
        · refine obind' k6x (obind' k8x (bf' rfl (and2_both ?_ ?_)))
          · exact obind' k6y (obind' k8y (bf' rfl rfl))
          · exact obind' k6y (obind' k8y (bf' rfl rfl))
      · refine obind' k6x (obind' k6y (obind' k5 (obind' k6x (obind' k6y (obind' k7 (bf' (by simp [asB]) ?_))))))
        refine and2_both ?_ ?_
        · refine obind' k6x (obind' k8x (bf' rfl (and2_both ?_ ?_)))
          · exact obind' k6y (obind' k8y (bf' rfl rfl))
          · exact obind' k6y (obind' k8y (bf' rfl rfl))
        · refine obind' k6x (obind' k8x (bf' rfl (and2_both ?_ ?_)))
          · exact obind' k6y (obind' k8y (bf' rfl rfl))
          · exact obind' k6y (obind' k8y (bf' rfl rfl))
    · rw [subZ_gt hb]
      exact bt' (decide_eq_true (by simp only [asI]; omega)) rfl
  · rw [subZ_gt (by omega)]
    exact bt' (decide_eq_true (by simp only [asI]; omega)) rfl
end Go.Fw
