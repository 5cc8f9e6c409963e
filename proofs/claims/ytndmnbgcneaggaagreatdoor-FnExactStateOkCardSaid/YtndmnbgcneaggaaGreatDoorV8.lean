/- The law's value: true, whatever the state. -/
import Derived.Test.YtndmnbgcneaggaaGreatDoorV1
import Derived.Test.YtndmnbgcneaggaaGreatDoorV2
import Derived.Test.YtndmnbgcneaggaaGreatDoorV4
import Derived.Test.YtndmnbgcneaggaaGreatDoorS13
import Derived.Test.YtndmnbgcneaggaaGreatDoorKz
set_option linter.unusedVariables false
set_option linter.unusedSimpArgs false
set_option maxRecDepth 100000
namespace Go.Fw
open Go.Proofs
theorem v3 (x : VState) (hx : arState x) : E 3 [slState x] [] = some (.B true, []) := by
  refine evK rfl ((e3 ..).trans ?_)
  refine obind' (v6 x 1048576 (ok_State hx) (by omega) (by omega)) ?_
  by_cases bx : szState x ≤ 1048576
  · have e1 : subZ 1048576 (szState x) = 1048576 - szState x := subZ_le (by omega)
    rw [e1]
    refine bf' (decide_eq_false (by simp only [asI]; omega)) ?_
    have kt := v8 x bx
    have ks := v7 x bx
    have ki := v9 x bx
    have ke := w10 x bx
    refine obind' kt (obind' ks (obind' kt (obind' ki (bf' (by simp [asB]) (and2_both ?_ ?_)))))
    · exact obind' kt (obind' ke (bf' rfl rfl))
    · exact obind' kt (obind' ke (bf' rfl rfl))
  · rw [subZ_gt (by omega)]
    exact bt' (decide_eq_true (by simp only [asI]; omega)) rfl
end Go.Fw
