/- Values: what is kept in rings; who waits. -/
import Derived.Test.YtndmnbgcneaggaaGreatDoorS13
set_option linter.unusedVariables false
set_option linter.unusedSimpArgs false
namespace Go.Fw
open Go.Proofs
theorem ownNil : (AV.own 0 1 fun i => lstG [nI 0]) = owIntS [] := by
 have e : (fun i : Nat => lstG [nI 0]) = gsIntS [] := by
  funext i
  unfold gsIntS gI
  simp
 show AV.own 0 1 _ = AV.own 0 1 (gsIntS [])
 rw [e]
def keptL (x : VState) : List Int := x.Hub.Topics.map fun t => (t.Ring.Items.length : Int)
theorem keptL_len (x : VState) : (keptL x).length = x.Hub.Topics.length := List.length_map ..
theorem keptL_get (x : VState) {i : Nat} (hi : i < x.Hub.Topics.length) : (keptL x).getD i 0 = zN (x.Hub.Topics.getD i zTopic).Ring.Items.length := by
 unfold keptL
 simp [List.getD_eq_getElem?_getD, List.getElem?_map, hi, zN]
noncomputable def keptV (x : VState) : List Int := bif stateB x then keptL x else []
theorem v11 (x : VState) (hb : szState x ≤ 1048576) : E 11 [slState x] [] = some (owIntS (keptV x), []) := by
 have hs := v7 x hb
 unfold szState szHub at hb
 have hl : x.Hub.Topics.length ≤ 1048576 := sumL_len (f := szTopic) (show szTopicS x.Hub.Topics ≤ 1048576 by omega)
 have hk := keptL_len x
 refine evK rfl ((e11 ..).trans (obind' hs ?_))
 unfold keptV
 show (bif !stateB x then _ else _) = _
 cases stateB x with
 | false => exact bt' rfl (bt' okT_eq (by rw [ownNil]; rfl))
 | true =>
  refine bf' rfl ?_
  rw [nilI]
  refine u_go (S := fun i : Nat => S11 x ((keptL x).take i) i) (n := x.Hub.Topics.length) ?_ (fun i hi hc => ?_)
  · refine lstep ((h11 ..).trans (bf' (decide_eq_false (by simp only [zN]; omega)) (bt' okT_eq ?_)))
    rw [show (keptL x).take x.Hub.Topics.length = keptL x from List.take_of_length_le (by omega)]
    rfl
  · refine lstep ((h11 ..).trans (bt' (decide_eq_true (by simp only [zN]; omega)) (bt' (bndL' hi) (bt' (by simp [List.length_take]; omega) ?_))))
    rw [appI, wrapN (by omega)]
    simp only [Int.toNat_natCast]
    rw [← keptL_get x hi, take_app (by omega)]
    exact hc
theorem v12 (x : VState) (hb : szState x ≤ 1048576) : E 12 [slState x] [] = some (owIntS (keptV x), []) := by
 have hs := v9 x hb
 unfold szState szHub at hb
 have hl : x.Hub.Topics.length ≤ 1048576 := sumL_len (f := szTopic) (show szTopicS x.Hub.Topics ≤ 1048576 by omega)
 have hk := keptL_len x
 refine evK rfl ((e12 ..).trans (obind' hs ?_))
 unfold keptV
 show (bif !stateB x then _ else _) = _
 cases stateB x with
 | false => exact bt' rfl (bt' okT_eq (by rw [ownNil]; rfl))
 | true =>
  refine bf' rfl ?_
  rw [nilI]
  refine u_go (S := fun i : Nat => S12 x.Hub.Topics ((keptL x).take i) (zN x.Hub.Topics.length) i) (n := x.Hub.Topics.length) ?_ (fun i hi hc => ?_)
  · refine lstep ((h12 ..).trans (bf' (decide_eq_false (by simp only [zN]; omega)) (bt' okT_eq ?_)))
    rw [show (keptL x).take x.Hub.Topics.length = keptL x from List.take_of_length_le (by omega)]
    rfl
  · refine lstep ((h12 ..).trans (bt' (decide_eq_true (by simp only [zN]; omega)) (bt' (bndL' hi) (bt' (by simp [List.length_take]; omega) ?_))))
    rw [appI, wrapN (by omega)]
    simp only [Int.toNat_natCast]
    rw [← keptL_get x hi, take_app (by omega)]
    exact hc
end Go.Fw
