/- Values: what is kept in rings; who waits. -/
import Derived.Test.YtndmnbgcneaggaaGreatDoorS13
set_option linter.unusedVariables false
set_option linter.unusedSimpArgs false
namespace Go.Fw
open Go.Proofs
theorem ownNil : (AV.own 0 1 fun i => lstG [nI 0]) = owIntS [] := by
 have e : (fun i : Nat => lstG [nI 0]) = gsIntS [] := by
  funext i
  unfold gsIntS gI
  simp
 show AV.own 0 1 _ = AV.own 0 1 (gsIntS [])
 rw [e]
def stuckN (cs : List VClient) : Nat → List Int
 | 0 => []
 | k + 1 => bif (cs.getD k zClient).Waiting then stuckN cs k ++ [(k : Int)] else stuckN cs k
theorem stuckN_len (cs : List VClient) : ∀ k, (stuckN cs k).length ≤ k := by
 intro k
 induction k with
 | zero => exact Nat.le_refl _
 | succ k ih =>
  show (bif (cs.getD k zClient).Waiting then stuckN cs k ++ [(k : Int)] else stuckN cs k).length ≤ k + 1
  cases (cs.getD k zClient).Waiting with
  | true => simp only [cond_true, List.length_append, List.length_cons, List.length_nil]; omega
  | false => simp only [cond_false]; omega
noncomputable def stuckV (x : VState) : List Int := bif stateB x then stuckN x.Clients x.Clients.length else []
theorem v17 (x : VState) (hb : szState x ≤ 1048576) : E 17 [slState x] [] = some (owIntS (stuckV x), []) := by
 have hs := v7 x hb
 unfold szState at hb
 have hl : x.Clients.length ≤ 1048576 := sumL_len (f := szClient) (show szClientS x.Clients ≤ 1048576 by omega)
 refine evK rfl ((e17 ..).trans (obind' hs ?_))
 unfold stuckV
 show (bif !stateB x then _ else _) = _
 cases stateB x with
 | false => exact bt' rfl (bt' okT_eq (by rw [ownNil]; rfl))
 | true =>
  refine bf' rfl ?_
  rw [nilI]
  refine u_go (S := fun i : Nat => S17 x (stuckN x.Clients i) i) (n := x.Clients.length) ?_ (fun i hi hc => ?_)
  · exact lstep ((h17 ..).trans (bf' (decide_eq_false (by simp only [zN]; omega)) (bt' okT_eq rfl)))
  · have hn := stuckN_len x.Clients i
    refine lstep ((h17 ..).trans (bt' (decide_eq_true (by simp only [zN]; omega)) (bt' (bndL' hi) ?_)))
    rw [appI, wrapN (by omega)]
    simp only [Int.toNat_natCast]
    have e : stuckN x.Clients (i + 1) = bif (x.Clients.getD i zClient).Waiting then stuckN x.Clients i ++ [(i : Int)] else stuckN x.Clients i := rfl
    rw [e] at hc
    cases hw : (x.Clients.getD i zClient).Waiting with
    | true => rw [hw] at hc; exact bt' rfl (bt' (by simp; omega) hc)
    | false => rw [hw] at hc; exact bf' rfl hc
theorem v18 (x : VState) (hb : szState x ≤ 1048576) : E 18 [slState x] [] = some (owIntS (stuckV x), []) := by
 have hs := v9 x hb
 unfold szState at hb
 have hl : x.Clients.length ≤ 1048576 := sumL_len (f := szClient) (show szClientS x.Clients ≤ 1048576 by omega)
 refine evK rfl ((e18 ..).trans (obind' hs ?_))
 unfold stuckV
 show (bif !stateB x then _ else _) = _
 cases stateB x with
 | false => exact bt' rfl (bt' okT_eq (by rw [ownNil]; rfl))
 | true =>
  refine bf' rfl ?_
  rw [nilI]
  refine u_go (S := fun i : Nat => S18 x.Clients (stuckN x.Clients i) (zN x.Clients.length) i) (n := x.Clients.length) ?_ (fun i hi hc => ?_)
  · exact lstep ((h18 ..).trans (bf' (decide_eq_false (by simp only [zN]; omega)) (bt' okT_eq rfl)))
  · have hn := stuckN_len x.Clients i
    refine lstep ((h18 ..).trans (bt' (decide_eq_true (by simp only [zN]; omega)) (bt' (bndL' hi) ?_)))
    rw [appI, wrapN (by omega)]
    simp only [Int.toNat_natCast]
    have e : stuckN x.Clients (i + 1) = bif (x.Clients.getD i zClient).Waiting then stuckN x.Clients i ++ [(i : Int)] else stuckN x.Clients i := rfl
    rw [e] at hc
    cases hw : (x.Clients.getD i zClient).Waiting with
    | true => rw [hw] at hc; exact bt' rfl (bt' (by simp; omega) hc)
    | false => rw [hw] at hc; exact bf' rfl hc
end Go.Fw
