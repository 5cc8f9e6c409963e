/- The law's value: true, whatever the state. -/
import Derived.Test.YtndmnbgcneaggaaGreatDoorV2
import Derived.Test.YtndmnbgcneaggaaGreatDoorV4
import Derived.Test.YtndmnbgcneaggaaGreatDoorS14
import Derived.Test.YtndmnbgcneaggaaGreatDoorM2
import Derived.Test.YtndmnbgcneaggaaGreatDoorKx
set_option linter.unusedVariables false
set_option linter.unusedSimpArgs false
set_option maxRecDepth 100000
namespace Go.Fw
open Go.Proofs
theorem szI (xs : List Int) : szIntS xs = xs.length := by
 have : (xs.map fun _ => 0).sum = 0 := by induction xs with
  | nil => rfl
  | cons a r ih => simp [ih]
 unfold szIntS sumL
 rw [this]; rfl
theorem v5 (x : VState) (hx : arState x) : E 5 [slState x] [] = some (.B true, []) := by
 refine evK rfl ((e5 ..).trans ?_)
 refine obind' (v6 x 1048576 (ok_State hx) (by omega) (by omega)) ?_
 by_cases bx : szState x ≤ 1048576
 · have e1 : subZ 1048576 (szState x) = 1048576 - szState x := subZ_le (by omega)
   rw [e1]
   refine bf' (decide_eq_false (by simp only [asI]; omega)) ?_
   have kt := v8 x bx
   have ks := v17 x bx
   have ki := v18 x bx
   have ke := w10 x bx
   have hl : (stuckV x).length ≤ 1048576 := by
    have hb := bx
    unfold szState at hb
    have h2 : x.Clients.length ≤ 1048576 := sumL_len (f := szClient) (show szClientS x.Clients ≤ 1048576 by omega)
    have h3 := stuckN_len x.Clients x.Clients.length
    unfold stuckV
    cases stateB x with
    | true => exact Nat.le_trans h3 h2
    | false => exact Nat.zero_le _
   generalize stuckV x = R at ks ki hl
   have kq := w13 R (by rw [szI]; exact hl)
   obtain ⟨k', r, em, hk⟩ := vm14 x 1 (by omega) (by omega)
   obtain ⟨z, ez, lz, hz⟩ := mmk R 1 (by omega) hl (by omega)
   have eh : E 16 [.sl R.length 1 (gsIntS z), nI 1] [] = some (nI (1 + z.length), []) := by
    rw [← lz]
    exact hmk z 1 (by omega) (by omega) (by omega) (fun j hj => hz j (by omega))
   have c1 : decide ((1 : Int) + (z.length : Int) < 0) = false := decide_eq_false (by omega)
   have c2 : (!decide ((1 : Int) + (z.length : Int) = 1 + (R.length : Int))) = false := by rw [lz]; simp
   refine obind' kt (obind' ks (obind' kt (obind' ki (obind' kq (bf' rfl ?_)))))
   refine (and2_self _).trans ?_
   refine obind' kt (obind' ke (bf' rfl (obind' em (bf' (decide_eq_false (by simp only [asI]; omega)) (obind' kq (bf' rfl (obind' ez (obind' eh ?_))))))))
   refine bf' c1 (bf' c2 (obind' kt (obind' ki (obind' kq (bf' rfl (obind' eh ?_))))))
   exact bf' c1 (bf' c2 rfl)
 · rw [subZ_gt (by omega)]
   exact bt' (decide_eq_true (by simp only [asI]; omega)) rfl
end Go.Fw
