/- Values: lines of clients. -/
import Derived.Test.YtndmnbgcneaggaaGreatDoorS3
import Derived.Test.YtndmnbgcneaggaaGreatDoorP1
set_option linter.unusedVariables false
set_option linter.unusedSimpArgs false
namespace Go.Fw
open Go.Proofs
theorem pre_eq {xs : List Int} {i : Nat} (h : i ≤ xs.length) : (AV.sl (i - 0) 1 fun i_1 j => mrg (decide (i_1 < i - 0)) (gsIntS xs (0 + i_1) j) (gsIntS xs xs.length j)) = slIntS (xs.take i) := by
 have hl : (xs.take i).length = i := by rw [List.length_take]; omega
 unfold slIntS
 rw [hl]
 show AV.sl i 1 _ = AV.sl i 1 _
 congr 1
 funext k j
 by_cases hk : k < i
 · rw [show decide (k < i - 0) = true from decide_eq_true (by omega), Nat.zero_add, mrg_true]
   unfold gsIntS gI
   rw [show (xs.take i).getD k 0 = xs.getD k 0 by simp [List.getD_eq_getElem?_getD, List.getElem?_take, hk]]
 · rw [show decide (k < i - 0) = false from decide_eq_false (by omega), mrg_false]
   unfold gsIntS gI
   rw [show (xs.take i).getD k 0 = xs.getD xs.length 0 by simp [List.getD_eq_getElem?_getD, List.getElem?_take, hk]]
theorem cont_val {g : Option (AV × List AV)} {n : Int} (h : g = some (nI n, [])) : Option.bind g (fun r => some (AV.B (decide (0 ≤ asI r.fst)), [])) = RB (decide (0 ≤ n)) := by subst h; rfl
theorem any_mem (xs : List Int) (a : Int) (p : Nat → Bool) (hp : ∀ j, p j = decide (xs.getD j 0 = a)) : (!allR (fun j => !p j) xs.length 0) = dB (a ∈ xs) := by
 refine dB_eq ?_
 rw [Bool.not_eq_true', ← Bool.not_eq_true, allR0]
 simp only [Bool.not_eq_true', hp, decide_eq_false_iff_not]
 constructor
 · intro h
   by_cases hm : a ∈ xs
   · exact hm
   · exact absurd (fun j hj e => hm (by rw [← e]; exact getD_mem hj)) h
 · intro hm h
   obtain ⟨j, hj, e⟩ := List.getElem_of_mem hm
   exact h j hj (by rw [List.getD_eq_getElem?_getD, List.getElem?_eq_getElem hj]; exact e)
theorem v196 (xs : List Int) (a : Int) (hb : xs.length ≤ 4294967296) : E 196 [slIntS xs, nI a] [] = RB (dB (a ∈ xs)) := by
 refine val (evK rfl ((e196 ..).trans (u_any (S := fun i : Nat => S196 xs.length xs a i) (n := xs.length) (P := fun j => decide (xs.getD j 0 = a)) ?_ (fun i c hi hc => ?_)))) (any_mem xs a _ fun j => rfl)
 · exact lstep ((h196 ..).trans (bf' (decide_eq_false (by simp only [zN]; omega)) rfl))
 · refine lstep ((h196 ..).trans (bt' (decide_eq_true (by simp only [zN]; omega)) (bt' (bndL' hi) ?_)))
   rw [wrapN (by omega)]
   simp only [Int.toNat_natCast]
   exact sI rfl hc
theorem v260 (xs : List Int) (a : Int) (hb : xs.length ≤ 4294967296) : E 260 [slIntS xs, nI a] [] = some (nI (fst1 (fun j => decide (a = xs.getD j 0)) xs.length 0), []) := by
 refine evK rfl ((e260 ..).trans (u_fst (S := fun i : Nat => S260 xs.length xs a (zN xs.length) i) (n := xs.length) (P := fun j => decide (a = xs.getD j 0)) ?_ (fun i c hi hc => ?_)))
 · exact lstep ((h260 ..).trans (bf' (decide_eq_false (by simp only [zN]; omega)) rfl))
 · refine lstep ((h260 ..).trans (bt' (decide_eq_true (by simp only [zN]; omega)) (bt' (bndL' hi) ?_)))
   rw [wrapN (by omega)]
   simp only [Int.toNat_natCast]
   cases decide (a = xs.getD i 0) with
   | true => rfl
   | false => exact hc
theorem v228 (xs : List Int) (a : Int) (hb : xs.length ≤ 4294967296) : E 228 [slIntS xs, nI a] [] = RB (dB (a ∈ xs)) := by
 refine val (evK rfl ((e228 ..).trans (cont_val (v260 xs a hb)))) ?_
 rw [fst1_nn]
 refine any_mem xs a _ fun j => ?_
 by_cases h : a = xs.getD j 0
 · rw [decide_eq_true h, decide_eq_true h.symm]
 · rw [decide_eq_false h, decide_eq_false (fun e => h e.symm)]
theorem v198 (n : Int) : E 198 [nI n] [] = RB (inR n 0 63) := ev1 0 rfl ((e198 ..).trans (obind' (v22 ..) rfl))
theorem v258 (n : Int) : E 258 [nI n] [] = RB (inR n 0 63) := ev1 0 rfl ((e258 ..).trans (obind' (v86 ..) rfl))
theorem v148 (n : Int) : E 148 [nI n] [] = RB (inR n 0 1000000000) := ev1 0 rfl ((e148 ..).trans (obind' (v86 ..) rfl))
theorem inR_iff {a b c : Int} : inR a b c = true ↔ b ≤ a ∧ a ≤ c := by unfold inR; simp
def LineP (xs : List Int) : Prop := xs.length ≤ 32 ∧ ∀ i, i < xs.length → (0 ≤ xs.getD i 0 ∧ xs.getD i 0 ≤ 63) ∧ xs.getD i 0 ∉ xs.take i
theorem line_all (xs : List Int) : allR (fun i => inR (xs.getD i 0) 0 63 && !dB (xs.getD i 0 ∈ xs.take i)) xs.length 0 = true ↔ ∀ i, i < xs.length → (0 ≤ xs.getD i 0 ∧ xs.getD i 0 ≤ 63) ∧ xs.getD i 0 ∉ xs.take i := by
 rw [allR0]
 refine forall_congr' fun i => forall_congr' fun hi => ?_
 rw [Bool.and_eq_true, inR_iff, Bool.not_eq_true', ← Bool.not_eq_true, dB_iff]
theorem v197 (xs : List Int) (hb : xs.length ≤ 4294967296) : E 197 [slIntS xs] [] = RB (dB (LineP xs)) := by
 refine val (evK rfl ((e197 ..).trans (sF (u_all (S := fun i : Nat => S197 xs i) (n := xs.length) (kb := true) (P := fun i => inR (xs.getD i 0) 0 63 && !dB (xs.getD i 0 ∈ xs.take i)) ?_ (fun i c hi hc => ?_))))) ?_
 · exact lstep ((h197 ..).trans (bf' (decide_eq_false (by simp only [zN]; omega)) rfl))
 · refine lstep ((h197 ..).trans (bt' (decide_eq_true (by simp only [zN]; omega)) (bt' (bndL' hi) ?_)))
   rw [wrapN (by omega)]
   simp only [Int.toNat_natCast, pre_eq (Nat.le_of_lt hi)]
   refine val (obind' (v198 _) (sN (bt' (by simp [zN]; omega) (bt' (bndL' hi) (obind' (v196 _ _ (by rw [List.length_take]; omega)) (sF hc)))))) ?_
   simp only [asB, Bool.and_assoc]
 · refine dB_eq ?_
   rw [Bool.and_true, Bool.and_eq_true, line_all]
   unfold LineP
   simp [zN]; omega
theorem v225 (xs : List Int) (hb : xs.length ≤ 4294967296) : E 225 [slIntS xs] [] = RB (dB (LineP xs)) := by
 refine val (evK rfl ((e225 ..).trans (u_all (S := fun i : Nat => S225 xs (zN xs.length) i) (n := xs.length) (kb := decide (zN xs.length ≤ 32)) (P := fun i => inR (xs.getD i 0) 0 63 && !dB (xs.getD i 0 ∈ xs.take i)) ?_ (fun i c hi hc => ?_)))) ?_
 · exact lstep ((h225 ..).trans (bf' (decide_eq_false (by simp only [zN]; omega)) rfl))
 · refine lstep ((h225 ..).trans (bt' (decide_eq_true (by simp only [zN]; omega)) (bt' (bndL' hi) ?_)))
   rw [wrapN (by omega)]
   simp only [Int.toNat_natCast, pre_eq (Nat.le_of_lt hi)]
   refine val (obind' (v258 _) (sN (bt' (by simp [zN]; omega) (obind' (v228 _ _ (by rw [List.length_take]; omega)) (sF hc))))) ?_
   simp only [asB, Bool.and_assoc]
 · refine dB_eq ?_
   rw [Bool.and_eq_true, line_all]
   unfold LineP
   simp [zN]
   exact ⟨fun h => ⟨by omega, h.1⟩, fun h => ⟨h.2, by omega⟩⟩
theorem v224 (xs : List Int) (hb : xs.length ≤ 4294967296) : E 224 [slIntS xs] [] = RB (dB (LineP xs)) := evK rfl ((e224 ..).trans (obind' (v225 xs hb) rfl))
def ApartP (l g : List Int) : Prop := LineP l ∧ LineP g ∧ ∀ i, i < g.length → g.getD i 0 ∉ l
theorem v200 (xs ys : List Int) (hb : xs.length ≤ 4294967296) (hb2 : ys.length ≤ 4294967296) : E 200 [slIntS xs, slIntS ys] [] = RB (dB (ApartP xs ys)) := by
 refine val (evK rfl ((e200 ..).trans (obind' (v197 xs hb) (sN (obind' (v197 ys hb2) (sN (u_all (S := fun i : Nat => S200 xs ys i) (n := ys.length) (kb := true) (P := fun i => !dB (ys.getD i 0 ∈ xs)) ?_ (fun i c hi hc => ?_)))))))) ?_
 · exact lstep ((h200 ..).trans (bf' (decide_eq_false (by simp only [zN]; omega)) rfl))
 · refine lstep ((h200 ..).trans (bt' (decide_eq_true (by simp only [zN]; omega)) (bt' (bndL' hi) ?_)))
   rw [wrapN (by omega)]
   simp only [Int.toNat_natCast]
   exact obind' (v196 _ _ hb) (sF hc)
 · refine dB_eq ?_
   simp only [asB, Bool.and_true, Bool.and_eq_true, dB_iff, allR0, Bool.not_eq_true', ← Bool.not_eq_true]
   exact Iff.rfl
theorem v227 (x : Int) (ys : List Int) (hb : ys.length ≤ 4294967296) : E 227 [nI x, .sp 1 (lstG [slIntS ys])] [] = RB (dB (x ∈ ys)) := evK rfl ((e227 ..).trans (obind' (v228 ys x hb) rfl))
theorem v259 (xs ys : List Int) (hb : xs.length ≤ 4294967296) (hb2 : ys.length ≤ 4294967296) : E 259 [slIntS xs, .clo 227 1 (lstG [.sp 1 (lstG [slIntS ys])])] [] = some (nI (fst1 (fun j => dB (xs.getD j 0 ∈ ys)) xs.length 0), []) := by
 refine evK rfl ((e259 ..).trans (u_fst (S := fun i : Nat => S259 xs.length xs ys (zN xs.length) i) (n := xs.length) (P := fun j => dB (xs.getD j 0 ∈ ys)) ?_ (fun i c hi hc => ?_)))
 · exact lstep ((h259 ..).trans (bf' (decide_eq_false (by simp only [zN]; omega)) rfl))
 · refine lstep ((h259 ..).trans (bt' (decide_eq_true (by simp only [zN]; omega)) (bt' (bndL' hi) ?_)))
   rw [wrapN (by omega)]
   simp only [Int.toNat_natCast]
   refine obind' (v227 _ _ hb2) ?_
   cases dB (xs.getD i 0 ∈ ys) with
   | true => rfl
   | false => exact hc
theorem v147 (xs ys : List Int) (hb : xs.length ≤ 4294967296) (hb2 : ys.length ≤ 4294967296) : E 147 [slIntS xs, slIntS ys] [] = RB (dB (ApartP xs ys)) := by
 have k : E 226 [slIntS ys, .clo 227 1 (lstG [.sp 1 (lstG [slIntS xs])])] [] = RB (!allR (fun j => !dB (ys.getD j 0 ∈ xs)) ys.length 0) :=
  evK rfl ((e226 ..).trans (val (cont_val (v259 ys xs hb2 hb)) (fst1_nn _ _ _)))
 refine val (evK rfl ((e147 ..).trans (obind' (v224 xs hb) (sP (obind' (v225 ys hb2) (sP (obind' k rfl))))))) ?_
 refine dB_eq ?_
 simp only [asB, Bool.not_not, Bool.and_eq_true, dB_iff, allR0, Bool.not_eq_true', ← Bool.not_eq_true]
 exact Iff.rfl
end Go.Fw
