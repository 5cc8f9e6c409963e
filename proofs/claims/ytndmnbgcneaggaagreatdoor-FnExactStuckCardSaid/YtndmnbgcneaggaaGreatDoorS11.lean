/- Values: topics, merges. -/
import Derived.Test.YtndmnbgcneaggaaGreatDoorS10
set_option linter.unusedVariables false
set_option linter.unusedSimpArgs false
namespace Go.Fw
open Go.Proofs
noncomputable def topI (xs : List VTopic) (i : Nat) : Bool := nameOk (xs.getD i zTopic).Name && (ringB (xs.getD i zTopic).Ring && allR (fun k => !((xs.getD k zTopic).Name.toList == (xs.getD i zTopic).Name.toList)) i 0)
noncomputable def topB (xs : List VTopic) : Bool := decide (xs.length ≤ 12) && allR (topI xs) xs.length 0
theorem topic_small {xs : List VTopic} (hb : szTopicS xs ≤ 1048576) {i : Nat} (hi : i < xs.length) : (xs.getD i zTopic).Name.size ≤ 4294967200 ∧ szRing (xs.getD i zTopic).Ring ≤ 1048576 := by
 have := sumL_get (d := zTopic) (f := szTopic) hb hi
 unfold szTopic at this
 exact ⟨by omega, by omega⟩
theorem v46 (xs : List VTopic) (hb : szTopicS xs ≤ 1048576) : E 46 [slTopicS xs] [] = RB (topB xs) := by
 have hlen : xs.length ≤ 1048576 := sumL_len hb
 refine val (evK rfl ((e46 ..).trans (sF (u_all (S := fun i : Nat => S46a xs i) (n := xs.length) (kb := true) (P := topI xs) ?_ (fun i c hi hc => ?_))))) ?_
 · exact lstep ((h46a ..).trans (bf' (decide_eq_false (by simp only [zN]; omega)) rfl))
 · have hsm := topic_small hb hi
   have inner : L 46 [] P46b (S46b xs i 0) = RB (allR (fun k => !((xs.getD k zTopic).Name.toList == (xs.getD i zTopic).Name.toList)) i 0 && c) := by
    refine u_all (S := fun k : Nat => S46b xs i k) (n := i) ?_ (fun k c hk hc => ?_)
    · refine lstep ((h46b ..).trans (bf' (decide_eq_false (by omega)) ?_))
      rw [wrapN (by omega)]
      exact hc
    · refine lstep ((h46b ..).trans (bt' (decide_eq_true (by omega)) (bt' (bndL' (by omega)) (bt' (bndL' hi) ?_))))
      rw [wrapN (by omega)]
      simp only [Int.toNat_natCast]
      exact sF hc
   refine lstep ((h46a ..).trans (bt' (decide_eq_true (by simp only [zN]; omega)) (bt' (bndL' hi) ?_)))
   simp only [Int.toNat_natCast]
   refine val (obind' (v119 _ hsm.1) (sN (bt' (bndL' hi) (obind' (v120 _ hsm.2) (sN inner))))) ?_
   simp only [asB, topI, Bool.and_assoc]
 · unfold topB
   rw [Bool.and_true, ← gt_len 12]
   rfl
theorem v68 (xs : List VTopic) (hb : szTopicS xs ≤ 1048576) : E 68 [slTopicS xs] [] = RB (topB xs) := by
 have hlen : xs.length ≤ 1048576 := sumL_len hb
 refine val (evK rfl ((e68 ..).trans (u_all (S := fun i : Nat => S68 xs xs (zN xs.length) i) (n := xs.length) (P := topI xs) (lstep ((h68 ..).trans (bf' (decide_eq_false (by simp only [zN]; omega)) rfl))) (fun i c hi hc => ?_)))) ?_
 · have hsm := topic_small hb hi
   refine lstep ((h68 ..).trans (bt' (decide_eq_true (by simp only [zN]; omega)) (bt' (bndL' hi) ?_)))
   rw [wrapN (by omega)]
   simp only [Int.toNat_natCast]
   refine val (obind' (v142 _ hsm.1) (sN (obind' (v143 _ _ (by omega)) (sN (obind' (v144 _ hsm.2) (sN hc)))))) ?_
   simp only [asB, asI, topI, Bool.and_assoc]
   have k : decide (fst1 (fun j => (xs.getD j zTopic).Name.toList == (xs.getD i zTopic).Name.toList) xs.length 0 = (i : Int)) = allR (fun k => !((xs.getD k zTopic).Name.toList == (xs.getD i zTopic).Name.toList)) i 0 := by
    rw [Bool.eq_iff_iff, decide_eq_true_eq, fst1_eq0 hi (by simp), allR0]
    simp only [Bool.not_eq_true']
   rw [← k]
   cases nameOk (xs.getD i zTopic).Name <;> cases ringB (xs.getD i zTopic).Ring <;> cases c <;> simp
 · unfold topB
   rw [show decide (zN xs.length ≤ (12 : Int)) = decide (xs.length ≤ 12) from le_len 12, Bool.and_comm]
theorem v65 (xs : List VTopic) (n : Int) : E 65 [slTopicS xs, nI n] [] = RB (inR n 0 (IntKind.i64.wrap (zN xs.length - 1))) := evK rfl ((e65 ..).trans (obind' (v86 ..) rfl))
theorem top_bnd {n : Nat} {t : Int} (h : inR t 0 (IntKind.i64.wrap (zN n - 1)) = true) (hn : n ≤ 4294967296) : (bif decide (0 ≤ t) then decide (t < zN n) else false) = true := by
 have h := inR_iff.1 h
 rw [wrapS (x := zN n - 1) (by simp only [zN]; omega) (by simp only [zN]; omega)] at h
 rw [decide_eq_true h.1]
 exact decide_eq_true (by omega)
abbrev legR (xs : List VTopic) (g : VLeg) : VRing := (xs.getD g.Topic.toNat zTopic).Ring
noncomputable def hasB (xs : List VTopic) (g : VLeg) : Bool := decide (0 ≤ atI (legR xs g) g.Id) && (!dB (g.Id ∈ (legR xs g).Line) && !dB (g.Id ∈ (legR xs g).Grants))
theorem ring_small {xs : List VTopic} (hb : szTopicS xs ≤ 1048576) {g : VLeg} (h : inR g.Topic 0 (IntKind.i64.wrap (zN xs.length - 1)) = true) : (legR xs g).Subs.length ≤ 4294967296 ∧ (legR xs g).Line.length ≤ 4294967296 ∧ (legR xs g).Grants.length ≤ 4294967296 := by
 have hlen : xs.length ≤ 1048576 := sumL_len hb
 have k := inR_iff.1 h
 rw [wrapS (x := zN xs.length - 1) (by simp only [zN]; omega) (by simp only [zN]; omega)] at k
 have hs : szRing (legR xs g) ≤ 1048576 := (topic_small hb (i := g.Topic.toNat) (by simp only [zN] at k; omega)).2
 unfold szRing at hs
 have h1 : (legR xs g).Subs.length ≤ 1048576 := sumL_len (f := szSub) (show szSubS (legR xs g).Subs ≤ 1048576 by omega)
 have h2 : (legR xs g).Line.length ≤ 1048576 := sumL_len (f := fun _ => 0) (show szIntS (legR xs g).Line ≤ 1048576 by omega)
 have h3 : (legR xs g).Grants.length ≤ 1048576 := sumL_len (f := fun _ => 0) (show szIntS (legR xs g).Grants ≤ 1048576 by omega)
 exact ⟨by omega, by omega, by omega⟩
theorem v158 (xs : List VTopic) (g : VLeg) (hb : szTopicS xs ≤ 1048576) (h : inR g.Topic 0 (IntKind.i64.wrap (zN xs.length - 1)) = true) : E 158 [slTopicS xs, slLeg g] [] = RB (hasB xs g) := by
 have hlen : xs.length ≤ 1048576 := sumL_len hb
 have hs := ring_small hb h
 exact val (evK rfl ((e158 ..).trans (bt' (top_bnd h (by omega)) (obind' (v233 _ _ hs.1) (sP (obind' (v228 _ _ hs.2.1) (sP (obind' (v228 _ _ hs.2.2) rfl)))))))) rfl
abbrev legAt (x : VMerge) (i : Nat) : VLeg := x.Legs.getD i zLeg
noncomputable def legB (xs : List VTopic) (x : VMerge) (i : Nat) : Bool := inR (legAt x i).Topic 0 (IntKind.i64.wrap (zN xs.length - 1)) && (!decide ((legAt x i).Topic = x.Into) && (inR (legAt x i).Lost 0 1000000000 && (allR (fun k => !decide ((legAt x k).Topic = (legAt x i).Topic)) i 0 && (bif (legAt x i).Over then true else hasB xs (legAt x i)))))
theorem v125 (xs : List VTopic) (x : VMerge) (n : Nat) (hb : szTopicS xs ≤ 1048576) (hn : n < x.Legs.length) (hl : x.Legs.length ≤ 1048576) : E 125 [slTopicS xs, slMerge x, nI (n : Int)] [] = RB (legB xs x n) := by
 have hlen : xs.length ≤ 1048576 := sumL_len hb
 refine evK rfl ((e125 ..).trans (bt' (bndL' hn) ?_))
 simp only [Int.toNat_natCast]
 refine obind' (v22 ..) ?_
 unfold legB
 show (bif !inR (legAt x n).Topic 0 (IntKind.i64.wrap (zN xs.length - 1)) then _ else _) = _
 cases ht : inR (legAt x n).Topic 0 (IntKind.i64.wrap (zN xs.length - 1)) with
 | false => rfl
 | true =>
  have hs := ring_small hb ht
  refine val (bf' rfl (sF (obind' (v22 ..) (sN (u_all (S := fun k : Nat => S125 xs x (legAt x n) n k) (n := n) (P := fun k => !decide ((legAt x k).Topic = (legAt x n).Topic)) (kb := bif (legAt x n).Over then true else hasB xs (legAt x n)) ?_ (fun k c hk hc => ?_)))))) ?_
  · refine lstep ((h125 ..).trans (bf' (decide_eq_false (by omega)) (bt' (top_bnd ht (by omega)) ?_)))
    exact val (sI (c := (legAt x n).Over) rfl (obind' (v195 _ _ hs.1) (sP (obind' (v196 _ _ hs.2.1) (sP (obind' (v196 _ _ hs.2.2) rfl)))))) rfl
  · refine lstep ((h125 ..).trans (bt' (decide_eq_true (by omega)) (bt' (bndL' (by omega)) ?_)))
    rw [wrapN (by omega)]
    simp only [Int.toNat_natCast]
    exact sF hc
  · simp only [asB, Bool.true_and]
noncomputable def mergeB (xs : List VTopic) (x : VMerge) : Bool := inR (zN x.Legs.length) 1 6 && (inR x.Into 0 (IntKind.i64.wrap (zN xs.length - 1)) && (inR x.Moved 0 1000000000 && allR (legB xs x) x.Legs.length 0))
theorem v48 (xs : List VTopic) (x : VMerge) (hb : szTopicS xs ≤ 1048576) (hx : szMerge x ≤ 1048576) : E 48 [slTopicS xs, slMerge x] [] = RB (topB xs && mergeB xs x) := by
 unfold szMerge at hx
 have hl : x.Legs.length ≤ 1048576 := sumL_len hx
 refine val (evK rfl ((e48 ..).trans (obind' (v46 xs hb) (sN (obind' (v22 ..) (sN (obind' (v22 ..) (sN (obind' (v22 ..) (sN (u_all (S := fun i : Nat => S48 xs x i) (n := x.Legs.length) (kb := true) (P := legB xs x) ?_ (fun i c hi hc => ?_)))))))))))) ?_
 · exact lstep ((h48 ..).trans (bf' (decide_eq_false (by simp only [zN]; omega)) rfl))
 · refine lstep ((h48 ..).trans (bt' (decide_eq_true (by simp only [zN]; omega)) ?_))
   rw [wrapN (by omega)]
   exact obind' (v125 xs x i hb hi hl) (sN hc)
 · unfold mergeB
   simp only [asB, Bool.and_true]
theorem pre_eqL {xs : List VLeg} {i : Nat} (h : i ≤ xs.length) : (AV.sl (i - 0) 4 fun i_1 j => mrg (decide (i_1 < i - 0)) (gsLegS xs (0 + i_1) j) (gsLegS xs xs.length j)) = slLegS (xs.take i) := by
 have hl : (xs.take i).length = i := by rw [List.length_take]; omega
 unfold slLegS
 rw [hl]
 show AV.sl i 4 _ = AV.sl i 4 _
 congr 1
 funext k j
 by_cases hk : k < i
 · rw [show decide (k < i - 0) = true from decide_eq_true (by omega), Nat.zero_add, mrg_true]
   unfold gsLegS
   rw [show (xs.take i).getD k zLeg = xs.getD k zLeg by simp [List.getD_eq_getElem?_getD, List.getElem?_take, hk]]
 · rw [show decide (k < i - 0) = false from decide_eq_false (by omega), mrg_false]
   unfold gsLegS
   rw [show (xs.take i).getD k zLeg = xs.getD xs.length zLeg by simp [List.getD_eq_getElem?_getD, List.getElem?_take, hk]]
theorem v79 (xs : List VTopic) (x : VMerge) (hb : szTopicS xs ≤ 1048576) (hx : szMerge x ≤ 1048576) : E 79 [slTopicS xs, slMerge x] [] = RB (mergeB xs x) := by
 unfold szMerge at hx
 have hl : x.Legs.length ≤ 1048576 := sumL_len hx
 have hlen : xs.length ≤ 1048576 := sumL_len hb
 refine val (evK rfl ((e79 ..).trans (obind' (v86 ..) (sN (obind' (v65 ..) (sN (obind' (v86 ..) (sN (u_all (S := fun i : Nat => S79 xs x x.Legs (zN x.Legs.length) i) (n := x.Legs.length) (kb := true) (P := legB xs x) ?_ (fun i c hi hc => ?_)))))))))) ?_
 · exact lstep ((h79 ..).trans (bf' (decide_eq_false (by simp only [zN]; omega)) rfl))
 · refine lstep ((h79 ..).trans (bt' (decide_eq_true (by simp only [zN]; omega)) (bt' (bndL' hi) ?_)))
   rw [wrapN (by omega)]
   simp only [Int.toNat_natCast, pre_eqL (Nat.le_of_lt hi)]
   refine obind' (v65 ..) ?_
   unfold legB
   show (bif !inR (legAt x i).Topic 0 (IntKind.i64.wrap (zN xs.length - 1)) then _ else _) = _
   cases ht : inR (legAt x i).Topic 0 (IntKind.i64.wrap (zN xs.length - 1)) with
   | false => rfl
   | true =>
    have hR : (bif decide (0 ≤ (i : Int)) && decide ((i : Int) ≤ zN x.Legs.length) then
      (Option.bind (E 159 [slLegS (x.Legs.take i), .clo 160 1 (lstG [AV.sp 4 (lstG (clLeg (x.Legs.getD i zLeg)))])] []) fun r9 =>
       bif asB r9.fst then some (AV.B false, []) else L 79 [] P79 (S79 xs x x.Legs (zN x.Legs.length) ((i + 1 : Nat) : Int)))
      else none) = RB (allR (fun k => !decide ((legAt x k).Topic = (legAt x i).Topic)) i 0 && c) := by
     refine val (bt' (by rw [decide_eq_true (show (0 : Int) ≤ (i : Int) by omega), decide_eq_true (show (i : Int) ≤ zN x.Legs.length by simp only [zN]; omega)]; rfl) (obind' (v159 (x.Legs.take i) _ (by rw [List.length_take]; omega)) (sF hc))) ?_
     simp only [asB, Bool.not_not]
     rw [show (x.Legs.take i).length = i by rw [List.length_take]; omega]
     congr 1
     refine allR_congr fun j hj => ?_
     rw [show (x.Legs.take i).getD j zLeg = x.Legs.getD j zLeg by simp [List.getD_eq_getElem?_getD, List.getElem?_take, hj]]
    refine val (bf' rfl (sF (obind' (v86 ..) (sN (sI (obind' (v158 xs _ hb ht) (sN hR)) hR))))) ?_
    simp only [asB, Bool.true_and, Bool.and_assoc]
    cases (legAt x i).Over <;> cases hasB xs (legAt x i) <;> simp
 · unfold mergeB
   simp only [asB, Bool.and_true]
end Go.Fw
