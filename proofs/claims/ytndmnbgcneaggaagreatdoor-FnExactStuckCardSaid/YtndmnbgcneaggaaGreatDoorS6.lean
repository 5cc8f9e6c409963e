/- Values: looking through rows by a function; 'all are right'. -/
import Derived.Test.YtndmnbgcneaggaaGreatDoorS5
set_option linter.unusedVariables false
set_option linter.unusedSimpArgs false
namespace Go.Fw
open Go.Proofs
theorem sumL_mem {α : Type} {f : α → Nat} {xs : List α} {b : Nat} (h : sumL f xs ≤ b) : ∀ x ∈ xs, f x ≤ b := by
 intro x hx
 obtain ⟨j, hj, e⟩ := List.getElem_of_mem hx
 have := sumL_get (d := x) h hj
 rw [List.getD_eq_getElem?_getD, List.getElem?_eq_getElem hj] at this
 rw [← e]; exact this
def smCall (c : VCall) : Prop := c.Filter.length ≤ 4294967296 ∧ small c.Filter ∧ c.Name.size ≤ 4294967200 ∧ c.Msg.Text.size ≤ 4294967296
theorem smTerms {ts : List VTerm} (h : szTermS ts ≤ 1048576) : ts.length ≤ 4294967296 ∧ small ts := ⟨Nat.le_trans (sumL_len h) (by omega), fun x hx => sumL_mem h x hx⟩
theorem smCall_of {c : VCall} (h : szCall c ≤ 1048576) : smCall c := by
 unfold szCall szMsg at h
 have := smTerms (ts := c.Filter) (by omega)
 exact ⟨this.1, this.2, by omega, by omega⟩
theorem v217 (x : VTopic) (s : ByteArray) : E 217 [slTopic x, .sp 1 (lstG [.S s])] [] = RB (x.Name.toList == s.toList) := evK rfl (e217 ..)
theorem v216 (xs : List VTopic) (s : ByteArray) (hb : xs.length ≤ 4294967296)  : E 216 [.sl xs.length 9 (gsTopicS xs), .clo 217 1 (lstG [.sp 1 (lstG [.S s])])] [] = some (nI (fst1 (fun j => (xs.getD j zTopic).Name.toList == s.toList) xs.length 0), []) := by
 refine evK rfl ((e216 ..).trans (u_fst (S := fun i : Nat => S216 xs.length xs s (zN xs.length) i) (n := xs.length) (P := fun j => (xs.getD j zTopic).Name.toList == s.toList) ?_ (fun i c hi hc => ?_)))
 · exact lstep ((h216 ..).trans (bf' (decide_eq_false (by simp only [zN]; omega)) rfl))
 · refine lstep ((h216 ..).trans (bt' (decide_eq_true (by simp only [zN]; omega)) (bt' (bndL' hi) ?_)))
   rw [wrapN (by omega)]
   simp only [Int.toNat_natCast]
   refine obind' (v217 _ _) ?_
   cases ((xs.getD i zTopic).Name.toList == s.toList) with
   | true => rfl
   | false => exact hc
theorem v143 (xs : List VTopic) (s : ByteArray) (hb : xs.length ≤ 4294967296) : E 143 [slTopicS xs, .S s] [] = some (nI (fst1 (fun j => (xs.getD j zTopic).Name.toList == s.toList) xs.length 0), []) :=
 evK rfl ((e143 ..).trans (obind' (v216 xs s hb) rfl))
theorem v262 (x : VSub) (a : Int) : E 262 [slSub x, .sp 1 (lstG [nI a])] [] = RB (decide (x.Id = a)) := evK rfl (e262 ..)
theorem v261 (xs : List VSub) (a : Int) (hb : xs.length ≤ 4294967296)  : E 261 [.sl xs.length 7 (gsSubS xs), .clo 262 1 (lstG [.sp 1 (lstG [nI a])])] [] = some (nI (fst1 (fun j => decide ((xs.getD j zSub).Id = a)) xs.length 0), []) := by
 refine evK rfl ((e261 ..).trans (u_fst (S := fun i : Nat => S261 xs.length xs a (zN xs.length) i) (n := xs.length) (P := fun j => decide ((xs.getD j zSub).Id = a)) ?_ (fun i c hi hc => ?_)))
 · exact lstep ((h261 ..).trans (bf' (decide_eq_false (by simp only [zN]; omega)) rfl))
 · refine lstep ((h261 ..).trans (bt' (decide_eq_true (by simp only [zN]; omega)) (bt' (bndL' hi) ?_)))
   rw [wrapN (by omega)]
   simp only [Int.toNat_natCast]
   refine obind' (v262 _ _) ?_
   cases (decide ((xs.getD i zSub).Id = a)) with
   | true => rfl
   | false => exact hc
theorem v233 (x : VRing) (a : Int) (hb : x.Subs.length ≤ 4294967296) : E 233 [slRing x, nI a] [] = some (nI (fst1 (fun j => decide ((x.Subs.getD j zSub).Id = a)) x.Subs.length 0), []) :=
 evK rfl ((e233 ..).trans (obind' (v261 x.Subs a hb) rfl))
theorem v220 (x : VMsg) (h : x.Text.size ≤ 4294967296) : E 220 [slMsg x] [] = RB (!okMs x) := evK rfl ((e220 ..).trans (obind' (v155 x h) rfl))
theorem v256 (xs : List VMsg)  (hb : xs.length ≤ 4294967296) (hm : ∀ x ∈ xs, x.Text.size ≤ 4294967296) : E 256 [.sl xs.length 3 (gsMsgS xs), .clo 220 0 (lstG [])] [] = some (nI (fst1 (fun j => (!okMs (xs.getD j zMsg))) xs.length 0), []) := by
 refine evK rfl ((e256 ..).trans (u_fst (S := fun i : Nat => S256 xs.length xs  (zN xs.length) i) (n := xs.length) (P := fun j => (!okMs (xs.getD j zMsg))) ?_ (fun i c hi hc => ?_)))
 · exact lstep ((h256 ..).trans (bf' (decide_eq_false (by simp only [zN]; omega)) rfl))
 · refine lstep ((h256 ..).trans (bt' (decide_eq_true (by simp only [zN]; omega)) (bt' (bndL' hi) ?_)))
   rw [wrapN (by omega)]
   simp only [Int.toNat_natCast]
   refine obind' (v220 _ (hm _ (getD_mem hi))) ?_
   cases ((!okMs (xs.getD i zMsg))) with
   | true => rfl
   | false => exact hc
theorem v219 (xs : List VMsg)  (hb : xs.length ≤ 4294967296) (hm : ∀ x ∈ xs, x.Text.size ≤ 4294967296) : E 219 [.sl xs.length 3 (gsMsgS xs), .clo 220 0 (lstG [])] [] = RB (!allR (fun j => !(!okMs (xs.getD j zMsg))) xs.length 0) :=
 evK rfl ((e219 ..).trans (val (cont_val (v256 xs  hb hm)) (fst1_nn _ _ _)))
theorem v160 (x g : VLeg) : E 160 [slLeg x, .sp 4 (lstG (clLeg g))] [] = RB (decide (x.Topic = g.Topic)) := evK rfl (e160 ..)
theorem v234 (xs : List VLeg) (g : VLeg) (hb : xs.length ≤ 4294967296)  : E 234 [.sl xs.length 4 (gsLegS xs), .clo 160 1 (lstG [.sp 4 (lstG (clLeg g))])] [] = some (nI (fst1 (fun j => decide ((xs.getD j zLeg).Topic = g.Topic)) xs.length 0), []) := by
 refine evK rfl ((e234 ..).trans (u_fst (S := fun i : Nat => S234 xs.length xs g (zN xs.length) i) (n := xs.length) (P := fun j => decide ((xs.getD j zLeg).Topic = g.Topic)) ?_ (fun i c hi hc => ?_)))
 · exact lstep ((h234 ..).trans (bf' (decide_eq_false (by simp only [zN]; omega)) rfl))
 · refine lstep ((h234 ..).trans (bt' (decide_eq_true (by simp only [zN]; omega)) (bt' (bndL' hi) ?_)))
   rw [wrapN (by omega)]
   simp only [Int.toNat_natCast]
   refine obind' (v160 _ _) ?_
   cases (decide ((xs.getD i zLeg).Topic = g.Topic)) with
   | true => rfl
   | false => exact hc
theorem v159 (xs : List VLeg) (g : VLeg) (hb : xs.length ≤ 4294967296)  : E 159 [.sl xs.length 4 (gsLegS xs), .clo 160 1 (lstG [.sp 4 (lstG (clLeg g))])] [] = RB (!allR (fun j => !decide ((xs.getD j zLeg).Topic = g.Topic)) xs.length 0) :=
 evK rfl ((e159 ..).trans (val (cont_val (v234 xs g hb )) (fst1_nn _ _ _)))
theorem v84 (x : VCall) (h : smCall x) : E 84 [slCall x] [] = RB (!callOk x) := evK rfl ((e84 ..).trans (obind' (v85 x h.1 h.2.1 h.2.2.1 h.2.2.2) rfl))
theorem v164 (xs : List VCall)  (hb : xs.length ≤ 4294967296) (hm : ∀ x ∈ xs, smCall x) : E 164 [.sl xs.length 9 (gsCallS xs), .clo 84 0 (lstG [])] [] = some (nI (fst1 (fun j => (!callOk (xs.getD j zCall))) xs.length 0), []) := by
 refine evK rfl ((e164 ..).trans (u_fst (S := fun i : Nat => S164 xs.length xs  (zN xs.length) i) (n := xs.length) (P := fun j => (!callOk (xs.getD j zCall))) ?_ (fun i c hi hc => ?_)))
 · exact lstep ((h164 ..).trans (bf' (decide_eq_false (by simp only [zN]; omega)) rfl))
 · refine lstep ((h164 ..).trans (bt' (decide_eq_true (by simp only [zN]; omega)) (bt' (bndL' hi) ?_)))
   rw [wrapN (by omega)]
   simp only [Int.toNat_natCast]
   refine obind' (v84 _ (hm _ (getD_mem hi))) ?_
   cases ((!callOk (xs.getD i zCall))) with
   | true => rfl
   | false => exact hc
theorem v83 (xs : List VCall)  (hb : xs.length ≤ 4294967296) (hm : ∀ x ∈ xs, smCall x) : E 83 [.sl xs.length 9 (gsCallS xs), .clo 84 0 (lstG [])] [] = RB (!allR (fun j => !(!callOk (xs.getD j zCall))) xs.length 0) :=
 evK rfl ((e83 ..).trans (val (cont_val (v164 xs  hb hm)) (fst1_nn _ _ _)))
end Go.Fw
