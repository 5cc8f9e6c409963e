/- Values: rings. -/
import Derived.Test.YtndmnbgcneaggaaGreatDoorS9
set_option linter.unusedVariables false
set_option linter.unusedSimpArgs false
namespace Go.Fw
open Go.Proofs
theorem pre_eq2 {xs : List Int} {i : Nat} (h : i ≤ xs.length) : (AV.sl (i - 0) 1 fun i_1 => lstG [nI (bif decide (i_1 < i - 0) then xs.getD (0 + i_1) 0 else xs.getD xs.length 0)]) = slIntS (xs.take i) := by
 have hl : (xs.take i).length = i := by rw [List.length_take]; omega
 unfold slIntS
 rw [hl]
 show AV.sl i 1 _ = AV.sl i 1 _
 congr 1
 funext k
 unfold gsIntS gI
 by_cases hk : k < i
 · rw [show decide (k < i - 0) = true from decide_eq_true (by omega), Nat.zero_add]
   simp only [cond_true]
   rw [show (xs.take i).getD k 0 = xs.getD k 0 by simp [List.getD_eq_getElem?_getD, List.getElem?_take, hk]]
 · rw [show decide (k < i - 0) = false from decide_eq_false (by omega)]
   simp only [cond_false]
   rw [show (xs.take i).getD k 0 = xs.getD xs.length 0 by simp [List.getD_eq_getElem?_getD, List.getElem?_take, hk]]
noncomputable def waitI (x : VRing) (os : List Int) (i : Nat) : Bool := !decide (atI x (os.getD i 0) < 0) && (!dB (os.getD i 0 ∈ os.take i) && !(decide ((i : Int) < zN x.Line.length) && !decide ((x.Subs.getD (atI x (os.getD i 0)).toNat zSub).Cursor = x.Sent)))
theorem atI_rng (x : VRing) (a : Int) (h : ¬ atI x a < 0) : (bif decide (0 ≤ atI x a) then decide (atI x a < zN x.Subs.length) else false) = true := by
 unfold atI at h ⊢
 rcases fst1_rng (fun j => decide ((x.Subs.getD j zSub).Id = a)) x.Subs.length 0 with e | ⟨j, e, _, hj, _⟩
 · rw [e] at h; omega
 · rw [e]; exact bndL' (by omega)
theorem wait_leaf {x : VRing} {os : List Int} {i : Nat} {c : Bool} {N : Option (AV × List AV)} (hN : N = RB c) (h : ¬ atI x (os.getD i 0) < 0) :
  (bif decide ((i : Int) < zN x.Line.length) then
   (bif bif decide (0 ≤ atI x (os.getD i 0)) then decide (atI x (os.getD i 0) < zN x.Subs.length) else false then
    (bif !decide ((x.Subs.getD (atI x (os.getD i 0)).toNat zSub).Cursor = x.Sent) then some (AV.B false, []) else N) else none)
   else N) = RB (!(decide ((i : Int) < zN x.Line.length) && !decide ((x.Subs.getD (atI x (os.getD i 0)).toNat zSub).Cursor = x.Sent)) && c) := by
 subst hN
 rw [atI_rng x _ h]
 cases decide ((i : Int) < zN x.Line.length) <;> cases decide ((x.Subs.getD (atI x (os.getD i 0)).toNat zSub).Cursor = x.Sent) <;> rfl
abbrev wsR (x : VRing) : List Int := x.Line ++ x.Grants
theorem wait_sp (x : VRing) (hs : x.Subs.length ≤ 1048576) (ho : (wsR x).length ≤ 4294967296) :
  L 120 [] P120c (S120c x (wsR x) 0) = RB (allR (waitI x (wsR x)) (wsR x).length 0 && true) := by
 refine u_all (S := fun i : Nat => S120c x (wsR x) i) (n := (wsR x).length) ?_ (fun i c hi hc => ?_)
 · exact lstep ((h120c ..).trans (bf' (decide_eq_false (by simp only [zN]; omega)) rfl))
 · refine lstep ((h120c ..).trans (bt' (decide_eq_true (by simp only [zN]; omega)) (bt' (bndL' hi) ?_)))
   rw [wrapN (by omega)]
   simp only [Int.toNat_natCast, pre_eq2 (Nat.le_of_lt hi)]
   refine obind' (v195 _ _ (by omega)) ?_
   unfold waitI
   show (bif decide (atI x ((wsR x).getD i 0) < 0) then _ else _) = _
   by_cases h : atI x ((wsR x).getD i 0) < 0
   · rw [decide_eq_true h]; rfl
   · rw [decide_eq_false h]
     refine val (bf' rfl (bt' (by rw [decide_eq_true (show (0 : Int) ≤ (i : Int) by omega), decide_eq_true (show (i : Int) ≤ zN (wsR x).length by simp only [zN]; omega)]; rfl) (bt' (bndL' hi) (obind' (v196 _ _ (by rw [List.length_take]; omega)) (sF (wait_leaf hc h)))))) ?_
     simp only [asB, Bool.not_false, Bool.true_and, Bool.and_assoc]
theorem v222 (x : VRing) (hs : x.Subs.length ≤ 1048576) (h1 : x.Line.length ≤ 1048576) (h2 : x.Grants.length ≤ 1048576) :
  E 222 [slRing x] [] = RB (allR (waitI x (wsR x)) (wsR x).length 0 && (bif x.Closed then !decide (0 < zN x.Line.length) else true)) := by
 have ho : (wsR x).length ≤ 4294967296 := by rw [List.length_append]; omega
 refine evK rfl ((e222 ..).trans (obind' (v257 _ _ h1 h2) ?_))
 refine u_all (S := fun i : Nat => S222 x (wsR x) (zN (wsR x).length) i) (n := (wsR x).length) ?_ (fun i c hi hc => ?_)
 · exact lstep ((h222 ..).trans (bf' (decide_eq_false (by simp only [zN]; omega)) (sI rfl rfl)))
 · refine lstep ((h222 ..).trans (bt' (decide_eq_true (by simp only [zN]; omega)) (bt' (bndL' hi) ?_)))
   rw [wrapN (by omega)]
   simp only [Int.toNat_natCast, pre_eq2 (Nat.le_of_lt hi)]
   refine obind' (v233 _ _ (by omega)) ?_
   unfold waitI
   show (bif decide (atI x ((wsR x).getD i 0) < 0) then _ else _) = _
   by_cases h : atI x ((wsR x).getD i 0) < 0
   · rw [decide_eq_true h]; rfl
   · rw [decide_eq_false h]
     refine val (bf' rfl (bt' (by rw [decide_eq_true (show (0 : Int) ≤ (i : Int) by omega), decide_eq_true (show (i : Int) ≤ zN (wsR x).length by simp only [zN]; omega)]; rfl) (obind' (v228 _ _ (by rw [List.length_take]; omega)) (sF (wait_leaf hc h))))) ?_
     simp only [asB, Bool.not_false, Bool.true_and, Bool.and_assoc]
def subI (x : VRing) (i : Nat) : Bool := inR (x.Subs.getD i zSub).Id 0 (IntKind.i64.wrap (x.Next - 1)) && (!(decide (0 < i) && decide ((x.Subs.getD i zSub).Id ≤ (x.Subs.getD (i - 1) zSub).Id)) && subB x (x.Subs.getD i zSub))
noncomputable def ringB (x : VRing) : Bool := inR x.Cap 1 16 && (inR x.Sent 0 1000000000 && (inR x.Next 0 1000000000 && (decide (x.Subs.length ≤ 12) && (allR (subI x) x.Subs.length 0 && (allR (fun j => okMs (x.Items.getD j zMsg)) x.Items.length 0 &&
 (decide (zN x.Items.length = IntKind.i64.wrap (x.Sent - oldI x)) && (allR (waitI x (wsR x)) (wsR x).length 0 && (bif x.Closed then !decide (0 < zN x.Line.length) else true))))))))
theorem v144 (x : VRing) (hb : szRing x ≤ 1048576) : E 144 [slRing x] [] = RB (ringB x) := by
 unfold szRing at hb
 have hm : x.Items.length ≤ 1048576 := sumL_len (f := szMsg) (show szMsgS x.Items ≤ 1048576 by omega)
 have hs : x.Subs.length ≤ 1048576 := sumL_len (f := szSub) (show szSubS x.Subs ≤ 1048576 by omega)
 have h1 : x.Line.length ≤ 1048576 := sumL_len (f := fun _ => 0) (show szIntS x.Line ≤ 1048576 by omega)
 have h2 : x.Grants.length ≤ 1048576 := sumL_len (f := fun _ => 0) (show szIntS x.Grants ≤ 1048576 by omega)
 have hms : ∀ z ∈ x.Items, z.Text.size ≤ 4294967296 := fun z hz => Nat.le_trans (sumL_mem (f := szMsg) (b := 1048576) (show szMsgS x.Items ≤ 1048576 by omega) z hz) (by omega)
 have hss : ∀ i, i < x.Subs.length → szSub (x.Subs.getD i zSub) ≤ 1048576 := fun i hi => sumL_get (f := szSub) (show szSubS x.Subs ≤ 1048576 by omega) hi
 refine val (evK rfl ((e144 ..).trans (obind' (v86 ..) (sN (obind' (v86 ..) (sN (obind' (v148 _) (sN (sF (u_all (S := fun i : Nat => S144 x x.Subs (zN x.Subs.length) i) (n := x.Subs.length) (P := subI x)
  (kb := allR (fun j => okMs (x.Items.getD j zMsg)) x.Items.length 0 && (decide (zN x.Items.length = IntKind.i64.wrap (x.Sent - oldI x)) && (allR (waitI x (wsR x)) (wsR x).length 0 && (bif x.Closed then !decide (0 < zN x.Line.length) else true)))) ?_ (fun i c hi hc => ?_))))))))))) ?_
 · refine lstep ((h144 ..).trans (bf' (decide_eq_false (by simp only [zN]; omega)) ?_))
   simp only [and2_self]
   refine val (obind' (v219 x.Items (by omega) hms) (sF (obind' (v221 x (by omega)) (sP (obind' (v222 x hs h1 h2) rfl))))) ?_
   simp only [asB, asI, Bool.not_not]
   rfl
 · refine lstep ((h144 ..).trans (bt' (decide_eq_true (by simp only [zN]; omega)) (bt' (bndL' hi) ?_)))
   rw [wrapN (by omega)]
   simp only [Int.toNat_natCast, and2_self]
   refine val (obind' (v86 ..) (sN (prev_leaf (q := fun k => decide ((x.Subs.getD i zSub).Id ≤ (x.Subs.getD k zSub).Id)) hi (by omega) (obind' (v218 _ _ (hss i hi)) (sN hc))))) ?_
   simp only [asB, subI, Bool.and_assoc]
 · unfold ringB
   rw [← gt_len 12]
   simp only [asB]
   rfl
theorem prev_leaf2 {n i : Nat} {q : Nat → Bool} {c : Bool} {N : Option (AV × List AV)} (hi : i < n) (hn : n ≤ 4294967296) (hN : N = RB c) :
  (bif decide (0 < (i : Int)) then
   (bif bif decide (0 ≤ IntKind.i64.wrap ((i : Int) - 1)) then decide (IntKind.i64.wrap ((i : Int) - 1) < zN n) else false then
    (bif bif decide (0 ≤ (i : Int)) then decide ((i : Int) < zN n) else false then
     (bif q (IntKind.i64.wrap ((i : Int) - 1)).toNat then some (AV.B false, []) else N) else none) else none)
   else N) = RB (!(decide (0 < i) && q (i - 1)) && c) := by
 subst hN
 by_cases h : 0 < i
 · have e : IntKind.i64.wrap ((i : Int) - 1) = ((i - 1 : Nat) : Int) := by rw [wrapP (by omega)]; omega
   rw [e, decide_eq_true (show (0 : Int) < (i : Int) by omega), decide_eq_true h, bndL' (show i - 1 < n by omega), Int.toNat_natCast, bndL' hi]
   cases q (i - 1) <;> rfl
 · rw [decide_eq_false (show ¬ (0 : Int) < (i : Int) by omega), decide_eq_false h]; rfl
theorem waits_few (x : VRing) (h : allR (waitI x (wsR x)) (wsR x).length 0 = true) : (wsR x).length ≤ x.Subs.length := by
 rw [allR0] at h
 have := len_le_of_sub (wsR x) (x.Subs.map (·.Id)) (fun i hi => by
  have h1 := h i hi
  unfold waitI at h1
  rw [Bool.and_eq_true, Bool.and_eq_true, Bool.not_eq_true', decide_eq_false_iff_not, Bool.not_eq_true', ← Bool.not_eq_true, dB_iff] at h1
  refine ⟨?_, h1.2.1⟩
  unfold atI at h1
  rcases fst1_rng (fun j => decide ((x.Subs.getD j zSub).Id = (wsR x).getD i 0)) x.Subs.length 0 with e | ⟨j, e, _, hj, hp, _⟩
  · rw [e] at h1; omega
  · have hp := of_decide_eq_true hp
    rw [← hp]
    exact List.mem_map_of_mem (getD_mem (by omega)))
 rw [List.length_map] at this
 exact this
theorem v120 (x : VRing) (hb : szRing x ≤ 1048576) : E 120 [slRing x] [] = RB (ringB x) := by
 unfold szRing at hb
 have hm : x.Items.length ≤ 1048576 := sumL_len (f := szMsg) (show szMsgS x.Items ≤ 1048576 by omega)
 have hs : x.Subs.length ≤ 1048576 := sumL_len (f := szSub) (show szSubS x.Subs ≤ 1048576 by omega)
 have h1 : x.Line.length ≤ 1048576 := sumL_len (f := fun _ => 0) (show szIntS x.Line ≤ 1048576 by omega)
 have h2 : x.Grants.length ≤ 1048576 := sumL_len (f := fun _ => 0) (show szIntS x.Grants ≤ 1048576 by omega)
 have hms : ∀ z ∈ x.Items, z.Text.size ≤ 4294967296 := fun z hz => Nat.le_trans (sumL_mem (f := szMsg) (b := 1048576) (show szMsgS x.Items ≤ 1048576 by omega) z hz) (by omega)
 have hss : ∀ i, i < x.Subs.length → szSub (x.Subs.getD i zSub) ≤ 1048576 := fun i hi => sumL_get (f := szSub) (show szSubS x.Subs ≤ 1048576 by omega) hi
 have ho : (wsR x).length ≤ 4294967296 := by rw [List.length_append]; omega
 have hB : L 120 [] P120b (S120b x 0) = RB (allR (fun j => okMs (x.Items.getD j zMsg)) x.Items.length 0 && (allR (waitI x (wsR x)) (wsR x).length 0 && true)) := by
  refine u_all (S := fun i : Nat => S120b x i) (n := x.Items.length) ?_ (fun i c hi hc => ?_)
  · refine lstep ((h120b ..).trans (bf' (decide_eq_false (by simp only [zN]; omega)) ?_))
    rw [and2_self]
    refine obind' (v194 x.Line (by omega)) (bt' (by show (decide (x.Line.length + x.Grants.length ≤ 4294967296) && true && true && true && true) = true; simp; omega) ?_)
    have e : (⟨asN (owIntS x.Line) + x.Grants.length, 1, fun i => lstG [nI (bif decide (i < asN (owIntS x.Line)) then asI (asG (owIntS x.Line) i 0) else x.Grants.getD (i - asN (owIntS x.Line)) 0)]⟩ : Arr) = ⟨(wsR x).length, 1, gsIntS (wsR x)⟩ := appL x.Line x.Grants
    show L 120 [] P120c (hdS _ [(749568, ⟨asN (owIntS x.Line) + x.Grants.length, 1, fun i => lstG [nI (bif decide (i < asN (owIntS x.Line)) then asI (asG (owIntS x.Line) i 0) else x.Grants.getD (i - asN (owIntS x.Line)) 0)]⟩)] _) = _
    rw [e]
    exact wait_sp x hs ho
  · refine lstep ((h120b ..).trans (bt' (decide_eq_true (by simp only [zN]; omega)) (bt' (bndL' hi) ?_)))
    rw [wrapN (by omega)]
    simp only [Int.toNat_natCast]
    exact obind' (v49 _ (hms _ (getD_mem hi))) (sN hc)
 have w2 : IntKind.i64.wrap (zN x.Line.length + zN x.Grants.length) = ((wsR x).length : Int) := by rw [wrapS] <;> simp only [zN, List.length_append] <;> omega
 refine val (evK rfl ((e120 ..).trans (obind' (v22 ..) (sN (obind' (v22 ..) (sN (obind' (v22 ..) (sN (sF (sF (u_all (S := fun i : Nat => S120a x i) (n := x.Subs.length) (P := subI x)
  (kb := decide (zN x.Items.length = IntKind.i64.wrap (x.Sent - oldI x)) && (!decide (12 < ((wsR x).length : Int)) && (bif x.Closed then !decide (0 < zN x.Line.length) && (allR (fun j => okMs (x.Items.getD j zMsg)) x.Items.length 0 && (allR (waitI x (wsR x)) (wsR x).length 0 && true)) else (allR (fun j => okMs (x.Items.getD j zMsg)) x.Items.length 0 && (allR (waitI x (wsR x)) (wsR x).length 0 && true))))) ?_ (fun i c hi hc => ?_)))))))))))) ?_
 · refine lstep ((h120a ..).trans (bf' (decide_eq_false (by simp only [zN]; omega)) ?_))
   simp only [and2_self, w2]
   exact obind' (v193 x (by omega)) (sN (sF (sI (sF hB) hB)))
 · refine lstep ((h120a ..).trans (bt' (decide_eq_true (by simp only [zN]; omega)) (bt' (bndL' hi) ?_)))
   rw [wrapN (by omega)]
   simp only [Int.toNat_natCast, and2_self]
   refine val (obind' (v192 _ _ (hss i hi)) (sN (prev_leaf2 (q := fun k => decide ((x.Subs.getD i zSub).Id ≤ (x.Subs.getD k zSub).Id)) hi (by omega) hc))) ?_
   simp only [asB, subI, Bool.and_assoc]
   cases inR (x.Subs.getD i zSub).Id 0 (IntKind.i64.wrap (x.Next - 1)) <;> cases subB x (x.Subs.getD i zSub) <;> simp
 · unfold ringB
   rw [show (!decide ((12 : Int) < zN x.Subs.length)) = decide (x.Subs.length ≤ 12) from gt_len 12]
   simp only [asB, Bool.and_true]
   cases c1 : inR x.Cap 1 16 with
   | false => rfl
   | true =>
   cases c2 : inR x.Sent 0 1000000000 with
   | false => rfl
   | true =>
   cases c3 : inR x.Next 0 1000000000 with
   | false => rfl
   | true =>
   cases c4 : decide (x.Subs.length ≤ 12) with
   | false => rfl
   | true =>
   have k1 := inR_iff.1 c1
   have k2 := inR_iff.1 c2
   have k4 := of_decide_eq_true c4
   cases c5 : decide (zN x.Items.length = IntKind.i64.wrap (x.Sent - oldI x)) with
   | false => simp
   | true =>
    have k5 := of_decide_eq_true c5
    have hle := leastI_le x.Subs x.Sent x.Subs.length
    have hold : x.Sent - x.Cap ≤ oldI x ∧ 0 ≤ oldI x ∧ oldI x ≤ x.Sent := by
     unfold oldI max3
     rw [wrapS (x := x.Sent - x.Cap) (by omega) (by omega)]
     generalize leastI x.Subs x.Sent x.Subs.length = l at hle
     by_cases q1 : l < x.Sent - x.Cap
     · rw [decide_eq_true q1]
       by_cases q2 : x.Sent - x.Cap < 0
       · rw [decide_eq_true q2]; simp only [cond_true]; omega
       · rw [decide_eq_false q2]; simp only [cond_true, cond_false]; omega
     · rw [decide_eq_false q1]
       by_cases q2 : l < 0
       · rw [decide_eq_true q2]; simp only [cond_true, cond_false]; omega
       · rw [decide_eq_false q2]; simp only [cond_false]; omega
    rw [wrapS (by omega) (by omega)] at k5
    have k6 : (!decide (16 < zN x.Items.length)) = true := by simp only [zN] at k5 ⊢; simp; omega
    rw [k6]
    cases c7 : allR (waitI x (wsR x)) (wsR x).length 0 with
    | false => cases x.Closed <;> simp
    | true =>
     have := waits_few x c7
     have k8 : (!decide (12 < ((wsR x).length : Int))) = true := by rw [decide_eq_false (show ¬ 12 < ((wsR x).length : Int) by omega)]; rfl
     rw [k8]
     cases x.Closed <;> cases allR (subI x) x.Subs.length 0 <;> cases allR (fun j => okMs (x.Items.getD j zMsg)) x.Items.length 0 <;> simp
end Go.Fw
