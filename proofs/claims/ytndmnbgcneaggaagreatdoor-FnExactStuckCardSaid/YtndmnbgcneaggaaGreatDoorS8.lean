/- Values: things that are waited for (2). -/
import Derived.Test.YtndmnbgcneaggaaGreatDoorS7
set_option linter.unusedVariables false
set_option linter.unusedSimpArgs false
namespace Go.Fw
open Go.Proofs
theorem appI (os : List Int) (v : Int) : (⟨os.length + 1, 1, fun i_1 => lstG [nI (bif decide (i_1 < os.length) then os.getD i_1 0 else bif decide (i_1 - os.length = 0) then v else 0)]⟩ : Arr) = ⟨(os ++ [v]).length, 1, gsIntS (os ++ [v])⟩ := by
 rw [List.length_append]
 show Arr.mk (os.length + 1) 1 _ = Arr.mk (os.length + 1) 1 _
 congr 1
 funext i
 unfold gsIntS gI
 rw [getD_app]
 by_cases hi : i < os.length
 · simp only [hi, decide_true, cond_true, if_true]
 · by_cases h2 : i = os.length
   · simp only [hi, h2, Nat.sub_self, Nat.lt_irrefl, decide_true, decide_false, cond_true, cond_false, if_true, if_false]
   · have h3 : ¬ i - os.length = 0 := by omega
     simp only [hi, h2, h3, decide_false, cond_false, if_false]
theorem nilI : (⟨0, 1, fun i => lstG [nI 0]⟩ : Arr) = ⟨([] : List Int).length, 1, gsIntS []⟩ := by
 have e : (fun i : Nat => lstG [nI 0]) = gsIntS [] := by
  funext i
  unfold gsIntS gI
  simp
 rw [e]; rfl
theorem take_app {xs : List Int} {i : Nat} (h : i < xs.length) : xs.take i ++ [xs.getD i 0] = xs.take (i + 1) := by
 rw [List.take_succ_eq_append_getElem h]
 simp [List.getD_eq_getElem?_getD, h]
theorem allR_true (n i : Nat) : allR (fun _ => true) n i = true := by
 induction n generalizing i with
 | zero => rfl
 | succ n ih => show (true && allR _ n (i + 1)) = true; rw [ih]; rfl
def sW (s0 : Int) (gs : List VGrant) : Nat → Int
 | 0 => s0
 | k + 1 => bif (gs.getD k zGrant).One then IntKind.i64.wrap (sW s0 gs k + 1) else sW s0 gs k
theorem sW_eq {s0 : Int} {gs : List VGrant} (h0 : 0 ≤ s0) (h1 : s0 ≤ 4000000000) : ∀ k, k ≤ 4294967296 → sW s0 gs k = s0 + cntO gs k := by
 intro k
 induction k with
 | zero => intro _; show s0 = s0 + 0; omega
 | succ k ih =>
  intro hk
  have hr := cntO_rng gs k
  show (bif (gs.getD k zGrant).One then IntKind.i64.wrap (sW s0 gs k + 1) else sW s0 gs k) = s0 + (cntO gs k + bI (gs.getD k zGrant).One)
  rw [ih (by omega)]
  cases (gs.getD k zGrant).One with
  | true => simp only [cond_true, bI]; rw [wrapS (by omega) (by omega)]; omega
  | false => simp only [cond_false, bI]; omega
theorem v70 (x : VNotify) (hb : szNotify x ≤ 1048576) : E 70 [slNotify x] [] = RB (dB (NotifyP x)) := by
 unfold szNotify at hb
 have hl : x.Line.length ≤ 1048576 := sumL_len (f := fun _ => 0) (show szIntS x.Line ≤ 1048576 by omega)
 have hg : x.Grants.length ≤ 1048576 := sumL_len (f := fun _ => 0) (show szGrantS x.Grants ≤ 1048576 by omega)
 have hw := whos_len x.Grants
 have z0 : decide (0 < zN x.Line.length) = decide (0 < x.Line.length) := by simp only [zN]; by_cases h : 0 < x.Line.length <;> simp [h]
 have hP : dB (NotifyP x) = (dB (ApartP x.Line (whos x.Grants)) && (!(x.Permit && decide (0 < x.Line.length)) && (inR x.Ones 0 1000000000 && (inR x.Spilt 0 1000000000 && (inR x.Taken 0 1000000000 && decide (x.Taken + x.Spilt + bI x.Permit + cntO x.Grants x.Grants.length = x.Ones)))))) := by
  refine (dB_eq ?_).symm
  simp only [Bool.and_eq_true, dB_iff, Bool.not_eq_true', ← Bool.not_eq_true, decide_eq_true_eq, NotifyP]
 have hap := v147 x.Line (whos x.Grants) (by omega) (by omega)
 refine val (b := dB (ApartP x.Line (whos x.Grants)) && (!(x.Permit && decide (0 < x.Line.length)) && (inR x.Ones 0 1000000000 && (inR x.Spilt 0 1000000000 && (inR x.Taken 0 1000000000 && decide ((bif x.Permit then IntKind.i64.wrap (sW (IntKind.i64.wrap (x.Taken + x.Spilt)) x.Grants x.Grants.length + 1) else sW (IntKind.i64.wrap (x.Taken + x.Spilt)) x.Grants x.Grants.length) = x.Ones)))))) (evK rfl ((e70 ..).trans ?_)) ?_
 · rw [nilI]
   refine val (u_all (f := 70) (S := fun i : Nat => S70 x ((whos x.Grants).take i) x.Grants (sW (IntKind.i64.wrap (x.Taken + x.Spilt)) x.Grants i) (zN x.Grants.length) i) (n := x.Grants.length) (P := fun _ => true)
    (kb := dB (ApartP x.Line (whos x.Grants)) && (!(x.Permit && decide (0 < x.Line.length)) && (inR x.Ones 0 1000000000 && (inR x.Spilt 0 1000000000 && (inR x.Taken 0 1000000000 && decide ((bif x.Permit then IntKind.i64.wrap (sW (IntKind.i64.wrap (x.Taken + x.Spilt)) x.Grants x.Grants.length + 1) else sW (IntKind.i64.wrap (x.Taken + x.Spilt)) x.Grants x.Grants.length) = x.Ones)))))) ?_ (fun i c hi hc => ?_)) (by rw [allR_true, Bool.true_and])
   · refine lstep ((h70 ..).trans (bf' (decide_eq_false (by simp only [zN]; omega)) ?_))
     rw [show (whos x.Grants).take x.Grants.length = whos x.Grants from List.take_of_length_le (by omega), z0]
     cases hp : x.Permit with
     | true =>
      refine val (obind' hap (sP (bt' rfl (sP (obind' (v148 _) (sP (obind' (v148 _) (sP (obind' (v148 _) (sP rfl)))))))))) ?_
      simp only [asB, Bool.true_and, cond_true]
     | false =>
      refine val (obind' hap (sP (bf' rfl (obind' (v148 _) (sP (obind' (v148 _) (sP (obind' (v148 _) (sP rfl))))))))) ?_
      simp only [asB, Bool.false_and, cond_false, Bool.not_false, Bool.true_and]
   · refine lstep ((h70 ..).trans (bt' (decide_eq_true (by simp only [zN]; omega)) (bt' (bndL' hi) (bt' (by simp [List.length_take]; omega) ?_))))
     rw [appI, wrapN (by omega)]
     simp only [Int.toNat_natCast]
     rw [← whos_get, take_app (by omega)]
     have hs : sW (IntKind.i64.wrap (x.Taken + x.Spilt)) x.Grants (i + 1) = bif (x.Grants.getD i zGrant).One then IntKind.i64.wrap (sW (IntKind.i64.wrap (x.Taken + x.Spilt)) x.Grants i + 1) else sW (IntKind.i64.wrap (x.Taken + x.Spilt)) x.Grants i := rfl
     rw [hs] at hc
     cases ho : (x.Grants.getD i zGrant).One with
     | true => rw [ho] at hc; exact hc
     | false => rw [ho] at hc; exact hc
 · rw [hP]
   by_cases hr : inR x.Spilt 0 1000000000 = true ∧ inR x.Taken 0 1000000000 = true
   · have q2 := inR_iff.1 hr.1
     have q3 := inR_iff.1 hr.2
     have hcr := cntO_rng x.Grants x.Grants.length
     have e : (bif x.Permit then IntKind.i64.wrap (sW (IntKind.i64.wrap (x.Taken + x.Spilt)) x.Grants x.Grants.length + 1) else sW (IntKind.i64.wrap (x.Taken + x.Spilt)) x.Grants x.Grants.length) = x.Taken + x.Spilt + bI x.Permit + cntO x.Grants x.Grants.length := by
      rw [wrapS (x := x.Taken + x.Spilt) (by omega) (by omega), sW_eq (by omega) (by omega) _ (by omega)]
      cases x.Permit with
      | true => simp only [cond_true, bI]; rw [wrapS (by omega) (by omega)]; omega
      | false => simp only [cond_false, bI]; omega
     rw [e]
   · cases h2 : inR x.Spilt 0 1000000000 <;> cases h3 : inR x.Taken 0 1000000000 <;> simp [h2, h3] at hr ⊢
def eventT (x : VEvent) : Bool := inR x.Sets 0 1000000000 && (inR x.Spilt 0 1000000000 && (inR x.Taken 0 1000000000 && (bif !x.Auto then decide (x.Sets = 0) && (decide (x.Spilt = 0) && decide (x.Taken = 0)) else
 bif x.Up then decide (x.Sets = IntKind.i64.wrap (IntKind.i64.wrap (IntKind.i64.wrap (x.Spilt + x.Taken) + zN x.Grants.length) + 1)) else decide (x.Sets = IntKind.i64.wrap (IntKind.i64.wrap (x.Spilt + x.Taken) + zN x.Grants.length)))))
noncomputable def eventB (x : VEvent) : Bool := dB (ApartP x.Line x.Grants) && (bif x.Up then !decide (0 < zN x.Line.length) && eventT x else eventT x)
theorem dec_comm {a b : Int} : decide (a = b) = decide (b = a) := by by_cases h : a = b <;> simp [h, eq_comm]
theorem v122 (x : VEvent) (hb : szEvent x ≤ 1048576) : E 122 [slEvent x] [] = RB (eventB x) := by
 unfold szEvent at hb
 have hl : x.Line.length ≤ 1048576 := sumL_len (f := fun _ => 0) (show szIntS x.Line ≤ 1048576 by omega)
 have hg : x.Grants.length ≤ 1048576 := sumL_len (f := fun _ => 0) (show szIntS x.Grants ≤ 1048576 by omega)
 exact val (evK rfl ((e122 ..).trans (obind' (v200 _ _ (by omega) (by omega)) (sN (sI (sF (val (obind' (v22 ..) (sN (obind' (v22 ..) (sN (obind' (v22 ..) (sN (sI (sP (sP rfl)) (sI rfl rfl)))))))) (b' := eventT x) rfl)) (val (obind' (v22 ..) (sN (obind' (v22 ..) (sN (obind' (v22 ..) (sN (sI (sP (sP rfl)) (sI rfl rfl)))))))) (b' := eventT x) rfl)))))) rfl
theorem v72 (x : VEvent) (hb : szEvent x ≤ 1048576) : E 72 [slEvent x] [] = RB (eventB x) := by
 unfold szEvent at hb
 have hl : x.Line.length ≤ 1048576 := sumL_len (f := fun _ => 0) (show szIntS x.Line ≤ 1048576 by omega)
 have hg : x.Grants.length ≤ 1048576 := sumL_len (f := fun _ => 0) (show szIntS x.Grants ≤ 1048576 by omega)
 exact val (evK rfl ((e72 ..).trans (obind' (v147 _ _ (by omega) (by omega)) (sN (sI (sF (val (obind' (v148 ..) (sN (obind' (v148 ..) (sN (obind' (v148 ..) (sN (sI (sP (sP rfl)) (sI rfl rfl)))))))) (b' := eventT x) (by unfold eventT; rw [dec_comm (a := x.Sets) (b := IntKind.i64.wrap (_ + 1)), dec_comm (a := x.Sets) (b := IntKind.i64.wrap (_ + zN x.Grants.length))]; rfl))) (val (obind' (v148 ..) (sN (obind' (v148 ..) (sN (obind' (v148 ..) (sN (sI (sP (sP rfl)) (sI rfl rfl)))))))) (b' := eventT x) (by unfold eventT; rw [dec_comm (a := x.Sets) (b := IntKind.i64.wrap (_ + 1)), dec_comm (a := x.Sets) (b := IntKind.i64.wrap (_ + zN x.Grants.length))]; rfl))))))) rfl
noncomputable def latchB (x : VLatch) : Bool := inR x.Count 0 1000000000 && (dB (ApartP x.Line x.Grants) && (bif decide (0 < x.Count) then true else decide (zN x.Line.length = 0)))
theorem v123 (x : VLatch) (hb : szLatch x ≤ 1048576) : E 123 [slLatch x] [] = RB (latchB x) := by
 unfold szLatch at hb
 have hl : x.Line.length ≤ 1048576 := sumL_len (f := fun _ => 0) (show szIntS x.Line ≤ 1048576 by omega)
 have hg : x.Grants.length ≤ 1048576 := sumL_len (f := fun _ => 0) (show szIntS x.Grants ≤ 1048576 by omega)
 exact val (evK rfl ((e123 ..).trans (obind' (v22 ..) (sP (obind' (v200 _ _ (by omega) (by omega)) (sP (sI rfl rfl))))))) rfl
theorem v74 (x : VLatch) (hb : szLatch x ≤ 1048576) : E 74 [slLatch x] [] = RB (latchB x) := by
 unfold szLatch at hb
 have hl : x.Line.length ≤ 1048576 := sumL_len (f := fun _ => 0) (show szIntS x.Line ≤ 1048576 by omega)
 have hg : x.Grants.length ≤ 1048576 := sumL_len (f := fun _ => 0) (show szIntS x.Grants ≤ 1048576 by omega)
 refine val (evK rfl ((e74 ..).trans (obind' (v148 ..) (sP (obind' (v147 _ _ (by omega) (by omega)) (sP (sI rfl rfl))))))) ?_
 unfold latchB
 simp only [asB]
 cases hr : inR x.Count 0 1000000000 with
 | false => rfl
 | true =>
  have := inR_iff.1 hr
  congr 2
  by_cases h : 0 < x.Count
  · rw [decide_eq_true h, decide_eq_false (show ¬ x.Count = 0 by omega)]; rfl
  · rw [decide_eq_false h, decide_eq_true (show x.Count = 0 by omega)]
    simp only [cond_true, cond_false, zN]
    by_cases h2 : x.Line.length = 0 <;> simp [h2]; omega
noncomputable def cellB (x : VCell) : Bool := okMs x.Val && (inR x.Version 0 1000000000 && (dB (ApartP x.Line x.Grants) && (bif x.Closed then !decide (0 < zN x.Line.length) else true)))
theorem v124 (x : VCell) (hb : szCell x ≤ 1048576) : E 124 [slCell x] [] = RB (cellB x) := by
 unfold szCell szMsg at hb
 have hl : x.Line.length ≤ 1048576 := sumL_len (f := fun _ => 0) (show szIntS x.Line ≤ 1048576 by omega)
 have hg : x.Grants.length ≤ 1048576 := sumL_len (f := fun _ => 0) (show szIntS x.Grants ≤ 1048576 by omega)
 exact val (evK rfl ((e124 ..).trans (obind' (v49 _ (by omega)) (sP (obind' (v22 ..) (sP (obind' (v200 _ _ (by omega) (by omega)) (sP (sI rfl rfl))))))))) rfl
theorem v76 (x : VCell) (hb : szCell x ≤ 1048576) : E 76 [slCell x] [] = RB (cellB x) := by
 unfold szCell szMsg at hb
 have hl : x.Line.length ≤ 1048576 := sumL_len (f := fun _ => 0) (show szIntS x.Line ≤ 1048576 by omega)
 have hg : x.Grants.length ≤ 1048576 := sumL_len (f := fun _ => 0) (show szIntS x.Grants ≤ 1048576 by omega)
 exact val (evK rfl ((e76 ..).trans (obind' (v155 _ (by omega)) (sP (obind' (v148 ..) (sP (obind' (v147 _ _ (by omega) (by omega)) (sP (sI rfl rfl))))))))) rfl
end Go.Fw
