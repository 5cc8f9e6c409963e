/- Values: names; things that are waited for. -/
import Derived.Test.YtndmnbgcneaggaaGreatDoorS6
set_option linter.unusedVariables false
set_option linter.unusedSimpArgs false
namespace Go.Fw
open Go.Proofs
def nameF (ps : List ByteArray) : Bool := allR (fun i => okPlain (ps.getD i ByteArray.empty)) ps.length 0
def nameOk (s : ByteArray) : Bool := inR (zN s.size) 1 24 && nameF (parts s)
theorem v119 (s : ByteArray) (hs : s.size ≤ 4294967200) : E 119 [.S s] [] = RB (nameOk s) := by
 have hp := parts_len s
 have hsz : ∀ x ∈ parts s, x.size ≤ 4294967296 := fun x hx => Nat.le_trans (pt_size s _ _ _ x hx) (by omega)
 have k : E 127 [.S s, .B false] [] = RB (nameOk s) := by
  refine val (evK rfl ((e127 ..).trans (obind' (v22 ..) (sN (obind' (v201 s (by omega))
   (u_all (S := fun i : Nat => hdS [(1, .B false), (5, .rf 315392), (6, nI (i : Int))] [(315392, ⟨(parts s).length, 1, gsStrS (parts s)⟩)] []) (n := (parts s).length) (kb := true) (P := fun i => okPlain ((parts s).getD i ByteArray.empty)) ?_ (fun i c hi hc => ?_))))))) ?_
  · exact lstep ((h127 ..).trans (bf' (decide_eq_false (by simp only [zN]; omega)) rfl))
  · refine lstep ((h127 ..).trans (bt' (decide_eq_true (by simp only [zN]; omega)) (bf' rfl (bt' (bndL' hi) ?_))))
    rw [wrapN (by omega)]
    simp only [Int.toNat_natCast]
    exact obind' (v202 _ (hsz _ (getD_mem hi))) (sN hc)
  · rw [Bool.and_true]; rfl
 exact evK rfl ((e119 ..).trans (obind' k rfl))
theorem v142 (s : ByteArray) (hs : s.size ≤ 4294967200) : E 142 [.S s] [] = RB (nameOk s) := by
 have hp := parts_len s
 have hsz : ∀ x ∈ parts s, x.size ≤ 4294967296 := fun x hx => Nat.le_trans (pt_size s _ _ _ x hx) (by omega)
 have k1 : E 254 [slStrS (parts s), .clo 214 0 (lstG [])] [] = some (nI (fst1 (fun j => !okPlain ((parts s).getD j ByteArray.empty)) (parts s).length 0), []) := by
  refine evK rfl ((e254 ..).trans (u_fst (S := fun i : Nat => S254 (parts s).length (parts s) (zN (parts s).length) i) (n := (parts s).length) (P := fun j => !okPlain ((parts s).getD j ByteArray.empty)) ?_ (fun i c hi hc => ?_)))
  · exact lstep ((h254 ..).trans (bf' (decide_eq_false (by simp only [zN]; omega)) rfl))
  · refine lstep ((h254 ..).trans (bt' (decide_eq_true (by simp only [zN]; omega)) (bt' (bndL' hi) ?_)))
    rw [wrapN (by omega)]
    simp only [Int.toNat_natCast]
    refine obind' (evK rfl ((e214 ..).trans (obind' (v215 _ (hsz _ (getD_mem hi))) rfl))) ?_
    simp only [asB]
    cases okPlain ((parts s).getD i ByteArray.empty) with
    | true => exact hc
    | false => rfl
 have k2 : E 212 [slStrS (parts s), .clo 214 0 (lstG [])] [] = RB (!allR (fun j => !(!okPlain ((parts s).getD j ByteArray.empty))) (parts s).length 0) :=
  evK rfl ((e212 ..).trans (val (cont_val k1) (fst1_nn _ _ _)))
 refine val (evK rfl ((e142 ..).trans (obind' (v86 ..) (sP (obind' (v213 s (by omega)) (obind' k2 rfl)))))) ?_
 simp only [asB, Bool.not_not, nameOk, nameF]
def bI (b : Bool) : Int := bif b then 1 else 0
def cntO (gs : List VGrant) : Nat → Int
 | 0 => 0
 | k + 1 => cntO gs k + bI (gs.getD k zGrant).One
theorem cntO_rng (gs : List VGrant) : ∀ k, 0 ≤ cntO gs k ∧ cntO gs k ≤ k := by
 intro k
 induction k with
 | zero => exact ⟨Int.le_refl _, Int.le_refl _⟩
 | succ k ih =>
  unfold cntO bI
  cases (gs.getD k zGrant).One <;> simp <;> omega
def whos (gs : List VGrant) : List Int := gs.map (·.Who)
theorem whos_get (gs : List VGrant) (i : Nat) : (whos gs).getD i 0 = (gs.getD i zGrant).Who := by
 unfold whos
 simp only [List.getD_eq_getElem?_getD, List.getElem?_map]
 cases gs[i]? <;> rfl
theorem whos_len (gs : List VGrant) : (whos gs).length = gs.length := List.length_map ..
def NotifyP (x : VNotify) : Prop := ApartP x.Line (whos x.Grants) ∧ ¬ (x.Permit = true ∧ 0 < x.Line.length) ∧ inR x.Ones 0 1000000000 = true ∧ inR x.Spilt 0 1000000000 = true ∧ inR x.Taken 0 1000000000 = true ∧
 x.Taken + x.Spilt + bI x.Permit + cntO x.Grants x.Grants.length = x.Ones
theorem v199 (gs : List VGrant) (a : Int) (hb : gs.length ≤ 4294967296) : E 199 [slGrantS gs, nI a] [] = some (nI (fst1 (fun j => decide ((gs.getD j zGrant).Who = a)) gs.length 0), []) := by
 refine evK rfl ((e199 ..).trans (u_fst (S := fun i : Nat => S199 gs a i) (n := gs.length) (P := fun j => decide ((gs.getD j zGrant).Who = a)) ?_ (fun i c hi hc => ?_)))
 · exact lstep ((h199 ..).trans (bf' (decide_eq_false (by simp only [zN]; omega)) rfl))
 · refine lstep ((h199 ..).trans (bt' (decide_eq_true (by simp only [zN]; omega)) (bt' (bndL' hi) ?_)))
   rw [wrapN (by omega)]
   simp only [Int.toNat_natCast]
   cases decide ((gs.getD i zGrant).Who = a) with
   | true => rfl
   | false => exact hc
noncomputable def ntI (x : VNotify) (i : Nat) : Bool := inR (x.Grants.getD i zGrant).Who 0 63 && (decide (fst1 (fun j => decide ((x.Grants.getD j zGrant).Who = (x.Grants.getD i zGrant).Who)) x.Grants.length 0 = (i : Int)) && !dB ((x.Grants.getD i zGrant).Who ∈ x.Line))
theorem nt_loop (x : VNotify) (s : Int) (hl : x.Line.length ≤ 1048576) (hg : x.Grants.length ≤ 1048576) (h0 : 0 ≤ s) (h1 : s ≤ 4000000000) :
  L 121 [] P121 (S121 x s 0) = RB (allR (ntI x) x.Grants.length 0 && decide (s + cntO x.Grants x.Grants.length = x.Ones)) := by
 have := u_all (f := 121) (exts := []) (p := P121) (S := fun i : Nat => S121 x (s + cntO x.Grants i) i) (n := x.Grants.length) (kb := decide (s + cntO x.Grants x.Grants.length = x.Ones)) (P := ntI x) ?_ (fun i c hi hc => ?_)
 · have e : s + cntO x.Grants 0 = s := by show s + 0 = s; omega
   simp only [e] at this
   exact this
 · exact lstep ((h121 ..).trans (bf' (decide_eq_false (by simp only [zN]; omega)) rfl))
 · have hr := cntO_rng x.Grants i
   refine lstep ((h121 ..).trans (bt' (decide_eq_true (by simp only [zN]; omega)) (bt' (bndL' hi) ?_)))
   rw [wrapN (by omega), wrapS (x := s + cntO x.Grants i + 1) (by omega) (by omega)]
   simp only [Int.toNat_natCast]
   refine val (obind' (v198 _) (sN (obind' (v199 _ _ (by omega)) (sN (obind' (v196 _ _ (by omega)) (sF (w := c) ?_)))))) ?_
   · have e : s + cntO x.Grants (i + 1) = s + cntO x.Grants i + bI (x.Grants.getD i zGrant).One := by show s + (cntO x.Grants i + _) = _; omega
     rw [e] at hc
     cases ho : (x.Grants.getD i zGrant).One with
     | true => rw [ho] at hc; exact hc
     | false => rw [ho] at hc; simp only [bI, cond_false, Int.add_zero] at hc; exact hc
   · simp only [asB, asI, ntI, Bool.and_assoc]
     rfl
theorem nt_iff (x : VNotify) : (dB (LineP x.Line) && (decide (x.Grants.length ≤ 32) && allR (ntI x) x.Grants.length 0)) = dB (ApartP x.Line (whos x.Grants)) := by
 refine dB_eq ?_
 rw [Bool.and_eq_true, Bool.and_eq_true, dB_iff, allR0, decide_eq_true_eq]
 unfold ApartP
 have key : ∀ i, i < x.Grants.length → (ntI x i = true ↔ ((0 ≤ (whos x.Grants).getD i 0 ∧ (whos x.Grants).getD i 0 ≤ 63) ∧ (whos x.Grants).getD i 0 ∉ (whos x.Grants).take i) ∧ (whos x.Grants).getD i 0 ∉ x.Line) := by
  intro i hi
  unfold ntI
  rw [Bool.and_eq_true, Bool.and_eq_true, inR_iff, Bool.not_eq_true', ← Bool.not_eq_true, dB_iff, decide_eq_true_eq, fst1_eq0 hi (by simp), not_take _ (by rw [whos_len]; omega), whos_get]
  simp only [decide_eq_false_iff_not, whos_get]
  exact ⟨fun ⟨a, b, c⟩ => ⟨⟨a, b⟩, c⟩, fun ⟨⟨a, b⟩, c⟩ => ⟨a, b, c⟩⟩
 constructor
 · rintro ⟨h1, h2, h3⟩
   exact ⟨h1, ⟨by rw [whos_len]; exact h2, fun i hi => ((key i (by rw [whos_len] at hi; exact hi)).1 (h3 i (by rw [whos_len] at hi; exact hi))).1⟩, fun i hi => ((key i (by rw [whos_len] at hi; exact hi)).1 (h3 i (by rw [whos_len] at hi; exact hi))).2⟩
 · rintro ⟨h1, ⟨h2, h3⟩, h4⟩
   exact ⟨h1, by rw [whos_len] at h2; exact h2, fun i hi => (key i hi).2 ⟨h3 i (by rw [whos_len]; exact hi), h4 i (by rw [whos_len]; exact hi)⟩⟩
theorem v121 (x : VNotify) (hb : szNotify x ≤ 1048576) : E 121 [slNotify x] [] = RB (dB (NotifyP x)) := by
 unfold szNotify at hb
 have hl : x.Line.length ≤ 1048576 := sumL_len (f := fun _ => 0) (show szIntS x.Line ≤ 1048576 by omega)
 have hg : x.Grants.length ≤ 1048576 := sumL_len (f := fun _ => 0) (show szGrantS x.Grants ≤ 1048576 by omega)
 have hP : dB (NotifyP x) = (dB (ApartP x.Line (whos x.Grants)) && (!(x.Permit && decide (0 < x.Line.length)) && (inR x.Ones 0 1000000000 && (inR x.Spilt 0 1000000000 && (inR x.Taken 0 1000000000 && decide (x.Taken + x.Spilt + bI x.Permit + cntO x.Grants x.Grants.length = x.Ones)))))) := by
  refine (dB_eq ?_).symm
  simp only [Bool.and_eq_true, dB_iff, Bool.not_eq_true', ← Bool.not_eq_true, decide_eq_true_eq, NotifyP]
 rw [hP, ← nt_iff]
 have z0 : decide (0 < zN x.Line.length) = decide (0 < x.Line.length) := by simp only [zN]; by_cases h : 0 < x.Line.length <;> simp [h]
 by_cases hr : inR x.Ones 0 1000000000 = true ∧ inR x.Spilt 0 1000000000 = true ∧ inR x.Taken 0 1000000000 = true
 · obtain ⟨r1, r2, r3⟩ := hr
   have q2 := inR_iff.1 r2
   have q3 := inR_iff.1 r3
   have k1 := nt_loop x (x.Taken + x.Spilt) hl hg (by omega) (by omega)
   have k2 := nt_loop x (x.Taken + x.Spilt + 1) hl hg (by omega) (by omega)
   refine evK rfl ((e121 ..).trans ?_)
   rw [wrapS (x := x.Taken + x.Spilt) (by omega) (by omega), wrapS (x := x.Taken + x.Spilt + 1) (by omega) (by omega), z0]
   rw [r1, r2, r3]
   refine val (obind' (v197 x.Line (by omega)) (sN (sF (w := !(x.Permit && decide (0 < x.Line.length)) && (allR (ntI x) x.Grants.length 0 && decide (x.Taken + x.Spilt + bI x.Permit + cntO x.Grants x.Grants.length = x.Ones))) ?_))) ?_
   · cases hp : x.Permit with
     | true =>
      refine val (sF (obind' (v22 ..) (sN (obind' (v22 ..) (sN (obind' (v22 ..) (sN k2))))))) ?_
      rw [r1, r2, r3]
      simp only [asB, bI, Bool.true_and, cond_true]
      rfl
     | false =>
      refine val (obind' (v22 ..) (sN (obind' (v22 ..) (sN (obind' (v22 ..) (sN k1)))))) ?_
      rw [r1, r2, r3]
      simp only [asB, bI, Bool.true_and, cond_false, Bool.false_and, Bool.not_false, Int.add_zero]
   · rw [show (!decide ((32 : Int) < zN x.Grants.length)) = decide (x.Grants.length ≤ 32) from gt_len 32]
     simp only [asB, Bool.true_and]
     cases dB (LineP x.Line) <;> cases decide (x.Grants.length ≤ 32) <;> cases allR (ntI x) x.Grants.length 0 <;> simp
 · have hf : (inR x.Ones 0 1000000000 && (inR x.Spilt 0 1000000000 && inR x.Taken 0 1000000000)) = false := by
    rw [← Bool.not_eq_true, Bool.and_eq_true, Bool.and_eq_true]; exact hr
   have hz : ∀ t : Option (AV × List AV), (Option.bind (E 22 [nI x.Ones, nI 0, nI 1000000000] []) fun r4 => bif !asB r4.fst then some (AV.B false, []) else
     Option.bind (E 22 [nI x.Spilt, nI 0, nI 1000000000] []) fun r6 => bif !asB r6.fst then some (AV.B false, []) else
     Option.bind (E 22 [nI x.Taken, nI 0, nI 1000000000] []) fun r8 => bif !asB r8.fst then some (AV.B false, []) else t) = RB false := by
    intro t
    refine obind' (v22 ..) ?_
    show (bif !inR x.Ones 0 1000000000 then _ else _) = _
    cases h1 : inR x.Ones 0 1000000000 with
    | false => rfl
    | true =>
     refine obind' (v22 ..) ?_
     show (bif !inR x.Spilt 0 1000000000 then _ else _) = _
     cases h2 : inR x.Spilt 0 1000000000 with
     | false => rfl
     | true =>
      refine obind' (v22 ..) ?_
      show (bif !inR x.Taken 0 1000000000 then _ else _) = _
      rw [h1, h2, Bool.true_and, Bool.true_and] at hf
      rw [hf]; rfl
   refine evK rfl ((e121 ..).trans ?_)
   rw [hz]
   refine val (obind' (v197 x.Line (by omega)) (sN (sF (sI (sF rfl) rfl)))) ?_
   cases h1 : inR x.Ones 0 1000000000 <;> cases h2 : inR x.Spilt 0 1000000000 <;> cases h3 : inR x.Taken 0 1000000000 <;> simp [h1, h2, h3] at hf ⊢
end Go.Fw
