/- Values: the laws of what a client has heard, and of a history's records. -/
import Derived.Test.YtgpigigeoanahaaBn
set_option linter.unusedVariables false
set_option linter.unusedSimpArgs false
set_option maxRecDepth 100000
namespace Go.Fw
open Go.Proofs
structure HV where
  ls : List Int
  lo : Int
  ok : Bool
noncomputable def heardV (ps : List (List VCall)) (ms : List VMark) (a c : Int) : HV := match recordsF ps ms with
  | some s => if inR a 0 ((ps.length : Int) - 1) = true then ⟨(heardF s.rs s.fs ms a c ms.length 0 ⟨[], 0⟩).ls, (heardF s.rs s.fs ms a c ms.length 0 ⟨[], 0⟩).lo, true⟩ else ⟨[], 0, false⟩
  | none => ⟨[], 0, false⟩
abbrev hvR (h : HV) : AV := .tup 3 (lstG [owIntS h.ls, nI h.lo, .B h.ok])
theorem nilI : (fun i : Nat => lstG [nI 0]) = goIntS [] := by funext i; simp [goIntS, gI]
theorem no_hv {h : HV} (e : h = ⟨[], 0, false⟩) : (some (AV.tup 3 (lstG [AV.own 0 1 fun i => lstG [nI 0], nI 0, AV.B false]), ([] : List AV)) : Option (AV × List AV)) = some (hvR h, []) := by
  subst e; rw [nilI]; rfl
theorem heardF_len {rs : List VRec} {fs : List Int} {ms : List VMark} {a c : Int} : ∀ (k i : Nat) (h : HS), (heardF rs fs ms a c k i h).ls.length ≤ h.ls.length + k
  | 0, _, h => Nat.le_refl _
  | k + 1, i, h => by
    have h1 := heardF_len (rs := rs) (fs := fs) (ms := ms) (a := a) (c := c) k (i + 1) (hStep rs fs ms a c i h)
    have h2 := hStep_len (rs := rs) (fs := fs) (ms := ms) (a := a) (c := c) (i := i) (h := h)
    simp only [heardF]; omega
theorem heardV_len {ps : List (List VCall)} {ms : List VMark} {a c : Int} (hp : szCallSS ps ≤ 1048576) : (heardV ps ms a c).ls.length ≤ 400 := by
  unfold heardV
  split
  · rename_i s hr
    split
    · have := (rec_inv hp hr).2
      have := heardF_len (rs := s.rs) (fs := s.fs) (ms := ms) (a := a) (c := c) ms.length 0 ⟨[], 0⟩
      simp at this
      show (heardF s.rs s.fs ms a c ms.length 0 ⟨[], 0⟩).ls.length ≤ 400
      omega
    · simp
  · simp
theorem v17 (ps : List (List VCall)) (ms : List VMark) (a c : Int) (hp : szCallSS ps ≤ 1048576) : E 17 [slCallSS ps, slMarkS ms, nI a, nI c] [] = some (hvR (heardV ps ms a c), []) := by
  have q := v36 ps ms hp
  have hl : ps.length ≤ 1048576 := sumL_len hp
  have w : IntKind.i64.wrap (zN ps.length - 1) = (ps.length : Int) - 1 := wrapS (by simp only [zN]; omega) (by simp only [zN]; omega)
  have q2 := v37 a 0 (IntKind.i64.wrap (zN ps.length - 1))
  rw [w] at q2
  refine ev1 (ms.length + 1) rfl ?_
  rw [e17, w]
  cases hr : recordsF ps ms with
  | none =>
    rw [hr] at q
    refine obind' q (bt' rfl (bt' (by simp [okT_eq]) (no_hv ?_)))
    unfold heardV; rw [hr]
  | some s =>
    rw [hr] at q
    obtain ⟨h1, h2⟩ := rec_inv hp hr
    have h3 := h1.fs
    refine obind' q (bf' rfl (obind' q2 ?_))
    by_cases d : inR a 0 ((ps.length : Int) - 1) = true
    · refine bf' (notT d) ?_
      have := l17 s.rs s.fs ms a c (by omega) h3 (rec_x hp hr).fs ms.length 0 ⟨[], 0⟩ (by omega) (by simp)
      have e : heardV ps ms a c = ⟨(heardF s.rs s.fs ms a c ms.length 0 ⟨[], 0⟩).ls, (heardF s.rs s.fs ms a c ms.length 0 ⟨[], 0⟩).lo, true⟩ := by unfold heardV; rw [hr]; exact if_pos d
      rw [e]
      refine Eq.trans ?_ this
      refine congrArg (fun G => HH 17 [] (ms.length + 1) [true, true, true, true, true, false, true] (hdS [(1, slMarkS ms), (2, nI a), (3, nI c), (11, .rf 348160), (12, .rf 348224), (14, .rf 671744), (15, nI 0), (16, nI ((0 : Nat) : Int))] [(348160, ⟨s.rs.length, 14, goRecS s.rs⟩), (348224, ⟨s.fs.length, 1, gI s.fs⟩), (671744, ⟨0, 1, G⟩)] [])) nilI
    · refine bt' (notF d) (bt' (by simp [okT_eq]) (no_hv ?_))
      unfold heardV; rw [hr]; exact if_neg d
theorem v18 (ps : List (List VCall)) (ms : List VMark) (a c : Int) (hp : szCallSS ps ≤ 1048576) : E 18 [slCallSS ps, slMarkS ms, nI a, nI c] [] = some (hvR (heardV ps ms a c), []) := by
  have q := v35 ps ms hp
  have hl : ps.length ≤ 1048576 := sumL_len hp
  have w : IntKind.i64.wrap (zN ps.length - 1) = (ps.length : Int) - 1 := wrapS (by simp only [zN]; omega) (by simp only [zN]; omega)
  have q2 := v38 a 0 (IntKind.i64.wrap (zN ps.length - 1))
  rw [w] at q2
  refine ev1 (ms.length + 1) rfl ?_
  rw [e18, w]
  cases hr : recordsF ps ms with
  | none =>
    rw [hr] at q
    refine obind' q (bt' rfl (bt' (by simp [okT_eq]) (no_hv ?_)))
    unfold heardV; rw [hr]
  | some s =>
    rw [hr] at q
    obtain ⟨h1, h2⟩ := rec_inv hp hr
    have h3 := h1.fs
    refine obind' q (bf' rfl (obind' q2 ?_))
    by_cases d : inR a 0 ((ps.length : Int) - 1) = true
    · refine bf' (notT d) ?_
      have := l18 s.rs s.fs ms a c (by omega) h3 (rec_x hp hr).fs ms.length 0 ⟨[], 0⟩ (by omega) (by simp)
      have e : heardV ps ms a c = ⟨(heardF s.rs s.fs ms a c ms.length 0 ⟨[], 0⟩).ls, (heardF s.rs s.fs ms a c ms.length 0 ⟨[], 0⟩).lo, true⟩ := by unfold heardV; rw [hr]; exact if_pos d
      rw [e]
      refine Eq.trans ?_ this
      refine congrArg (fun G => HH 18 [] (ms.length + 1) [true, true, true, true, true, false, true] (hdS [(2, nI a), (3, nI c), (11, .rf 352256), (12, .rf 352320), (14, .rf 643072), (15, nI 0), (37, slMarkS ms), (38, nI (zN ms.length)), (39, nI ((0 : Nat) : Int))] [(352256, ⟨s.rs.length, 14, goRecS s.rs⟩), (352320, ⟨s.fs.length, 1, gI s.fs⟩), (643072, ⟨0, 1, G⟩)] [])) nilI
    · refine bt' (notF d) (bt' (by simp [okT_eq]) (no_hv ?_))
      unfold heardV; rw [hr]; exact if_neg d
/-- The law of what is heard. -/
theorem v5 (ps : List (List VCall)) (ms : List VMark) (a c : Int) (h1 : okCallSS ps) (h2 : okMarkS ms) : E 5 [slCallSS ps, slMarkS ms, nI a, nI c] [] = some (.B true, []) := by
  refine ev1 0 rfl ?_
  rw [e5]
  have q7 := v7 ps 1048576 h1 (by omega) (by omega)
  by_cases c1 : (szCallSS ps : Int) ≤ 1048576
  case neg => rw [subZ_gt c1] at q7; exact obind' q7 (bt' rfl rfl)
  rw [subZ_le c1] at q7
  refine obind' q7 (bf' (decide_eq_false (by show ¬ (1048576 - (szCallSS ps : Int) < 0); omega)) ?_)
  have q8 := v8 ms (1048576 - (szCallSS ps : Int)) h2 (by omega) (by omega)
  by_cases c2 : (szMarkS ms : Int) ≤ 1048576 - (szCallSS ps : Int)
  case neg => rw [subZ_gt c2] at q8; exact obind' q8 (bt' rfl rfl)
  rw [subZ_le c2] at q8
  refine obind' q8 (bf' (decide_eq_false (by show ¬ (1048576 - (szCallSS ps : Int) - (szMarkS ms : Int) < 0); omega)) ?_)
  have hp : szCallSS ps ≤ 1048576 := by omega
  have hm : szMarkS ms ≤ 1048576 := by omega
  have q10 := v10 ps hp
  have q11 := v11 ms hm
  have bp := bdCallSS ps 1
  have bm := bdMarkS ms (enCallSS ps 1)
  have hl := heardV_len (ps := ps) (ms := ms) (a := a) (c := c) hp
  have z : szIntS (heardV ps ms a c).ls ≤ 1048576 := by
    have := sumL_le (f := fun _ : Int => 0) (b := 0) (d := 0) (xs := (heardV ps ms a c).ls) (fun _ => Nat.le_refl _)
    show sumL _ _ ≤ _; omega
  have bl := bdIntS (heardV ps ms a c).ls 1
  refine obind' q10 (obind' q11 (obind' (v17 ps ms a c hp) (obind' q10 (obind' q11 (obind' (v18 ps ms a c hp) ?_)))))
  refine obind' (w19 _ z) (bf' rfl (bf' (by simp) (bf' (by simp) ?_)))
  refine obind' q10 (obind' (w13 ps hp) (bf' rfl (obind' q11 (obind' (w14 ms hm) (bf' rfl ?_)))))
  refine obind' (kv20 ps 1 (by omega) (by omega)) (obind' (kv21 ms (enCallSS ps 1) (by omega) (by omega)) (bf' (decide_eq_false (by show ¬ enMarkS ms (enCallSS ps 1) < 0; omega)) ?_))
  refine obind' (w19 _ z) (bf' rfl (bf' (by simp) (bf' (by simp) ?_)))
  have q23 := hv23 (heardV ps ms a c).ls 1 _ rfl (by omega) (by omega)
  refine obind' (kv22 (heardV ps ms a c).ls 1 (by omega) (by omega)) (obind' q23 (bf' (decide_eq_false (by show ¬ enIntS _ 1 < 0; omega)) (bf' (by simp) ?_)))
  refine obind' q10 (obind' q11 (obind' (v18 ps ms a c hp) ?_))
  refine obind' (w19 _ z) (bf' rfl (bf' (by simp) (bf' (by simp) ?_)))
  exact obind' q23 (bf' (decide_eq_false (by show ¬ enIntS _ 1 < 0; omega)) (bf' (by simp) rfl))
end Go.Fw
