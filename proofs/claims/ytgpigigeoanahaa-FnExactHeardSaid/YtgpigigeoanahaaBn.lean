/- Values: what a client has heard; the whole history's records. -/
import Derived.Test.YtgpigigeoanahaaBm
import Derived.Test.YtgpigigeoanahaaBh
set_option linter.unusedVariables false
set_option linter.unusedSimpArgs false
set_option maxRecDepth 100000
namespace Go.Fw
open Go.Proofs

theorem ndT {p : Prop} [Decidable p] (h : ¬ p) : (!decide p) = true := by simp [h]
theorem ndF {p : Prop} [Decidable p] (h : p) : (!decide p) = false := by simp [h]
theorem sumL_le {α : Type} {f : α → Nat} {b : Nat} {d : α} : ∀ {xs : List α}, (∀ j, f (xs.getD j d) ≤ b) → sumL f xs ≤ xs.length * (b + 1)
  | [], _ => by simp [sumL]
  | x :: xs, h => by
    have h0 := h 0
    have := sumL_le (xs := xs) (f := f) (b := b) (d := d) fun j => by have := h (j + 1); simpa using this
    rw [sumL_cons, List.length_cons, Nat.succ_mul]
    simp at h0
    omega
/-- Every record's call is one of the programs'; every place in 'of' is a record's. -/
structure XInv (s : WS) : Prop where
  sz : ∀ j, szRec (s.rs.getD j zRec) ≤ 1048576
  fs : ∀ j, j < s.fs.length → s.fs.getD j 0 < s.rs.length
theorem szz : szRec zRec = 0 := rfl
theorem x_step {ps : List (List VCall)} (hp : szCallSS ps ≤ 1048576) {i : Nat} {m : VMark} {s s' : WS} (h0 : WInv ps i s) (h : XInv s) (e : wstep ps i m s = some s') : XInv s' := by
  unfold wstep at e
  split at e
  · split at e
    · rename_i hw
      obtain ⟨w0, w1, w2⟩ := inR_who hw
      split at e
      · split at e
        · rename_i r hr
          obtain rfl := Option.some.inj e
          unfold begW at hr
          split at hr
          · simp at hr
          · split at hr
            · simp at hr
            · rename_i hn
              obtain rfl := Option.some.inj hr
              refine ⟨fun j => ?_, fun j hj => ?_⟩
              · show szRec ((s.rs ++ [_]).getD j zRec) ≤ _
                rw [getD_app]
                split
                · exact h.sz j
                · split
                  · by_cases hk : 0 ≤ numR s.rs s.la m.Step.Who.toNat
                    · exact sumL_get (f := szCall) (sumL_get (f := szCallS) hp w0) (by omega)
                    · have e0 : (numR s.rs s.la m.Step.Who.toNat).toNat = 0 := by omega
                      show szCall ((ps.getD m.Step.Who.toNat []).getD (numR s.rs s.la m.Step.Who.toNat).toNat zCall) ≤ _
                      rw [e0]
                      by_cases hl : 0 < (ps.getD m.Step.Who.toNat []).length
                      · exact sumL_get (f := szCall) (sumL_get (f := szCallS) hp w0) hl
                      · have : ps.getD m.Step.Who.toNat [] = [] := List.eq_nil_of_length_eq_zero (by omega)
                        rw [this]
                        exact Nat.zero_le _
                  · rw [szz]; exact Nat.zero_le _
              · show (s.fs ++ [(s.la.set m.Step.Who.toNat (s.rs.length : Int)).getD m.Step.Who.toNat 0]).getD j 0 < (((s.rs ++ [_]).length : Nat) : Int)
                have hj' : j < s.fs.length + 1 := by simpa using hj
                rw [getD_app, List.length_append]
                split
                · rename_i h1; have := h.fs j h1; rw [List.length_singleton]; omega
                · have hlen := h0.ok.len
                  rw [getD_set (by omega), if_pos rfl, List.length_singleton]
                  split <;> omega
        · simp at e
      · split at e
        · rename_i r hr
          obtain rfl := Option.some.inj e
          unfold endW at hr
          split at hr
          · simp at hr
          · rename_i hla
            split at hr
            · simp at hr
            · obtain rfl := Option.some.inj hr
              have hl := (h0.ok.la _ w0).resolve_left (by omega)
              refine ⟨fun j => ?_, fun j hj => ?_⟩
              · show szRec ((s.rs.set _ _).getD j zRec) ≤ _
                rw [getD_set (by omega)]
                split
                · exact h.sz _
                · exact h.sz j
              · show (s.fs ++ [s.la.getD m.Step.Who.toNat 0]).getD j 0 < (((s.rs.set _ _).length : Nat) : Int)
                have hj' : j < s.fs.length + 1 := by simpa using hj
                rw [getD_app, List.length_set]
                split
                · rename_i h1; exact h.fs j h1
                · split <;> omega
        · simp at e
    · simp at e
  · obtain rfl := Option.some.inj e
    refine ⟨h.sz, fun j hj => ?_⟩
    have hj' : j < s.fs.length + 1 := by simpa using hj
    show (s.fs ++ [-1]).getD j 0 < _
    rw [getD_app]
    split
    · rename_i h1; exact h.fs j h1
    · split <;> omega
theorem walk_x {ps : List (List VCall)} {ms : List VMark} (hp : szCallSS ps ≤ 1048576) : ∀ (k i : Nat) (s s' : WS), WInv ps i s → XInv s → walkF ps ms k i s = some s' → XInv s' := by
  intro k
  induction k with
  | zero => intro i s s' _ h e; simp only [walkF, Option.some.injEq] at e; subst e; exact h
  | succ k ih =>
    intro i s s' h0 h e
    simp only [walkF] at e
    split at e
    · rename_i s1 h1
      exact ih (i + 1) s1 s' (wstep_ok hp h0 h1) (x_step hp h0 h h1) e
    · simp at e
theorem rec_x {ps : List (List VCall)} {ms : List VMark} (hp : szCallSS ps ≤ 1048576) {s : WS} (h : recordsF ps ms = some s) : XInv s := by
  unfold recordsF at h
  split at h
  · simp at h
  · exact walk_x hp _ _ _ _ (inv0 ps) ⟨fun j => by show szRec (([] : List VRec).getD j zRec) ≤ _; simp [szz], fun j hj => by simp at hj⟩ h
theorem rec_sz {ps : List (List VCall)} {ms : List VMark} (hp : szCallSS ps ≤ 1048576) {s : WS} (h : recordsF ps ms = some s) : szRecS s.rs ≤ 420000000 ∧ s.rs.length ≤ 400 := by
  have h1 := sumL_le (rec_x hp h).sz
  obtain ⟨h2, h3⟩ := rec_inv hp h
  have h4 := h2.rs
  have : s.rs.length * (1048576 + 1) ≤ 400 * 1048577 := Nat.mul_le_mul (by omega) (Nat.le_refl _)
  exact ⟨by show sumL szRec s.rs ≤ _; omega, by omega⟩

/-! ### What was heard -/
structure HS where
  ls : List Int
  lo : Int
def hTake (r : VRec) (m : VMark) (f a c : Int) : Prop := ¬ f < 0 ∧ m.Reply.Code = 0 ∧ r.Call.Op = 15 ∧ r.Call.B = c ∧ r.Who = a
noncomputable def hStep (rs : List VRec) (fs : List Int) (ms : List VMark) (a c : Int) (i : Nat) (h : HS) : HS := open Classical in
  if hTake (rs.getD (fs.getD i 0).toNat zRec) (ms.getD i zMark) (fs.getD i 0) a c then
    ⟨if (ms.getD i zMark).Reply.M = 0 then h.ls ++ [(ms.getD i zMark).Reply.N] else h.ls, IntKind.i64.wrap (h.lo + (ms.getD i zMark).Reply.M)⟩
  else h
noncomputable def heardF (rs : List VRec) (fs : List Int) (ms : List VMark) (a c : Int) : Nat → Nat → HS → HS
  | 0, _, h => h
  | k + 1, i, h => heardF rs fs ms a c k (i + 1) (hStep rs fs ms a c i h)
theorem hStep_no {rs : List VRec} {fs : List Int} {ms : List VMark} {a c : Int} {i : Nat} {h : HS} (hn : ¬ hTake (rs.getD (fs.getD i 0).toNat zRec) (ms.getD i zMark) (fs.getD i 0) a c) : hStep rs fs ms a c i h = h := if_neg hn
theorem hStep_yes {rs : List VRec} {fs : List Int} {ms : List VMark} {a c : Int} {i : Nat} {h : HS} (hn : hTake (rs.getD (fs.getD i 0).toNat zRec) (ms.getD i zMark) (fs.getD i 0) a c) :
    hStep rs fs ms a c i h = ⟨if (ms.getD i zMark).Reply.M = 0 then h.ls ++ [(ms.getD i zMark).Reply.N] else h.ls, IntKind.i64.wrap (h.lo + (ms.getD i zMark).Reply.M)⟩ := if_pos hn
abbrev hR (h : HS) : AV := .tup 3 (lstG [owIntS h.ls, nI h.lo, .B true])
theorem hStep_len {rs : List VRec} {fs : List Int} {ms : List VMark} {a c : Int} {i : Nat} {h : HS} : (hStep rs fs ms a c i h).ls.length ≤ h.ls.length + 1 := by
  unfold hStep
  split
  · split <;> simp
  · omega
theorem l17 (rs : List VRec) (fs : List Int) (ms : List VMark) (a c : Int) (hm : ms.length ≤ 1048576) (hf : fs.length = ms.length) (hx : ∀ j, j < fs.length → fs.getD j 0 < rs.length) :
    ∀ (k i : Nat) (h : HS), i + k = ms.length → h.ls.length ≤ i →
    HH 17 [] (k + 1) [true, true, true, true, true, false, true] (hdS [(1, slMarkS ms), (2, nI a), (3, nI c), (11, .rf 348160), (12, .rf 348224), (14, .rf 671744), (15, nI h.lo), (16, nI (i : Int))] [(348160, ⟨rs.length, 14, goRecS rs⟩), (348224, ⟨fs.length, 1, gI fs⟩), (671744, ⟨h.ls.length, 1, gI h.ls⟩)] []) = some (hR (heardF rs fs ms a c k i h), []) := by
  intro k
  induction k with
  | zero =>
    intro i h hi hl
    rw [hstep, h17 (m := 0), bf (by simp [zN] <;> omega)]
    exact bt (by simp [okT_eq])
  | succ k ih =>
    intro i h hi hl
    have c0 : (bif decide (0 ≤ (i : Int)) then decide ((i : Int) < zN fs.length) else false) = true := by simp [zN] <;> omega
    have c1 : (bif decide (0 ≤ (i : Int)) then decide ((i : Int) < zN ms.length) else false) = true := by simp [zN] <;> omega
    have nx := ih (i + 1) (hStep rs fs ms a c i h) (by omega) (Nat.le_trans hStep_len (by omega))
    rw [hstep, h17 (m := 0), bt (by simp [zN] <;> omega), bt c0, wrapN (by omega)]
    simp only [Int.toNat_natCast, heardF]
    by_cases d1 : fs.getD i 0 < 0
    · rw [hStep_no (fun z => z.1 d1)] at nx ⊢
      exact bt' (decide_eq_true d1) nx
    refine bf' (decide_eq_false d1) (bt' c1 ?_)
    by_cases d2 : (ms.getD i zMark).Reply.Code = 0
    case neg =>
      rw [hStep_no (fun z => d2 z.2.1)] at nx ⊢
      exact bt' (ndT d2) nx
    have c2 : (bif decide (0 ≤ fs.getD i 0) then decide (fs.getD i 0 < zN rs.length) else false) = true := by
      have := hx i (by omega)
      rw [decide_eq_true (show 0 ≤ fs.getD i 0 by omega)]
      exact decide_eq_true this
    refine bf' (ndF d2) (bt' c0 (bt' c2 ?_))
    by_cases d3 : (rs.getD (fs.getD i 0).toNat zRec).Call.Op = 15
    case neg =>
      rw [hStep_no (fun z => d3 z.2.2.1)] at nx ⊢
      exact bt' (ndT d3) nx
    refine bf' (ndF d3) ?_
    by_cases d4 : (rs.getD (fs.getD i 0).toNat zRec).Call.B = c
    case neg =>
      rw [hStep_no (fun z => d4 z.2.2.2.1)] at nx ⊢
      exact bt' (ndT d4) nx
    refine bf' (ndF d4) (bt' c0 (bt' c2 ?_))
    by_cases d5 : (rs.getD (fs.getD i 0).toNat zRec).Who = a
    case neg =>
      rw [hStep_no (fun z => d5 z.2.2.2.2)] at nx ⊢
      exact bt' (ndT d5) nx
    refine bf' (ndF d5) (bt' c1 ?_)
    rw [hStep_yes ⟨d1, d2, d3, d4, d5⟩] at nx ⊢
    by_cases d6 : (ms.getD i zMark).Reply.M = 0
    · rw [if_pos d6] at nx ⊢
      refine bt' (decide_eq_true d6) (bt' c1 (bt' (by simp <;> omega) (bt' c1 ?_)))
      rw [List.length_append] at nx
      refine Eq.trans ?_ nx
      refine congrArg (fun G => HH 17 [] (k + 1) [true, true, true, true, true, false, true] (hdS [(1, slMarkS ms), (2, nI a), (3, nI c), (11, .rf 348160), (12, .rf 348224), (14, .rf 671744), (15, nI (IntKind.i64.wrap (h.lo + (ms.getD i zMark).Reply.M))), (16, nI ((i + 1 : Nat) : Int))] [(348160, ⟨rs.length, 14, goRecS rs⟩), (348224, ⟨fs.length, 1, gI fs⟩), (671744, ⟨h.ls.length + 1, 1, G⟩)] [])) ?_
      exact app_IntS
    · rw [if_neg d6] at nx ⊢
      exact bf' (decide_eq_false d6) (bt' c1 nx)
theorem l18 (rs : List VRec) (fs : List Int) (ms : List VMark) (a c : Int) (hm : ms.length ≤ 1048576) (hf : fs.length = ms.length) (hx : ∀ j, j < fs.length → fs.getD j 0 < rs.length) :
    ∀ (k i : Nat) (h : HS), i + k = ms.length → h.ls.length ≤ i →
    HH 18 [] (k + 1) [true, true, true, true, true, false, true] (hdS [(2, nI a), (3, nI c), (11, .rf 352256), (12, .rf 352320), (14, .rf 643072), (15, nI h.lo), (37, slMarkS ms), (38, nI (zN ms.length)), (39, nI (i : Int))] [(352256, ⟨rs.length, 14, goRecS rs⟩), (352320, ⟨fs.length, 1, gI fs⟩), (643072, ⟨h.ls.length, 1, gI h.ls⟩)] []) = some (hR (heardF rs fs ms a c k i h), []) := by
  intro k
  induction k with
  | zero =>
    intro i h hi hl
    rw [hstep, h18, bf (by simp [zN] <;> omega)]
    exact bt (by simp [okT_eq])
  | succ k ih =>
    intro i h hi hl
    have c0 : (bif decide (0 ≤ (i : Int)) then decide ((i : Int) < zN fs.length) else false) = true := by simp [zN] <;> omega
    have c1 : (bif decide (0 ≤ (i : Int)) then decide ((i : Int) < zN ms.length) else false) = true := by simp [zN] <;> omega
    have nx := ih (i + 1) (hStep rs fs ms a c i h) (by omega) (Nat.le_trans hStep_len (by omega))
    rw [hstep, h18, bt (by simp [zN] <;> omega), bt c1, bt c0, wrapN (by omega)]
    simp only [Int.toNat_natCast, heardF]
    by_cases d1 : fs.getD i 0 < 0
    · rw [hStep_no (fun z => z.1 d1)] at nx ⊢
      exact bt' (decide_eq_true d1) nx
    refine bf' (decide_eq_false d1) ?_
    by_cases d2 : (ms.getD i zMark).Reply.Code = 0
    case neg =>
      rw [hStep_no (fun z => d2 z.2.1)] at nx ⊢
      exact bt' (ndT d2) nx
    have c2 : (bif decide (0 ≤ fs.getD i 0) then decide (fs.getD i 0 < zN rs.length) else false) = true := by
      have := hx i (by omega)
      rw [decide_eq_true (show 0 ≤ fs.getD i 0 by omega)]
      exact decide_eq_true this
    refine bf' (ndF d2) (bt' c0 (bt' c2 ?_))
    by_cases d5 : (rs.getD (fs.getD i 0).toNat zRec).Who = a
    case neg =>
      rw [hStep_no (fun z => d5 z.2.2.2.2)] at nx ⊢
      exact bt' (ndT d5) nx
    refine bf' (ndF d5) ?_
    by_cases d3 : (rs.getD (fs.getD i 0).toNat zRec).Call.Op = 15
    case neg =>
      rw [hStep_no (fun z => d3 z.2.2.1)] at nx ⊢
      exact bt' (ndT d3) nx
    refine bf' (ndF d3) ?_
    by_cases d4 : (rs.getD (fs.getD i 0).toNat zRec).Call.B = c
    case neg =>
      rw [hStep_no (fun z => d4 z.2.2.2.1)] at nx ⊢
      exact bt' (ndT d4) nx
    refine bf' (ndF d4) ?_
    rw [hStep_yes ⟨d1, d2, d3, d4, d5⟩] at nx ⊢
    by_cases d6 : (ms.getD i zMark).Reply.M = 0
    · rw [if_pos d6] at nx ⊢
      refine bt' (decide_eq_true d6) (bt' (by simp <;> omega) ?_)
      rw [List.length_append] at nx
      refine Eq.trans ?_ nx
      refine congrArg (fun G => HH 18 [] (k + 1) [true, true, true, true, true, false, true] (hdS [(2, nI a), (3, nI c), (11, .rf 352256), (12, .rf 352320), (14, .rf 643072), (15, nI (IntKind.i64.wrap (h.lo + (ms.getD i zMark).Reply.M))), (37, slMarkS ms), (38, nI (zN ms.length)), (39, nI ((i + 1 : Nat) : Int))] [(352256, ⟨rs.length, 14, goRecS rs⟩), (352320, ⟨fs.length, 1, gI fs⟩), (643072, ⟨h.ls.length + 1, 1, G⟩)] [])) ?_
      exact app_IntS
    · rw [if_neg d6] at nx ⊢
      exact bf' (decide_eq_false d6) nx
end Go.Fw
