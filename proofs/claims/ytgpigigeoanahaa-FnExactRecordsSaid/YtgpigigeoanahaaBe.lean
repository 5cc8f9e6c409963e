/- Values: a history's calls, by the program. -/
import Derived.Test.YtgpigigeoanahaaBd
set_option linter.unusedVariables false
set_option linter.unusedSimpArgs false
namespace Go.Fw
open Go.Proofs

theorem notF {c : Bool} (h : ¬ c = true) : (!c) = true := by cases c <;> simp_all
theorem notT {c : Bool} (h : c = true) : (!c) = false := by cases c <;> simp_all
def wstep (ps : List (List VCall)) (i : Nat) (m : VMark) (s : WS) : Option WS :=
  if inR m.Step.Kind 1 3 = true then
    if inR m.Step.Who 0 ((ps.length : Int) - 1) = true then
      if m.Step.Kind = 1 then
        match begW ps i m s.rs s.la with
        | some r => some ⟨r.1, r.2, s.fs ++ [r.2.getD m.Step.Who.toNat 0]⟩
        | none => none
      else
        match endW i m s.rs s.la with
        | some r => some ⟨r, s.la, s.fs ++ [s.la.getD m.Step.Who.toNat 0]⟩
        | none => none
    else none
  else some ⟨s.rs, s.la, s.fs ++ [-1]⟩
def walkF (ps : List (List VCall)) (ms : List VMark) : Nat → Nat → WS → Option WS
  | 0, _, s => some s
  | k + 1, i, s => match wstep ps i (ms.getD i zMark) s with
    | some s' => walkF ps ms k (i + 1) s'
    | none => none
def resW : Option WS → AV
  | some s => .tup 3 (lstG [owRecS s.rs, owIntS s.fs, .B true])
  | none => .tup 3 (lstG [owRecS [], owIntS [], .B false])
structure WInv (ps : List (List VCall)) (i : Nat) (s : WS) : Prop where
  ok : WOk ps s.rs s.la
  rs : s.rs.length ≤ i
  fs : s.fs.length = i
theorem beg_ok {ps : List (List VCall)} (hp : szCallSS ps ≤ 1048576) {i : Nat} {m : VMark} {rs : List VRec} {la : List Int} (h : WOk ps rs la) (hw : m.Step.Who.toNat < ps.length) {r : List VRec × List Int} (e : begW ps i m rs la = some r) :
    WOk ps r.1 r.2 ∧ r.1.length = rs.length + 1 := by
  unfold begW at e
  split at e
  · simp at e
  · split at e
    · simp at e
    · rename_i h2
      obtain rfl := Option.some.inj e
      refine ⟨⟨by simpa using h.len, fun w hwl => ?_⟩, by simp⟩
      have hlen := h.len
      rw [getD_set (by omega)]
      by_cases hww : w = m.Step.Who.toNat
      · rw [if_pos hww]
        right
        have en : 0 ≤ numR rs la m.Step.Who.toNat := by
          unfold numR
          rcases h.la _ hw with h' | ⟨_, _, h3, _⟩
          · rw [h']; simp
          · split <;> omega
        have hl : (ps.getD m.Step.Who.toNat []).length ≤ 1048576 := sumL_len (f := szCall) (sumL_get (f := szCallS) hp hw)
        unfold lastR
        rw [getD_set (by omega), if_pos hww, Int.toNat_natCast, getD_app, if_neg (show ¬ rs.length < rs.length by omega), if_pos rfl]
        refine ⟨by omega, by simp <;> omega, en, ?_⟩
        show numR rs la m.Step.Who.toNat ≤ _
        omega
      · rw [if_neg hww]
        rcases h.la w hwl with h' | ⟨h0, h1, h2, h3⟩
        · exact .inl h'
        · right
          unfold lastR at h2 h3 ⊢
          rw [getD_set (by omega), if_neg hww, getD_app, if_pos (show (la.getD w 0).toNat < rs.length by omega)]
          exact ⟨h0, by simp only [List.length_append, List.length_singleton]; omega, h2, h3⟩
theorem end_ok {ps : List (List VCall)} {i : Nat} {m : VMark} {rs : List VRec} {la : List Int} (h : WOk ps rs la) (hw : m.Step.Who.toNat < ps.length) {r : List VRec} (e : endW i m rs la = some r) :
    WOk ps r la ∧ r.length = rs.length := by
  unfold endW at e
  split at e
  · simp at e
  · split at e
    · simp at e
    · rename_i h1 h2
      obtain rfl := Option.some.inj e
      refine ⟨⟨h.len, fun w hwl => ?_⟩, by simp⟩
      rcases h.la _ hw with h' | ⟨g0, g1, g2, g3⟩
      · omega
      rcases h.la w hwl with h' | ⟨h0, h1, h2, h3⟩
      · exact .inl h'
      · right
        refine ⟨h0, by simpa using h1, ?_⟩
        unfold lastR at h2 h3 g2 g3 ⊢
        rw [getD_set (by omega)]
        split
        · exact ⟨g2, g3⟩
        · exact ⟨h2, h3⟩
theorem inR_who {ps : List (List VCall)} {x : Int} (h : inR x 0 ((ps.length : Int) - 1) = true) : x.toNat < ps.length ∧ 0 ≤ x ∧ x < (ps.length : Int) := by
  have := inR_iff.1 h
  omega
theorem wstep_ok {ps : List (List VCall)} (hp : szCallSS ps ≤ 1048576) {i : Nat} {m : VMark} {s s' : WS} (h : WInv ps i s) (e : wstep ps i m s = some s') : WInv ps (i + 1) s' := by
  obtain ⟨h1, h2, h3⟩ := h
  unfold wstep at e
  split at e
  · split at e
    · rename_i hw
      have hw' := inR_who hw
      split at e
      · split at e
        · rename_i r hr
          obtain rfl := Option.some.inj e
          obtain ⟨a, b⟩ := beg_ok hp h1 hw'.1 hr
          exact ⟨a, by show r.1.length ≤ _; omega, by simp [h3]⟩
        · simp at e
      · split at e
        · rename_i r hr
          obtain rfl := Option.some.inj e
          obtain ⟨a, b⟩ := end_ok h1 hw'.1 hr
          exact ⟨a, by show r.length ≤ _; omega, by simp [h3]⟩
        · simp at e
    · simp at e
  · obtain rfl := Option.some.inj e
    exact ⟨h1, by show s.rs.length ≤ _; omega, by simp [h3]⟩

/-! ### The program -/
theorem nilW : (some (AV.tup 3 (lstG [.own 0 14 fun i => lstG [nI 0, nI 0, nI 0, nI 0, nI 0, nI 0, .S ByteArray.empty, nI 0, nI 0, .S ByteArray.empty, .own 0 3 fun i => lstG [nI 0, nI 0, .S ByteArray.empty], nI 0, nI 0, nI 0], .own 0 1 fun i => lstG [nI 0], .B false]), ([] : List AV)) : Option (AV × List AV)) = some (resW none, []) := by
  have e1 : (fun i : Nat => lstG [nI 0, nI 0, nI 0, nI 0, nI 0, nI 0, .S ByteArray.empty, nI 0, nI 0, .S ByteArray.empty, .own 0 3 fun i => lstG [nI 0, nI 0, .S ByteArray.empty], nI 0, nI 0, nI 0]) = goRecS [] := by
    funext i; unfold goRecS; simp only [List.getD_nil]; rfl
  have e2 : (fun i : Nat => lstG [nI 0]) = goIntS [] := by funext i; unfold goIntS gI; simp only [List.getD_nil]
  rw [e1, e2]
  rfl
abbrev st35 (ps : List (List VCall)) (ms : List VMark) (s : WS) (i : Int) : St :=
  hdS [(0, slCallSS ps), (7, .pb 80 0), (8, .rf 450560), (32, slMarkS ms), (33, nI (zN ms.length)), (34, nI i)] [(450560, ⟨s.fs.length, 1, gI s.fs⟩), (522240, ⟨s.rs.length, 14, goRecS s.rs⟩), (522241, ⟨s.la.length, 1, gI s.la⟩)] [(80, 2, [.rf 522240, .rf 522241])]
abbrev p35 : List Bool := [true, true, true, true, true, false, true]
theorem l35b (ps : List (List VCall)) (ms : List VMark) (hp : szCallSS ps ≤ 1048576) (hm : ms.length ≤ 400) : ∀ (k i : Nat) (s : WS), i + k = ms.length → WInv ps i s →
    HH 35 [] (k + 1) p35 (st35 ps ms s (i : Int)) = some (resW (walkF ps ms k i s), []) := by
  have hpl : ps.length ≤ 1048576 := sumL_len hp
  intro k
  induction k with
  | zero =>
    intro i s hi hs
    rw [hstep, h35b, bf (by simp [zN] <;> omega)]
    exact bt okB
  | succ k ih =>
    intro i s hi hs
    rw [hstep, h35b, bt (by simp [zN] <;> omega), bt (by simp [zN] <;> omega), wrapN (by omega)]
    simp only [Int.toNat_natCast]
    let m := ms.getD i zMark
    have hme : ms.getD i zMark = m := rfl
    have ew : IntKind.i64.wrap (zN ps.length - 1) = (ps.length : Int) - 1 := wrapS (by simp only [zN]; omega) (by simp only [zN]; omega)
    rw [ew]
    have hn : (decide (s.fs.length + 1 ≤ 4294967296) && true && true && true && true) = true := by have := hs.fs; simp <;> omega
    have next : ∀ (s' : WS), wstep ps i m s = some s' → HH 35 [] (k + 1) p35 (st35 ps ms s' ((i + 1 : Nat) : Int)) = some (resW (walkF ps ms (k + 1) i s), []) := fun s' e => by
      rw [ih (i + 1) s' (by omega) (wstep_ok hp hs e)]
      simp only [walkF, hme, e]
    have stop : wstep ps i m s = none → (some (resW none, []) : Option (AV × List AV)) = some (resW (walkF ps ms (k + 1) i s), []) := fun e => by
      simp only [walkF, hme, e]
    have stC : ∀ (G : Nat → Nat → AV) (n : Nat) (v : Int) (rs : List VRec) (la : List Int), G = goIntS (s.fs ++ [v]) → n = s.fs.length + 1 →
        HH 35 [] (k + 1) p35 (hdS [(0, slCallSS ps), (7, .pb 80 0), (8, .rf 450560), (32, slMarkS ms), (33, nI (zN ms.length)), (34, nI ((i + 1 : Nat) : Int))] [(450560, ⟨n, 1, G⟩), (522240, ⟨rs.length, 14, goRecS rs⟩), (522241, ⟨la.length, 1, gI la⟩)] [(80, 2, [.rf 522240, .rf 522241])]) =
        HH 35 [] (k + 1) p35 (st35 ps ms ⟨rs, la, s.fs ++ [v]⟩ ((i + 1 : Nat) : Int)) := by
      rintro G n v rs la rfl rfl
      simp only [st35, List.length_append, List.length_singleton]
    refine obind' (v38 _ _ _) ?_
    by_cases c1 : inR m.Step.Kind 1 3 = true
    case neg =>
      refine bt' (notF c1) (bt' hn ?_)
      refine (stC _ _ (-1) s.rs s.la app_IntS rfl).trans (next _ ?_)
      unfold wstep; rw [if_neg c1]
    refine bf' (notT c1) (obind' (v38 _ _ _) ?_)
    by_cases c2 : inR m.Step.Who 0 ((ps.length : Int) - 1) = true
    case neg =>
      refine bt' (notF c2) (bt' okB (nilW.trans (stop ?_)))
      unfold wstep; rw [if_pos c1, if_neg c2]
    refine bf' (notT c2) ?_
    obtain ⟨w0, w1, w2⟩ := inR_who c2
    have hlen := hs.ok.len
    by_cases c3 : m.Step.Kind = 1
    · refine bt' (decide_eq_true c3) ?_
      have q := v52 ps s.rs s.la i m hp hs.ok (by have := hs.rs; omega) w1 w2
      unfold begR at q
      cases hb : begW ps i m s.rs s.la with
      | none =>
        rw [hb] at q
        refine obind' q (bt' rfl (bt' okB (nilW.trans (stop ?_))))
        unfold wstep; rw [if_pos c1, if_pos c2, if_pos c3, hb]
      | some r =>
        rw [hb] at q
        obtain ⟨g1, g2⟩ := beg_ok hp hs.ok w0 hb
        have hl2 := g1.len
        refine obind' q (bf' rfl (bt' ?_ (bt' hn ?_)))
        · show (bif decide (0 ≤ m.Step.Who) then decide (m.Step.Who < zN r.2.length) else false) = true
          simp [zN] <;> omega
        · refine (stC _ _ (r.2.getD m.Step.Who.toNat 0) r.1 r.2 app_IntS rfl).trans (next _ ?_)
          unfold wstep; rw [if_pos c1, if_pos c2, if_pos c3, hb]
    · refine bf' (decide_eq_false c3) ?_
      have q := v53 ps s.rs s.la i m hs.ok w1 w2
      unfold endR at q
      cases hb : endW i m s.rs s.la with
      | none =>
        rw [hb] at q
        refine obind' q (bt' rfl (bt' okB (nilW.trans (stop ?_))))
        unfold wstep; rw [if_pos c1, if_pos c2, if_neg c3, hb]
      | some r =>
        rw [hb] at q
        obtain ⟨g1, g2⟩ := end_ok hs.ok w0 hb
        refine obind' q (bf' rfl (bt' ?_ (bt' hn ?_)))
        · show (bif decide (0 ≤ m.Step.Who) then decide (m.Step.Who < zN s.la.length) else false) = true
          simp [zN] <;> omega
        · refine (stC _ _ (s.la.getD m.Step.Who.toNat 0) r s.la app_IntS rfl).trans (next _ ?_)
          unfold wstep; rw [if_pos c1, if_pos c2, if_neg c3, hb]

def recordsF (ps : List (List VCall)) (ms : List VMark) : Option WS := if 400 < ms.length then none else walkF ps ms ms.length 0 ⟨[], List.replicate ps.length (-1), []⟩
theorem inv0 (ps : List (List VCall)) : WInv ps 0 ⟨[], List.replicate ps.length (-1), []⟩ := by
  refine ⟨⟨by simp, fun w hw => .inl ?_⟩, by simp, by simp⟩
  simp [List.getD_eq_getElem?_getD, List.getElem?_replicate, hw]
theorem rep_app {α : Type} (n : Nat) (a : α) : List.replicate n a ++ [a] = List.replicate (n + 1) a := by rw [List.replicate_succ']
theorem l35a (ps : List (List VCall)) (ms : List VMark) (hp : szCallSS ps ≤ 1048576) (hm : ms.length ≤ 400) : ∀ (k i : Nat), i + k = ps.length →
    HH 35 [] (k + 1 + (ms.length + 1)) [true, true, true, false, true] (hdS [(0, slCallSS ps), (1, slMarkS ms), (7, .pb 80 0), (18, nI (zN ps.length)), (19, nI (i : Int))] [(372736, ⟨(List.replicate i (-1 : Int)).length, 1, gI (List.replicate i (-1))⟩)] [(80, 2, [.nsl 14 (fun _ => lstG [nI 0, nI 0, nI 0, nI 0, nI 0, nI 0, .S ByteArray.empty, nI 0, nI 0, .S ByteArray.empty, .own 0 3 (fun _ => lstG [nI 0, nI 0, .S ByteArray.empty]), nI 0, nI 0, nI 0]), .rf 372736])]) =
      some (resW (walkF ps ms ms.length 0 ⟨[], List.replicate ps.length (-1), []⟩), []) := by
  have hpl : ps.length ≤ 1048576 := sumL_len hp
  intro k
  induction k with
  | zero =>
    intro i hi
    rw [show 0 + 1 + (ms.length + 1) = (ms.length + 1) + 1 by omega, hstep, h35a, bf (by simp [zN] <;> omega)]
    have q := l35b ps ms hp hm ms.length 0 ⟨[], List.replicate ps.length (-1), []⟩ (by omega) (inv0 ps)
    have hi' : i = ps.length := by omega
    subst hi'
    refine Eq.trans ?_ q
    have e1 : (fun i : Nat => lstG [nI 0, nI 0, nI 0, nI 0, nI 0, nI 0, .S ByteArray.empty, nI 0, nI 0, .S ByteArray.empty, .own 0 3 fun i => lstG [nI 0, nI 0, .S ByteArray.empty], nI 0, nI 0, nI 0]) = goRecS [] := by
      funext i; unfold goRecS; simp only [List.getD_nil]; rfl
    have e2 : (fun i : Nat => lstG [nI 0]) = gI [] := by funext i; unfold gI; simp only [List.getD_nil]
    rw [e1, e2]
    rfl
  | succ k ih =>
    intro i hi
    rw [show k + 1 + 1 + (ms.length + 1) = (k + 1 + (ms.length + 1)) + 1 by omega, hstep, h35a, bt (by simp [zN] <;> omega), bt (by simp <;> omega), wrapN (by omega)]
    have := ih (i + 1) (by omega)
    rw [← rep_app] at this
    refine Eq.trans ?_ this
    have e : (fun j => lstG [nI (bif decide (j < (List.replicate i (-1 : Int)).length) then (List.replicate i (-1 : Int)).getD j 0 else bif decide (j - (List.replicate i (-1 : Int)).length = 0) then -1 else 0)]) = gI (List.replicate i (-1) ++ [-1]) := app_IntS
    rw [e]
    simp only [List.length_append, List.length_singleton]
theorem v35 (ps : List (List VCall)) (ms : List VMark) (hp : szCallSS ps ≤ 1048576) : E 35 [slCallSS ps, slMarkS ms] [] = some (resW (recordsF ps ms), []) := by
  refine ev1 (ps.length + 1 + (ms.length + 1)) rfl ?_
  rw [e35]
  unfold recordsF
  by_cases h : 400 < ms.length
  · rw [if_pos h]
    exact bt' (decide_eq_true (by simp only [zN]; omega)) (bt' okB nilW)
  · rw [if_neg h]
    refine bf' (decide_eq_false (by simp only [zN]; omega)) ?_
    have := l35a ps ms hp (by omega) ps.length 0 (by omega)
    refine Eq.trans ?_ this
    have e2 : (fun i : Nat => lstG [nI 0]) = gI (List.replicate 0 (-1)) := by funext i; unfold gI; simp only [List.replicate_zero, List.getD_nil]
    rw [e2]
    rfl
end Go.Fw
