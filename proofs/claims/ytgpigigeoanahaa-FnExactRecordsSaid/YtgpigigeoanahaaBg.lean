/- Values: a history's calls, by the reference: the walk. -/
import Derived.Test.YtgpigigeoanahaaBf
set_option linter.unusedVariables false
set_option linter.unusedSimpArgs false
namespace Go.Fw
open Go.Proofs

abbrev p36 : List Bool := [true, true, true, true, true, true, true, false, true]
abbrev p36c : List Bool := [true, true, true, true, true, true, true, false, true, true, true, false, true, true, true, false, true, false, true, true, false]
abbrev st36 (ps : List (List VCall)) (ms : List VMark) (rs : List VRec) (os nx op : List Int) (i : Int) : St :=
  hdS [(0, slCallSS ps), (1, slMarkS ms), (7, .rf 724992), (8, .rf 827392), (9, .rf 352256), (10, .rf 364544), (12, nI i)] [(352256, ⟨nx.length, 1, gI nx⟩), (364544, ⟨op.length, 1, gI op⟩), (724992, ⟨rs.length, 14, goRecS rs⟩), (827392, ⟨os.length, 1, gI os⟩)] []
abbrev st36c (ps : List (List VCall)) (ms : List VMark) (rs : List VRec) (os nx op : List Int) (i : Int) (x : VStep) : St :=
  hdS [(0, slCallSS ps), (1, slMarkS ms), (7, .rf 724992), (8, .rf 827392), (9, .rf 352256), (10, .rf 364544), (12, nI i), (13, .pb 77 0)] [(352256, ⟨nx.length, 1, gI nx⟩), (364544, ⟨op.length, 1, gI op⟩), (724992, ⟨rs.length, 14, goRecS rs⟩), (827392, ⟨os.length, 1, gI os⟩)] [(77, 3, [nI x.Kind, nI x.Who, nI x.Leg])]
theorem stD {F : Nat} {ps : List (List VCall)} {ms : List VMark} {rs : List VRec} {os nx op : List Int} {i : Int} {n1 n2 n3 n4 : Nat} {G1 G2 G3 G4 : Nat → Nat → AV} {R : Option (AV × List AV)}
    (h : HH 36 [] F p36 (st36 ps ms rs os nx op i) = R) (e1 : n1 = nx.length) (f1 : G1 = gI nx) (e2 : n2 = op.length) (f2 : G2 = gI op) (e3 : n3 = rs.length) (f3 : G3 = goRecS rs) (e4 : n4 = os.length) (f4 : G4 = gI os) :
    HH 36 [] F p36 (hdS [(0, slCallSS ps), (1, slMarkS ms), (7, .rf 724992), (8, .rf 827392), (9, .rf 352256), (10, .rf 364544), (12, nI i)] [(352256, ⟨n1, 1, G1⟩), (364544, ⟨n2, 1, G2⟩), (724992, ⟨n3, 14, G3⟩), (827392, ⟨n4, 1, G4⟩)] []) = R := by
  subst e1 f1 e2 f2 e3 f3 e4 f4; exact h
theorem dn3 {m : VMark} (h : m.Step.Kind = 3) : doneR m = true := by simp [doneR, h]
theorem dn4 {m : VMark} (h : ¬ m.Reply.Code = 4) : doneR m = true := by simp [doneR, h]
theorem dnN {m : VMark} (h : ¬ m.Step.Kind = 3) (h' : m.Reply.Code = 4) : ¬ doneR m = true := by simp [doneR, h, h']
theorem bnd {k : Int} {n : Nat} (h0 : 0 ≤ k) (h1 : k < n) : (bif decide (0 ≤ k) then decide (k < zN n) else false) = true := by simp only [h0, decide_true, cond_true]; exact decide_eq_true h1
theorem l36c (ps : List (List VCall)) (ms : List VMark) (rs : List VRec) (os nx op : List Int) (i w F : Nat) (m : VMark) (hme : ms.getD i zMark = m) (hi : i < ms.length) (hil : i ≤ 1048576) (hw : m.Step.Who = w) (hwn : w < nx.length) (hwo : w < op.length)
    (hk0 : 0 ≤ op.getD w 0) (hk1 : op.getD w 0 < rs.length) (hn0 : 0 ≤ nx.getD w 0) (hn1 : nx.getD w 0 ≤ 1048576) (hos : os.length ≤ 1048576) (R : Option (AV × List AV))
    (h : HH 36 [] F p36 (st36 ps ms (rs.set (op.getD w 0).toNat (setR (rs.getD (op.getD w 0).toNat zRec) m.Step.Kind m.Reply.Code i)) (os ++ [op.getD w 0]) (nx.set w (nx.getD w 0 + 1)) (if doneR m = true then op.set w (-1) else op) ((i + 1 : Nat) : Int)) = R) :
    HH 36 [] (F + 1) p36c (st36c ps ms rs os nx op (i : Int) m.Step) = R := by
  have tw : m.Step.Who.toNat = w := by omega
  have b1 : (bif decide (0 ≤ m.Step.Who) then decide (m.Step.Who < zN nx.length) else false) = true := bnd (by omega) (by omega)
  have b2 : (bif decide (0 ≤ m.Step.Who) then decide (m.Step.Who < zN op.length) else false) = true := bnd (by omega) (by omega)
  have b3 : (bif decide (0 ≤ op.getD m.Step.Who.toNat 0) then decide (op.getD m.Step.Who.toNat 0 < zN rs.length) else false) = true := by rw [tw]; exact bnd hk0 hk1
  have b4 : (bif decide (0 ≤ (i : Int)) then decide ((i : Int) < zN ms.length) else false) = true := bnd (by omega) (by omega)
  have b5 : (decide (os.length + 1 ≤ 4294967296) && true && true && true && true) = true := by simp <;> omega
  have ew : IntKind.i64.wrap (nx.getD m.Step.Who.toNat 0 + 1) = nx.getD w 0 + 1 := by rw [tw]; exact wrapS (by omega) (by omega)
  have hlt : (op.getD w 0).toNat < rs.length := by omega
  rw [hstep, h36c, wrapN (by omega), ew]
  simp only [Int.toNat_natCast, tw, hme]
  rw [tw] at b3
  refine bt' b1 (bt' b1 (bt' b2 (bt' b5 (bt' b4 (bt' b3 ?_)))))
  by_cases c3 : m.Step.Kind = 3
  · rw [if_pos (dn3 c3)] at h
    refine bt' (decide_eq_true c3) (bt' b3 (bt' b2 ?_))
    exact stD h (by simp) (set_IntS hwn) (by simp) (set_IntS hwo) (by simp) (setR_RecS (kind := m.Step.Kind) hlt (fun j hj => bf (decide_eq_false hj)) ((bt (decide_eq_true rfl)).trans (by simp [setR, c3]))) (by simp) app_IntS
  · refine bf' (decide_eq_false c3) (bt' b4 ?_)
    by_cases c4 : m.Reply.Code = 4
    · rw [if_neg (dnN c3 c4)] at h
      refine bf' (by rw [decide_eq_true c4]; rfl) ?_
      exact stD h (by simp) (set_IntS hwn) rfl rfl (by simp) (setR_RecS (kind := m.Step.Kind) (pl := (i : Int)) hlt (fun j hj => rfl) (by simp [setR, c3, c4])) (by simp) app_IntS
    · rw [if_pos (dn4 c4)] at h
      refine bt' (by rw [decide_eq_false c4]; rfl) (bt' b3 (bt' b2 ?_))
      exact stD h (by simp) (set_IntS hwn) (by simp) (set_IntS hwo) (by simp) (setR_RecS (kind := m.Step.Kind) hlt (fun j hj => bf (decide_eq_false hj)) ((bt (decide_eq_true rfl)).trans (by simp [setR, c4]))) (by simp) app_IntS

theorem setR_keep {r : VRec} {kind code pl : Int} (h3 : ¬ kind = 3) (h4 : code = 4) : (setR r kind code pl).Last = r.Last := if_neg (fun h => h.elim h3 (fun h => h h4))
theorem setR_done {r : VRec} {kind code pl : Int} (h : kind = 3 ∨ code ≠ 4) : (setR r kind code pl).Last = pl := if_pos h
theorem stE {F : Nat} {ps : List (List VCall)} {ms : List VMark} {rs : List VRec} {os nx op : List Int} {i : Int} {x : VStep} {n1 n2 n3 n4 : Nat} {G1 G2 G3 G4 : Nat → Nat → AV} {R : Option (AV × List AV)}
    (h : HH 36 [] F p36c (st36c ps ms rs os nx op i x) = R) (e1 : n1 = nx.length) (f1 : G1 = gI nx) (e2 : n2 = op.length) (f2 : G2 = gI op) (e3 : n3 = rs.length) (f3 : G3 = goRecS rs) (e4 : n4 = os.length) (f4 : G4 = gI os) :
    HH 36 [] F p36c (hdS [(0, slCallSS ps), (1, slMarkS ms), (7, .rf 724992), (8, .rf 827392), (9, .rf 352256), (10, .rf 364544), (12, nI i), (13, .pb 77 0)] [(352256, ⟨n1, 1, G1⟩), (364544, ⟨n2, 1, G2⟩), (724992, ⟨n3, 14, G3⟩), (827392, ⟨n4, 1, G4⟩)] [(77, 3, [nI x.Kind, nI x.Who, nI x.Leg])]) = R := by
  subst e1 f1 e2 f2 e3 f3 e4 f4; exact h
theorem l36b (ps : List (List VCall)) (ms : List VMark) (hp : szCallSS ps ≤ 1048576) (hm : ms.length ≤ 400) : ∀ (k i F : Nat) (s : WS) (nx op : List Int), i + k = ms.length → 2 * k + 1 ≤ F → WInv ps i s → Rel ps s nx op →
    HH 36 [] F p36 (st36 ps ms s.rs s.fs nx op (i : Int)) = some (resW (walkF ps ms k i s), []) := by
  have hpl : ps.length ≤ 1048576 := sumL_len hp
  intro k
  induction k with
  | zero =>
    intro i F s nx op hi hF hs hr
    obtain ⟨F, rfl⟩ : ∃ F', F = F' + 1 := ⟨F - 1, by omega⟩
    rw [hstep, h36b, bf (by simp [zN] <;> omega)]
    exact bt okB
  | succ k ih =>
    intro i F s nx op hi hF hs hr
    obtain ⟨F, rfl⟩ : ∃ F', F = F' + 2 := ⟨F - 2, by omega⟩
    rw [hstep, h36b, bt (by simp [zN] <;> omega), bt (by simp [zN] <;> omega), wrapN (by omega)]
    simp only [Int.toNat_natCast]
    let m := ms.getD i zMark
    have hme : ms.getD i zMark = m := rfl
    have ew : IntKind.i64.wrap (zN ps.length - 1) = (ps.length : Int) - 1 := wrapS (by simp only [zN]; omega) (by simp only [zN]; omega)
    rw [ew]
    have hfs := hs.fs
    have hrs := hs.rs
    have hn : (decide (s.fs.length + 1 ≤ 4294967296) && true && true && true && true) = true := by simp <;> omega
    have hnr : (decide (s.rs.length + 1 ≤ 4294967296) && true && true && true && true) = true := by simp <;> omega
    have next : ∀ (s' : WS) (nx' op' : List Int) (F' : Nat), 2 * k + 1 ≤ F' → wstep ps i m s = some s' → Rel ps s' nx' op' → HH 36 [] F' p36 (st36 ps ms s'.rs s'.fs nx' op' ((i + 1 : Nat) : Int)) = some (resW (walkF ps ms (k + 1) i s), []) := fun s' nx' op' F' hF' e hr' => by
      rw [ih (i + 1) F' s' nx' op' (by omega) hF' (wstep_ok hp hs e) hr']
      simp only [walkF, hme, e]
    have stop : wstep ps i m s = none → (some (resW none, []) : Option (AV × List AV)) = some (resW (walkF ps ms (k + 1) i s), []) := fun e => by
      simp only [walkF, hme, e]
    refine obind' (v37 _ _ _) ?_
    by_cases c1 : inR m.Step.Kind 1 3 = true
    case neg =>
      refine bt' (notF c1) (bt' hn ?_)
      refine stD (next ⟨s.rs, s.la, s.fs ++ [-1]⟩ nx op (F + 1) (by omega) ?_ ⟨hr.nl, hr.ol, hr.n, hr.o, hr.who⟩) rfl rfl rfl rfl rfl rfl (by simp) app_IntS
      unfold wstep; rw [if_neg c1]
    refine bf' (notT c1) (obind' (v37 _ _ _) ?_)
    by_cases c2 : inR m.Step.Who 0 ((ps.length : Int) - 1) = true
    case neg =>
      refine bt' (notF c2) (bt' okB (nilW.trans (stop ?_)))
      unfold wstep; rw [if_pos c1, if_neg c2]
    refine bf' (notT c2) ?_
    obtain ⟨w0, w1, w2⟩ := inR_who c2
    obtain ⟨w, hw⟩ : ∃ w : Nat, m.Step.Who = w := ⟨m.Step.Who.toNat, by omega⟩
    have tw : m.Step.Who.toNat = w := by omega
    have hwl : w < ps.length := by omega
    have hnl := hr.nl
    have hol := hr.ol
    have bo : (bif decide (0 ≤ m.Step.Who) then decide (m.Step.Who < zN op.length) else false) = true := bnd (by omega) (by omega)
    have bn : (bif decide (0 ≤ m.Step.Who) then decide (m.Step.Who < zN nx.length) else false) = true := bnd (by omega) (by omega)
    have bp : (bif decide (0 ≤ m.Step.Who) then decide (m.Step.Who < zN ps.length) else false) = true := bnd (by omega) (by omega)
    have hnx := hr.n w hwl
    have hop := hr.o w hwl
    have hpw : (ps.getD w []).length ≤ 1048576 := sumL_len (f := szCall) (sumL_get (f := szCallS) hp hwl)
    have hn0 : 0 ≤ nx.getD w 0 := by
      rw [hnx]; unfold numR
      rcases hs.ok.la w hwl with h' | ⟨g0, g1, g2, g3⟩
      · rw [h']; simp
      · split <;> omega
    by_cases c3 : m.Step.Kind = 1
    · refine bt' (decide_eq_true c3) (bt' bo ?_)
      by_cases c4 : 0 ≤ op.getD w 0
      · refine bt' (decide_eq_true (by show 0 ≤ op.getD m.Step.Who.toNat 0; rw [tw]; exact c4)) (bt' okB (nilW.trans (stop ?_)))
        have : 0 ≤ s.la.getD w 0 ∧ (lastR s.rs s.la w).Last < 0 := by
          rw [hop] at c4
          unfold opR at c4
          by_cases hc : 0 ≤ s.la.getD w 0 ∧ (lastR s.rs s.la w).Last < 0
          · exact hc
          · rw [if_neg hc] at c4; omega
        unfold wstep begW; rw [if_pos c1, if_pos c2, if_pos c3, tw, if_pos this]
      refine bf' (decide_eq_false (by show ¬ 0 ≤ op.getD m.Step.Who.toNat 0; rw [tw]; exact c4)) (bt' bn (bt' bp ?_))
      by_cases c5 : ((ps.getD w []).length : Int) ≤ nx.getD w 0
      · refine bt' (decide_eq_true (by show zN (ps.getD m.Step.Who.toNat []).length ≤ nx.getD m.Step.Who.toNat 0; rw [tw]; exact c5)) (bt' okB (nilW.trans (stop ?_)))
        have : ¬ (0 ≤ s.la.getD w 0 ∧ (lastR s.rs s.la w).Last < 0) := fun hc => by
          rw [hop] at c4; unfold opR at c4; rw [if_pos hc] at c4; omega
        unfold wstep begW; rw [if_pos c1, if_pos c2, if_pos c3, tw, if_neg this, ← hnx, if_pos c5]
      have bc : (bif decide (0 ≤ nx.getD m.Step.Who.toNat 0) then decide (nx.getD m.Step.Who.toNat 0 < zN (ps.getD m.Step.Who.toNat []).length) else false) = true := by rw [tw]; exact bnd hn0 (by omega)
      refine bf' (decide_eq_false (by show ¬ zN (ps.getD m.Step.Who.toNat []).length ≤ nx.getD m.Step.Who.toNat 0; rw [tw]; exact c5)) (bt' bo (bt' bp (bt' bn (bt' bc ?_))))
      have hq : szCall ((ps.getD m.Step.Who.toNat []).getD (nx.getD m.Step.Who.toNat 0).toNat zCall) ≤ 1048576 := by
        rw [tw]
        exact sumL_get (f := szCall) (sumL_get (f := szCallS) hp hwl) (by omega)
      have q := v54 _ hq
      obtain ⟨g1, g2⟩ := rel_beg (i := i) hs.ok hr hw hwl c3 (by omega) (by omega)
      have hopL : (op.set w (s.rs.length : Int)).getD w 0 = (s.rs.length : Int) := by rw [getD_set (by omega), if_pos rfl]
      have fin := l36c ps ms (s.rs ++ [begX ps i m nx w]) s.fs nx (op.set w (s.rs.length : Int)) i w F m hme (by omega) (by omega) hw (by omega) (by simp; omega) (by rw [hopL]; omega) (by rw [hopL]; simp <;> omega) hn0 (by omega) (by omega)
        (some (resW (walkF ps ms (k + 1) i s), [])) (by
          rw [hopL]
          have e : (s.rs ++ [begX ps i m nx w]).set (s.rs.length : Int).toNat (setR ((s.rs ++ [begX ps i m nx w]).getD (s.rs.length : Int).toNat zRec) m.Step.Kind m.Reply.Code i) = s.rs ++ [setR (begX ps i m nx w) m.Step.Kind m.Reply.Code i] := by
            rw [Int.toNat_natCast, set_last, getD_app, if_neg (Nat.lt_irrefl _), if_pos rfl]
          rw [e]
          refine next ⟨_, _, _⟩ _ _ F (by omega) ?_ g2
          unfold wstep
          rw [if_pos c1, if_pos c2, if_pos c3, g1]
          simp only [tw]
          have : (s.la.set w (s.rs.length : Int)).getD w 0 = (s.rs.length : Int) := by rw [getD_set (by have := hs.ok.len; omega), if_pos rfl]
          rw [this])
      have leaf : ∀ G3 G2 n2 n3, G3 = goRecS (s.rs ++ [begX ps i m nx w]) → G2 = gI (op.set w (s.rs.length : Int)) → n2 = op.length → n3 = s.rs.length + 1 →
          HH 36 [] (F + 1) p36c (hdS [(0, slCallSS ps), (1, slMarkS ms), (7, .rf 724992), (8, .rf 827392), (9, .rf 352256), (10, .rf 364544), (12, nI (i : Int)), (13, .pb 77 0)] [(352256, ⟨nx.length, 1, gI nx⟩), (364544, ⟨n2, 1, G2⟩), (724992, ⟨n3, 14, G3⟩), (827392, ⟨s.fs.length, 1, gI s.fs⟩)] [(77, 3, [nI m.Step.Kind, nI m.Step.Who, nI m.Step.Leg])]) = some (resW (walkF ps ms (k + 1) i s), []) :=
        fun G3 G2 n2 n3 h3 h2 e2 e3 => stE fin rfl rfl (by simp [e2]) h2 (by simp [e3]) h3 rfl rfl
      have hx : begX ps i m nx w = ⟨m.Step.Who, nx.getD m.Step.Who.toNat 0, (ps.getD m.Step.Who.toNat []).getD (nx.getD m.Step.Who.toNat 0).toNat zCall, i, -1, 0⟩ := by unfold begX; rw [tw]
      have hset : (fun j => lstG [AV.I .i64 (bif decide (j = m.Step.Who.toNat) then (s.rs.length : Int) else op.getD j 0)]) = gI (op.set w (s.rs.length : Int)) := by rw [tw]; exact set_IntS (by omega)
      have happ := app_RecS (os := s.rs) (v := begX ps i m nx w)
      rw [hx] at happ leaf
      repeat' first
        | refine and2_both ?_ ?_
        | refine bt' bn ?_
        | refine bt' hnr ?_
        | refine obind' q ?_
        | exact leaf _ _ _ _ happ hset rfl rfl
    · refine bf' (decide_eq_false c3) (bt' bo ?_)
      by_cases c4 : op.getD w 0 < 0
      · refine bt' (decide_eq_true (by show op.getD m.Step.Who.toNat 0 < 0; rw [tw]; exact c4)) (bt' okB (nilW.trans (stop ?_)))
        have : endW i m s.rs s.la = none := by
          rw [hop] at c4
          unfold opR at c4
          unfold endW
          rw [tw]
          by_cases h0 : s.la.getD w 0 < 0
          · rw [if_pos h0]
          · rw [if_neg h0]
            by_cases hl : (lastR s.rs s.la w).Last < 0
            · rw [if_pos ⟨by omega, hl⟩] at c4; omega
            · rw [if_pos (by omega)]
        unfold wstep; rw [if_pos c1, if_pos c2, if_neg c3, this]
      obtain ⟨g1, g2, g3, g4⟩ := rel_end (i := i) (m := m) hs.ok hr hw hwl (by omega)
      have hlt : (op.getD w 0).toNat < s.rs.length := by omega
      have b3 : (bif decide (0 ≤ op.getD m.Step.Who.toNat 0) then decide (op.getD m.Step.Who.toNat 0 < zN s.rs.length) else false) = true := by rw [tw]; exact bnd (by omega) g3
      have b4 : (bif decide (0 ≤ (i : Int)) then decide ((i : Int) < zN ms.length) else false) = true := bnd (by omega) (by omega)
      have hw' : wstep ps i m s = some ⟨s.rs.set (op.getD w 0).toNat (setR (s.rs.getD (op.getD w 0).toNat zRec) m.Step.Kind m.Reply.Code i), s.la, s.fs ++ [op.getD w 0]⟩ := by
        unfold wstep
        rw [if_pos c1, if_pos c2, if_neg c3, g2]
        simp only [tw, g1]
      have fin := next _ _ _ (F + 1) (by omega) hw' g4
      have hsetO : (fun j => lstG [AV.I .i64 (bif decide (j = m.Step.Who.toNat) then (-1 : Int) else op.getD j 0)]) = gI (op.set w (-1)) := by rw [tw]; exact set_IntS (by omega)
      refine bf' (decide_eq_false (by show ¬ op.getD m.Step.Who.toNat 0 < 0; rw [tw]; exact c4)) (bt' bo (bt' hn (bt' b4 (bt' b3 ?_))))
      have happ : (fun j => lstG [nI (bif decide (j < s.fs.length) then s.fs.getD j 0 else bif decide (j - s.fs.length = 0) then op.getD m.Step.Who.toNat 0 else 0)]) = gI (s.fs ++ [op.getD w 0]) := by rw [tw]; exact app_IntS
      have e3 : (op.getD m.Step.Who.toNat 0).toNat = (op.getD w 0).toNat := by rw [tw]
      by_cases c5 : m.Step.Kind = 3
      · rw [if_pos (dn3 c5)] at fin
        refine bt' (decide_eq_true c5) (bt' b3 (bt' bo ?_))
        refine stD fin rfl rfl (by simp) hsetO (by simp) ?_ (by simp) happ
        rw [← e3] at hlt ⊢
        exact setR_RecS (kind := m.Step.Kind) hlt (fun j hj => bf (decide_eq_false hj)) ((bt (decide_eq_true rfl)).trans (setR_done (.inl c5)).symm)
      · refine bf' (decide_eq_false c5) (bt' b4 ?_)
        by_cases c6 : m.Reply.Code = 4
        · rw [if_neg (dnN c5 c6)] at fin
          refine bf' (by show (!decide (m.Reply.Code = 4)) = false; rw [decide_eq_true c6]; rfl) ?_
          refine stD fin rfl rfl rfl rfl (by simp) ?_ (by simp) happ
          rw [← e3] at hlt ⊢
          exact setR_RecS (kind := m.Step.Kind) (pl := (i : Int)) hlt (fun j hj => rfl) (setR_keep c5 c6).symm
        · rw [if_pos (dn4 c6)] at fin
          refine bt' (by show (!decide (m.Reply.Code = 4)) = true; rw [decide_eq_false c6]; rfl) (bt' b3 (bt' bo ?_))
          refine stD fin rfl rfl (by simp) hsetO (by simp) ?_ (by simp) happ
          rw [← e3] at hlt ⊢
          exact setR_RecS (kind := m.Step.Kind) hlt (fun j hj => bf (decide_eq_false hj)) ((bt (decide_eq_true rfl)).trans (setR_done (.inr c6)).symm)
/-! ### From the beginning -/
theorem rel0 (ps : List (List VCall)) : Rel ps ⟨[], List.replicate ps.length (-1), []⟩ (List.replicate ps.length 0) (List.replicate ps.length (-1)) := by
  have g : ∀ w, w < ps.length → (List.replicate ps.length (-1 : Int)).getD w 0 = -1 := fun w hw => by simp [List.getD_eq_getElem?_getD, List.getElem?_replicate, hw]
  refine ⟨by simp, by simp, fun w hw => ?_, fun w hw => ?_, fun w hw h => ?_⟩
  · unfold numR; rw [getD_rep]; rw [g w hw]; rfl
  · unfold opR; rw [g w hw]; rfl
  · have h : 0 ≤ (List.replicate ps.length (-1 : Int)).getD w 0 := h
    rw [g w hw] at h; omega
theorem l36a (ps : List (List VCall)) (ms : List VMark) (hp : szCallSS ps ≤ 1048576) (hm : ms.length ≤ 400) : ∀ (k i : Nat) (op : List Int), i + k = ps.length → op.length = ps.length → (∀ j, j < i → op.getD j 0 = -1) →
    HH 36 [] (k + 1 + (2 * ms.length + 1)) [true, true, true, true, true, true, false, true] (hdS [(0, slCallSS ps), (1, slMarkS ms), (7, .rf 724992), (8, .rf 827392), (9, .rf 352256), (10, .rf 364544), (11, nI (i : Int))] [(352256, ⟨(List.replicate ps.length (0 : Int)).length, 1, gI (List.replicate ps.length 0)⟩), (364544, ⟨op.length, 1, gI op⟩), (724992, ⟨([] : List VRec).length, 14, goRecS []⟩), (827392, ⟨([] : List Int).length, 1, gI []⟩)] []) =
      some (resW (walkF ps ms ms.length 0 ⟨[], List.replicate ps.length (-1), []⟩), []) := by
  have hpl : ps.length ≤ 1048576 := sumL_len hp
  intro k
  induction k with
  | zero =>
    intro i op hi hl ho
    have : op = List.replicate ps.length (-1) := list_ext_getD (d := 0) (by simp [hl]) fun j hj => by rw [ho j (by omega)]; simp [List.getD_eq_getElem?_getD, List.getElem?_replicate, show j < ps.length by omega]
    subst this
    rw [show 0 + 1 + (2 * ms.length + 1) = (2 * ms.length + 1) + 1 by omega, hstep, h36a, bf (by simp [zN] <;> omega)]
    exact l36b ps ms hp hm ms.length 0 (2 * ms.length + 1) ⟨[], List.replicate ps.length (-1), []⟩ _ _ (by omega) (by omega) (inv0 ps) (rel0 ps)
  | succ k ih =>
    intro i op hi hl ho
    rw [show k + 1 + 1 + (2 * ms.length + 1) = (k + 1 + (2 * ms.length + 1)) + 1 by omega, hstep, h36a, bt (by simp [zN] <;> omega), bt (by simp [zN] <;> omega), wrapN (by omega)]
    simp only [Int.toNat_natCast]
    have := ih (i + 1) (op.set i (-1)) (by omega) (by simpa using hl) (fun j hj => by
      rw [getD_set (by omega)]
      by_cases hji : j = i
      · rw [if_pos hji]
      · rw [if_neg hji]; exact ho j (by omega))
    rw [List.length_set] at this
    refine Eq.trans ?_ this
    rw [show (fun j => lstG [nI (bif decide (j = i) then -1 else op.getD j 0)]) = gI (op.set i (-1)) from set_IntS (by omega)]
theorem v36 (ps : List (List VCall)) (ms : List VMark) (hp : szCallSS ps ≤ 1048576) : E 36 [slCallSS ps, slMarkS ms] [] = some (resW (recordsF ps ms), []) := by
  have hpl : ps.length ≤ 1048576 := sumL_len hp
  refine ev1 (ps.length + 1 + (2 * ms.length + 1)) rfl ?_
  rw [e36]
  unfold recordsF
  by_cases h : 400 < ms.length
  · rw [if_pos h]
    exact bt' (decide_eq_true (by simp only [zN]; omega)) (bt' okB nilW)
  · rw [if_neg h]
    refine bf' (decide_eq_false (by simp only [zN]; omega)) (bt' (by simp [zN] <;> omega) (bt' (by simp [zN] <;> omega) ?_))
    have := l36a ps ms hp (by omega) ps.length 0 (List.replicate ps.length 0) (by omega) (by simp) (fun j hj => by omega)
    rw [List.length_replicate] at this
    refine Eq.trans ?_ this
    have e0 : (fun i : Nat => lstG [nI 0]) = gI (List.replicate ps.length 0) := by funext i; unfold gI; rw [getD_rep]
    have e2 : (fun i : Nat => lstG [nI 0]) = gI [] := by funext i; unfold gI; simp only [List.getD_nil]
    have e1 : (fun i : Nat => lstG [nI 0, nI 0, nI 0, nI 0, nI 0, nI 0, .S ByteArray.empty, nI 0, nI 0, .S ByteArray.empty, .own 0 3 fun i => lstG [nI 0, nI 0, .S ByteArray.empty], nI 0, nI 0, nI 0]) = goRecS [] := by
      funext i; unfold goRecS; simp only [List.getD_nil]; rfl
    rw [e1]
    have key : ∀ (G1 G2 G4 : Nat → Nat → AV), G1 = gI (List.replicate ps.length 0) → G2 = gI (List.replicate ps.length 0) → G4 = gI [] →
        HH 36 [] (ps.length + 1 + (2 * ms.length + 1)) [true, true, true, true, true, true, false, true] (hdS [(0, slCallSS ps), (1, slMarkS ms), (7, .rf 724992), (8, .rf 827392), (9, .rf 352256), (10, .rf 364544), (11, nI 0)] [(352256, ⟨ps.length, 1, G1⟩), (364544, ⟨ps.length, 1, G2⟩), (724992, ⟨0, 14, goRecS []⟩), (827392, ⟨0, 1, G4⟩)] []) =
        HH 36 [] (ps.length + 1 + (2 * ms.length + 1)) [true, true, true, true, true, true, false, true] (hdS [(0, slCallSS ps), (1, slMarkS ms), (7, .rf 724992), (8, .rf 827392), (9, .rf 352256), (10, .rf 364544), (11, nI ((0 : Nat) : Int))] [(352256, ⟨ps.length, 1, gI (List.replicate ps.length 0)⟩), (364544, ⟨ps.length, 1, gI (List.replicate ps.length 0)⟩), (724992, ⟨([] : List VRec).length, 14, goRecS []⟩), (827392, ⟨([] : List Int).length, 1, gI []⟩)] []) := by
      rintro G1 G2 G4 rfl rfl rfl; rfl
    exact key _ _ _ e0 e0 e2
end Go.Fw
