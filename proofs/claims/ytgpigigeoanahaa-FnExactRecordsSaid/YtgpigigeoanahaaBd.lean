/- Values: the calls of a history, begun and ended; in words of lists. -/
import Derived.Test.YtgpigigeoanahaaBc
set_option linter.unusedVariables false
set_option linter.unusedSimpArgs false
namespace Go.Fw
open Go.Proofs

theorem v65 (xs : List VTerm) (hx : xs.length ≤ 4294967296) : E 65 [slTermS xs] [] = some (owTermS xs, []) := by
  refine ev_nil rfl (ev1 0 rfl ?_) fun h0 => ev1 0 rfl ?_
  · rw [e65n, bt (by simp; omega), bt (by simp [okT_eq])]
    simp only [Nat.zero_add, Nat.sub_zero]
    rfl
  · obtain rfl : xs = [] := List.length_eq_zero_iff.1 h0
    rw [e65z, bt (by simp [okT_eq])]
    rfl
theorem v61 (c : VCall) (h : szCall c ≤ 1048576) : E 61 [slCall c] [] = some (owCall c, []) := by
  have h1 : c.Filter.length ≤ 1048576 := sumL_len (f := szTerm) (by unfold szCall at h; show szTermS c.Filter ≤ _; omega)
  refine ev1 0 rfl ?_
  rw [e61]
  exact obind' (v65 c.Filter (by omega)) (bt (by simp [okT_eq]))
theorem v54 (c : VCall) (h : szCall c ≤ 1048576) : E 54 [slCall c] [] = some (owCall c, []) := by
  have h1 : c.Filter.length ≤ 1048576 := sumL_len (f := szTerm) (by unfold szCall at h; show szTermS c.Filter ≤ _; omega)
  refine ev1 0 rfl ?_
  rw [e54, bt (by simp; omega), bt (by simp [okT_eq])]
  simp only [Nat.zero_add, Nat.sub_zero]
  rfl
def inR (a b c : Int) : Bool := decide (b ≤ a) && decide (a ≤ c)
theorem inR_iff {a b c : Int} : inR a b c = true ↔ b ≤ a ∧ a ≤ c := by simp [inR]
theorem v37 (a b c : Int) : E 37 [nI a, nI b, nI c] [] = some (.B (inR a b c), []) := by
  refine ev1 0 rfl ?_
  rw [e37]
  unfold inR
  by_cases h : b ≤ a <;> simp [h]
theorem v38 (a b c : Int) : E 38 [nI a, nI b, nI c] [] = some (.B (inR a b c), []) := by
  refine ev1 0 rfl ?_
  rw [e38]
  unfold inR
  by_cases h : b ≤ a <;> simp [h]

/-! ### A step of a history -/
structure WS where
  rs : List VRec
  la : List Int
  fs : List Int
def lastR (rs : List VRec) (la : List Int) (w : Nat) : VRec := rs.getD (la.getD w 0).toNat zRec
def numR (rs : List VRec) (la : List Int) (w : Nat) : Int := if 0 ≤ la.getD w 0 then (lastR rs la w).Number + 1 else 0
def begW (ps : List (List VCall)) (pl : Int) (m : VMark) (rs : List VRec) (la : List Int) : Option (List VRec × List Int) :=
  if 0 ≤ la.getD m.Step.Who.toNat 0 ∧ (lastR rs la m.Step.Who.toNat).Last < 0 then none
  else if ((ps.getD m.Step.Who.toNat []).length : Int) ≤ numR rs la m.Step.Who.toNat then none
  else some (rs ++ [⟨m.Step.Who, numR rs la m.Step.Who.toNat, (ps.getD m.Step.Who.toNat []).getD (numR rs la m.Step.Who.toNat).toNat zCall, pl, if m.Reply.Code = 4 then -1 else pl, m.Reply.Code⟩], la.set m.Step.Who.toNat (rs.length : Int))
def setR (r : VRec) (kind code pl : Int) : VRec := ⟨r.Who, r.Number, r.Call, r.First, if kind = 3 ∨ code ≠ 4 then pl else r.Last, code⟩
def endW (pl : Int) (m : VMark) (rs : List VRec) (la : List Int) : Option (List VRec) :=
  if la.getD m.Step.Who.toNat 0 < 0 then none
  else if 0 ≤ (lastR rs la m.Step.Who.toNat).Last then none
  else some (rs.set (la.getD m.Step.Who.toNat 0).toNat (setR (lastR rs la m.Step.Who.toNat) m.Step.Kind m.Reply.Code pl))
abbrev hist (rs : List VRec) (la : List Int) : AV := .nbx 2 (lstG [owRecS rs, owIntS la])
/-- What each client's last call is. -/
structure WOk (ps : List (List VCall)) (rs : List VRec) (la : List Int) : Prop where
  len : la.length = ps.length
  la : ∀ w, w < ps.length → la.getD w 0 = -1 ∨ (0 ≤ la.getD w 0 ∧ la.getD w 0 < rs.length ∧ 0 ≤ (lastR rs la w).Number ∧ (lastR rs la w).Number ≤ 1048576)

abbrev mS (m : VMark) : List AV := [nI m.Step.Kind, nI m.Step.Who, nI m.Step.Leg, nI m.Reply.Code, nI m.Reply.N, nI m.Reply.M, nI m.Reply.Msg.Kind, nI m.Reply.Msg.Num, .S m.Reply.Msg.Text]
abbrev recC (x : VRec) : List AV := [nI x.Who, nI x.Number, nI x.Call.Op, nI x.Call.A, nI x.Call.B, nI x.Call.Tok, .S x.Call.Name, nI x.Call.Msg.Kind, nI x.Call.Msg.Num, .S x.Call.Msg.Text, .rf 503816, nI x.First, nI x.Last, nI x.Code]
def zLast (x : VRec) : VRec := ⟨x.Who, x.Number, x.Call, x.First, if x.Code = 4 then -1 else x.Last, x.Code⟩
theorem okB : (bif okU then bif okT then true else false else false) = true := by simp [okT_eq, okU_eq]
theorem l52 (ps : List (List VCall)) (rs : List VRec) (la : List Int) (w : Nat) (x : VRec) (k : Nat) (hw : w < la.length) (hr : rs.length ≤ 1048576) :
    HH 52 [hist rs la] (k + 1) [true, true, true, true, true, false] (hdS [(0, .pb 0 0), (9, nI (w : Int)), (12, .pb 76 0)] [(0, ⟨rs.length, 14, goRecS rs⟩), (1, ⟨la.length, 1, gI la⟩), (503816, ⟨x.Call.Filter.length, 3, goTermS x.Call.Filter⟩)] [(0, 2, [.rf 0, .rf 1]), (76, 14, recC x)]) =
      some (.B true, [hist (rs ++ [zLast x]) (la.set w (rs.length : Int))]) := by
  have hb : (bif decide (0 ≤ (w : Int)) then decide ((w : Int) < zN la.length) else false) = true := by simp [zN] <;> omega
  have hn : (decide (rs.length + 1 ≤ 4294967296) && true && true && true && true) = true := by simp <;> omega
  have fin : ∀ G G' n n', G = goRecS (rs ++ [zLast x]) → G' = goIntS (la.set w (rs.length : Int)) → n = (rs ++ [zLast x]).length → n' = (la.set w (rs.length : Int)).length →
      (some (AV.B true, [AV.nbx 2 (lstG [.own n 14 G, .own n' 1 G'])]) : Option (AV × List AV)) = some (.B true, [hist (rs ++ [zLast x]) (la.set w (rs.length : Int))]) := by
    rintro G G' n n' rfl rfl rfl rfl; rfl
  rw [hstep, h52 (ps := ps)]
  by_cases hc : x.Code = 4
  · refine bt' (decide_eq_true hc) (bt' hb (bt' hn (bt' okB ?_)))
    have ez : zLast x = ⟨x.Who, x.Number, x.Call, x.First, -1, x.Code⟩ := by unfold zLast; rw [if_pos hc]
    refine fin _ _ _ _ ?_ ?_ (by simp) (by simp)
    · rw [ez]; exact app_RecS (v := ⟨x.Who, x.Number, x.Call, x.First, -1, x.Code⟩)
    · exact set_IntS hw
  · refine bf' (decide_eq_false hc) (bt' hb (bt' hn (bt' okB ?_)))
    have ez : zLast x = x := by unfold zLast; rw [if_neg hc]
    refine fin _ _ _ _ ?_ ?_ (by simp) (by simp)
    · rw [ez]; exact app_RecS (v := x)
    · exact set_IntS hw

theorem l52a (ps : List (List VCall)) (rs : List VRec) (la : List Int) (w : Nat) (n : Int) (pl : Int) (m : VMark) (k : Nat) (hp : szCallSS ps ≤ 1048576) (hw : w < ps.length) (hl : la.length = ps.length) (hr : rs.length ≤ 1048576) (h0 : 0 ≤ n) :
    HH 52 [hist rs la] (k + 2) [true, true, true, true, false, false] (hdS [(0, .pb 0 0), (1, slCallSS ps), (2, nI pl), (7, .pb 71 0), (9, nI (w : Int)), (10, nI n), (49, .B (decide (zN (ps.getD w []).length ≤ n)))] [(0, ⟨rs.length, 14, goRecS rs⟩), (1, ⟨la.length, 1, gI la⟩)] [(0, 2, [.rf 0, .rf 1]), (71, 9, mS m)]) =
      if zN (ps.getD w []).length ≤ n then some (.B false, [hist rs la]) else
      some (.B true, [hist (rs ++ [⟨w, n, (ps.getD w []).getD n.toNat zCall, pl, if m.Reply.Code = 4 then -1 else pl, m.Reply.Code⟩]) (la.set w (rs.length : Int))]) := by
  rw [hstep, h52a]
  by_cases hc : zN (ps.getD w []).length ≤ n
  · rw [if_pos hc]
    exact bt' (decide_eq_true hc) (bt' okB rfl)
  · rw [if_neg hc]
    refine bf' (decide_eq_false hc) (bt' (by simp [zN]; omega) (bt' (by simp only [Int.toNat_natCast, h0, decide_true, cond_true]; exact decide_eq_true (by omega)) ?_))
    simp only [Int.toNat_natCast]
    have hq : szCall ((ps.getD w []).getD n.toNat zCall) ≤ 1048576 := sumL_get (f := szCall) (sumL_get (f := szCallS) hp hw) (by simp only [zN] at hc; omega)
    have q := v61 _ hq
    have z : zLast ⟨w, n, (ps.getD w []).getD n.toNat zCall, pl, pl, m.Reply.Code⟩ = ⟨w, n, (ps.getD w []).getD n.toNat zCall, pl, if m.Reply.Code = 4 then -1 else pl, m.Reply.Code⟩ := rfl
    have f := l52 ps rs la w ⟨w, n, (ps.getD w []).getD n.toNat zCall, pl, pl, m.Reply.Code⟩ k (by omega) hr
    rw [z] at f
    have f2 := and2_both f f
    refine and2_both (obind' q f2) (and2_both (and2_both (obind' q f2) (obind' q f)) (and2_both (obind' q f) (obind' q f)))
def begR (ps : List (List VCall)) (pl : Int) (m : VMark) (rs : List VRec) (la : List Int) : AV × List AV := match begW ps pl m rs la with
  | some r => (.B true, [hist r.1 r.2])
  | none => (.B false, [hist rs la])
theorem v52 (ps : List (List VCall)) (rs : List VRec) (la : List Int) (pl : Int) (m : VMark) (hp : szCallSS ps ≤ 1048576) (h : WOk ps rs la) (hr : rs.length ≤ 1048576) (hw0 : 0 ≤ m.Step.Who) (hw1 : m.Step.Who < (ps.length : Int)) :
    E 52 [.pb 0 0, slCallSS ps, nI pl, slMark m] [hist rs la] = some (begR ps pl m rs la) := by
  obtain ⟨w, hw⟩ : ∃ w : Nat, m.Step.Who = w := ⟨m.Step.Who.toNat, by omega⟩
  have hwl : w < ps.length := by omega
  have hlen := h.len
  have tw : m.Step.Who.toNat = w := by omega
  have hb : (bif decide (0 ≤ m.Step.Who) then decide (m.Step.Who < zN la.length) else false) = true := by simp [zN] <;> omega
  have hb2 : (bif decide (0 ≤ m.Step.Who) then decide (m.Step.Who < zN ps.length) else false) = true := by simp [zN] <;> omega
  have key : ∀ n : Int, 0 ≤ n → ∀ k, HH 52 [hist rs la] (k + 2) [true, true, true, true, false, false] (hdS [(0, .pb 0 0), (1, slCallSS ps), (2, nI pl), (7, .pb 71 0), (9, nI m.Step.Who), (10, nI n), (49, .B (decide (zN (ps.getD m.Step.Who.toNat []).length ≤ n)))] [(0, ⟨rs.length, 14, goRecS rs⟩), (1, ⟨la.length, 1, gI la⟩)] [(0, 2, [.rf 0, .rf 1]), (71, 9, mS m)]) =
      if ((ps.getD w []).length : Int) ≤ n then some (.B false, [hist rs la]) else
      some (.B true, [hist (rs ++ [⟨m.Step.Who, n, (ps.getD w []).getD n.toNat zCall, pl, if m.Reply.Code = 4 then -1 else pl, m.Reply.Code⟩]) (la.set w (rs.length : Int))]) := fun n hn k => by
    have := l52a ps rs la w n pl m k hp hwl hlen hr hn
    rw [← hw] at this
    rw [tw]
    exact this
  have e0 : begR ps pl m rs la = if 0 ≤ la.getD w 0 ∧ (rs.getD (la.getD w 0).toNat zRec).Last < 0 then (.B false, [hist rs la]) else
      if ((ps.getD w []).length : Int) ≤ numR rs la w then (.B false, [hist rs la]) else (.B true, [hist (rs ++ [⟨m.Step.Who, numR rs la w, (ps.getD w []).getD (numR rs la w).toNat zCall, pl, if m.Reply.Code = 4 then -1 else pl, m.Reply.Code⟩]) (la.set w (rs.length : Int))]) := by
    unfold begR begW lastR
    rw [tw]
    split
    · rename_i r hr
      split at hr
      · simp at hr
      · rename_i h1
        rw [if_neg h1]
        split at hr
        · simp at hr
        · rename_i h2
          rw [if_neg h2]
          obtain rfl := Option.some.inj hr
          rfl
    · rename_i hr
      split at hr
      · rename_i h1; rw [if_pos h1]
      · rename_i h1
        rw [if_neg h1]
        split at hr
        · rename_i h2; rw [if_pos h2]
        · simp at hr
  rw [e0]
  refine ev1 2 rfl ?_
  rw [e52]
  refine bt' hb ?_
  rcases h.la w hwl with hm | ⟨h0, h1, h2, h3⟩
  · have en : numR rs la w = 0 := by unfold numR; rw [hm]; rfl
    rw [en, hm, if_neg (by omega)]
    refine bf' (decide_eq_false (by rw [tw, hm]; omega)) (bt' hb2 ?_)
    refine (key 0 (by omega) 0).trans ?_
    split <;> rfl
  · have en : numR rs la w = (lastR rs la w).Number + 1 := by unfold numR; rw [if_pos h0]
    have hk : (bif decide (0 ≤ la.getD m.Step.Who.toNat 0) then decide (la.getD m.Step.Who.toNat 0 < zN rs.length) else false) = true := by rw [tw]; simp only [h0, decide_true, cond_true]; exact decide_eq_true h1
    refine bt' (decide_eq_true (by rw [tw]; exact h0)) (bt' hk ?_)
    by_cases hl : (lastR rs la w).Last < 0
    · rw [if_pos ⟨h0, hl⟩]
      exact bt' (decide_eq_true (by rw [tw]; exact hl)) (bt' okB rfl)
    · rw [if_neg (fun hh => hl hh.2)]
      refine bf' (decide_eq_false (by rw [tw]; exact hl)) (bt' hk (bt' hb2 ?_))
      have ew : IntKind.i64.wrap ((rs.getD (la.getD m.Step.Who.toNat 0).toNat zRec).Number + 1) = numR rs la w := by
        rw [tw, en]
        exact wrapS (by unfold lastR at h2 h3; omega) (by unfold lastR at h2 h3; omega)
      rw [ew]
      refine (key (numR rs la w) (by omega) 0).trans ?_
      split <;> rfl
def endR (pl : Int) (m : VMark) (rs : List VRec) (la : List Int) : AV × List AV := match endW pl m rs la with
  | some r => (.B true, [hist r la])
  | none => (.B false, [hist rs la])
theorem setR_RecS {rs : List VRec} {k : Nat} {kind code pl : Int} (h : k < rs.length) {L : Nat → Int} (hL : ∀ i, i ≠ k → L i = (rs.getD i zRec).Last) (hk : L k = (setR (rs.getD k zRec) kind code pl).Last) :
    (fun i => lstG [nI (rs.getD i zRec).Who, nI (rs.getD i zRec).Number, nI (rs.getD i zRec).Call.Op, nI (rs.getD i zRec).Call.A, nI (rs.getD i zRec).Call.B, nI (rs.getD i zRec).Call.Tok, .S (rs.getD i zRec).Call.Name, nI (rs.getD i zRec).Call.Msg.Kind, nI (rs.getD i zRec).Call.Msg.Num, .S (rs.getD i zRec).Call.Msg.Text, owTermS (rs.getD i zRec).Call.Filter, nI (rs.getD i zRec).First, nI (L i), nI (bif decide (i = k) then code else (rs.getD i zRec).Code)]) = goRecS (rs.set k (setR (rs.getD k zRec) kind code pl)) := by
  funext i
  unfold goRecS
  rw [getD_set h]
  by_cases hi : i = k
  · subst hi; simp only [decide_true, cond_true, if_true, hk]; rfl
  · simp only [hi, decide_false, cond_false, if_false, hL i hi]
theorem v53 (ps : List (List VCall)) (rs : List VRec) (la : List Int) (pl : Int) (m : VMark) (h : WOk ps rs la) (hw0 : 0 ≤ m.Step.Who) (hw1 : m.Step.Who < (ps.length : Int)) :
    E 53 [.pb 0 0, nI pl, slMark m] [hist rs la] = some (endR pl m rs la) := by
  obtain ⟨w, hw⟩ : ∃ w : Nat, m.Step.Who = w := ⟨m.Step.Who.toNat, by omega⟩
  have hwl : w < ps.length := by omega
  have hlen := h.len
  have tw : m.Step.Who.toNat = w := by omega
  have hb : (bif decide (0 ≤ m.Step.Who) then decide (m.Step.Who < zN la.length) else false) = true := by simp [zN] <;> omega
  have fin : ∀ (rs' : List VRec) G n, G = goRecS rs' → n = rs'.length →
      (some (AV.B true, [AV.nbx 2 (lstG [.own n 14 G, .own la.length 1 (gI la)])]) : Option (AV × List AV)) = some (.B true, [hist rs' la]) := by
    rintro rs' G n rfl rfl; rfl
  refine ev1 0 rfl ?_
  rw [e53]
  unfold endR endW
  rw [tw]
  refine bt' hb ?_
  rcases h.la w hwl with hm | ⟨h0, h1, h2, h3⟩
  · rw [hm]
    exact bt' (by rfl) (bt' okB rfl)
  · have hk : (bif decide (0 ≤ la.getD w 0) then decide (la.getD w 0 < zN rs.length) else false) = true := by simp only [h0, decide_true, cond_true]; exact decide_eq_true h1
    rw [if_neg (by omega)]
    refine bf' (decide_eq_false (by omega)) (bt' hk ?_)
    by_cases hl : 0 ≤ (lastR rs la w).Last
    · rw [if_pos hl]
      exact bt' (decide_eq_true hl) (bt' okB rfl)
    · rw [if_neg hl]
      refine bf' (decide_eq_false hl) (bt' hk ?_)
      have hlt : (la.getD w 0).toNat < rs.length := by omega
      by_cases c3 : m.Step.Kind = 3
      · refine bt' (decide_eq_true c3) (bt' hk (bt' okB ?_))
        refine fin _ _ _ (setR_RecS (kind := m.Step.Kind) hlt (fun i hi => bf (decide_eq_false hi)) ?_) (by simp)
        exact (bt (decide_eq_true rfl)).trans (by simp [setR, c3])
      · refine bf' (decide_eq_false c3) ?_
        by_cases c4 : m.Reply.Code = 4
        · refine bf' (by rw [decide_eq_true c4]; rfl) (bt' okB ?_)
          refine fin _ _ _ (setR_RecS (kind := m.Step.Kind) (pl := pl) hlt (fun i hi => rfl) ?_) (by simp)
          simp [setR, c3, c4]
        · refine bt' (by rw [decide_eq_false c4]; rfl) (bt' hk (bt' okB ?_))
          refine fin _ _ _ (setR_RecS (kind := m.Step.Kind) hlt (fun i hi => bf (decide_eq_false hi)) ?_) (by simp)
          exact (bt (decide_eq_true rfl)).trans (by simp [setR, c4])
end Go.Fw
