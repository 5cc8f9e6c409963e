/- Values: a history's orders: what the walk makes is in its order. -/
import Derived.Test.YtgpigigeoanahaaBh
set_option linter.unusedVariables false
set_option linter.unusedSimpArgs false
namespace Go.Fw
open Go.Proofs

abbrev gR (rs : List VRec) (j : Nat) : VRec := rs.getD j zRec
/-- 'j' is the last one ahead of 'i' that is of the client 'w'. -/
def LastOf (rs : List VRec) (i : Nat) (w : Int) (j : Nat) : Prop := j < i ∧ (gR rs j).Who = w ∧ ∀ k, j < k → k < i → (gR rs k).Who ≠ w
theorem LastOf.uniq {rs : List VRec} {i : Nat} {w : Int} {j k : Nat} (h : LastOf rs i w j) (h' : LastOf rs i w k) : j = k := by
  rcases Nat.lt_trichotomy j k with hl | hl | hl
  · exact absurd h'.2.1 (h.2.2 k hl h'.1)
  · exact hl
  · exact absurd h.2.1 (h'.2.2 j hl h.1)
structure OI (ps : List (List VCall)) (i : Nat) (rs : List VRec) (la : List Int) : Prop where
  who : ∀ j, j < rs.length → 0 ≤ (gR rs j).Who ∧ (gR rs j).Who < ps.length
  num : ∀ j, j < rs.length → 0 ≤ (gR rs j).Number ∧ (gR rs j).Number ≤ 1048576
  ord : ∀ j, j < rs.length → ((∀ k, k < j → (gR rs k).Who ≠ (gR rs j).Who) ∧ (gR rs j).Number = 0) ∨ ∃ k, LastOf rs j (gR rs j).Who k ∧ (gR rs j).Number = (gR rs k).Number + 1 ∧ 0 ≤ (gR rs k).Last ∧ (gR rs k).Last < (gR rs j).First
  la : ∀ w, w < ps.length → (la.getD w 0 = -1 ∧ ∀ j, j < rs.length → (gR rs j).Who ≠ w) ∨ (0 ≤ la.getD w 0 ∧ LastOf rs rs.length w (la.getD w 0).toNat)
  last : ∀ j, j < rs.length → (gR rs j).Last < i
theorem gR_app {rs : List VRec} {x : VRec} {j : Nat} (h : j < rs.length) : gR (rs ++ [x]) j = gR rs j := by unfold gR; rw [getD_app, if_pos h]
theorem gR_new {rs : List VRec} {x : VRec} : gR (rs ++ [x]) rs.length = x := by unfold gR; rw [getD_app, if_neg (Nat.lt_irrefl _), if_pos rfl]
theorem last_app {rs : List VRec} {x : VRec} {i j : Nat} {w : Int} (hi : i ≤ rs.length) : LastOf (rs ++ [x]) i w j ↔ LastOf rs i w j := by
  unfold LastOf
  constructor
  · rintro ⟨h1, h2, h3⟩
    refine ⟨h1, by rw [gR_app (by omega)] at h2; exact h2, fun k hk hk' => ?_⟩
    have := h3 k hk hk'
    rw [gR_app (by omega)] at this; exact this
  · rintro ⟨h1, h2, h3⟩
    refine ⟨h1, by rw [gR_app (by omega)]; exact h2, fun k hk hk' => ?_⟩
    rw [gR_app (by omega)]; exact h3 k hk hk'
theorem oi_beg {ps : List (List VCall)} (hp : szCallSS ps ≤ 1048576) {i : Nat} {m : VMark} {rs : List VRec} {la : List Int} (hl : la.length = ps.length) (h : OI ps i rs la) {w : Nat} (hw : m.Step.Who = w) (hwl : w < ps.length) {r : List VRec × List Int} (e : begW ps i m rs la = some r) : OI ps (i + 1) r.1 r.2 := by
  unfold begW at e
  have tw : m.Step.Who.toNat = w := by omega
  rw [tw] at e
  split at e
  · simp at e
  · rename_i h1
    split at e
    · simp at e
    · rename_i h2
      obtain rfl := Option.some.inj e
      have hpw : (ps.getD w []).length ≤ 1048576 := sumL_len (f := szCall) (sumL_get (f := szCallS) hp hwl)
      have hn0 : 0 ≤ numR rs la w := by
        unfold numR
        split
        · rename_i h0
          rcases h.la w hwl with h' | ⟨_, h', _⟩
          · omega
          · have := (h.num _ h').1
            unfold lastR; show 0 ≤ (gR rs _).Number + 1; omega
        · omega
      generalize hx : (⟨m.Step.Who, numR rs la w, (ps.getD w []).getD (numR rs la w).toNat zCall, (i : Int), if m.Reply.Code = 4 then -1 else (i : Int), m.Reply.Code⟩ : VRec) = x
      have xw : x.Who = w := by rw [← hx]; exact hw
      have xn : x.Number = numR rs la w := by rw [← hx]
      have xf : x.First = i := by rw [← hx]
      have xl : x.Last < ((i + 1 : Nat) : Int) := by rw [← hx]; show (if m.Reply.Code = 4 then -1 else (i : Int)) < _; split <;> omega
      have split_ : ∀ j, j < (rs ++ [x]).length → j < rs.length ∨ j = rs.length := fun j hj => by simp at hj; omega
      refine ⟨fun j hj => ?_, fun j hj => ?_, fun j hj => ?_, fun w' hw' => ?_, fun j hj => ?_⟩
      · rcases split_ j hj with hj | rfl
        · rw [gR_app hj]; exact h.who j hj
        · rw [gR_new, xw]; omega
      · rcases split_ j hj with hj | rfl
        · rw [gR_app hj]; exact h.num j hj
        · rw [gR_new, xn]; omega
      · rcases split_ j hj with hj | rfl
        · rw [gR_app hj]
          rcases h.ord j hj with ⟨g1, g2⟩ | ⟨k, g1, g2, g3, g4⟩
          · exact .inl ⟨fun k hk => by rw [gR_app (by omega)]; exact g1 k hk, g2⟩
          · have := g1.1
            exact .inr ⟨k, (last_app (by omega)).2 g1, by rw [gR_app (by omega)]; exact ⟨g2, g3, g4⟩⟩
        · rw [gR_new, xw, xn, xf]
          unfold numR
          rcases h.la w hwl with ⟨g1, g2⟩ | ⟨g1, g2⟩
          · left
            rw [g1, if_neg (by omega)]
            exact ⟨fun k hk => by rw [gR_app hk]; exact g2 k hk, rfl⟩
          · right
            have := g2.1
            rw [if_pos g1]
            refine ⟨(la.getD w 0).toNat, (last_app (Nat.le_refl _)).2 g2, ?_⟩
            rw [gR_app this]
            refine ⟨rfl, ?_, h.last _ this⟩
            have h1' : ¬ (lastR rs la w).Last < 0 := fun hh => h1 ⟨g1, hh⟩
            show 0 ≤ (lastR rs la w).Last
            omega
      · rw [getD_set (by omega)]
        by_cases hww : w' = w
        · subst hww
          right
          rw [if_pos rfl]
          refine ⟨by omega, by simp, by rw [Int.toNat_natCast, gR_new, xw], fun k hk hk' => ?_⟩
          simp at hk hk'; omega
        · rw [if_neg hww]
          rcases h.la w' hw' with ⟨g1, g2⟩ | ⟨g1, g2⟩
          · left
            refine ⟨g1, fun j hj => ?_⟩
            rcases split_ j hj with hj | rfl
            · rw [gR_app hj]; exact g2 j hj
            · rw [gR_new, xw]; omega
          · right
            have g3 := g2.1
            refine ⟨g1, by rw [List.length_append]; exact Nat.lt_of_lt_of_le g3 (Nat.le_add_right _ _), by rw [gR_app g3]; exact g2.2.1, fun k hk hk' => ?_⟩
            rcases split_ k hk' with hk' | rfl
            · rw [gR_app hk']; exact g2.2.2 k hk hk'
            · rw [gR_new, xw]; omega
      · rcases split_ j hj with hj | rfl
        · rw [gR_app hj]; have := h.last j hj; omega
        · rw [gR_new]; exact xl
theorem oi_end {ps : List (List VCall)} {i : Nat} {m : VMark} {rs : List VRec} {la : List Int} (h : OI ps i rs la) {w : Nat} (hw : m.Step.Who = w) (hwl : w < ps.length) {r : List VRec} (e : endW i m rs la = some r) : OI ps (i + 1) r la := by
  unfold endW at e
  have tw : m.Step.Who.toNat = w := by omega
  rw [tw] at e
  split at e
  · simp at e
  · rename_i h1
    split at e
    · simp at e
    · rename_i h2
      obtain rfl := Option.some.inj e
      rcases h.la w hwl with h' | ⟨g1, g2⟩
      · omega
      have hk := g2.1
      generalize hkk : (la.getD w 0).toNat = k at hk g2
      have gs : ∀ j, gR (rs.set k (setR (lastR rs la w) m.Step.Kind m.Reply.Code i)) j = if j = k then setR (gR rs k) m.Step.Kind m.Reply.Code i else gR rs j := fun j => by
        unfold gR; rw [getD_set hk]; unfold lastR; rw [hkk]
      have gw : ∀ j, (gR (rs.set k (setR (lastR rs la w) m.Step.Kind m.Reply.Code i)) j).Who = (gR rs j).Who := fun j => by
        rw [gs]; split
        · rename_i hj; subst hj; rfl
        · rfl
      have gn : ∀ j, (gR (rs.set k (setR (lastR rs la w) m.Step.Kind m.Reply.Code i)) j).Number = (gR rs j).Number := fun j => by
        rw [gs]; split
        · rename_i hj; subst hj; rfl
        · rfl
      have gf : ∀ j, (gR (rs.set k (setR (lastR rs la w) m.Step.Kind m.Reply.Code i)) j).First = (gR rs j).First := fun j => by
        rw [gs]; split
        · rename_i hj; subst hj; rfl
        · rfl
      have gl : ∀ j, j ≠ k → (gR (rs.set k (setR (lastR rs la w) m.Step.Kind m.Reply.Code i)) j).Last = (gR rs j).Last := fun j hj => by rw [gs, if_neg hj]
      have lo : ∀ i' w' j, LastOf (rs.set k (setR (lastR rs la w) m.Step.Kind m.Reply.Code i)) i' w' j ↔ LastOf rs i' w' j := fun i' w' j => by
        unfold LastOf; simp only [gw]
      refine ⟨fun j hj => ?_, fun j hj => ?_, fun j hj => ?_, fun w' hw' => ?_, fun j hj => ?_⟩
      · rw [gw]; exact h.who j (by simpa using hj)
      · rw [gn]; exact h.num j (by simpa using hj)
      · have hj' : j < rs.length := by simpa using hj
        rcases h.ord j hj' with ⟨a, b⟩ | ⟨k', a, b, c, d⟩
        · left
          exact ⟨fun k' hk' => by rw [gw, gw]; exact a k' hk', by rw [gn]; exact b⟩
        · right
          have hne : k' ≠ k := fun hh => by
            subst hh
            exact absurd (a.2.1.symm.trans g2.2.1) (g2.2.2 j a.1 hj')
          refine ⟨k', by rw [lo, gw]; exact a, by rw [gn, gn]; exact b, by rw [gl k' hne]; exact c, by rw [gl k' hne, gf]; exact d⟩
      · rcases h.la w' hw' with ⟨a, b⟩ | ⟨a, b⟩
        · exact .inl ⟨a, fun j hj => by rw [gw]; exact b j (by simpa using hj)⟩
        · exact .inr ⟨a, by rw [lo, List.length_set]; exact b⟩
      · have hj' : j < rs.length := by simpa using hj
        have := h.last j hj'
        by_cases hjk : j = k
        · subst hjk
          rw [gs, if_pos rfl]
          show (if m.Step.Kind = 3 ∨ m.Reply.Code ≠ 4 then (i : Int) else (gR rs j).Last) < _
          split <;> omega
        · rw [gl j hjk]; omega
theorem oi_step {ps : List (List VCall)} (hp : szCallSS ps ≤ 1048576) {i : Nat} {m : VMark} {s s' : WS} (h0 : WInv ps i s) (h : OI ps i s.rs s.la) (e : wstep ps i m s = some s') : OI ps (i + 1) s'.rs s'.la := by
  unfold wstep at e
  split at e
  · split at e
    · rename_i hw
      obtain ⟨w0, w1, w2⟩ := inR_who hw
      obtain ⟨w, hwe⟩ : ∃ w : Nat, m.Step.Who = w := ⟨m.Step.Who.toNat, by omega⟩
      split at e
      · split at e
        · rename_i r hr
          obtain rfl := Option.some.inj e
          exact oi_beg hp h0.ok.len h hwe (by omega) hr
        · simp at e
      · split at e
        · rename_i r hr
          obtain rfl := Option.some.inj e
          exact oi_end h hwe (by omega) hr
        · simp at e
    · simp at e
  · obtain rfl := Option.some.inj e
    exact ⟨h.who, h.num, h.ord, h.la, fun j hj => by have h5 := h.last j hj; show (gR s.rs j).Last < _; omega⟩
theorem walk_oi {ps : List (List VCall)} {ms : List VMark} (hp : szCallSS ps ≤ 1048576) : ∀ (k i : Nat) (s s' : WS), WInv ps i s → OI ps i s.rs s.la → walkF ps ms k i s = some s' → OI ps (i + k) s'.rs s'.la := by
  intro k
  induction k with
  | zero => intro i s s' _ h e; simp only [walkF, Option.some.injEq] at e; subst e; exact h
  | succ k ih =>
    intro i s s' h0 h e
    simp only [walkF] at e
    split at e
    · rename_i s1 h1
      have := ih (i + 1) s1 s' (wstep_ok hp h0 h1) (oi_step hp h0 h h1) e
      rw [show i + (k + 1) = i + 1 + k by omega]; exact this
    · simp at e
theorem rec_oi {ps : List (List VCall)} {ms : List VMark} (hp : szCallSS ps ≤ 1048576) {s : WS} (h : recordsF ps ms = some s) : OI ps ms.length s.rs s.la := by
  unfold recordsF at h
  split at h
  · simp at h
  · have h0 : OI ps 0 [] (List.replicate ps.length (-1)) := by
      refine ⟨fun j hj => by simp at hj, fun j hj => by simp at hj, fun j hj => by simp at hj, fun w hw => .inl ⟨?_, fun j hj => by simp at hj⟩, fun j hj => by simp at hj⟩
      simp [List.getD_eq_getElem?_getD, List.getElem?_replicate, hw]
    have := walk_oi hp _ _ _ _ (inv0 ps) h0 h
    rw [Nat.zero_add] at this
    exact this
/-- What the loop over the calls keeps. -/
def NE (ps : List (List VCall)) (rs : List VRec) (i : Nat) (nx en : List Int) : Prop := ∀ w : Nat, w < ps.length → ((∀ j, j < i → (gR rs j).Who ≠ w) ∧ nx.getD w 0 = 0) ∨ ∃ j, LastOf rs i w j ∧ nx.getD w 0 = (gR rs j).Number + 1 ∧ en.getD w 0 = (gR rs j).Last
theorem l9 (ps : List (List VCall)) (rs : List VRec) (la : List Int) (N : Nat) (hr : rs.length ≤ 400) (h : OI ps N rs la) : ∀ (k i : Nat) (nx en : List Int), i + k = rs.length → nx.length = ps.length → en.length = ps.length → NE ps rs i nx en →
    HH 9 [] (k + 1) [true, true, true, true, true, false, true] (hdS [(5, .rf 319488), (7, .rf 348160), (8, .rf 360448), (9, nI (i : Int))] [(319488, ⟨rs.length, 14, goRecS rs⟩), (348160, ⟨nx.length, 1, gI nx⟩), (360448, ⟨en.length, 1, gI en⟩)] []) = some (.B true, []) := by
  intro k
  induction k with
  | zero => intro i nx en hi _ _ _; rw [hstep, h9, bf (by simp [zN] <;> omega)]
  | succ k ih =>
    intro i nx en hi hnl hel hne
    rw [hstep, h9, bt (by simp [zN] <;> omega), bt (by simp [zN] <;> omega), wrapN (by omega)]
    simp only [Int.toNat_natCast]
    have hil : i < rs.length := by omega
    obtain ⟨w0, w1⟩ := h.who i hil
    obtain ⟨n0, n1⟩ := h.num i hil
    obtain ⟨w, hw⟩ : ∃ w : Nat, (gR rs i).Who = w := ⟨(gR rs i).Who.toNat, by omega⟩
    have tw : (gR rs i).Who.toNat = w := by omega
    have hwl : w < ps.length := by omega
    have bn : (bif decide (0 ≤ (gR rs i).Who) then decide ((gR rs i).Who < zN nx.length) else false) = true := bnd w0 (by omega)
    have be : (bif decide (0 ≤ (gR rs i).Who) then decide ((gR rs i).Who < zN en.length) else false) = true := bnd w0 (by omega)
    have go : HH 9 [] (k + 1) [true, true, true, true, true, false, true] (hdS [(5, .rf 319488), (7, .rf 348160), (8, .rf 360448), (9, nI ((i + 1 : Nat) : Int))] [(319488, ⟨rs.length, 14, goRecS rs⟩), (348160, ⟨nx.length, 1, fun j => lstG [nI (bif decide (j = (gR rs i).Who.toNat) then IntKind.i64.wrap ((gR rs i).Number + 1) else nx.getD j 0)]⟩), (360448, ⟨en.length, 1, fun j => lstG [nI (bif decide (j = (gR rs i).Who.toNat) then (gR rs i).Last else en.getD j 0)]⟩)] []) = some (.B true, []) := by
      rw [tw, wrapS (x := (gR rs i).Number + 1) (by omega) (by omega)]
      have := ih (i + 1) (nx.set w ((gR rs i).Number + 1)) (en.set w (gR rs i).Last) (by omega) (by simpa using hnl) (by simpa using hel) (fun w' hw' => by
        rw [getD_set (by omega), getD_set (by omega)]
        by_cases hww : w' = w
        · subst hww
          right
          refine ⟨i, ⟨by omega, hw, fun k hk hk' => by omega⟩, by rw [if_pos rfl], by rw [if_pos rfl]⟩
        · rw [if_neg hww, if_neg hww]
          rcases hne w' hw' with ⟨a, b⟩ | ⟨j, a, b, c⟩
          · left
            refine ⟨fun j hj => ?_, b⟩
            rcases Nat.lt_or_ge j i with hj' | hj'
            · exact a j hj'
            · obtain rfl : j = i := by omega
              rw [hw]; omega
          · right
            refine ⟨j, ⟨by have := a.1; omega, a.2.1, fun k hk hk' => ?_⟩, b, c⟩
            rcases Nat.lt_or_ge k i with hk' | hk''
            · exact a.2.2 k hk hk'
            · obtain rfl : k = i := by omega
              rw [hw]; omega)
      rw [List.length_set, List.length_set] at this
      rw [show (fun j => lstG [nI (bif decide (j = w) then (gR rs i).Number + 1 else nx.getD j 0)]) = gI (nx.set w ((gR rs i).Number + 1)) from set_IntS (by omega),
        show (fun j => lstG [nI (bif decide (j = w) then (gR rs i).Last else en.getD j 0)]) = gI (en.set w (gR rs i).Last) from set_IntS (by omega)]
      exact this
    have agree : (gR rs i).Number = nx.getD w 0 ∧ (0 < (gR rs i).Number → 0 ≤ en.getD w 0 ∧ en.getD w 0 < (gR rs i).First) := by
      rcases h.ord i hil with ⟨a, b⟩ | ⟨j, a, b, c, d⟩ <;> rcases hne w hwl with ⟨a', b'⟩ | ⟨j', a', b', c'⟩
      · exact ⟨by omega, fun hh => by omega⟩
      · exact absurd (a'.2.1.trans hw.symm) (a j' a'.1)
      · exact absurd (a.2.1.trans hw) (a' j a.1)
      · rw [hw] at a
        obtain rfl := a.uniq a'
        exact ⟨by omega, fun _ => by omega⟩
    refine bt' bn ?_
    refine bf' (by show (!decide ((gR rs i).Number = nx.getD (gR rs i).Who.toNat 0)) = false; rw [tw, decide_eq_true agree.1]; rfl) ?_
    by_cases hp : 0 < (gR rs i).Number
    · obtain ⟨a, b⟩ := agree.2 hp
      refine bt' (decide_eq_true hp) (bt' be (bf' (decide_eq_false (by show ¬ en.getD (gR rs i).Who.toNat 0 < 0; rw [tw]; omega)) (bt' be (bf' (decide_eq_false (by show ¬ (gR rs i).First ≤ en.getD (gR rs i).Who.toNat 0; rw [tw]; omega)) (bt' bn (bt' be go))))))
    · exact bf' (decide_eq_false hp) (bt' bn (bt' be go))
def okRec (ps : List (List VCall)) (ms : List VMark) : Bool := (recordsF ps ms).isSome
theorem v12 (ps : List (List VCall)) (ms : List VMark) (hp : szCallSS ps ≤ 1048576) : E 12 [slCallSS ps, slMarkS ms] [] = some (.B (okRec ps ms), []) := by
  refine ev1 0 rfl ?_
  rw [e12]
  refine obind' (v25 ps ms hp) ?_
  unfold okRec
  cases recordsF ps ms <;> rfl
theorem v9 (ps : List (List VCall)) (ms : List VMark) (hp : szCallSS ps ≤ 1048576) : E 9 [slCallSS ps, slMarkS ms] [] = some (.B (okRec ps ms), []) := by
  have hpl : ps.length ≤ 1048576 := sumL_len hp
  have q := v24 ps ms hp
  unfold okRec
  cases hr : recordsF ps ms with
  | none =>
    rw [hr] at q
    refine ev1 0 rfl ?_
    rw [e9]
    exact obind' q (bt' rfl rfl)
  | some s =>
    rw [hr] at q
    obtain ⟨h1, h2⟩ := rec_inv hp hr
    have h3 := h1.rs
    refine ev1 (s.rs.length + 1) rfl ?_
    rw [e9]
    refine obind' q (bf' rfl (bt' (by simp [zN] <;> omega) (bt' (by simp [zN] <;> omega) ?_)))
    have := l9 ps s.rs s.la ms.length (by omega) (rec_oi hp hr) s.rs.length 0 (List.replicate ps.length 0) (List.replicate ps.length 0) (by omega) (by simp) (by simp) (fun w hw => .inl ⟨fun j hj => by omega, getD_rep⟩)
    rw [List.length_replicate] at this
    refine Eq.trans ?_ this
    have e0 : (fun i : Nat => lstG [nI 0]) = gI (List.replicate ps.length 0) := by funext i; unfold gI; rw [getD_rep]
    rw [e0]
    rfl
/-- The law of orders. -/
theorem v3 (ps : List (List VCall)) (ms : List VMark) (h1 : okCallSS ps) (h2 : okMarkS ms) : E 3 [slCallSS ps, slMarkS ms] [] = some (.B true, []) := by
  refine ev1 0 rfl ?_
  rw [e3]
  have q7 := v7 ps 1048576 h1 (by omega) (by omega)
  by_cases c1 : (szCallSS ps : Int) ≤ 1048576
  case neg => rw [subZ_gt c1] at q7; exact obind' q7 (bt' rfl rfl)
  rw [subZ_le c1] at q7
  refine obind' q7 (bf' (decide_eq_false (by show ¬ (1048576 - (szCallSS ps : Int) < 0); omega)) ?_)
  have q8 := v8 ms (1048576 - (szCallSS ps : Int)) h2 (by omega) (by omega)
  by_cases c2 : (szMarkS ms : Int) ≤ 1048576 - (szCallSS ps : Int)
  case neg => rw [subZ_gt c2] at q8; exact obind' q8 (bt' rfl rfl)
  rw [subZ_le c2] at q8
  refine obind' q8 (bf' (decide_eq_false (by show ¬ (1048576 - (szCallSS ps : Int) - (szMarkS ms : Int) < 0); omega)) ?_)
  have hp : szCallSS ps ≤ 1048576 := by omega
  have hm : szMarkS ms ≤ 1048576 := by omega
  have q10 := v10 ps hp
  have q11 := v11 ms hm
  refine obind' q10 (obind' q11 (obind' (v9 ps ms hp) (obind' q10 (obind' q11 (obind' (v12 ps ms hp) ?_)))))
  refine bf' (by simp) ?_
  exact obind' q10 (obind' (w13 ps hp) (bf' rfl (obind' q11 (obind' (w14 ms hm) (bf' rfl rfl)))))
end Go.Fw
