/- Values of draws of a Notify: what is drawn is something, its lists short. -/
import Derived.Test.YtkhfkekbfjkpcaaH3
set_option linter.unusedVariables false
set_option linter.unusedSimpArgs false
namespace Go.Fw
open Go.Proofs
abbrev zN6 : List AV := [.B false, .nsl 1 (fun _ => lstG [nI 0]), .nsl 2 (fun _ => lstG [nI 0, .B false]), nI 0, nI 0, nI 0]
abbrev st74 (cs : List Int) (n : NT) (i h st k : Int) : St := hdS [(0, .pb 0 0), (1, nI st), (4, .pb 68 0), (5, .pb 69 0), (6, nI k)] [(712704, ⟨n.l.length, 1, gI n.l⟩), (716800, ⟨n.g.length, 2, gG n.g⟩)] [(0, 3, [.gv cs, nI i, nI h]), (68, 6, zN6), (69, 6, [.B n.p, .rf 712704, .rf 716800, nI n.o, nI n.s, nI n.t])]
theorem l74 (cs cs0 : List Int) (hc : cs.length ≤ 4611686018427387904) (i0 h0 st : Int) (hst : st ≤ 1000) : ∀ (k j : Nat) (n : NT) (i h : Int), (j : Int) + k = st → len2 n ≤ j → 0 ≤ i →
    ∃ m i' h', (len2 m : Int) ≤ st ∧ 0 ≤ i' ∧ HH 74 [cur cs0 i0 h0] (k + 1) [true, true, false, true] (st74 cs n i h st (j : Int)) = some (owN m, [cur cs i' h']) := by
  intro k
  induction k with
  | zero =>
    intro j n i h hj hl hi
    refine ⟨n, i, h, by omega, hi, ?_⟩
    rw [hstep, h74, bf (decide_eq_false (by omega))]
    exact bt' (by simp [okT_eq]) rfl
  | succ k ih =>
    intro j n i h hj hl hi
    have hlt : (j : Int) < st := by omega
    have hl' := hl
    unfold len2 at hl'
    obtain ⟨x1, i1, h1, b1, t1, p1, q1⟩ := d75 cs hc 6 i h hi (by omega)
    have next : ∀ (n' : NT) (i' h' : Int), len2 n' ≤ j + 1 → 0 ≤ i' → ∃ m i'' h'', (len2 m : Int) ≤ st ∧ 0 ≤ i'' ∧ HH 74 [cur cs0 i0 h0] (k + 1) [true, true, false, true] (st74 cs n' i' h' st ((j + 1 : Nat) : Int)) = some (owN m, [cur cs i'' h'']) :=
      fun n' i' h' a b => ih (j + 1) n' i' h' (by omega) a b
    by_cases c0 : x1 = 0
    · obtain ⟨m, i2, h2, a, b, e⟩ := next (tellN n).1 i1 h1 (Nat.le_trans (len_tell n) (by omega)) p1
      refine ⟨m, i2, h2, a, b, ?_⟩
      rw [hstep, h74, bt (decide_eq_true hlt), wrapN (by omega)]
      exact obind' q1 (bt' (decide_eq_true c0) (obind' (v9 n (by omega) (by omega)) e))
    by_cases c1 : x1 = 1
    · obtain ⟨y, i2, h2, p2, q2⟩ := d76 cs hc 3 i1 h1 p1 (by omega)
      cases y with
      | true =>
        obtain ⟨m, i3, h3, a, b, e⟩ := next (tellAllN n).1 i2 h2 (Nat.le_trans (len_all n) (by omega)) p2
        refine ⟨m, i3, h3, a, b, ?_⟩
        rw [hstep, h74, bt (decide_eq_true hlt), wrapN (by omega)]
        exact obind' q1 (bf' (decide_eq_false c0) (bt' (decide_eq_true c1) (obind' q2 (bt' rfl (obind' (v85 n (by omega) (by omega)) e)))))
      | false =>
        obtain ⟨m, i3, h3, a, b, e⟩ := next n i2 h2 (by omega) p2
        refine ⟨m, i3, h3, a, b, ?_⟩
        rw [hstep, h74, bt (decide_eq_true hlt), wrapN (by omega)]
        exact obind' q1 (bf' (decide_eq_false c0) (bt' (decide_eq_true c1) (obind' q2 (bf' rfl e))))
    by_cases c2 : x1 = 2
    · by_cases cg : 0 < n.g.length
      · obtain ⟨y, i2, h2, b2, t2, p2, q2⟩ := d75 cs hc (zN n.g.length) i1 h1 p1 (by simp only [zN]; omega)
        have ht : y < zN n.g.length := t2 (by simp only [zN]; omega)
        have hb : (bif decide (0 ≤ y) then decide (y < zN n.g.length) else false) = true := by rw [decide_eq_true b2, decide_eq_true ht]; rfl
        obtain ⟨m, i3, h3, a, b, e⟩ := next (resN n (n.g.getD y.toNat (0, false)).1).1 i2 h2 (Nat.le_trans (len_res n _) (by omega)) p2
        refine ⟨m, i3, h3, a, b, ?_⟩
        rw [hstep, h74, bt (decide_eq_true hlt), wrapN (by omega)]
        refine obind' q1 (bf' (decide_eq_false c0) (bf' (decide_eq_false c1) (bt' (decide_eq_true c2) (bt' (decide_eq_true (by simp only [zN]; omega)) ?_))))
        have q3 := v20 n (n.g.getD y.toNat (0, false)).1 (by omega) (by omega)
        repeat' first
          | with_reducible refine and2_both ?_ ?_
          | refine obind' q2 ?_
          | refine bt' hb ?_
          | exact obind' q3 e
      · obtain ⟨m, i3, h3, a, b, e⟩ := next n i1 h1 (by omega) p1
        refine ⟨m, i3, h3, a, b, ?_⟩
        rw [hstep, h74, bt (decide_eq_true hlt), wrapN (by omega)]
        exact obind' q1 (bf' (decide_eq_false c0) (bf' (decide_eq_false c1) (bt' (decide_eq_true c2) (bf' (decide_eq_false (by simp only [zN]; omega)) e))))
    by_cases c3 : x1 = 3
    · by_cases cg : 0 < n.g.length
      · obtain ⟨z, i2, h2, p2, q2⟩ := d76 cs hc 2 i1 h1 p1 (by omega)
        cases z with
        | true =>
          obtain ⟨y, i3, h3, b3, t3, p3, q3⟩ := d75 cs hc (zN n.g.length) i2 h2 p2 (by simp only [zN]; omega)
          have ht : y < zN n.g.length := t3 (by simp only [zN]; omega)
          have hb : (bif decide (0 ≤ y) then decide (y < zN n.g.length) else false) = true := by rw [decide_eq_true b3, decide_eq_true ht]; rfl
          obtain ⟨m, i4, h4, a, b, e⟩ := next (withN n (n.g.getD y.toNat (0, false)).1).1 i3 h3 (Nat.le_trans (len_with n _) (by omega)) p3
          refine ⟨m, i4, h4, a, b, ?_⟩
          rw [hstep, h74, bt (decide_eq_true hlt), wrapN (by omega)]
          refine obind' q1 (bf' (decide_eq_false c0) (bf' (decide_eq_false c1) (bf' (decide_eq_false c2) (bt' (decide_eq_true c3) (bt' (decide_eq_true (by simp only [zN]; omega)) (obind' q2 (bt' rfl ?_)))))))
          have q4 := v22 n (n.g.getD y.toNat (0, false)).1 (by omega) (by omega)
          repeat' first
            | with_reducible refine and2_both ?_ ?_
            | refine obind' q3 ?_
            | refine bt' hb ?_
            | exact obind' q4 e
        | false =>
          obtain ⟨m, i3, h3, a, b, e⟩ := next n i2 h2 (by omega) p2
          refine ⟨m, i3, h3, a, b, ?_⟩
          rw [hstep, h74, bt (decide_eq_true hlt), wrapN (by omega)]
          exact obind' q1 (bf' (decide_eq_false c0) (bf' (decide_eq_false c1) (bf' (decide_eq_false c2) (bt' (decide_eq_true c3) (bt' (decide_eq_true (by simp only [zN]; omega)) (obind' q2 (bf' rfl e)))))))
      · obtain ⟨m, i3, h3, a, b, e⟩ := next n i1 h1 (by omega) p1
        refine ⟨m, i3, h3, a, b, ?_⟩
        rw [hstep, h74, bt (decide_eq_true hlt), wrapN (by omega)]
        exact obind' q1 (bf' (decide_eq_false c0) (bf' (decide_eq_false c1) (bf' (decide_eq_false c2) (bt' (decide_eq_true c3) (bf' (decide_eq_false (by simp only [zN]; omega)) e)))))
    · obtain ⟨y, i2, h2, b2, t2, p2, q2⟩ := d75 cs hc 12 i1 h1 p1 (by omega)
      obtain ⟨r, r1, r2, q3⟩ := d77 n y (by omega) (by omega)
      obtain ⟨m, i3, h3, a, b, e⟩ := next r.1 i2 h2 (by unfold len2; omega) p2
      refine ⟨m, i3, h3, a, b, ?_⟩
      rw [hstep, h74, bt (decide_eq_true hlt), wrapN (by omega)]
      refine obind' q1 (bf' (decide_eq_false c0) (bf' (decide_eq_false c1) (bf' (decide_eq_false c2) (bf' (decide_eq_false c3) ?_))))
      repeat' first
        | with_reducible refine and2_both ?_ ?_
        | refine obind' q2 ?_
        | exact obind' q3 e
theorem d74 (cs : List Int) (hc : cs.length ≤ 4611686018427387904) (st i h : Int) (h0 : 0 ≤ st) (hst : st ≤ 1000) (hi : 0 ≤ i) : ∃ m i' h', (len2 m : Int) ≤ st ∧ 0 ≤ i' ∧ E 74 [.pb 0 0, nI st] [cur cs i h] = some (owN m, [cur cs i' h']) := by
  obtain ⟨m, i', h', a, b, e⟩ := l74 cs cs hc i h st hst st.toNat 0 ⟨false, [], [], 0, 0, 0⟩ i h (by omega) (Nat.zero_le _) hi
  refine ⟨m, i', h', a, b, ev1 (st.toNat + 1) rfl ?_⟩
  rw [e74]
  refine Eq.trans ?_ e
  have z1 : (fun i : Nat => lstG [AV.I IntKind.i64 0]) = gI [] := by funext i; unfold gI; simp
  have z2 : (fun i : Nat => lstG [AV.I IntKind.i64 0, AV.B false]) = gG [] := by funext i; unfold gG; simp
  show HH 74 [cur cs i h] (st.toNat + 1) _ (hdS _ [(712704, ⟨0, 1, fun i => lstG [AV.I IntKind.i64 0]⟩), (716800, ⟨0, 2, fun i => lstG [AV.I IntKind.i64 0, AV.B false]⟩)] _) = _
  rw [z1, z2]
  rfl
end Go.Fw
