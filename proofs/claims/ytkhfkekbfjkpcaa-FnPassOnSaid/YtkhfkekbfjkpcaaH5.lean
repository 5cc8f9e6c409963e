/- Values of draws of a Notify: the drawn Notify of DrawTellOne. -/
import Derived.Test.YtkhfkekbfjkpcaaH4
set_option linter.unusedVariables false
set_option linter.unusedSimpArgs false
namespace Go.Fw
open Go.Proofs
abbrev r59 (n : NT) : List (Nat × Arr) := [(655360, ⟨n.l.length, 1, gI n.l⟩), (659456, ⟨n.g.length, 2, gG n.g⟩)]
abbrev b59 (cs : List Int) (n : NT) (i h : Int) : List (Nat × Nat × List AV) := [(0, 3, [.gv cs, nI i, nI h]), (66, 6, zN6), (67, 6, [.B n.p, .rf 655360, .rf 659456, nI n.o, nI n.s, nI n.t])]
/-- Done: something short. -/
def Dn (cs : List Int) (B : Nat) (x : Option (AV × List AV)) : Prop := ∃ m i' h', len2 m ≤ B ∧ 0 ≤ i' ∧ x = some (owN m, [cur cs i' h'])
theorem Dn.of {cs : List Int} {B : Nat} {x y : Option (AV × List AV)} (h : Dn cs B y) (e : x = y) : Dn cs B x := e ▸ h
theorem l59c (cs cs0 : List Int) (hc : cs.length ≤ 4611686018427387904) (i0 h0 : Int) (F : Nat) (n : NT) (i h : Int) (b : Bool) (hl : len2 n ≤ 1000) (hi : 0 ≤ i) :
    Dn cs (len2 n + 1) (HH 59 [cur cs0 i0 h0] (F + 1) [true, true, true, true, false, false] (hdS [(0, .pb 0 0), (2, .pb 66 0), (3, .pb 67 0), (61, .B b)] (r59 n) (b59 cs n i h))) := by
  have hl' := hl
  unfold len2 at hl'
  rw [hstep, h59c]
  cases b with
  | false => exact ⟨n, i, h, by omega, hi, bf' rfl (bt' okT2 rfl)⟩
  | true =>
    obtain ⟨x1, i1, h1, b1, t1, p1, q1⟩ := d75 cs hc 4 i h hi (by omega)
    by_cases c0 : x1 = 0
    · exact ⟨⟨n.p, n.l, n.g, n.o, IntKind.i64.wrap (n.s + 1), n.t⟩, i1, h1, Nat.le_succ _, p1, bt' rfl (obind' q1 (bt' (decide_eq_true c0) (bt' okT2 rfl)))⟩
    by_cases c1 : x1 = 1
    · exact ⟨⟨!n.p, n.l, n.g, n.o, n.s, n.t⟩, i1, h1, Nat.le_succ _, p1, bt' rfl (obind' q1 (bf' (decide_eq_false c0) (bt' (decide_eq_true c1) (bt' okT2 rfl))))⟩
    by_cases c2 : x1 = 2
    · obtain ⟨y, i2, h2, b2, t2, p2, q2⟩ := d75 cs hc 5 i1 h1 p1 (by omega)
      refine ⟨⟨n.p, n.l, n.g ++ [(y, false)], n.o, n.s, n.t⟩, i2, h2, by unfold len2; simp; omega, p2, bt' rfl (obind' q1 (bf' (decide_eq_false c0) (bf' (decide_eq_false c1) (bt' (decide_eq_true c2) ?_))))⟩
      have e1 : (n.g ++ [(y, false)]).length = n.g.length + 1 := by simp
      have hg : (decide (n.g.length + 1 ≤ 4294967296) && true && true && true && true) = true := by simp; omega
      have fin : (some (AV.ag 6 (lstG [.B n.p, owI n.l, .own (n.g.length + 1) 2 fun i => lstG [AV.I .i64 (bif decide (i < n.g.length) then (n.g.getD i (0, false)).1 else bif decide (i - n.g.length = 0) then y else 0), AV.B (bif decide (i < n.g.length) then (n.g.getD i (0, false)).2 else bif decide (i - n.g.length = 0) then false else false)], nI n.o, nI n.s, nI n.t]), [cur cs i2 h2]) : Option (AV × List AV)) =
          some (owN ⟨n.p, n.l, n.g ++ [(y, false)], n.o, n.s, n.t⟩, [cur cs i2 h2]) := by
        rw [row_appF, ← e1]
      refine and2_both (obind' q2 (bt' hg (bt' okT2 fin))) (obind' q2 (and2_both (bt' hg (bt' okT2 fin)) (bt' hg (bt' okT2 fin))))
    · refine ⟨⟨n.p, n.l ++ [-1], n.g, n.o, n.s, n.t⟩, i1, h1, by unfold len2; simp; omega, p1, bt' rfl (obind' q1 (bf' (decide_eq_false c0) (bf' (decide_eq_false c1) (bf' (decide_eq_false c2) (bt' (by simp; omega) (bt' okT2 ?_))))))⟩
      have e1 : (n.l ++ [-1]).length = n.l.length + 1 := by simp
      have e2 : (fun i => lstG [AV.I .i64 (bif decide (i < n.l.length) then n.l.getD i 0 else bif decide (i - n.l.length = 0) then -1 else 0)]) = gI (n.l ++ [-1]) := row_app
      show some (AV.ag 6 (lstG [.B n.p, .own (n.l.length + 1) 1 (fun i => lstG [AV.I .i64 (bif decide (i < n.l.length) then n.l.getD i 0 else bif decide (i - n.l.length = 0) then -1 else 0)]), owG n.g, nI n.o, nI n.s, nI n.t]), [cur cs i1 h1]) = _
      rw [e2, ← e1]
theorem l59b (cs cs0 : List Int) (hc : cs.length ≤ 4611686018427387904) (i0 h0 : Int) (F : Nat) (n : NT) (i h : Int) (b : Bool) (hl : len2 n ≤ 1000) (hi : 0 ≤ i) :
    Dn cs (len2 n + 1) (HH 59 [cur cs0 i0 h0] (F + 2) [true, true, true, false, false] (hdS [(0, .pb 0 0), (2, .pb 66 0), (3, .pb 67 0), (31, .B b)] (r59 n) (b59 cs n i h))) := by
  have key : ∀ (n' : NT) (b' : Bool) (i' h' : Int), len2 n' = len2 n → 0 ≤ i' → Dn cs (len2 n + 1) (HH 59 [cur cs0 i0 h0] (F + 1) [true, true, true, true, false, false] (hdS [(0, .pb 0 0), (2, .pb 66 0), (3, .pb 67 0), (61, .B b')] (r59 n') (b59 cs n' i' h'))) := fun n' b' i' h' e hi' => by
    have := l59c cs cs0 hc i0 h0 F n' i' h' b' (by omega) hi'
    rw [e] at this; exact this
  rw [hstep, h59b]
  cases b with
  | false =>
    obtain ⟨y, i1, h1, p1, q1⟩ := d76 cs hc 8 i h hi (by omega)
    exact (key n y i1 h1 rfl p1).of (bf' rfl (obind' q1 rfl))
  | true =>
    obtain ⟨y, i1, h1, p1, q1⟩ := d76 cs hc 2 i h hi (by omega)
    obtain ⟨z, i2, h2, p2, q2⟩ := d76 cs hc 8 i1 h1 p1 (by omega)
    cases y with
    | true =>
      by_cases c : 999999995 < IntKind.i64.wrap (n.t + IntKind.i64.wrap (1000000000 - n.o))
      · exact (key ⟨n.p, n.l, n.g, IntKind.i64.wrap (n.o + IntKind.i64.wrap (1000000000 - n.o)), IntKind.i64.wrap (n.s + 3), IntKind.i64.wrap (IntKind.i64.wrap (n.t + IntKind.i64.wrap (1000000000 - n.o)) - 3)⟩ z i2 h2 rfl p2).of (bt' rfl (obind' q1 (bt' rfl (bt' (decide_eq_true c) (obind' q2 rfl)))))
      · exact (key ⟨n.p, n.l, n.g, IntKind.i64.wrap (n.o + IntKind.i64.wrap (1000000000 - n.o)), n.s, IntKind.i64.wrap (n.t + IntKind.i64.wrap (1000000000 - n.o))⟩ z i2 h2 rfl p2).of (bt' rfl (obind' q1 (bt' rfl (bf' (decide_eq_false c) (obind' q2 rfl)))))
    | false =>
      exact (key ⟨n.p, n.l, n.g, IntKind.i64.wrap (n.o + IntKind.i64.wrap (1000000000 - n.o)), n.s, IntKind.i64.wrap (n.t + IntKind.i64.wrap (1000000000 - n.o))⟩ z i2 h2 rfl p2).of (bt' rfl (obind' q1 (bf' rfl (obind' q2 rfl))))
theorem Dn.mono {cs : List Int} {B B' : Nat} {x : Option (AV × List AV)} (h : Dn cs B x) (hb : B ≤ B') : Dn cs B' x := by
  obtain ⟨m, i', h', a, b, e⟩ := h
  exact ⟨m, i', h', Nat.le_trans a hb, b, e⟩
theorem l59 (cs cs0 : List Int) (hc : cs.length ≤ 4611686018427387904) (i0 h0 : Int) : ∀ (k j : Nat) (n : NT) (i h : Int), j + k = 32 → len2 n ≤ 100 + j → 0 ≤ i →
    Dn cs 200 (HH 59 [cur cs0 i0 h0] (k + 3) [true, true, false, true, false, true] (hdS [(0, .pb 0 0), (2, .pb 66 0), (3, .pb 67 0), (4, nI (j : Int))] (r59 n) (b59 cs n i h))) := by
  intro k
  induction k with
  | zero =>
    intro j n i h hj hl hi
    obtain ⟨y, i1, h1, p1, q1⟩ := d76 cs hc 15 i h hi (by omega)
    have := (l59b cs cs0 hc i0 h0 0 n i1 h1 y (by omega) p1).mono (show len2 n + 1 ≤ 200 by omega)
    rw [hstep, h59]
    exact this.of (bf' (decide_eq_false (by omega)) (obind' q1 rfl))
  | succ k ih =>
    intro j n i h hj hl hi
    have hl' := hl
    unfold len2 at hl'
    rw [hstep, h59]
    by_cases c : n.p = true
    · obtain ⟨y, i1, h1, p1, q1⟩ := d76 cs hc 15 i h hi (by omega)
      have := (l59b cs cs0 hc i0 h0 (k + 1) n i1 h1 y (by omega) p1).mono (show len2 n + 1 ≤ 200 by omega)
      exact this.of (bt' (decide_eq_true (by omega)) (bf' (by rw [c]; rfl) (obind' q1 rfl)))
    · obtain ⟨r, r1, r2, q3⟩ := d77 n (j : Int) (by omega) (by omega)
      have := ih (j + 1) r.1 i h (by omega) (by unfold len2; omega) hi
      rw [wrapN (by omega)]
      exact this.of (bt' (decide_eq_true (by omega)) (bt' (by cases h : n.p <;> simp_all) (obind' q3 rfl)))
theorem d59 (cs : List Int) (hc : cs.length ≤ 4611686018427387904) (i h : Int) (hi : 0 ≤ i) : Dn cs 200 (E 59 [.pb 0 0] [cur cs i h]) := by
  obtain ⟨x1, i1, h1, b1, t1, p1, q1⟩ := d75 cs hc 14 i h hi (by omega)
  have t1' := t1 (by omega)
  obtain ⟨n, i2, h2, a2, p2, q2⟩ := d74 cs hc x1 i1 h1 b1 (by omega) p1
  obtain ⟨y, i3, h3, p3, q3⟩ := d76 cs hc 12 i2 h2 p2 (by omega)
  cases y with
  | true =>
    obtain ⟨m, i', h', a, b, e⟩ := l59 cs cs hc i h 32 0 n i3 h3 (by omega) (by omega) p3
    exact ⟨m, i', h', a, b, ev1 35 rfl ((e59 ..).trans (obind' q1 (obind' q2 (obind' q3 (bt' rfl e)))))⟩
  | false =>
    obtain ⟨z, i4, h4, p4, q4⟩ := d76 cs hc 15 i3 h3 p3 (by omega)
    obtain ⟨m, i', h', a, b, e⟩ := (l59b cs cs hc i h 0 n i4 h4 z (by omega) p4).mono (show len2 n + 1 ≤ 200 by omega)
    exact ⟨m, i', h', a, b, ev1 2 rfl ((e59 ..).trans (obind' q1 (obind' q2 (obind' q3 (bf' rfl (obind' q4 e))))))⟩
end Go.Fw
