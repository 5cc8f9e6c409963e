/- PassOn's law: its value. -/
import Derived.Test.YtkhfkekbfjkpcaaH6
import Derived.Test.YtkhfkekbfjkpcaaH1
set_option linter.unusedVariables false
set_option linter.unusedSimpArgs false
namespace Go.Fw
open Go.Proofs
theorem d78 (cs : List Int) (hc : cs.length ≤ 4611686018427387904) (xs : List Int) (hx : xs.length ≤ 4294967296) (i h : Int) (hi : 0 ≤ i) : ∃ x i' h', 0 ≤ i' ∧ E 78 [.pb 0 0, slI xs] [cur cs i h] = some (nI x, [cur cs i' h']) := by
  have tail : ∀ i h : Int, 0 ≤ i → ∃ y i1 h1, 0 ≤ i1 ∧ E 76 [.pb 0 0, nI 12] [cur cs i h] = some (.B y, [cur cs i1 h1]) ∧ ((y = true ∧ ∃ x i' h', 0 ≤ i' ∧ E 87 [.pb 0 0, .sl 2 1 (fun i => lstG [AV.I .i64 (bif decide (i = 0) then -1 else bif decide (i - 1 = 0) then 64 else 0)])] [cur cs i1 h1] = some (nI x, [cur cs i' h'])) ∨ (y = false ∧ ∃ x i' h', 0 ≤ i' ∧ E 75 [.pb 0 0, nI 64] [cur cs i1 h1] = some (nI x, [cur cs i' h']))) := by
    intro i h hi
    obtain ⟨y, i1, h1, p1, q1⟩ := d76 cs hc 12 i h hi (by omega)
    refine ⟨y, i1, h1, p1, q1, ?_⟩
    cases y with
    | true =>
      obtain ⟨x, i', h', _, p, q⟩ := d87 cs hc [-1, 64] i1 h1 p1 (by simp) (by simp)
      refine .inl ⟨rfl, x, i', h', p, ?_⟩
      have e : (fun i : Nat => lstG [AV.I .i64 (bif decide (i = 0) then -1 else bif decide (i - 1 = 0) then 64 else 0)]) = gI [-1, 64] := by
        funext i
        unfold gI
        match i with
        | 0 => rfl
        | 1 => rfl
        | i + 2 => simp
      rw [e]; exact q
    | false =>
      obtain ⟨x, i', h', _, _, p, q⟩ := d75 cs hc 64 i1 h1 p1 (by omega)
      exact .inr ⟨rfl, x, i', h', p, q⟩
  by_cases c : (0 : Int) < zN xs.length
  · obtain ⟨y, i1, h1, p1, q1⟩ := d76 cs hc 2 i h hi (by omega)
    cases y with
    | true =>
      obtain ⟨x, i2, h2, b, t, p, q⟩ := d75 cs hc (zN xs.length) i1 h1 p1 (by simp only [zN]; omega)
      exact ⟨xs.getD x.toNat 0, i2, h2, p, ev1 0 rfl ((e78 ..).trans (bt' (decide_eq_true c) (obind' q1 (bt' rfl (obind' q (bt' (by show (bif decide (0 ≤ x) then decide (x < zN xs.length) else false) = true; rw [decide_eq_true b, decide_eq_true (t c)]; rfl) rfl))))))⟩
    | false =>
      obtain ⟨z, i2, h2, p2, q2, d⟩ := tail i1 h1 p1
      rcases d with ⟨rfl, x, i', h', p, q⟩ | ⟨rfl, x, i', h', p, q⟩
      · exact ⟨x, i', h', p, ev1 0 rfl ((e78 ..).trans (bt' (decide_eq_true c) (obind' q1 (bf' rfl (obind' q2 (bt' rfl (obind' q rfl)))))))⟩
      · exact ⟨x, i', h', p, ev1 0 rfl ((e78 ..).trans (bt' (decide_eq_true c) (obind' q1 (bf' rfl (obind' q2 (bf' rfl (obind' q rfl)))))))⟩
  · obtain ⟨z, i2, h2, p2, q2, d⟩ := tail i h hi
    rcases d with ⟨rfl, x, i', h', p, q⟩ | ⟨rfl, x, i', h', p, q⟩
    · exact ⟨x, i', h', p, ev1 0 rfl ((e78 ..).trans (bf' (decide_eq_false c) (obind' q2 (bt' rfl (obind' q rfl)))))⟩
    · exact ⟨x, i', h', p, ev1 0 rfl ((e78 ..).trans (bf' (decide_eq_false c) (obind' q2 (bf' rfl (obind' q rfl)))))⟩
theorem d60 (cs : List Int) (hc : cs.length ≤ 4611686018427387904) (n : NT) (hn : len2 n ≤ 200) (i h : Int) (hi : 0 ≤ i) : ∃ x i' h', 0 ≤ i' ∧ E 60 [.pb 0 0, slN n] [cur cs i h] = some (nI x, [cur cs i' h']) := by
  unfold len2 at hn
  by_cases c : (0 : Int) < zN n.g.length
  · obtain ⟨y, i1, h1, p1, q1⟩ := d76 cs hc 2 i h hi (by omega)
    cases y with
    | true =>
      obtain ⟨x, i2, h2, b, t, p, q⟩ := d75 cs hc (zN n.g.length) i1 h1 p1 (by simp only [zN]; omega)
      have hb : (bif decide (0 ≤ x) then decide (x < zN n.g.length) else false) = true := by rw [decide_eq_true b, decide_eq_true (t c)]; rfl
      exact ⟨(n.g.getD x.toNat (0, false)).1, i2, h2, p, ev1 0 rfl ((e60 ..).trans (bt' (decide_eq_true c) (obind' q1 (bt' rfl (and2_both (obind' q (bt' hb rfl)) (obind' q (bt' hb rfl)))))))⟩
    | false =>
      obtain ⟨x, i', h', p, q⟩ := d78 cs hc n.l (by omega) i1 h1 p1
      exact ⟨x, i', h', p, ev1 0 rfl ((e60 ..).trans (bt' (decide_eq_true c) (obind' q1 (bf' rfl (obind' q rfl)))))⟩
  · obtain ⟨x, i', h', p, q⟩ := d78 cs hc n.l (by omega) i h hi
    exact ⟨x, i', h', p, ev1 0 rfl ((e60 ..).trans (bf' (decide_eq_false c) (obind' q rfl)))⟩
/-- What DrawWithdraw draws. -/
theorem d28 (cs : List Int) (hc : cs.length ≤ 4611686018427387904) : ∃ (n : NT) (a : Int), len2 n ≤ 200 ∧ E 28 [.gv cs] [] = some (.tup 2 (lstG [owN n, nI a]), []) := by
  obtain ⟨h', q⟩ := d58 cs hc
  obtain ⟨m, i2, h2, a, b, e⟩ := d59 cs hc 0 h' (by omega)
  obtain ⟨x, i3, h3, p3, q3⟩ := d60 cs hc m a i2 h2 b
  exact ⟨m, x, a, ev1 0 rfl ((e28 ..).trans (obind' q (obind' e (and2_both (obind' q3 (bt' okT3 rfl)) (obind' q3 (bt' okT3 rfl))))))⟩
theorem l79 (xs : List Int) (hx : xs.length ≤ 4294967296) : ∀ (k i : Nat), i + k = xs.length →
    HH 79 [] (k + 1) [true, true, false, true] (hdS [(0, slI xs), (1, slI xs), (5, nI (i : Int))] [] []) = some (.B true, []) := by
  intro k
  induction k with
  | zero => intro i hi; rw [hstep, h79, bf (by simp [zN]; omega)]
  | succ k ih =>
    intro i hi
    rw [hstep, h79, bt (by simp [zN]; omega), bt (by simp [zN]; omega), bt (by simp [zN]; omega), bf (by simp), wrapN (by omega)]
    exact ih (i + 1) (by omega)
theorem v79 (xs : List Int) (hx : xs.length ≤ 4294967296) : E 79 [slI xs, slI xs] [] = some (.B true, []) := by
  refine ev1 (xs.length + 1) rfl ?_
  rw [e79, bf (by simp)]; exact l79 xs hx xs.length 0 (by omega)
abbrev on1 (n : NT) : AV := AV.sl 1 6 (fun i => lstG [AV.B (bif decide (i = 0) then n.p else false), (mrg (decide (i = 0)) (AV.sl n.l.length 1 (gI n.l)) (AV.own 0 1 fun x => lstG [AV.I IntKind.i64 0])).sh, (mrg (decide (i = 0)) (AV.sl n.g.length 2 (gG n.g)) (AV.own 0 2 fun x => lstG [AV.I IntKind.i64 0, AV.B false])).sh, AV.I IntKind.i64 (bif decide (i = 0) then n.o else 0), AV.I IntKind.i64 (bif decide (i = 0) then n.s else 0), AV.I IntKind.i64 (bif decide (i = 0) then n.t else 0)])
abbrev cN (n : NT) : List AV := [.B n.p, slI n.l, slG n.g, nI n.o, nI n.s, nI n.t]
theorem l61b (n : NT) (hx : n.g.length ≤ 4294967296) : ∀ (k i : Nat), i + k = n.g.length →
    HH 61 [] (k + 2) [true, true, false, true, true, true, false, true, true, true] (hdS [(0, on1 n), (1, on1 n), (5, nI 0), (6, .pb 70 0), (7, .pb 71 0), (8, nI (i : Int))] [] [(70, 6, cN n), (71, 6, cN n)]) = some (.B true, []) := by
  intro k
  induction k with
  | zero =>
    intro i hi
    rw [hstep, h61b, bf (by simp [zN]; omega)]
    show HH 61 [] 1 [true, true, false, true] (hdS [(0, on1 n), (1, on1 n), (5, nI 1)] [] []) = _
    rw [hstep, h61z]
  | succ k ih =>
    intro i hi
    rw [hstep, h61b, bt (by simp [zN]; omega), bt (by simp [zN]; omega), bt (by simp [zN]; omega), bf (by simp), wrapN (by omega)]
    exact ih (i + 1) (by omega)
theorem v61 (n : NT) (h1 : n.l.length ≤ 4294967296) (h2 : n.g.length ≤ 4294967296) : E 61 [on1 n, on1 n] [] = some (.B true, []) := by
  refine ev1 (n.g.length + 3) rfl ((e61 ..).trans ?_)
  have q := v79 n.l h1
  have b := l61b n h2 n.g.length 0 (by omega)
  rw [hstep, h61]
  have z : ∀ x : Int, (!decide (x = x)) = false := fun x => by simp
  have z0 : (!n.p == n.p) = false := by simp
  exact and2_both (and2_both (bf' z0 (obind' q (bf' rfl (bf' (z _) (bf' (z _) (bf' (z _) (bf' (z _) b))))))) (bf' z0 (obind' q (bf' rfl (bf' (z _) (bf' (z _) (bf' (z _) (bf' (z _) b)))))))) (and2_both (and2_both (bf' z0 (obind' q (bf' rfl (bf' (z _) (bf' (z _) (bf' (z _) (bf' (z _) b))))))) (and2_both (bf' z0 (obind' q (bf' rfl (bf' (z _) (bf' (z _) (bf' (z _) (bf' (z _) b))))))) (bf' z0 (obind' q (bf' rfl (bf' (z _) (bf' (z _) (bf' (z _) (bf' (z _) b))))))))) (and2_both (bf' z0 (obind' q (bf' rfl (bf' (z _) (bf' (z _) (bf' (z _) (bf' (z _) b))))))) (and2_both (bf' z0 (obind' q (bf' rfl (bf' (z _) (bf' (z _) (bf' (z _) (bf' (z _) b))))))) (bf' z0 (obind' q (bf' rfl (bf' (z _) (bf' (z _) (bf' (z _) (bf' (z _) b))))))))))
theorem v29 (n : NT) (h1 : n.l.length ≤ 4294967296) (h2 : n.g.length ≤ 4294967296) : E 29 [slN n, slN n] [] = some (.B true, []) :=
  ev1 0 rfl ((e29 ..).trans (obind' (v61 n h1 h2) rfl))
/-- What a withdrawal leaves, by its answer. -/
theorem with_bad {n : NT} {a : Int} (h : (withN n a).2.2 ≠ 0) : (withN n a).1 = n := by
  unfold withN at h ⊢
  split at h
  · rename_i c; rw [if_pos c]
    split at h
    · simp at h
    · rename_i c; rw [if_neg c]
      split at h
      · rename_i c; rw [if_pos c]
      · rename_i c; rw [if_neg c]
        split at h
        · rename_i c; rw [if_pos c]
          split at h
          · rename_i c; rw [if_pos c]
          · simp at h
        · simp at h
  · rename_i c; rw [if_neg c]
theorem with_good {n : NT} {a : Int} {k : Nat} (h : (withN n a).2.2 = 0) (hk : ixF (whoF n.g) a n.g.length 0 = k) (hk1 : k < n.g.length) :
    ((n.g.getD k (0, false)).2 = false ∧ (withN n a).2.1 = -1 ∧ (withN n a).1.p = n.p ∧ (withN n a).1.l = n.l) ∨
    ((n.g.getD k (0, false)).2 = true ∧ ((∃ w r, n.l = w :: r ∧ (withN n a).2.1 = w ∧ (withN n a).1.g.length = n.g.length ∧ (withN n a).1.l = r) ∨
      (n.l = [] ∧ (withN n a).2.1 = -1 ∧ (withN n a).1.p = true ∧ (withN n a).1.g.length + 1 = n.g.length))) := by
  unfold withN at h ⊢
  split at h
  · rename_i c
    have hok := (okSp_iff n).1 c
    rw [if_pos c]
    split at h
    · rename_i c2
      exfalso
      have h2 := has_mem'.1 c2
      rcases ixF_spec (whoF n.g) a n.g.length 0 with ⟨g1, _⟩ | ⟨j, g1, _, g3, g4, _⟩
      · omega
      · have hm : n.g.getD j (0, false) ∈ n.g := (mem_getD (d := ((0 : Int), false))).2 ⟨j, by omega, rfl⟩
        exact (hok.gin _ hm).2.2 (by have : (n.g.getD j (0, false)).1 = a := g4
                                     rw [this]; exact h2)
    · rename_i c2
      rw [if_neg c2]
      rw [hk] at h ⊢
      rw [if_neg (by omega)] at h ⊢
      rw [Int.toNat_natCast] at h ⊢
      have hlen : (n.g.eraseIdx k).length = n.g.length - 1 := by rw [List.length_eraseIdx]; simp [hk1]
      split at h
      · rename_i c3
        rw [if_pos c3]
        split at h
        · simp at h
        · rename_i c4
          rw [if_neg c4]
          refine .inr ⟨c3, ?_⟩
          unfold giveN
          have e1 : (lessG n k).l = n.l := rfl
          rw [e1]
          cases hl : n.l with
          | nil => exact .inr ⟨rfl, rfl, rfl, by show (n.g.eraseIdx k).length + 1 = _; omega⟩
          | cons w r => exact .inl ⟨w, r, rfl, rfl, by show ((n.g.eraseIdx k) ++ [(w, true)]).length = _; simp only [List.length_append, List.length_cons, List.length_nil, hlen]; omega, rfl⟩
      · rename_i c3
        rw [if_neg c3]
        exact .inl ⟨eq_false_of_ne_true c3, rfl, rfl, rfl⟩
  · simp at h
theorem with_len5 (n : NT) (a : Int) : len2 (withN n a).1 ≤ len2 n + 1 := by
  unfold withN len2
  split
  · split
    · have := (List.erase_sublist (a := a) (l := n.l)).length_le
      simp only; omega
    · split
      · simp only; omega
      · split
        · split
          · simp only; omega
          · unfold giveN lessG
            have hl := List.length_eraseIdx_le n.g (ixF (whoF n.g) a n.g.length 0).toNat
            simp only
            split
            · rename_i w r hr
              rw [hr]; simp only [List.length_append, List.length_cons, List.length_nil]; omega
            · rename_i hr
              rw [hr]; simp only [List.length_nil]; omega
        · have hl := List.length_eraseIdx_le n.g (ixF (whoF n.g) a n.g.length 0).toNat
          unfold lessG; simp only; omega
  · simp only; omega
theorem ix_whos (n : NT) (a : Int) : ixF (fun j => (whos n).getD j 0) a (whos n).length 0 = ixF (whoF n.g) a n.g.length 0 := by
  have : whoF n.g = fun j => (whos n).getD j 0 := by
    funext j
    unfold whoF
    simp only [List.getD_eq_getElem?_getD, List.getElem?_map]
    cases n.g[j]? <;> rfl
  rw [this]; simp
/-- PassOn's law. -/
theorem v7 (cs : List Int) : E 7 [.gv cs] [] = some (.B true, []) := by
  by_cases cb : 1048576 < zN cs.length
  · exact ev1 0 rfl ((e7 ..).trans (obind' (v15g cs) (bt' (decide_eq_true cb) rfl)))
  have hc : cs.length ≤ 4611686018427387904 := by simp only [zN] at cb; omega
  obtain ⟨n, a, hn, q28⟩ := d28 cs hc
  have hw := with_len5 n a
  unfold len2 at hn hw
  have q21 := v21 n a (by omega) (by omega)
  have q22 := v22 n a (by omega) (by omega)
  have q29 := v29 (withN n a).1 (by omega) (by omega)
  have q27 := v27 n (by omega)
  have q26 := v26 (whos n) a (by simp; omega)
  rw [ix_whos] at q26
  have z : ∀ x : Int, (!decide (x = x)) = false := fun x => by simp
  refine ev1 0 rfl ((e7 ..).trans (obind' (v15g cs) (bf' (decide_eq_false cb) (obind' q28 (obind' q21 (obind' q22 (bf' (z _) (bf' (z _) (obind' q29 (bf' rfl (obind' q27 (obind' q26 ?_))))))))))))
  by_cases c : (withN n a).2.2 = 0
  case neg =>
    have q29b := v29 n (by omega) (by omega)
    have e := with_bad c
    refine bt' (by show (!decide ((withN n a).2.2 = 0)) = true; rw [decide_eq_false c]; rfl) (bf' (decide_eq_false c) ?_)
    refine obind' (a := (.B true, [])) ?_ rfl
    show E 29 [slN (withN n a).1, slN n] [] = _
    rw [e]; exact q29b
  refine bf' (by show (!decide ((withN n a).2.2 = 0)) = false; rw [decide_eq_true c]; rfl) ?_
  by_cases hk : ixF (whoF n.g) a n.g.length 0 < 0
  · exact bt' (decide_eq_true hk) (bt' (decide_eq_true c) rfl)
  refine bf' (decide_eq_false hk) ?_
  obtain ⟨k, ek, hk1, _⟩ := ix_lt hk
  refine bt' (by show (bif decide (0 ≤ ixF (whoF n.g) a n.g.length 0) then decide (ixF (whoF n.g) a n.g.length 0 < zN n.g.length) else false) = true; rw [ek]; simp [zN]; omega) ?_
  rcases with_good c ek hk1 with ⟨o, t, p, l⟩ | ⟨o, ⟨w, r, hl, t, g, l⟩ | ⟨hl, t, p, g⟩⟩
  · refine bt' (by show (!(n.g.getD (ixF (whoF n.g) a n.g.length 0).toNat (0, false)).2) = true; rw [ek, Int.toNat_natCast, o]; rfl) ?_
    refine bt' (decide_eq_true t) (bt' (by show ((withN n a).1.p == n.p) = true; rw [p]; simp) ?_)
    have q18 := v18 n.l (by omega)
    refine obind' (a := (.B true, [])) ?_ rfl
    show E 18 [slI (withN n a).1.l, slI n.l] [] = _
    rw [l]; exact q18
  · refine bf' (by show (!(n.g.getD (ixF (whoF n.g) a n.g.length 0).toNat (0, false)).2) = false; rw [ek, Int.toNat_natCast, o]; rfl) ?_
    have h0 : (0 : Int) < zN n.l.length := by rw [hl]; simp [zN]
    refine bt' (decide_eq_true h0) (bt' (decide_eq_true h0) (bt' (by show decide ((withN n a).2.1 = n.l.getD 0 0) = true; rw [t, hl]; simp) (bt' (by show decide (zN (withN n a).1.g.length = zN n.g.length) = true; rw [g]; simp) ?_)))
    show (some (AV.B (decide (zN (withN n a).1.l.length = IntKind.i64.wrap (zN n.l.length - 1))), ([] : List AV)) : Option (AV × List AV)) = _
    have : zN (withN n a).1.l.length = IntKind.i64.wrap (zN n.l.length - 1) := by
      rw [wrapS (by simp only [zN]; omega) (by simp only [zN]; omega), l, hl]; simp [zN]
    rw [decide_eq_true this]
  · refine bf' (by show (!(n.g.getD (ixF (whoF n.g) a n.g.length 0).toNat (0, false)).2) = false; rw [ek, Int.toNat_natCast, o]; rfl) ?_
    refine bf' (decide_eq_false (by show ¬ (0 : Int) < zN n.l.length; rw [hl]; simp [zN])) ?_
    refine bt' (decide_eq_true t) (bt' (by show (withN n a).1.p = true; exact p) ?_)
    show (some (AV.B (decide (zN (withN n a).1.g.length = IntKind.i64.wrap (zN n.g.length - 1))), ([] : List AV)) : Option (AV × List AV)) = _
    have : zN (withN n a).1.g.length = IntKind.i64.wrap (zN n.g.length - 1) := by
      rw [wrapS (by simp only [zN]; omega) (by simp only [zN]; omega)]; simp only [zN]; omega
    rw [decide_eq_true this]
end Go.Fw
