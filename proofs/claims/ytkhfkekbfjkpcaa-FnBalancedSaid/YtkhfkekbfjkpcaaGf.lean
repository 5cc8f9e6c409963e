/- Balanced's law: its value. -/
import Derived.Test.YtkhfkekbfjkpcaaGe
set_option linter.unusedVariables false
set_option linter.unusedSimpArgs false
namespace Go.Fw
open Go.Proofs

abbrev st4 (cs : List Int) (n : NT) (al i : Int) : St := hdS [(0, slB cs), (3, .pb 67 0), (4, nI al), (5, nI i)] [(1064960, ⟨n.l.length, 1, gI n.l⟩), (1069056, ⟨n.g.length, 2, gG n.g⟩)] [(67, 6, [.B n.p, .rf 1064960, .rf 1069056, nI n.o, nI n.s, nI n.t])]
theorem tail4 (cs : List Int) (X : NT) (al i : Int) (k : Nat) (hX : OkN X) (h : HH 4 [] k [true, true, true, true, false, true] (st4 cs X al i) = some (.B true, [])) :
    (Option.bind (E 24 [slN X] []) fun r10 => bif !asB r10.fst then some (AV.B false, []) else (bif X.p then (bif decide (0 < zN X.l.length) then some (AV.B false, []) else HH 4 [] k [true, true, true, true, false, true] (st4 cs X al i)) else HH 4 [] k [true, true, true, true, false, true] (st4 cs X al i))) = some (.B true, []) := by
  have hl := hX.lle
  have hg := hX.gle
  have q := v24 X (by omega) (by omega)
  rw [(okSp_iff X).2 hX] at q
  refine obind' q (bf' rfl ?_)
  by_cases hp : X.p = true
  · refine bt' hp (bf' (decide_eq_false ?_) h)
    rw [hX.pl hp]; simp [zN]
  · exact bf' (eq_false_of_ne_true hp) h
theorem l4 (cs : List Int) : ∀ (k i : Nat) (al : Int) (n : NT), i + k = 30 → OkN n → n.o = al → al ≤ i → n.l.length + n.g.length ≤ i →
    HH 4 [] (k + 1) [true, true, true, true, false, true] (st4 cs n al (i : Int)) = some (.B true, []) := by
  intro k
  induction k with
  | zero =>
    intro i al n hi hn ho hal hlen
    rw [hstep, h4, bf (by simp; omega), decide_eq_true ho]
  | succ k ih =>
    intro i al n hi hn ho hal hlen
    have ho2 := hn.o
    obtain ⟨r1, q1⟩ := v16 cs (IntKind.i64.wrap ((i : Int) + 40)) (by rw [wrapS (by omega) (by omega)]; omega)
    obtain ⟨r2, q2⟩ := v16 cs (i : Int) (by omega)
    rw [hstep, h4, bt (by simp; omega), wrapN (by omega), obind q1, obind q2]
    have next : ∀ (X : NT) (al' : Int), OkN X → X.o = al' → al' ≤ ((i + 1 : Nat) : Int) → X.l.length + X.g.length ≤ i + 1 → HH 4 [] (k + 1) [true, true, true, true, false, true] (st4 cs X al' ((i + 1 : Nat) : Int)) = some (.B true, []) :=
      fun X al' h1 h2 h3 h4 => ih (i + 1) al' X (by omega) h1 h2 h3 h4
    by_cases c0 : r2.tmod 5 = 0
    · refine bt' (decide_eq_true c0) (obind' (v11 n (by omega) (by omega)) ?_)
      obtain ⟨e, hok⟩ := tell_ok hn (by omega) (fun _ => by omega)
      rw [e, wrapS (x := al + 1) (by omega) (by omega)]
      have ho3 : (giveN (oneUp n)).1.o = al + 1 := by
        have : (oneUp n).o = al + 1 := by show IntKind.i64.wrap (n.o + 1) = al + 1; rw [wrapS (by omega) (by omega)]; omega
        rw [← this]; unfold giveN; split <;> rfl
      have hlen2 : (giveN (oneUp n)).1.l.length + (giveN (oneUp n)).1.g.length ≤ i + 1 := by
        have e1 : (oneUp n).l = n.l := rfl
        have e2 : (oneUp n).g = n.g := rfl
        unfold giveN
        split
        · rename_i w r hr
          rw [e1] at hr
          rw [hr] at hlen
          simp only [List.length_append, List.length_cons, List.length_nil, e2] at hlen ⊢
          omega
        · simp only [List.length_nil, e2]; omega
      have fin := tail4 cs _ (al + 1) _ (k + 1) hok (next _ (al + 1) hok ho3 (by omega) hlen2)
      refine bf' (by rfl) ?_
      cases hl : n.l with
      | nil =>
        have ht : (giveN (oneUp n)).2 = -1 := by
          have : (oneUp n).l = [] := hl
          unfold giveN; rw [this]
        refine bf' (c := !(decide (0 ≤ (giveN (oneUp n)).2) == decide (0 < zN ([] : List Int).length))) (by rw [ht]; rfl) ?_
        exact bf' (c := decide (0 ≤ (giveN (oneUp n)).2)) (by rw [ht]; rfl) fin
      | cons w r =>
        have ht : (giveN (oneUp n)).2 = w := by
          have : (oneUp n).l = w :: r := hl
          unfold giveN; rw [this]
        have hw := (hn.lin w (by rw [hl]; simp)).1
        refine bf' (c := !(decide (0 ≤ (giveN (oneUp n)).2) == decide (0 < zN (w :: r).length))) (by rw [ht, decide_eq_true hw, decide_eq_true (by simp [zN])]; rfl) ?_
        refine bt' (c := decide (0 ≤ (giveN (oneUp n)).2)) (by rw [ht]; exact decide_eq_true hw) ?_
        refine bt' (decide_eq_true (by simp [zN])) ?_
        exact bf' (c := !decide ((giveN (oneUp n)).2 = (w :: r).getD 0 0)) (by rw [ht, decide_eq_true (by rfl)]; rfl) fin
    refine bf' (decide_eq_false c0) ?_
    by_cases c1 : r2.tmod 5 = 1
    · refine bt' (decide_eq_true c1) (obind' (v17 n (by omega) (by omega)) ?_)
      obtain ⟨e, hok⟩ := tellAll_ok hn (by omega)
      rw [e]
      refine bf' (by rfl) (obind' (v18 n.l (by omega)) (bf' rfl (bf' (c := !(n.p == n.p)) (by simp) ?_)))
      exact tail4 cs _ al _ (k + 1) hok (next _ al hok ho (by omega) (by simp only [List.length_nil, List.length_append, List.length_map]; omega))
    refine bf' (decide_eq_false c1) ?_
    by_cases c2 : r2.tmod 5 = 2
    · refine bt' (decide_eq_true c2) (obind' (v19 n _ (by omega) (by omega)) (obind' (v20 n _ (by omega) (by omega)) (bf' (by rw [decide_eq_true rfl]; rfl) ?_)))
      obtain ⟨hok, ho3, hlen2⟩ := res_ok hn (r1.tmod 7)
      exact tail4 cs (resN n (r1.tmod 7)).1 al _ (k + 1) hok (next (resN n (r1.tmod 7)).1 al hok (by omega) (by omega) (by omega))
    refine bf' (decide_eq_false c2) ?_
    by_cases c3 : r2.tmod 5 = 3
    · refine bt' (decide_eq_true c3) (obind' (v21 n _ (by omega) (by omega)) (obind' (v22 n _ (by omega) (by omega)) (bf' (by rw [decide_eq_true rfl]; rfl) ?_)))
      obtain ⟨hok, ho3, ht3, hlen2⟩ := with_ok hn (r1.tmod 7)
      refine bf' (c := !decide ((withN n (r1.tmod 7)).1.t = n.t)) (by rw [decide_eq_true ht3]; rfl) (bf' (c := !decide ((withN n (r1.tmod 7)).1.o = n.o)) (by rw [decide_eq_true ho3]; rfl) ?_)
      exact tail4 cs (withN n (r1.tmod 7)).1 al _ (k + 1) hok (next (withN n (r1.tmod 7)).1 al hok (by omega) (by omega) (by omega))
    refine bf' (decide_eq_false c3) (obind' (v23 n _ (by omega) (by omega)) ?_)
    obtain ⟨hok, ho3, hlen2, hp0, hp4⟩ := aw_ok hn (r1.tmod 7)
    have fin := tail4 cs (awN n (r1.tmod 7)).1 al _ (k + 1) hok (next (awN n (r1.tmod 7)).1 al hok (by omega) (by omega) (by omega))
    by_cases d0 : (awN n (r1.tmod 7)).2 = 0
    · refine bt' (decide_eq_true d0) (bf' (by rw [hp0 d0]; rfl) (bf' (decide_eq_false (by show ¬ (awN n (r1.tmod 7)).2 = 4; omega)) fin))
    · refine bf' (decide_eq_false d0) ?_
      by_cases d4 : (awN n (r1.tmod 7)).2 = 4
      · exact bt' (decide_eq_true d4) (bf' (hp4 d4) fin)
      · exact bf' (decide_eq_false d4) fin
theorem v4 (cs : List Int) : E 4 [slB cs] [] = some (.B true, []) := by
  refine ev1 31 rfl ?_
  rw [e4, obind (v15 cs)]
  by_cases h : 1048576 < zN cs.length
  · exact bt' (decide_eq_true h) rfl
  · refine bf' (decide_eq_false h) ?_
    have hz : (fun i : Nat => lstG [AV.I IntKind.i64 0]) = gI [] := by funext i; unfold gI; simp
    have hz2 : (fun i : Nat => lstG [AV.I IntKind.i64 0, AV.B false]) = gG [] := by funext i; unfold gG; simp
    rw [hz, hz2]
    exact l4 cs 30 0 0 ⟨false, [], [], 0, 0, 0⟩ (by omega) ⟨by simp, by simp, by simp, by simp, by simp, by simp, by simp, by simp, by simp, by simp, by simp [onesG]⟩ rfl (by omega) (by simp)
end Go.Fw
