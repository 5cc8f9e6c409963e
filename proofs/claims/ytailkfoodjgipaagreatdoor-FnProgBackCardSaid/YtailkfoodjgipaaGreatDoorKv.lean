/- Values: terms as the reference reads them. -/
import Derived.Test.YtailkfoodjgipaaGreatDoorKu
set_option linter.unusedVariables false
set_option linter.unusedSimpArgs false
namespace Go.Fw
open Go.Proofs
theorem wd_only {u : VTerm} (h : okTm u = true) {i : Nat} (hi : 1 ≤ i ∧ i ≤ 10) (e : termTxt u = wd i) : (⟨i, 0, ByteArray.empty⟩ : VTerm) = u := by
  have ed := congrArg dl e
  rw [wd_dl hi] at ed
  have ho := op_of_head h hi (by rw [ed])
  rw [term_dl h, show u.Op.toNat = i by omega] at ed
  have ed : dl (rs u) = [] := by simpa using ed
  have hr : (rs u).size = 0 := by rw [← dl_len, ed]; rfl
  rcases term_cases h with ⟨a, b⟩ | ⟨a, b⟩ | ⟨a, b⟩ | ⟨a, b⟩ | ⟨a, b⟩
  · rw [a, ho]
  all_goals (
    exfalso
    have hn := rs_ne h (by rw [a]; simp)
    omega)
abbrev rTerm (t : VTerm) (b : Bool) : Option (AV × List AV) := some (.tup 2 (lstG [slTerm t, .B b]), [])
theorem l89 (s : ByteArray) (hs : s.size ≤ 1048576) : ∀ (k i : Nat), i + k = 11 → 1 ≤ i → ∃ t b, HH 89 [] (k + 1) [true, false, true] (hdS [(0, .S s), (2, .pb 66 0), (4, nI (i : Int))] [] [(66, 3, [nI 0, nI 0, .S ByteArray.empty])]) = rTerm t b ∧ TOk s t ∧
    ∀ u, okTm u = true → s = termTxt u → (i : Int) ≤ u.Op → t = u ∧ b = true := by
  have hz : ByteArray.empty.size = 0 := rfl
  intro k
  induction k with
  | zero =>
    intro i hi h1
    obtain rfl : i = 11 := by omega
    refine ⟨zTerm, false, by rw [hstep, h89, bf (by decide)], by show ByteArray.empty.size ≤ _; omega, fun u hu e hn => ?_⟩
    have := okTm_op hu
    omega
  | succ k ih =>
    intro i hi h1
    have hi10 : 1 ≤ i ∧ i ≤ 10 := by omega
    have q := v54 i (by omega) (by omega)
    have hw := wd_size i
    have hst := hstep (f := 89)
    obtain ⟨t, b, h, h2, h3⟩ := ih (i + 1) (by omega) (by omega)
    -- a right term of this kind
    have split : ∀ u, okTm u = true → s = termTxt u → u.Op = i → s = wd i ++ rs u := fun u hu e ho => by rw [e, term_rs hu, ho]
    by_cases c : s = wd i
    · refine ⟨⟨i, 0, ByteArray.empty⟩, true, ?_, by show ByteArray.empty.size ≤ _; omega, fun u hu e _ => ⟨wd_only hu hi10 (e.symm.trans c), rfl⟩⟩
      rw [hstep, h89, bt (by simp; omega)]
      exact obind' q (bt' (beqT c) rfl)
    have next : ∀ (F : ∀ u, okTm u = true → s = termTxt u → u.Op = i → False), ∀ u, okTm u = true → s = termTxt u → (i : Int) ≤ u.Op → t = u ∧ b = true := fun F u hu e hn => by
      by_cases ho : u.Op = i
      · exact (F u hu e ho).elim
      · exact h3 u hu e (by omega)
    by_cases c2 : s.size ≤ (wd i).size
    · refine ⟨t, b, ?_, h2, next fun u hu e ho => ?_⟩
      · rw [hstep, h89, bt (by simp; omega)]
        refine obind' q (bf' (beqF c) (bt' (decide_eq_true (by show zN s.size ≤ zN (wd i).size; simp only [zN]; omega)) ?_))
        rw [wrapN (by omega)]
        exact h
      · have e2 := split u hu e ho
        have : s.size = (wd i).size + (rs u).size := by
          conv => lhs; rw [e2]
          rw [ByteArray.size_append]
        have hr : rs u = ByteArray.empty := ba_ext (List.eq_nil_of_length_eq_zero (show (rs u).size = 0 by omega))
        rw [hr, ByteArray.append_empty] at e2
        exact c e2
    have d2 : decide (zN s.size ≤ zN (wd i).size) = false := decide_eq_false (by simp only [zN]; omega)
    have d3 : decide (zN (wd i).size ≤ zN s.size) = true := decide_eq_true (by simp only [zN]; omega)
    have d4 : (decide (zN (wd i).size ≤ zN s.size) && decide (zN s.size ≤ zN s.size)) = true := by rw [d3]; simp
    have htn : ∀ n : Nat, (zN n).toNat = n := fun n => by simp [zN]
    by_cases c3 : s.extract 0 (wd i).size = wd i
    · have hT : (s.extract (wd i).size s.size).size ≤ s.size := ext_sz ..
      have go : ∀ X, (bif decide ((i : Int) = 4) then
                (Option.bind (E 70 [AV.S (s.extract (wd i).size s.size)] []) fun r8 =>
                some (AV.tup 2 (lstG [AV.ag 3 (lstG [nI i, nI (asI (asA r8.fst 0)), AV.S ByteArray.empty]), AV.B (asB (asA r8.fst 1))]), []))
              else
                (bif decide ((i : Int) = 5) then
                  (Option.bind (E 70 [AV.S (s.extract (wd i).size s.size)] []) fun r9 =>
                  some (AV.tup 2 (lstG [AV.ag 3 (lstG [nI i, nI (asI (asA r9.fst 0)), AV.S ByteArray.empty]), AV.B (asB (asA r9.fst 1))]), []))
                else
                  (bif decide ((i : Int) = 6) then
                    (some (AV.tup 2 (lstG [AV.ag 3 (lstG [nI i, nI 0, AV.S (s.extract (wd i).size s.size)]), AV.B true]), []))
                  else
                    (bif decide ((i : Int) = 7) then
                      (some (AV.tup 2 (lstG [AV.ag 3 (lstG [nI i, nI 0, AV.S (s.extract (wd i).size s.size)]), AV.B true]), []))
                    else
                      (HH 89 [] (k + 1) [true, false, true] (hdS [(0, .S s), (2, .pb 66 0), (4, nI ((i + 1 : Nat) : Int))] [] [(66, 3, [nI 0, nI 0, .S ByteArray.empty])])))))) = some X → HH 89 [] (k + 1 + 1) [true, false, true] (hdS [(0, .S s), (2, .pb 66 0), (4, nI (i : Int))] [] [(66, 3, [nI 0, nI 0, .S ByteArray.empty])]) = some X := fun X hX => by
        rw [hstep, h89, bt (by simp; omega)]
        refine obind' q (bf' (beqF c) (bf' d2 (bt' d3 (bf' (by show (!(s.extract 0 (zN (wd i).size).toNat).toList == (wd i).toList) = false; rw [htn, beqT c3]; rfl) (bt' d4 ?_)))))
        show (bif decide ((i : Int) = 4) then (Option.bind (E 70 [AV.S (s.extract (zN (wd i).size).toNat (zN s.size).toNat)] []) _) else _) = _
        simp only [htn, wrapN (show i ≤ 4611686018427387904 by omega)] at hX ⊢
        exact hX
      have hs0 : s = wd i ++ s.extract (wd i).size s.size := by
        refine dl_inj ?_
        show _ = (wd i ++ s.extract (wd i).size s.size).data.toList
        rw [dapp, ext_data, List.take_of_length_le (by rw [List.length_drop]; exact Nat.le_of_eq rfl)]
        have h1 := congrArg dl c3
        have h2 : dl (s.extract 0 (wd i).size) = (dl s).take (wd i).size := by
          show (s.extract 0 (wd i).size).data.toList = _
          rw [ext_data]; rfl
        rw [h2] at h1
        show dl s = dl (wd i) ++ (dl s).drop (wd i).size
        rw [← h1, List.take_append_drop]
      have op : ∀ u, okTm u = true → s = termTxt u → u.Op = i ∧ s.extract (wd i).size s.size = rs u := fun u hu e => by
        have ho : u.Op = i := op_of_head hu hi10 (by
          rw [← e, hs0]
          show (wd i ++ s.extract (wd i).size s.size).data.toList.head? = _
          rw [dapp]
          show (dl (wd i) ++ _).head? = _
          rw [wd_dl hi10]
          cases hw : WL i with
          | nil => exact absurd hw (WL_ne hi10)
          | cons x r => rfl)
        refine ⟨ho, ?_⟩
        have := split u hu e ho
        conv => lhs; rw [this]
        exact ext_r _ _
      by_cases c4 : i = 4 ∨ i = 5
      · obtain ⟨n, b', q2, hn, hc⟩ := v71 (s.extract (wd i).size s.size) (by omega)
        refine ⟨⟨i, n, ByteArray.empty⟩, b', go _ ?_, by show ByteArray.empty.size ≤ _; omega, fun u hu e _ => ?_⟩
        · by_cases c44 : i = 4
          · exact bt' (decide_eq_true (by omega)) (obind' q2 rfl)
          · exact bf' (decide_eq_false (by omega)) (bt' (decide_eq_true (by omega)) (obind' q2 rfl))
        · obtain ⟨ho, hr⟩ := op u hu e
          unfold rs at hr
          rw [if_pos (by omega)] at hr
          rcases term_cases hu with ⟨a, x⟩ | ⟨a, x⟩ | ⟨a, x⟩ | ⟨a, x⟩ | ⟨a, x⟩
          · omega
          · have := hc u.Num x hr
            refine ⟨?_, this.2⟩
            rw [this.1, a, ← ho, a]
          · have := hc u.Num x.1 hr
            refine ⟨?_, this.2⟩
            rw [this.1, a, ← ho, a]
          · exfalso; have : u.Op = 6 := by rw [a]
            omega
          · exfalso; have : u.Op = 7 := by rw [a]
            omega
      by_cases c6 : i = 6 ∨ i = 7
      · refine ⟨⟨i, 0, s.extract (wd i).size s.size⟩, true, go _ ?_, hT, fun u hu e _ => ?_⟩
        · by_cases c44 : i = 6
          · exact bf' (decide_eq_false (by omega)) (bf' (decide_eq_false (by omega)) (bt' (decide_eq_true (by omega)) rfl))
          · exact bf' (decide_eq_false (by omega)) (bf' (decide_eq_false (by omega)) (bf' (decide_eq_false (by omega)) (bt' (decide_eq_true (by omega)) rfl)))
        · obtain ⟨ho, hr⟩ := op u hu e
          unfold rs at hr
          rw [if_neg (by omega)] at hr
          rcases term_cases hu with ⟨a, x⟩ | ⟨a, x⟩ | ⟨a, x⟩ | ⟨a, x⟩ | ⟨a, x⟩
          · omega
          · exfalso; have : u.Op = 4 := by rw [a]
            omega
          · exfalso; have : u.Op = 5 := by rw [a]
            omega
          · refine ⟨?_, rfl⟩
            rw [hr, ← ho]
            have : u.Op = 6 := by rw [a]
            rw [this]; exact a.symm
          · refine ⟨?_, rfl⟩
            rw [hr, ← ho]
            have : u.Op = 7 := by rw [a]
            rw [this]; exact a.symm
      · refine ⟨t, b, go _ (bf' (decide_eq_false (by omega)) (bf' (decide_eq_false (by omega)) (bf' (decide_eq_false (by omega)) (bf' (decide_eq_false (by omega)) h)))), h2, next fun u hu e ho => ?_⟩
        rcases term_cases hu with ⟨a, x⟩ | ⟨a, x⟩ | ⟨a, x⟩ | ⟨a, x⟩ | ⟨a, x⟩
        · have e2 := split u hu e ho
          unfold rs at e2
          rw [if_neg (by omega)] at e2
          have : u.Text = ByteArray.empty := by rw [a]
          rw [this, ByteArray.append_empty] at e2
          exact c e2
        · have : u.Op = 4 := by rw [a]
          omega
        · have : u.Op = 5 := by rw [a]
          omega
        · have : u.Op = 6 := by rw [a]
          omega
        · have : u.Op = 7 := by rw [a]
          omega
    · refine ⟨t, b, ?_, h2, next fun u hu e ho => ?_⟩
      · rw [hstep, h89, bt (by simp; omega)]
        refine obind' q (bf' (beqF c) (bf' d2 (bt' d3 (bt' (by show (!(s.extract 0 (zN (wd i).size).toNat).toList == (wd i).toList) = true; rw [htn, beqF c3]; rfl) ?_))))
        rw [wrapN (by omega)]
        exact h
      · have e2 := split u hu e ho
        exact c3 (by rw [e2]; exact ext_l _ _)
theorem v89 (s : ByteArray) (hs : s.size ≤ 1048576) : ∃ t b, E 89 [.S s] [] = rTerm t b ∧ TOk s t ∧ ∀ u, okTm u = true → s = termTxt u → t = u ∧ b = true := by
  obtain ⟨t, b, h, h2, h3⟩ := l89 s hs 10 1 (by omega) (by omega)
  exact ⟨t, b, ev1 11 rfl ((e89 ..).trans h), h2, fun u hu e => h3 u hu e (okTm_op hu).1⟩
end Go.Fw
