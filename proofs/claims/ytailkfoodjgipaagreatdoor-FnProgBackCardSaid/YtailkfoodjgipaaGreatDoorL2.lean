/- Values: a call as the reference reads it. -/
import Derived.Test.YtailkfoodjgipaaGreatDoorKz
set_option linter.unusedVariables false
set_option linter.unusedSimpArgs false
namespace Go.Fw
open Go.Proofs
abbrev r41 (c : VCall) : Option (AV × List AV) := some (.ag 9 (lstG (cellsC c)), [])
abbrev z66 : Nat × Nat × List AV := (66, 9, [nI 0, nI 0, nI 0, nI 0, .S ByteArray.empty, nI 0, nI 0, .S ByteArray.empty, .nsl 3 (fun _ => lstG [nI 0, nI 0, .S ByteArray.empty])])
abbrev z67 (op bb : Int) : Nat × Nat × List AV := (67, 9, [nI op, nI 0, nI bb, nI (-1), .S ByteArray.empty, nI 0, nI 0, .S ByteArray.empty, .nsl 3 (fun _ => lstG [nI 0, nI 0, .S ByteArray.empty])])

/-- What is done with the text behind the first two words. -/
theorem b41 (c : VCall) (m : ByteArray) (hm : m.size ≤ 1048576) (h13 : c.Op ≠ 13) (hz : c.Tok = -1 ∧ c.Name = ByteArray.empty ∧ c.Msg = zMsg ∧ c.Filter = []) : ∃ e, (Option.bind (E 69 [AV.S m] []) fun r6 =>
          bif decide (c.Op = 9) then
            (Option.bind (E 71 [AV.S m] []) fun r8 =>
            bif bif okT then true else false then
              (some (AV.ag 9 (lstG [nI c.Op, nI c.A, nI c.B, nI (-1), AV.S ByteArray.empty, nI (asI (asA (asA r8.fst 0) 0)), nI (asI (asA (asA r8.fst 0) 1)), AV.S (asS (asA (asA r8.fst 0) 2)), AV.own 0 3 (goTermS [])]), []))
            else
              (none))
          else
            (bif decide (c.Op = 7) then
              (bif decide (c.Op = 7) then
                (Option.bind (E 70 [AV.S (asS (asA r6.fst 0))] []) fun r10 =>
                bif bif okT then true else false then
                  (some (AV.ag 9 (lstG [nI c.Op, nI c.A, nI (asI (asA r10.fst 0)), nI (-1), AV.S ByteArray.empty, nI 0, nI 0, AV.S ByteArray.empty, AV.own 0 3 (goTermS [])]), []))
                else
                  (none))
              else
                (bif decide (c.Op = 14) then
                  (bif (asS (asA r6.fst 0)).toList == (bs [98, 97, 99, 107]).toList then
                    (Option.bind (E 69 [AV.S (asS (asA r6.fst 1))] []) fun r12 =>
                    bif (asS (asA r12.fst 0)).toList == (bs [105, 102]).toList then
                      (Option.bind (E 72 [AV.S (asS (asA r12.fst 1))] []) fun r14 =>
                      bif bif okT then true else false then
                        (some (AV.ag 9 (lstG [nI c.Op, nI c.A, nI 1, nI (-1), AV.S ByteArray.empty, nI 0, nI 0, AV.S ByteArray.empty, vowTermS (asA r14.fst 0)]), []))
                      else
                        (none))
                    else
                      (bif bif okT then true else false then
                        (some (AV.ag 9 (lstG [nI c.Op, nI c.A, nI 1, nI (-1), AV.S ByteArray.empty, nI 0, nI 0, AV.S ByteArray.empty, AV.own 0 3 (goTermS [])]), []))
                      else
                        (none)))
                  else
                    (bif (asS (asA r6.fst 0)).toList == (bs [105, 102]).toList then
                      (Option.bind (E 72 [AV.S (asS (asA r6.fst 1))] []) fun r13 =>
                      bif bif okT then true else false then
                        (some (AV.ag 9 (lstG [nI c.Op, nI c.A, nI c.B, nI (-1), AV.S ByteArray.empty, nI 0, nI 0, AV.S ByteArray.empty, vowTermS (asA r13.fst 0)]), []))
                      else
                        (none))
                    else
                      (bif bif okT then true else false then
                        (some (AV.ag 9 (lstG [nI c.Op, nI c.A, nI c.B, nI (-1), AV.S ByteArray.empty, nI 0, nI 0, AV.S ByteArray.empty, AV.own 0 3 (goTermS [])]), []))
                      else
                        (none))))
                else
                  (bif (asS (asA r6.fst 0)).toList == (bs [98, 121]).toList then
                    (Option.bind (E 70 [AV.S (asS (asA r6.fst 1))] []) fun r12 =>
                    bif bif okT then true else false then
                      (some (AV.ag 9 (lstG [nI c.Op, nI c.A, nI c.B, nI (asI (asA r12.fst 0)), AV.S ByteArray.empty, nI 0, nI 0, AV.S ByteArray.empty, AV.own 0 3 (goTermS [])]), []))
                    else
                      (none))
                  else
                    (bif bif okT then true else false then
                      (some (AV.ag 9 (lstG [nI c.Op, nI c.A, nI c.B, nI (-1), AV.S ByteArray.empty, nI 0, nI 0, AV.S ByteArray.empty, AV.own 0 3 (goTermS [])]), []))
                    else
                      (none)))))
            else
              (bif decide (c.Op = 19) then
                (Option.bind (E 70 [AV.S (asS (asA r6.fst 0))] []) fun r10 =>
                bif bif okT then true else false then
                  (some (AV.ag 9 (lstG [nI c.Op, nI c.A, nI (asI (asA r10.fst 0)), nI (-1), AV.S ByteArray.empty, nI 0, nI 0, AV.S ByteArray.empty, AV.own 0 3 (goTermS [])]), []))
                else
                  (none))
              else
                (bif decide (c.Op = 14) then
                  (bif (asS (asA r6.fst 0)).toList == (bs [98, 97, 99, 107]).toList then
                    (Option.bind (E 69 [AV.S (asS (asA r6.fst 1))] []) fun r12 =>
                    bif (asS (asA r12.fst 0)).toList == (bs [105, 102]).toList then
                      (Option.bind (E 72 [AV.S (asS (asA r12.fst 1))] []) fun r14 =>
                      bif bif okT then true else false then
                        (some (AV.ag 9 (lstG [nI c.Op, nI c.A, nI 1, nI (-1), AV.S ByteArray.empty, nI 0, nI 0, AV.S ByteArray.empty, vowTermS (asA r14.fst 0)]), []))
                      else
                        (none))
                    else
                      (bif bif okT then true else false then
                        (some (AV.ag 9 (lstG [nI c.Op, nI c.A, nI 1, nI (-1), AV.S ByteArray.empty, nI 0, nI 0, AV.S ByteArray.empty, AV.own 0 3 (goTermS [])]), []))
                      else
                        (none)))
                  else
                    (bif (asS (asA r6.fst 0)).toList == (bs [105, 102]).toList then
                      (Option.bind (E 72 [AV.S (asS (asA r6.fst 1))] []) fun r13 =>
                      bif bif okT then true else false then
                        (some (AV.ag 9 (lstG [nI c.Op, nI c.A, nI c.B, nI (-1), AV.S ByteArray.empty, nI 0, nI 0, AV.S ByteArray.empty, vowTermS (asA r13.fst 0)]), []))
                      else
                        (none))
                    else
                      (bif bif okT then true else false then
                        (some (AV.ag 9 (lstG [nI c.Op, nI c.A, nI c.B, nI (-1), AV.S ByteArray.empty, nI 0, nI 0, AV.S ByteArray.empty, AV.own 0 3 (goTermS [])]), []))
                      else
                        (none))))
                else
                  (bif (asS (asA r6.fst 0)).toList == (bs [98, 121]).toList then
                    (Option.bind (E 70 [AV.S (asS (asA r6.fst 1))] []) fun r12 =>
                    bif bif okT then true else false then
                      (some (AV.ag 9 (lstG [nI c.Op, nI c.A, nI c.B, nI (asI (asA r12.fst 0)), AV.S ByteArray.empty, nI 0, nI 0, AV.S ByteArray.empty, AV.own 0 3 (goTermS [])]), []))
                    else
                      (none))
                  else
                    (bif bif okT then true else false then
                      (some (AV.ag 9 (lstG [nI c.Op, nI c.A, nI c.B, nI (-1), AV.S ByteArray.empty, nI 0, nI 0, AV.S ByteArray.empty, AV.own 0 3 (goTermS [])]), []))
                    else
                      (none))))))) = r41 e ∧ Beh c m e := by
  obtain ⟨Op, A, B, Tok, Name, Msg, Filter⟩ := c
  obtain ⟨h1, h2, h3, h4⟩ := hz
  simp only at h1 h2 h3 h4
  subst h1 h2 h3 h4
  simp only at h13
  have q0 := v70 m hm
  have s1 := cut1_size 32 m
  have s2 := cut2_size 32 m
  by_cases c9 : Op = 9
  · obtain ⟨x, b, q, hx⟩ := v72 m hm
    exact ⟨_, (obind' q0 (bt' (decide_eq_true c9) (obind' q (bt' okTb rfl)))), .msg (.inl c9) x hx⟩
  have num : ∀ n b, E 70 [.S (cut1 32 m)] [] = rNum n b → numR n → (∀ k, numR k → cut1 32 m = txt k → n = k ∧ b = true) → NOk m n := fun n b q hn hc => ⟨hn, fun k hk e => (hc k hk (by rw [e]; exact (cut_no 32 (txt_noBl k)).1)).1⟩
  by_cases c7 : Op = 7
  · obtain ⟨n, b, q, hn, hc⟩ := v71 (cut1 32 m) (by omega)
    exact ⟨_, (obind' q0 (bf' (decide_eq_false c9) (bt' (decide_eq_true c7) (bt' (decide_eq_true c7) (obind' q (bt' okTb rfl)))))), .num (.inl c7) n (num n b q hn hc)⟩
  by_cases c19 : Op = 19
  · obtain ⟨n, b, q, hn, hc⟩ := v71 (cut1 32 m) (by omega)
    exact ⟨_, (obind' q0 (bf' (decide_eq_false c9) (bf' (decide_eq_false c7) (bt' (decide_eq_true c19) (obind' q (bt' okTb rfl)))))), .num (.inr c19) n (num n b q hn hc)⟩
  by_cases c14 : Op = 14
  · by_cases bk : cut1 32 m = bkW
    · have q1 := v70 (cut2 32 m) (by omega)
      have hB : mB m = cut2 32 m := if_pos bk
      by_cases hi : cut1 32 (cut2 32 m) = ifW
      · obtain ⟨fs, b, q, hf⟩ := v73 (cut2 32 (cut2 32 m)) (by have := cut2_size 32 (cut2 32 m); omega)
        refine ⟨_, (obind' q0 (bf' (decide_eq_false c9) (bf' (decide_eq_false c7) (bf' (decide_eq_false c19) (bt' (decide_eq_true c14) (bt' (beqT bk) (obind' q1 (bt' (beqT hi) (obind' q (bt' okTb ?_)))))))))), .fil c14 (by rw [hB]; exact hi) fs (by rw [hB]; exact hf)⟩
        rw [if_pos bk]; rfl
      · refine ⟨_, (obind' q0 (bf' (decide_eq_false c9) (bf' (decide_eq_false c7) (bf' (decide_eq_false c19) (bt' (decide_eq_true c14) (bt' (beqT bk) (obind' q1 (bf' (beqF hi) (bt' okTb ?_))))))))), .nof c14 (by rw [hB]; exact hi)⟩
        rw [if_pos bk]; rfl
    · have hB : mB m = m := if_neg bk
      by_cases hi : cut1 32 m = ifW
      · obtain ⟨fs, b, q, hf⟩ := v73 (cut2 32 m) (by omega)
        refine ⟨_, (obind' q0 (bf' (decide_eq_false c9) (bf' (decide_eq_false c7) (bf' (decide_eq_false c19) (bt' (decide_eq_true c14) (bf' (beqF bk) (bt' (beqT hi) (obind' q (bt' okTb ?_))))))))), .fil c14 (by rw [hB]; exact hi) fs (by rw [hB]; exact hf)⟩
        rw [if_neg bk]; rfl
      · refine ⟨_, (obind' q0 (bf' (decide_eq_false c9) (bf' (decide_eq_false c7) (bf' (decide_eq_false c19) (bt' (decide_eq_true c14) (bf' (beqF bk) (bf' (beqF hi) (bt' okTb ?_)))))))), .nof c14 (by rw [hB]; exact hi)⟩
        rw [if_neg bk]; rfl
  have hno : ¬ (Op = 9 ∨ Op = 13 ∨ Op = 7 ∨ Op = 19 ∨ Op = 14) := by omega
  by_cases hi : cut1 32 m = byW
  · obtain ⟨n, b, q, hn, hc⟩ := v71 (cut2 32 m) (by omega)
    exact ⟨_, (obind' q0 (bf' (decide_eq_false c9) (bf' (decide_eq_false c7) (bf' (decide_eq_false c19) (bf' (decide_eq_false c14) (bt' (beqT hi) (obind' q (bt' okTb rfl)))))))), .tok hno hi n ⟨hn, fun k hk e => (hc k hk e).1⟩⟩
  · exact ⟨_, (obind' q0 (bf' (decide_eq_false c9) (bf' (decide_eq_false c7) (bf' (decide_eq_false c19) (bf' (decide_eq_false c14) (bf' (beqF hi) (bt' okTb rfl))))))), .nok hno hi⟩
theorem end41 (w r : ByteArray) (hr : r.size ≤ 1048576) (op bb : Int) : ∃ e n, HH 38 [] 1 [true, true, true, true, true, true, false, true] (hdS [(2, .pb 66 0), (3, .pb 67 0), (4, .S w), (5, .S r), (8, .rf 405504), (9, nI 5)] [(405504, ⟨kindsL.length, 1, gsStrS kindsL⟩)] [z66, z67 op bb]) = r41 e ∧ NOk (cut1 32 r) n ∧ Beh (C0 op bb n (cut1 32 r)) (cut2 32 r) e := by
  have q1 := v70 r hr
  have h1 := cut1_size 32 r
  have h2 := cut2_size 32 r
  obtain ⟨n, b, q2, hn, hc⟩ := v71 (cut1 32 r) (by omega)
  have hN : NOk (cut1 32 r) n := ⟨hn, fun k hk e => (hc k hk e).1⟩
  by_cases c13 : op = 13
  · have hC : C0 op bb n (cut1 32 r) = ⟨op, 0, bb, -1, cut1 32 r, zMsg, []⟩ := by unfold C0; rw [if_pos c13]
    obtain ⟨x, b', q, hx⟩ := v72 (cut2 32 r) (by omega)
    refine ⟨_, n, ?_, hN, by rw [hC]; exact .msg (.inr c13) x hx⟩
    rw [hstep, h41b, bf (by decide), nlT]
    exact obind' q1 (obind' q2 (bt' (decide_eq_true c13) (obind' q (bt' okTb rfl))))
  by_cases c15 : op = 15
  · have hC : C0 op bb n (cut1 32 r) = ⟨op, 0, n, -1, ByteArray.empty, zMsg, []⟩ := by unfold C0; rw [if_neg c13, if_pos (.inl c15)]
    obtain ⟨e, hE, hb⟩ := b41 ⟨op, 0, n, -1, ByteArray.empty, zMsg, []⟩ (cut2 32 r) (by omega) c13 ⟨rfl, rfl, rfl, rfl⟩
    refine ⟨e, n, ?_, hN, by rw [hC]; exact hb⟩
    rw [hstep, h41b, bf (by decide), nlT]
    exact obind' q1 (obind' q2 (bf' (decide_eq_false c13) (bt' (decide_eq_true c15) (bt' (decide_eq_true c15) hE))))
  by_cases c16 : op = 16
  · have hC : C0 op bb n (cut1 32 r) = ⟨op, 0, n, -1, ByteArray.empty, zMsg, []⟩ := by unfold C0; rw [if_neg c13, if_pos (.inr c16)]
    obtain ⟨e, hE, hb⟩ := b41 ⟨op, 0, n, -1, ByteArray.empty, zMsg, []⟩ (cut2 32 r) (by omega) c13 ⟨rfl, rfl, rfl, rfl⟩
    refine ⟨e, n, ?_, hN, by rw [hC]; exact hb⟩
    rw [hstep, h41b, bf (by decide), nlT]
    exact obind' q1 (obind' q2 (bf' (decide_eq_false c13) (bf' (decide_eq_false c15) (bt' (decide_eq_true c16) hE))))
  · have hC : C0 op bb n (cut1 32 r) = ⟨op, n, bb, -1, ByteArray.empty, zMsg, []⟩ := by unfold C0; rw [if_neg c13, if_neg (by omega)]
    obtain ⟨e, hE, hb⟩ := b41 ⟨op, n, bb, -1, ByteArray.empty, zMsg, []⟩ (cut2 32 r) (by omega) c13 ⟨rfl, rfl, rfl, rfl⟩
    refine ⟨e, n, ?_, hN, by rw [hC]; exact hb⟩
    rw [hstep, h41b, bf (by decide), nlT]
    exact obind' q1 (obind' q2 (bf' (decide_eq_false c13) (bf' (decide_eq_false c15) (bf' (decide_eq_false c16) hE))))
theorem l41b (w r : ByteArray) (X : Option (AV × List AV)) : ∀ (k i : Nat) (op bb : Int), i + k = 5 →
    HH 38 [] 1 [true, true, true, true, true, true, false, true] (hdS [(2, .pb 66 0), (3, .pb 67 0), (4, .S w), (5, .S r), (8, .rf 405504), (9, nI 5)] [(405504, ⟨kindsL.length, 1, gsStrS kindsL⟩)] [z66, z67 (fB (dl w) k i (op, bb)).1 (fB (dl w) k i (op, bb)).2]) = X →
    HH 38 [] (k + 1) [true, true, true, true, true, true, false, true] (hdS [(2, .pb 66 0), (3, .pb 67 0), (4, .S w), (5, .S r), (8, .rf 405504), (9, nI (i : Int))] [(405504, ⟨kindsL.length, 1, gsStrS kindsL⟩)] [z66, z67 op bb]) = X := by
  intro k
  induction k with
  | zero =>
    intro i op bb hi h
    obtain rfl : i = 5 := by omega
    exact h
  | succ k ih =>
    intro i op bb hi h
    have hl : kindsL.length = 5 := rfl
    have hk : dl (kindsL.getD i ByteArray.empty) = KLs.getD i [] := getD_map_dl ..
    rw [hstep, h41b, bt (by simp; omega), bt (bndL (by omega)), Int.toNat_natCast]
    rw [fB] at h
    by_cases c : kindsL.getD i ByteArray.empty = w
    · rw [if_pos (by rw [← hk, c])] at h
      refine bt' (beqT c) ?_
      rw [wrapN (by omega)]
      exact ih (i + 1) 9 i (by omega) h
    · rw [if_neg (fun e => c (dl_inj (hk.trans e)))] at h
      refine bf' (beqF c) ?_
      rw [wrapN (by omega)]
      exact ih (i + 1) op bb (by omega) h
theorem l41a (w r : ByteArray) (X : Option (AV × List AV)) : ∀ (k i : Nat) (op : Int), i + k = 20 →
    HH 38 [] 5 [true, true, true, true, true, true, false, true] (hdS [(2, .pb 66 0), (3, .pb 67 0), (4, .S w), (5, .S r), (8, .rf 405504), (9, nI ((1 : Nat) : Int))] [(405504, ⟨kindsL.length, 1, gsStrS kindsL⟩)] [z66, z67 (fA (dl w) k i op) 0]) = X →
    HH 38 [] (k + 6) [true, true, true, true, false, true] (hdS [(2, .pb 66 0), (3, .pb 67 0), (4, .S w), (5, .S r), (6, .rf 352256), (7, nI (i : Int))] [(352256, ⟨wordsL.length, 1, gsStrS wordsL⟩)] [z66, z67 op 0]) = X := by
  intro k
  induction k with
  | zero =>
    intro i op hi h
    rw [hstep, h41a, bf (by simp; omega)]
    exact obind' v29w h
  | succ k ih =>
    intro i op hi h
    have hl : wordsL.length = 20 := rfl
    have hk : dl (wordsL.getD i ByteArray.empty) = WLs.getD i [] := getD_map_dl ..
    rw [show k + 1 + 6 = k + 6 + 1 by omega, hstep, h41a, bt (by simp; omega), bt (bndL (by omega)), Int.toNat_natCast]
    rw [fA] at h
    by_cases c : wordsL.getD i ByteArray.empty = w
    · rw [if_pos (by rw [← hk, c])] at h
      refine bt' (beqT c) ?_
      rw [wrapN (by omega)]
      exact ih (i + 1) i (by omega) h
    · rw [if_neg (fun e => c (dl_inj (hk.trans e)))] at h
      refine bf' (beqF c) ?_
      rw [wrapN (by omega)]
      exact ih (i + 1) op (by omega) h
theorem v41 (s : ByteArray) (hs : s.size ≤ 1048576) : ∃ e n, E 38 [.S s] [] = r41 e ∧ NOk (cut1 32 (cut2 32 s)) n ∧ Beh (C0 (opS (dl (cut1 32 s))).1 (opS (dl (cut1 32 s))).2 n (cut1 32 (cut2 32 s))) (cut2 32 (cut2 32 s)) e := by
  have h1 := cut2_size 32 s
  obtain ⟨e, n, h, hN, hB⟩ := end41 (cut1 32 s) (cut2 32 s) (by omega) (opS (dl (cut1 32 s))).1 (opS (dl (cut1 32 s))).2
  refine ⟨e, n, ev1 25 rfl ((e41 ..).trans (obind' (v70 s hs) (obind' v28w ?_))), hN, hB⟩
  refine l41a (cut1 32 s) (cut2 32 s) _ 19 1 0 (by omega) ?_
  exact l41b (cut1 32 s) (cut2 32 s) _ 4 1 _ 0 (by omega) h
theorem v17 (s : ByteArray) (hs : s.size ≤ 160) : ∃ c, E 12 [.S s] [] = finC s c ∧ RdOk s c := by
  obtain ⟨e, n, q, hN, hb⟩ := v41 s (by omega)
  have h1 := cut2_size 32 s
  have h2 := cut2_size 32 (cut2 32 s)
  have h3 := cut1_size 32 (cut2 32 s)
  have hr := opS_rng (dl (cut1 32 s))
  have hw : ∀ d, callOk d = true → cut1 32 s = word1 d → (opS (dl (cut1 32 s))).1 = d.Op ∧ (opS (dl (cut1 32 s))).2 = kd d := fun d hd e => opS_ok hd e
  generalize (opS (dl (cut1 32 s))).1 = op at *
  generalize (opS (dl (cut1 32 s))).2 = bb at *
  have hf : Fit e := beh_fit (C0_fit ⟨hr.2.2.1, hr.2.2.2⟩ hN.1 (by omega)) (by omega) hb
  refine ⟨e, ?_, hf, fun d h1 h2 => beh_ok hN hw hb h1 h2⟩
  have T := finC_ok s e _ (v8 e hf)
  obtain ⟨X, hX⟩ : ∃ X, finC s e = some X := by
    unfold finC
    cases (callB e && decide (callT e = s)) <;> exact ⟨_, rfl⟩
  rw [hX] at T ⊢
  exact ev1 0 rfl ((e17 ..).trans (bf' (decide_eq_false (by simp only [zN]; omega)) (obind' q T)))
theorem z17 (s : ByteArray) (hs : 160 < s.size) : E 12 [.S s] [] = rRC zCall false := by
  refine ev1 0 rfl ((e17 ..).trans (bt' (decide_eq_true (by simp only [zN]; omega)) (bt' okTb2 ?_)))
  rw [nlT]; rfl
theorem z18 (s : ByteArray) (hs : 160 < s.size) : E 9 [.S s] [] = rRC zCall false := by
  refine ev1 0 rfl ((e18 ..).trans (bt' (decide_eq_true (by simp only [zN]; omega)) (bt' okTb2 ?_)))
  rw [nlT]; rfl
/-- Both read the same. -/
theorem vRead (s : ByteArray) : ∃ c b, E 12 [.S s] [] = rRC c b ∧ E 9 [.S s] [] = rRC c b ∧ ((b = true ∧ callB c = true ∧ callT c = s ∧ s.size ≤ 160) ∨ (b = false ∧ c = zCall)) ∧ (s.size ≤ 160 → ∀ d, callB d = true → callT d = s → c = d ∧ b = true) := by
  by_cases hs : s.size ≤ 160
  · obtain ⟨c, q, hf, hc⟩ := v17 s hs
    obtain ⟨d, q2, hf2, hd⟩ := v18 s hs
    by_cases h : callB c && decide (callT c = s)
    · have h' : callB c = true ∧ callT c = s := by simpa using h
      have e := hd c h'.1 h'.2
      subst e
      refine ⟨d, true, by rw [q, finC, h]; rfl, by rw [q2, finC, h]; rfl, .inl ⟨rfl, h'.1, h'.2, hs⟩, fun _ f h1 h2 => ⟨hc f h1 h2, rfl⟩⟩
    · have h2 : ¬ (callB d && decide (callT d = s)) = true := fun h2 => by
        have h' : callB d = true ∧ callT d = s := by simpa using h2
        have e := hc d h'.1 h'.2
        subst e
        exact h h2
      refine ⟨zCall, false, by rw [q, finC, eq_false_of_ne_true h]; rfl, by rw [q2, finC, eq_false_of_ne_true h2]; rfl, .inr ⟨rfl, rfl⟩, fun _ f h1 h2 => ?_⟩
      exfalso
      have e := hc f h1 h2
      subst e
      exact h (by rw [h1, h2]; simp)
  · exact ⟨zCall, false, z17 s (by omega), z18 s (by omega), .inr ⟨rfl, rfl⟩, fun h => absurd h hs⟩
end Go.Fw
