/- Values: a call that is read. -/
import Derived.Test.YtailkfoodjgipaaGreatDoorKy
set_option linter.unusedVariables false
set_option linter.unusedSimpArgs false
namespace Go.Fw
open Go.Proofs
abbrev cellsC (c : VCall) : List AV := [nI c.Op, nI c.A, nI c.B, nI c.Tok, .S c.Name, nI c.Msg.Kind, nI c.Msg.Num, .S c.Msg.Text, owTermS c.Filter]
theorem v45 (c : VCall) (m : ByteArray) (hm : m.size ≤ 1048576) : ∃ e, E 35 [.pb 0 0, .S m] [.nbx 9 (lstG (cellsC c))] = some (.tup 0 (lstG []), [.nbx 9 (lstG (cellsC e))]) ∧ Beh c m e := by
  have q0 := v42 32 m (by omega)
  have s1 := cut1_size 32 m
  have s2 := cut2_size 32 m
  by_cases c9 : c.Op = 9
  · obtain ⟨x, b, q, hx⟩ := v77 m hm
    exact ⟨_, ev1 0 rfl ((e45 ..).trans (obind' q0 (bt' (decide_eq_true c9) (bt' (decide_eq_true c9) (obind' q (bt' okTb rfl)))))), .msg (.inl c9) x hx⟩
  by_cases c13 : c.Op = 13
  · obtain ⟨x, b, q, hx⟩ := v77 m hm
    exact ⟨_, ev1 0 rfl ((e45 ..).trans (obind' q0 (bf' (decide_eq_false c9) (bt' (decide_eq_true c13) (obind' q (bt' okTb rfl)))))), .msg (.inr c13) x hx⟩
  by_cases c7 : c.Op = 7
  · obtain ⟨n, b, q, hn, hc⟩ := v44 m hm
    exact ⟨_, ev1 0 rfl ((e45 ..).trans (obind' q0 (bf' (decide_eq_false c9) (bf' (decide_eq_false c13) (bt' (decide_eq_true c7) (bt' (decide_eq_true c7) (obind' q (bt' okTb rfl)))))))), .num (.inl c7) n ⟨hn, hc⟩⟩
  by_cases c19 : c.Op = 19
  · obtain ⟨n, b, q, hn, hc⟩ := v44 m hm
    exact ⟨_, ev1 0 rfl ((e45 ..).trans (obind' q0 (bf' (decide_eq_false c9) (bf' (decide_eq_false c13) (bf' (decide_eq_false c7) (bt' (decide_eq_true c19) (obind' q (bt' okTb rfl)))))))), .num (.inr c19) n ⟨hn, hc⟩⟩
  by_cases c14 : c.Op = 14
  · by_cases bk : cut1 32 m = bkW
    · have q1 := v42 32 (cut2 32 m) (by omega)
      have hB : mB m = cut2 32 m := if_pos bk
      by_cases hi : cut1 32 (cut2 32 m) = ifW
      · obtain ⟨fs, b, q, hf⟩ := v78 (cut2 32 (cut2 32 m)) (by have := cut2_size 32 (cut2 32 m); omega)
        refine ⟨_, ev1 0 rfl ((e45 ..).trans (obind' q0 (bf' (decide_eq_false c9) (bf' (decide_eq_false c13) (bf' (decide_eq_false c7) (bf' (decide_eq_false c19) (bt' (decide_eq_true c14) (bt' (beqT bk) (obind' q1 (bt' (beqT hi) (obind' q (bt' okTb ?_)))))))))))), .fil c14 (by rw [hB]; exact hi) fs (by rw [hB]; exact hf)⟩
        rw [if_pos bk]; rfl
      · refine ⟨_, ev1 0 rfl ((e45 ..).trans (obind' q0 (bf' (decide_eq_false c9) (bf' (decide_eq_false c13) (bf' (decide_eq_false c7) (bf' (decide_eq_false c19) (bt' (decide_eq_true c14) (bt' (beqT bk) (obind' q1 (bf' (beqF hi) (bt' okTb ?_))))))))))), .nof c14 (by rw [hB]; exact hi)⟩
        rw [if_pos bk]
    · have hB : mB m = m := if_neg bk
      by_cases hi : cut1 32 m = ifW
      · obtain ⟨fs, b, q, hf⟩ := v78 (cut2 32 m) (by omega)
        refine ⟨_, ev1 0 rfl ((e45 ..).trans (obind' q0 (bf' (decide_eq_false c9) (bf' (decide_eq_false c13) (bf' (decide_eq_false c7) (bf' (decide_eq_false c19) (bt' (decide_eq_true c14) (bf' (beqF bk) (bt' (beqT hi) (obind' q (bt' okTb ?_))))))))))), .fil c14 (by rw [hB]; exact hi) fs (by rw [hB]; exact hf)⟩
        rw [if_neg bk]; rfl
      · refine ⟨_, ev1 0 rfl ((e45 ..).trans (obind' q0 (bf' (decide_eq_false c9) (bf' (decide_eq_false c13) (bf' (decide_eq_false c7) (bf' (decide_eq_false c19) (bt' (decide_eq_true c14) (bf' (beqF bk) (bf' (beqF hi) (bt' okTb ?_)))))))))), .nof c14 (by rw [hB]; exact hi)⟩
        rw [if_neg bk]
  have hno : ¬ (c.Op = 9 ∨ c.Op = 13 ∨ c.Op = 7 ∨ c.Op = 19 ∨ c.Op = 14) := by omega
  by_cases hi : cut1 32 m = byW
  · obtain ⟨n, b, q, hn, hc⟩ := v44 (cut2 32 m) (by omega)
    exact ⟨_, ev1 0 rfl ((e45 ..).trans (obind' q0 (bf' (decide_eq_false c9) (bf' (decide_eq_false c13) (bf' (decide_eq_false c7) (bf' (decide_eq_false c19) (bf' (decide_eq_false c14) (bt' (beqT hi) (obind' q (bt' okTb rfl)))))))))), .tok hno hi n ⟨hn, hc⟩⟩
  · exact ⟨_, ev1 0 rfl ((e45 ..).trans (obind' q0 (bf' (decide_eq_false c9) (bf' (decide_eq_false c13) (bf' (decide_eq_false c7) (bf' (decide_eq_false c19) (bf' (decide_eq_false c14) (bf' (beqF hi) (bt' okTb rfl))))))))), .nok hno hi⟩
abbrev rRC (c : VCall) (b : Bool) : Option (AV × List AV) := some (.tup 2 (lstG [.ag 9 (lstG (cellsC c)), .B b]), [])
def finC (s : ByteArray) (c : VCall) : Option (AV × List AV) := bif callB c && decide (callT c = s) then rRC c true else rRC zCall false
theorem okTb2 : (bif bif okT then true else false then true else false) = true := by rw [okTb]; rfl
theorem finC_ok (s : ByteArray) (c : VCall) (r : Option (AV × List AV)) (hr : r = rCall c) : (Option.bind r fun r2 =>
    bif !asB (asA r2.fst 1) then
      (bif bif bif okT then true else false then true else false then
        (some (AV.tup 2 (lstG [AV.ag 9 (lstG [nI 0, nI 0, nI 0, nI 0, AV.S ByteArray.empty, nI 0, nI 0, AV.S ByteArray.empty, AV.own 0 3 fun i => lstG [nI 0, nI 0, AV.S ByteArray.empty]]), AV.B false]), []))
      else
        (none))
    else
      (bif !(asS (asA r2.fst 0)).toList == s.toList then
        (bif bif bif okT then true else false then true else false then
          (some (AV.tup 2 (lstG [AV.ag 9 (lstG [nI 0, nI 0, nI 0, nI 0, AV.S ByteArray.empty, nI 0, nI 0, AV.S ByteArray.empty, AV.own 0 3 fun i => lstG [nI 0, nI 0, AV.S ByteArray.empty]]), AV.B false]), []))
        else
          (none))
      else
        (bif bif bif okT then true else false then true else false then
          (rRC c true)
        else
          (none)))) = finC s c := by
  subst hr
  rw [okTb2, nlT]
  show (bif !callB c then rRC zCall false else (bif !((callT c).toList == s.toList) then rRC zCall false else rRC c true)) = _
  unfold finC
  cases callB c with
  | false => rfl
  | true =>
    by_cases e : callT c = s
    · rw [beqT e, decide_eq_true e]; rfl
    · rw [beqF e, decide_eq_false e]; rfl
abbrev RdOk (s : ByteArray) (c : VCall) : Prop := Fit c ∧ ∀ d, callB d = true → callT d = s → c = d
theorem v18 (s : ByteArray) (hs : s.size ≤ 160) : ∃ c, E 9 [.S s] [] = finC s c ∧ RdOk s c := by
  have q1 := v42 32 s (by omega)
  have h1 := cut2_size 32 s
  have q2 := v43 (cut1 32 s)
  have q3 := v42 32 (cut2 32 s) (by omega)
  have h2 := cut2_size 32 (cut2 32 s)
  have h3 := cut1_size 32 (cut2 32 s)
  obtain ⟨n, b, q4, hn, hc⟩ := v44 (cut1 32 (cut2 32 s)) (by omega)
  have hr := opI_rng (dl (cut1 32 s))
  obtain ⟨e, q5, hb⟩ := v45 (C0 (opI (dl (cut1 32 s))).1 (opI (dl (cut1 32 s))).2 n (cut1 32 (cut2 32 s))) (cut2 32 (cut2 32 s)) (by omega)
  have hw : ∀ d, callOk d = true → cut1 32 s = word1 d → (opI (dl (cut1 32 s))).1 = d.Op ∧ (opI (dl (cut1 32 s))).2 = kd d := fun d hd e => opI_ok hd e
  generalize (opI (dl (cut1 32 s))).1 = op at *
  generalize (opI (dl (cut1 32 s))).2 = bb at *
  have hf : Fit e := beh_fit (C0_fit ⟨hr.2.2.1, hr.2.2.2⟩ hn (by omega)) (by omega) hb
  refine ⟨e, ?_, hf, fun d h1 h2 => beh_ok ⟨hn, hc⟩ hw hb h1 h2⟩
  have T := finC_ok s e _ (v10 e hf)
  obtain ⟨X, hX⟩ : ∃ X, finC s e = some X := by
    unfold finC
    cases (callB e && decide (callT e = s)) <;> exact ⟨_, rfl⟩
  rw [hX] at T ⊢
  refine ev1 0 rfl ((e18 ..).trans (bf' (decide_eq_false (by simp only [zN]; omega)) (obind' q1 (obind' q2 (obind' q3 (obind' q4 ?_))))))
  rw [nlT] at T ⊢
  by_cases c13 : op = 13
  · have hC : C0 op bb n (cut1 32 (cut2 32 s)) = ⟨op, 0, bb, -1, cut1 32 (cut2 32 s), zMsg, []⟩ := by unfold C0; rw [if_pos c13]
    rw [hC] at q5
    exact bt' (decide_eq_true c13) (obind' q5 T)
  by_cases c15 : op = 15
  · have hC : C0 op bb n (cut1 32 (cut2 32 s)) = ⟨op, 0, n, -1, ByteArray.empty, zMsg, []⟩ := by unfold C0; rw [if_neg c13, if_pos (.inl c15)]
    rw [hC] at q5
    exact bf' (decide_eq_false c13) (bt' (decide_eq_true c15) (bt' (decide_eq_true c15) (obind' q5 T)))
  by_cases c16 : op = 16
  · have hC : C0 op bb n (cut1 32 (cut2 32 s)) = ⟨op, 0, n, -1, ByteArray.empty, zMsg, []⟩ := by unfold C0; rw [if_neg c13, if_pos (.inr c16)]
    rw [hC] at q5
    exact bf' (decide_eq_false c13) (bf' (decide_eq_false c15) (bt' (decide_eq_true c16) (obind' q5 T)))
  · have hC : C0 op bb n (cut1 32 (cut2 32 s)) = ⟨op, n, bb, -1, ByteArray.empty, zMsg, []⟩ := by unfold C0; rw [if_neg c13, if_neg (by omega)]
    rw [hC] at q5
    exact bf' (decide_eq_false c13) (bf' (decide_eq_false c15) (bf' (decide_eq_false c16) (obind' q5 T)))
end Go.Fw
