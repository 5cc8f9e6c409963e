/- Values: a text of many calls, read. -/
import Derived.Test.YtailkfoodjgipaaGreatDoorD6
set_option linter.unusedVariables false
set_option linter.unusedSimpArgs false
namespace Go.Fw
open Go.Proofs
/-- What a line tells. -/
noncomputable def rdC (s : ByteArray) : VCall := (vRead s).choose
noncomputable def rdB (s : ByteArray) : Bool := (vRead s).choose_spec.choose
theorem rd_spec (s : ByteArray) : E 12 [.S s] [] = rRC (rdC s) (rdB s) ∧ E 9 [.S s] [] = rRC (rdC s) (rdB s) ∧ ((rdB s = true ∧ callB (rdC s) = true ∧ callT (rdC s) = s ∧ s.size ≤ 160) ∨ (rdB s = false ∧ rdC s = zCall)) ∧ (s.size ≤ 160 → ∀ d, callB d = true → callT d = s → rdC s = d ∧ rdB s = true) := (vRead s).choose_spec.choose_spec
theorem cut2_lt {c : UInt8} {s : ByteArray} (h : s ≠ ByteArray.empty) : (cut2 c s).size < s.size := by
  have h1 : 1 ≤ s.size := by
    by_cases e : s.size = 0
    · exact absurd (ba_ext (List.eq_nil_of_length_eq_zero e)) h
    · omega
  rw [← dl_len, cut2_dl, List.length_drop]
  have := (List.dropWhile_suffix (l := dl s) (· != c)).length_le
  rw [dl_len s] at this
  omega
noncomputable def RP (s : ByteArray) (cs : List VCall) : List VCall × Int :=
  if h : s = ByteArray.empty then (cs, -1)
  else if rdB (cut1 10 s) = false ∨ cutF 10 s = false ∨ cs.length = 30 then ([], cs.length)
  else RP (cut2 10 s) (cs ++ [rdC (cut1 10 s)])
termination_by s.size
decreasing_by exact cut2_lt h
abbrev rP (p : List VCall × Int) : Option (AV × List AV) := some (.tup 2 (lstG [owCallS p.1, nI p.2]), [])
theorem okUb : (bif okU then true else false) = true := by rw [okU_eq]; rfl
theorem l22 : ∀ (k : Nat) (s : ByteArray) (cs : List VCall), s.size ≤ k → s.size ≤ 1048576 → cs.length ≤ 30 →
    HH 16 [] (k + 1) [true, true, false] (hdS [(0, .S s), (4, .rf 425984)] [(425984, ⟨cs.length, 9, goCallS cs⟩)] []) = rP (RP s cs) := by
  intro k
  induction k with
  | zero =>
    intro s cs hk hs hl
    have he : s = ByteArray.empty := ba_ext (List.eq_nil_of_length_eq_zero (show s.size = 0 by omega))
    rw [RP, dif_pos he, hstep, h22, bf (by rw [beqT he]; rfl)]
    exact bt' okUb rfl
  | succ k ih =>
    intro s cs hk hs hl
    by_cases he : s = ByteArray.empty
    · rw [RP, dif_pos he, hstep, h22, bf (by rw [beqT he]; rfl)]
      exact bt' okUb rfl
    have q1 := v42 10 s (by omega)
    have hd := rd_spec (cut1 10 s)
    rw [RP, dif_neg he, hstep, h22, bt (by rw [beqF he]; rfl), nlC]
    by_cases c1 : rdB (cut1 10 s) = false
    · rw [if_pos (.inl c1)]
      exact obind' q1 (obind' hd.2.1 (bt' (by show (!rdB (cut1 10 s)) = true; rw [c1]; rfl) (bt' okUb rfl)))
    have c1' : rdB (cut1 10 s) = true := by simpa using c1
    by_cases c2 : cutF 10 s = false
    · rw [if_pos (.inr (.inl c2))]
      exact obind' q1 (obind' hd.2.1 (bf' (by show (!rdB (cut1 10 s)) = false; rw [c1']; rfl) (bt' (by show (!cutF 10 s) = true; rw [c2]; rfl) (bt' okUb rfl))))
    have c2' : cutF 10 s = true := by simpa using c2
    by_cases c3 : cs.length = 30
    · rw [if_pos (.inr (.inr c3))]
      exact obind' q1 (obind' hd.2.1 (bf' (by show (!rdB (cut1 10 s)) = false; rw [c1']; rfl) (bf' (by show (!cutF 10 s) = false; rw [c2']; rfl) (bt' (decide_eq_true (by simp only [zN]; omega)) (bt' okUb rfl)))))
    · rw [if_neg (fun h => h.elim c1 (fun h => h.elim c2 c3))]
      have hlt := cut2_lt (c := 10) he
      have := ih (cut2 10 s) (cs ++ [rdC (cut1 10 s)]) (by omega) (by omega) (by simp; omega)
      refine obind' q1 (obind' hd.2.1 (bf' (by show (!rdB (cut1 10 s)) = false; rw [c1']; rfl) (bf' (by show (!cutF 10 s) = false; rw [c2']; rfl) (bf' (decide_eq_false (by simp only [zN]; omega)) (bt' (by simp; omega) ?_)))))
      rw [show (cs ++ [rdC (cut1 10 s)]).length = cs.length + 1 by simp] at this
      refine Eq.trans ?_ this
      exact congrArg (fun g => HH 16 [] (k + 1) [true, true, false] (hdS [(0, .S (cut2 10 s)), (4, .rf 425984)] [(425984, ⟨cs.length + 1, 9, g⟩)] [])) app_CallS
theorem v22 (s : ByteArray) (hs : s.size ≤ 1048576) : E 16 [.S s] [] = rP (RP s []) := by
  refine ev1 (s.size + 1) rfl ((e22 ..).trans ?_)
  rw [nlC]
  exact l22 s.size s [] (Nat.le_refl _) hs (by simp)
theorem ext_dl (s : ByteArray) (a b : Nat) : dl (s.extract a b) = ((dl s).drop a).take (b - a) := by
  show (s.extract a b).data.toList = _
  rw [ext_data]
theorem ext_end (s : ByteArray) (a : Nat) : dl (s.extract a s.size) = (dl s).drop a := by
  rw [ext_dl, List.take_of_length_le (by rw [List.length_drop]; exact Nat.le_refl _)]
theorem ext_split (s : ByteArray) {a i : Nat} (h : a ≤ i) : (dl s).drop a = dl (s.extract a i) ++ (dl s).drop i := by
  rw [ext_dl]
  have := List.take_append_drop (i - a) ((dl s).drop a)
  rw [List.drop_drop, show a + (i - a) = i by omega] at this
  exact this.symm
abbrev noNl (s : ByteArray) : Prop := ∀ b ∈ dl s, b ≠ 10
theorem l21 (s : ByteArray) (hs : s.size ≤ 1048576) : ∀ k : Nat,
    (∀ (a : Nat) (cs : List VCall), a ≤ s.size → cs.length ≤ 30 → 2 * (s.size - a) + 2 ≤ k → HH 17 [] k [true, true, true, false] (hdS [(0, .S s), (4, .rf 479232), (5, nI (a : Int))] [(479232, ⟨cs.length, 9, goCallS cs⟩)] []) = rP (RP (s.extract a s.size) cs)) ∧
    (∀ (a i : Nat) (cs : List VCall), a ≤ i → i ≤ s.size → a < s.size → noNl (s.extract a i) → cs.length ≤ 30 → 2 * (s.size - i) + 1 ≤ k → HH 17 [] k [true, true, true, false, true, true, true, false] (hdS [(0, .S s), (4, .rf 479232), (5, nI (a : Int)), (6, nI (i : Int))] [(479232, ⟨cs.length, 9, goCallS cs⟩)] []) = rP (RP (s.extract a s.size) cs)) := by
  intro k
  induction k with
  | zero => exact ⟨fun a cs h1 h2 h3 => by omega, fun a i cs h1 h2 h3 h4 h5 h6 => by omega⟩
  | succ k ih =>
    refine ⟨fun a cs h1 h2 h3 => ?_, fun a i cs h1 h2 h3 h4 h5 h6 => ?_⟩
    · by_cases c : a < s.size
      · rw [hstep, h21a, bt (by simp [zN]; omega)]
        exact ih.2 a a cs (Nat.le_refl _) h1 c (fun b hb => by rw [ext_dl, Nat.sub_self, List.take_zero] at hb; simp at hb) h2 (by omega)
      · have he : s.extract a s.size = ByteArray.empty := dl_inj (by rw [ext_end, List.drop_eq_nil_of_le (by rw [dl_len]; omega)]; rfl)
        rw [hstep, h21a, bf (by simp [zN]; omega), he, RP, dif_pos rfl]
        exact bt' okUb rfl
    · have he : s.extract a s.size ≠ ByteArray.empty := fun e => by
        have := congrArg (fun x => (dl x).length) e
        simp only [ext_end, List.length_drop, dl_len] at this
        have hz : ByteArray.empty.size = 0 := rfl
        omega
      have dx : (decide (0 ≤ (a : Int)) && decide ((a : Int) ≤ (i : Int)) && decide ((i : Int) ≤ zN s.size)) = true := by simp [zN]; omega
      have hd := rd_spec (s.extract a i)
      by_cases c : i < s.size
      · obtain ⟨x, ed, eb⟩ := byN_drop c
        rw [hstep, h21b, bt (by simp [zN]; omega), bt (bnd c), Int.toNat_natCast, Int.toNat_natCast, eb]
        by_cases h10 : x = 10
        · have hb : (!decide ((x.toNat : Int) = 10)) = false := by rw [h10]; rfl
          have split : s.extract a s.size = s.extract a i ++ bs [10] ++ s.extract (i + 1) s.size := by
            refine dl_inj ?_
            rw [ext_end, ext_split s h1, ed, h10]
            show _ = (s.extract a i ++ bs [10] ++ s.extract (i + 1) s.size).data.toList
            rw [dapp, dapp]
            show _ = dl (s.extract a i) ++ [10] ++ dl (s.extract (i + 1) s.size)
            rw [ext_end]; simp
          obtain ⟨e1, e2, e3⟩ := cut_app 10 (s.extract (i + 1) s.size) h4
          rw [← split] at e1 e2 e3
          rw [bf hb, bt dx, nlC, RP, dif_neg he, e1, e2, e3]
          by_cases c1 : rdB (s.extract a i) = false
          · rw [if_pos (.inl c1)]
            exact obind' hd.1 (bt' (by show (!rdB (s.extract a i)) = true; rw [c1]; rfl) (bt' okUb rfl))
          have c1' : rdB (s.extract a i) = true := by simpa using c1
          by_cases c3 : cs.length = 30
          · rw [if_pos (.inr (.inr c3))]
            exact obind' hd.1 (bf' (by show (!rdB (s.extract a i)) = false; rw [c1']; rfl) (bf' (decide_eq_false (by simp only [zN]; omega)) (bt' (decide_eq_true (by simp only [zN]; omega)) (bt' okUb rfl))))
          · rw [if_neg (fun h => h.elim c1 (fun h => h.elim (by simp) c3))]
            have nx := ih.1 (i + 1) (cs ++ [rdC (s.extract a i)]) (by omega) (by simp; omega) (by omega)
            refine obind' hd.1 (bf' (by show (!rdB (s.extract a i)) = false; rw [c1']; rfl) (bf' (decide_eq_false (by simp only [zN]; omega)) (bf' (decide_eq_false (by simp only [zN]; omega)) (bt' (by simp; omega) ?_))))
            rw [wrapN (by omega)]
            rw [show (cs ++ [rdC (s.extract a i)]).length = cs.length + 1 by simp] at nx
            refine Eq.trans ?_ nx
            exact congrArg (fun g => HH 17 [] k [true, true, true, false] (hdS [(0, .S s), (4, .rf 479232), (5, nI ((i + 1 : Nat) : Int))] [(479232, ⟨cs.length + 1, 9, g⟩)] [])) app_CallS
        · have hx : ¬ ((x.toNat : Int) = 10) := fun e => h10 (UInt8.toNat_inj.1 (by show x.toNat = 10; omega))
          rw [bt (by rw [decide_eq_false hx]; rfl), wrapN (by omega)]
          refine ih.2 a (i + 1) cs (by omega) (by omega) h3 (fun b hb => ?_) h5 (by omega)
          have e4 : dl (s.extract a (i + 1)) = dl (s.extract a i) ++ [x] := by
            rw [ext_dl, ext_dl, show i + 1 - a = (i - a) + 1 by omega, List.take_add]
            congr 1
            rw [List.drop_drop, show a + (i - a) = i by omega, ed]
            rfl
          rw [e4] at hb
          rcases List.mem_append.1 hb with hb | hb
          · exact h4 b hb
          · rw [List.mem_singleton.1 hb]; exact h10
      · obtain rfl : i = s.size := by omega
        obtain ⟨e1, e2, e3⟩ := cut_no 10 h4
        rw [hstep, h21b, bf (by simp [zN]), bt dx, nlC, RP, dif_neg he, e1, e3, if_pos (.inr (.inl rfl)), Int.toNat_natCast, Int.toNat_natCast]
        by_cases c1 : rdB (s.extract a s.size) = false
        · exact obind' hd.1 (bt' (by show (!rdB (s.extract a s.size)) = true; rw [c1]; rfl) (bt' okUb rfl))
        · have c1' : rdB (s.extract a s.size) = true := by simpa using c1
          exact obind' hd.1 (bf' (by show (!rdB (s.extract a s.size)) = false; rw [c1']; rfl) (bt' (decide_eq_true rfl) (bt' okUb rfl)))
theorem ext_all (s : ByteArray) : s.extract 0 s.size = s := dl_inj (by rw [ext_end, List.drop_zero])
theorem v21 (s : ByteArray) (hs : s.size ≤ 1048576) : E 17 [.S s] [] = rP (RP s []) := by
  refine ev1 (2 * s.size + 2) rfl ((e21 ..).trans ?_)
  rw [nlC]
  have := (l21 s hs (2 * s.size + 2)).1 0 [] (by omega) (by simp) (by omega)
  rw [ext_all] at this
  exact this
end Go.Fw
