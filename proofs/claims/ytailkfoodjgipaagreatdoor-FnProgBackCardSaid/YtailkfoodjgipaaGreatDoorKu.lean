/- Values: terms that are read. -/
import Derived.Test.YtailkfoodjgipaaGreatDoorKt
set_option linter.unusedVariables false
set_option linter.unusedSimpArgs false
namespace Go.Fw
open Go.Proofs
theorem beqT {x y : ByteArray} (h : x = y) : (x.toList == y.toList) = true := by rw [h]; simp
theorem beqF {x y : ByteArray} (h : x ≠ y) : (x.toList == y.toList) = false := by
  refine eq_false_of_ne_true (fun e => h ?_)
  rw [ByteArray.toList_eq, ByteArray.toList_eq] at e
  exact ba_ext (eq_of_beq e)
theorem ext_l (x y : ByteArray) : (x ++ y).extract 0 x.size = x := by
  refine ba_ext ?_
  rw [ext_data, dapp, List.drop_zero, Nat.sub_zero]
  show (dl x ++ dl y).take (dl x).length = dl x
  simp
theorem ext_r (x y : ByteArray) : (x ++ y).extract x.size (x ++ y).size = y := by
  refine ba_ext ?_
  rw [ext_data, List.take_of_length_le (by rw [List.length_drop]; exact Nat.le_of_eq rfl), dapp]
  show (dl x ++ dl y).drop (dl x).length = dl y
  simp
theorem v86g (t : VTerm) (h : t.Op = 4 ∨ t.Op = 5 → numR t.Num) (hs : t.Text.size ≤ 1048576) : E 80 [slTerm t] [] = some (.S (termTxt t), []) := by
  have hn : t.Op = 4 ∨ t.Op = 5 → -999999999 ≤ t.Num ∧ t.Num ≤ 999999999 := h
  refine ev1 0 rfl ((e86 ..).trans ?_)
  unfold termTxt
  by_cases c4 : t.Op = 4
  · have a := v63 t.Num (by have := hn (.inl c4); omega) (by have := hn (.inl c4); omega)
    have b := txt_size10 (hn (.inl c4)).1 (hn (.inl c4)).2
    have hb : decide (1 + (txt t.Num).size ≤ 4294967296) = true := decide_eq_true (by omega)
    simp only [a, Option.bind_some, asS, hb]
    simp [c4]
    exact bt' hb rfl
  by_cases c5 : t.Op = 5
  · have a := v63 t.Num (by have := hn (.inr c5); omega) (by have := hn (.inr c5); omega)
    have b := txt_size10 (hn (.inr c5)).1 (hn (.inr c5)).2
    have hb : decide (1 + (txt t.Num).size ≤ 4294967296) = true := decide_eq_true (by omega)
    simp only [a, Option.bind_some, asS, hb]
    simp [c5]
    exact bt' hb rfl
  have hz : decide (1 + t.Text.size ≤ 4294967296) = true := decide_eq_true (by omega)
  rw [hz]
  rcases op_cases t.Op with h' | h' | h' | h' | h' | h' | h' | h' | h' | h' | ⟨h1, h2, h3, h4, h5, h6, h7, h8, h9, h10⟩
  all_goals first | (exact absurd h' c4) | (exact absurd h' c5) | (simp [h']; done) | (simp [h1, h2, h3, h4, h5, h6, h7, h8, h9, h10])
/-- The bytes of a kind's word. -/
def WL (i : Nat) : List UInt8 := [[], [97, 108, 108], [110, 117, 109], [116, 101, 120, 116], [60], [37], [94], [126], [33], [38], [124]].getD i []
theorem i10 {i : Nat} (h : 1 ≤ i ∧ i ≤ 10) : i = 1 ∨ i = 2 ∨ i = 3 ∨ i = 4 ∨ i = 5 ∨ i = 6 ∨ i = 7 ∨ i = 8 ∨ i = 9 ∨ i = 10 := by omega
theorem wd_dl {i : Nat} (h : 1 ≤ i ∧ i ≤ 10) : dl (wd i) = WL i := by
  rcases i10 h with rfl | rfl | rfl | rfl | rfl | rfl | rfl | rfl | rfl | rfl <;> rfl
theorem WL_hd : ∀ i, i < 11 → ∀ j, j < 11 → (WL i).head? = (WL j).head? → i = j := by decide
theorem WL_ne {i : Nat} (h : 1 ≤ i ∧ i ≤ 10) : WL i ≠ [] := by
  rcases i10 h with rfl | rfl | rfl | rfl | rfl | rfl | rfl | rfl | rfl | rfl <;> decide
theorem term_cases {u : VTerm} (h : okTm u = true) : (u = ⟨u.Op, 0, ByteArray.empty⟩ ∧ (u.Op = 1 ∨ u.Op = 2 ∨ u.Op = 3 ∨ u.Op = 8 ∨ u.Op = 9 ∨ u.Op = 10)) ∨ (u = ⟨4, u.Num, ByteArray.empty⟩ ∧ numR u.Num) ∨ (u = ⟨5, u.Num, ByteArray.empty⟩ ∧ numR u.Num ∧ 1 ≤ u.Num) ∨ (u = ⟨6, 0, u.Text⟩ ∧ 1 ≤ u.Text.size) ∨ (u = ⟨7, 0, u.Text⟩ ∧ 1 ≤ u.Text.size) := by
  obtain ⟨o, n, x⟩ := u
  have hp : okPart x = true → 1 ≤ x.size := fun h => by
    unfold okPart inR zN at h
    simp at h; omega
  rcases op_cases o with e | e | e | e | e | e | e | e | e | e | ⟨h1, h2, h3, h4, h5, h6, h7, h8, h9, h10⟩
  case inr.inr.inr.inl => subst e; simp [okTm, isOp, inR] at h; exact .inr (.inl ⟨by rw [emp_eq (x := x) (by simpa using h.2)], h.1⟩)
  case inr.inr.inr.inr.inl => subst e; simp [okTm, isOp, inR] at h; exact .inr (.inr (.inl ⟨by rw [emp_eq (x := x) (by simpa using h.2)], ⟨by have := h.1.1; show -999999999 ≤ n; omega, h.1.2⟩, h.1.1⟩))
  case inr.inr.inr.inr.inr.inl => subst e; simp [okTm, isOp] at h; exact .inr (.inr (.inr (.inl ⟨by rw [h.1], hp h.2⟩)))
  case inr.inr.inr.inr.inr.inr.inl => subst e; simp [okTm, isOp] at h; exact .inr (.inr (.inr (.inr ⟨by rw [h.1], hp h.2⟩)))
  case inr.inr.inr.inr.inr.inr.inr.inr.inr.inr => simp [okTm, isOp, h1, h2, h3, h4, h5, h6, h7, h8, h9, h10] at h
  all_goals (subst e; simp [okTm, isOp] at h; exact .inl ⟨by rw [emp_eq (x := x) (by simpa using h.2), h.1], by simp⟩)
/-- A right term's text: the kind's word, and the rest. -/
def rs (u : VTerm) : ByteArray := if u.Op = 4 ∨ u.Op = 5 then txt u.Num else u.Text
theorem term_rs {u : VTerm} (h : okTm u = true) : termTxt u = wd u.Op ++ rs u := by
  rw [wd_txt h]
  unfold rs
  split
  · have he : u.Text = ByteArray.empty := by
      rcases term_cases h with ⟨a, b⟩ | ⟨a, b⟩ | ⟨a, b⟩ | ⟨a, b⟩ | ⟨a, b⟩ <;> rename_i ho
      · rw [a]
      · rw [a]
      · rw [a]
      · rw [a] at ho; simp at ho
      · rw [a] at ho; simp at ho
    rw [he, ByteArray.append_empty]
  · rfl
theorem opN {u : VTerm} (h : okTm u = true) : ((u.Op.toNat : Nat) : Int) = u.Op ∧ 1 ≤ u.Op.toNat ∧ u.Op.toNat ≤ 10 := by
  have := okTm_op h
  omega
theorem term_dl {u : VTerm} (h : okTm u = true) : dl (termTxt u) = WL u.Op.toNat ++ dl (rs u) := by
  rw [term_rs h]
  show (wd u.Op ++ rs u).data.toList = _
  rw [dapp]
  have := wd_dl (opN h).2
  rw [(opN h).1] at this
  show dl (wd u.Op) ++ dl (rs u) = _
  rw [this]
theorem op_of_head {u : VTerm} (h : okTm u = true) {i : Nat} (hi : 1 ≤ i ∧ i ≤ 10) (e : (dl (termTxt u)).head? = (WL i).head?) : u.Op = i := by
  rw [term_dl h] at e
  have hn := WL_ne (opN h).2
  have : (WL u.Op.toNat).head? = (WL i).head? := by
    rw [← e]
    cases hw : WL u.Op.toNat with
    | nil => exact absurd hw hn
    | cons x r => rfl
  have := WL_hd _ (by have := (opN h).2; omega) _ (by omega) this
  have := (opN h).1
  omega
theorem txt_ne (n : Int) : dl (txt n) ≠ [] := by
  obtain ⟨x, r, e, _⟩ := txt_head n
  rw [e]; simp
theorem rs_ne {u : VTerm} (h : okTm u = true) (ho : u.Op = 4 ∨ u.Op = 5 ∨ u.Op = 6 ∨ u.Op = 7) : 1 ≤ (rs u).size := by
  unfold rs
  rcases term_cases h with ⟨a, b⟩ | ⟨a, b⟩ | ⟨a, b⟩ | ⟨a, b⟩ | ⟨a, b⟩
  · omega
  · rw [if_pos (by rw [a]; exact .inl rfl)]
    have := txt_ne u.Num
    rw [← dl_len]
    cases hd : dl (txt u.Num) with
    | nil => exact absurd hd this
    | cons x r => simp
  · rw [if_pos (by rw [a]; exact .inr rfl)]
    have := txt_ne u.Num
    rw [← dl_len]
    cases hd : dl (txt u.Num) with
    | nil => exact absurd hd this
    | cons x r => simp
  · rw [if_neg (by rw [a]; show ¬ ((6 : Int) = 4 ∨ (6 : Int) = 5); omega)]; exact b
  · rw [if_neg (by rw [a]; show ¬ ((7 : Int) = 4 ∨ (7 : Int) = 5); omega)]; exact b
/-- The text of a kind alone. -/
abbrev T0 (i : Nat) : ByteArray := termTxt ⟨i, 0, ByteArray.empty⟩
theorem txt0 : dl (txt 0) = [48] := by
  rw [txt_pos (by omega)]
  show dl (digs 0) = _
  rw [digs_zero rfl]
theorem T0_dl {i : Nat} (h : 1 ≤ i ∧ i ≤ 10) : dl (T0 i) = WL i ++ (if i = 4 ∨ i = 5 then [48] else []) := by
  rcases i10 h with rfl | rfl | rfl | rfl | rfl | rfl | rfl | rfl | rfl | rfl
  case inr.inr.inr.inl => show (bs [60] ++ txt 0).data.toList = _; rw [dapp]; show _ ++ dl (txt 0) = _; rw [txt0]; rfl
  case inr.inr.inr.inr.inl => show (bs [37] ++ txt 0).data.toList = _; rw [dapp]; show _ ++ dl (txt 0) = _; rw [txt0]; rfl
  all_goals first | rfl | (show ((bs _) ++ ByteArray.empty).data.toList = _; rw [dapp]; rfl)
theorem T0_head {i : Nat} (h : 1 ≤ i ∧ i ≤ 10) : (dl (T0 i)).head? = (WL i).head? := by
  rw [T0_dl h]
  cases hw : WL i with
  | nil => exact absurd hw (WL_ne h)
  | cons x r => rfl
theorem txt_48 {n : Int} (h : dl (txt n) = [48]) : n = 0 := by
  by_cases hn : n < 0
  · rw [txt_neg hn] at h; simp at h
  · rw [txt_pos hn] at h
    have := digs_nf n.natAbs
    rw [h] at this
    simp [nf] at this
    omega
theorem T0_inj {u : VTerm} (h : okTm u = true) {i : Nat} (hi : 1 ≤ i ∧ i ≤ 10) (e : termTxt u = T0 i) : (⟨i, 0, ByteArray.empty⟩ : VTerm) = u := by
  have ho := op_of_head h hi (by rw [e]; exact T0_head hi)
  have ed := congrArg dl e
  rw [term_dl h, T0_dl hi, show u.Op.toNat = i by omega] at ed
  have ed := List.append_cancel_left ed
  unfold rs at ed
  rcases term_cases h with ⟨a, b⟩ | ⟨a, b⟩ | ⟨a, b⟩ | ⟨a, b⟩ | ⟨a, b⟩
  · rw [a, ho]
  · have h4 : i = 4 := by have : u.Op = 4 := by rw [a]
                          omega
    rw [if_pos (.inl (by omega)), if_pos (.inl h4)] at ed
    rw [a, txt_48 ed, h4]; rfl
  · have h5 : i = 5 := by have : u.Op = 5 := by rw [a]
                          omega
    rw [if_pos (.inr (by omega)), if_pos (.inr h5)] at ed
    have := txt_48 ed
    omega
  · exfalso
    have h6 : u.Op = 6 := by rw [a]
    rw [if_neg (by omega), if_neg (by omega)] at ed
    have : u.Text.size = 0 := by rw [← dl_len, ed]; rfl
    omega
  · exfalso
    have h6 : u.Op = 7 := by rw [a]
    rw [if_neg (by omega), if_neg (by omega)] at ed
    have : u.Text.size = 0 := by rw [← dl_len, ed]; rfl
    omega
abbrev TOk (s : ByteArray) (t : VTerm) : Prop := t.Text.size ≤ s.size
theorem tl_dl (s : ByteArray) : dl (s.extract 1 s.size) = (dl s).drop 1 := by
  show (s.extract 1 s.size).data.toList = _
  rw [ext_data, List.take_of_length_le (by rw [List.length_drop]; exact Nat.le_of_eq rfl)]
theorem tail92 (s : ByteArray) (hs : s.size ≤ 1048576) (k : Nat) : ∃ t, HH 88 [] (k + 1) [true, false, true] (hdS [(0, .S s), (2, .pb 66 0), (3, nI 11)] [] [(66, 3, [nI 0, nI 0, .S ByteArray.empty])]) = some (slTerm t, []) ∧ TOk s t ∧
    ∀ u, okTm u = true → s = termTxt u → (∀ j, 1 ≤ j → j ≤ 10 → s ≠ T0 j) → t = u := by
  have hz : ByteArray.empty.size = 0 := rfl
  have z : ∃ t, some (AV.ag 3 (lstG [nI 0, nI 0, AV.S ByteArray.empty]), ([] : List AV)) = some (slTerm t, []) ∧ TOk s t ∧ t = zTerm := ⟨zTerm, rfl, by show ByteArray.empty.size ≤ _; omega, rfl⟩
  have cc : ∀ u, okTm u = true → s = termTxt u → (∀ j, 1 ≤ j → j ≤ 10 → s ≠ T0 j) → (u.Op = 4 ∨ u.Op = 5 ∨ u.Op = 6 ∨ u.Op = 7) := fun u hu e hn => by
    rcases term_cases hu with ⟨a, b⟩ | ⟨a, b⟩ | ⟨a, b⟩ | ⟨a, b⟩ | ⟨a, b⟩
    · exfalso
      refine hn u.Op.toNat (opN hu).2.1 (opN hu).2.2 ?_
      rw [e]
      show termTxt u = termTxt ⟨(u.Op.toNat : Int), 0, ByteArray.empty⟩
      rw [(opN hu).1, ← a]
    · rw [a]; exact .inl rfl
    · rw [a]; exact .inr (.inl rfl)
    · rw [a]; exact .inr (.inr (.inl rfl))
    · rw [a]; exact .inr (.inr (.inr rfl))
  by_cases he : s = ByteArray.empty
  · refine ⟨zTerm, ?_, by show ByteArray.empty.size ≤ _; omega, fun u hu e hn => ?_⟩
    · rw [hstep, h92, bf (by decide)]
      exact bt' (beqT he) rfl
    · exfalso
      have := rs_ne hu (cc u hu e hn)
      have h2 := congrArg ByteArray.size (e.symm.trans he)
      rw [term_rs hu, ByteArray.size_append] at h2
      omega
  have h1 : 1 ≤ s.size := by
    by_cases c : s.size = 0
    · exact absurd (ba_ext (List.eq_nil_of_length_eq_zero c)) he
    · omega
  obtain ⟨n, b, q, hn, hc⟩ := v76 (s.extract 1 s.size) (by have := ext_sz s 1 s.size; omega)
  have d1 : (decide (1 ≤ zN s.size) && decide (zN s.size ≤ zN s.size)) = true := by simp [zN]; omega
  have d0 : decide (0 < zN s.size) = true := decide_eq_true (by simp only [zN]; omega)
  have hT : (s.extract 1 s.size).size ≤ s.size := ext_sz ..
  obtain ⟨x, ed, eb⟩ := byN_drop (show 0 < s.size by omega)
  rw [List.drop_zero] at ed
  -- what a right term's text says here
  have who : ∀ u, okTm u = true → s = termTxt u → (∀ j, 1 ≤ j → j ≤ 10 → s ≠ T0 j) → (u.Op = 4 ∧ byN s 0 = 60 ∧ u = ⟨4, n, ByteArray.empty⟩) ∨ (u.Op = 5 ∧ byN s 0 = 37 ∧ u = ⟨5, n, ByteArray.empty⟩) ∨ (u.Op = 6 ∧ byN s 0 = 94 ∧ u = ⟨6, 0, s.extract 1 s.size⟩) ∨ (u.Op = 7 ∧ byN s 0 = 126 ∧ u = ⟨7, 0, s.extract 1 s.size⟩) := fun u hu e hno => by
    have ho := cc u hu e hno
    have hd := term_dl hu
    rw [← e] at hd
    have ex : s.extract 1 s.size = rs u := by
      refine dl_inj ?_
      rw [tl_dl, hd]
      rcases ho with ho | ho | ho | ho <;> (rw [ho]; rfl)
    rcases term_cases hu with ⟨a, b⟩ | ⟨a, b⟩ | ⟨a, b⟩ | ⟨a, b⟩ | ⟨a, b⟩
    · omega
    · have ho : u.Op = 4 := by rw [a]
      refine .inl ⟨ho, byN0 (x := 60) (by rw [hd, ho]; rfl), ?_⟩
      have : n = u.Num := (hc u.Num b (by rw [ex]; unfold rs; rw [if_pos (.inl ho)])).1
      rw [this]; exact a
    · have ho : u.Op = 5 := by rw [a]
      refine .inr (.inl ⟨ho, byN0 (x := 37) (by rw [hd, ho]; rfl), ?_⟩)
      have : n = u.Num := (hc u.Num b.1 (by rw [ex]; unfold rs; rw [if_pos (.inr ho)])).1
      rw [this]; exact a
    · have ho : u.Op = 6 := by rw [a]
      refine .inr (.inr (.inl ⟨ho, byN0 (x := 94) (by rw [hd, ho]; rfl), ?_⟩))
      rw [ex]; unfold rs; rw [if_neg (by omega)]; exact a
    · have ho : u.Op = 7 := by rw [a]
      refine .inr (.inr (.inr ⟨ho, byN0 (x := 126) (by rw [hd, ho]; rfl), ?_⟩))
      rw [ex]; unfold rs; rw [if_neg (by omega)]; exact a
  have htn : (zN s.size).toNat = s.size := by simp [zN]
  have go : ∀ X, (bif decide (byN s 0 = 60) then
            (some (AV.ag 3 (lstG [nI 4, nI n, AV.S ByteArray.empty]), []))
          else
            (bif decide (byN s 0 = 37) then
              (some (AV.ag 3 (lstG [nI 5, nI n, AV.S ByteArray.empty]), []))
            else
              (bif decide (byN s 0 = 94) then
                  (some (AV.ag 3 (lstG [nI 6, nI 0, AV.S (s.extract 1 s.size)]), []))
              else
                (bif decide (byN s 0 = 126) then
                    (some (AV.ag 3 (lstG [nI 7, nI 0, AV.S (s.extract 1 s.size)]), []))
                else
                  (some (AV.ag 3 (lstG [nI 0, nI 0, AV.S ByteArray.empty]), [])))))) = some X → HH 88 [] (k + 1) [true, false, true] (hdS [(0, .S s), (2, .pb 66 0), (3, nI 11)] [] [(66, 3, [nI 0, nI 0, .S ByteArray.empty])]) = some X := fun X hX => by
    rw [hstep, h92, bf (by decide)]
    refine bf' (beqF he) (bt' d1 (obind' (by rw [htn]; exact q) (bt' d0 ?_)))
    rw [htn, d1]
    exact hX
  by_cases c4 : byN s 0 = 60
  · refine ⟨⟨4, n, ByteArray.empty⟩, go _ (bt' (decide_eq_true c4) rfl), by show ByteArray.empty.size ≤ _; omega, fun u hu e hno => ?_⟩
    rcases who u hu e hno with ⟨a, b, c⟩ | ⟨a, b, c⟩ | ⟨a, b, c⟩ | ⟨a, b, c⟩ <;> first | (exact c.symm) | omega
  by_cases c5 : byN s 0 = 37
  · refine ⟨⟨5, n, ByteArray.empty⟩, go _ (bf' (decide_eq_false c4) (bt' (decide_eq_true c5) rfl)), by show ByteArray.empty.size ≤ _; omega, fun u hu e hno => ?_⟩
    rcases who u hu e hno with ⟨a, b, c⟩ | ⟨a, b, c⟩ | ⟨a, b, c⟩ | ⟨a, b, c⟩ <;> first | (exact c.symm) | omega
  by_cases c6 : byN s 0 = 94
  · refine ⟨⟨6, 0, s.extract 1 s.size⟩, go _ (bf' (decide_eq_false c4) (bf' (decide_eq_false c5) (bt' (decide_eq_true c6) rfl))), hT, fun u hu e hno => ?_⟩
    rcases who u hu e hno with ⟨a, b, c⟩ | ⟨a, b, c⟩ | ⟨a, b, c⟩ | ⟨a, b, c⟩ <;> first | (exact c.symm) | omega
  by_cases c7 : byN s 0 = 126
  · refine ⟨⟨7, 0, s.extract 1 s.size⟩, go _ (bf' (decide_eq_false c4) (bf' (decide_eq_false c5) (bf' (decide_eq_false c6) (bt' (decide_eq_true c7) rfl)))), hT, fun u hu e hno => ?_⟩
    rcases who u hu e hno with ⟨a, b, c⟩ | ⟨a, b, c⟩ | ⟨a, b, c⟩ | ⟨a, b, c⟩ <;> first | (exact c.symm) | omega
  · refine ⟨zTerm, go _ (bf' (decide_eq_false c4) (bf' (decide_eq_false c5) (bf' (decide_eq_false c6) (bf' (decide_eq_false c7) rfl)))), by show ByteArray.empty.size ≤ _; omega, fun u hu e hno => ?_⟩
    rcases who u hu e hno with ⟨a, b, c⟩ | ⟨a, b, c⟩ | ⟨a, b, c⟩ | ⟨a, b, c⟩ <;> omega
theorem l92 (s : ByteArray) (hs : s.size ≤ 1048576) : ∀ (k i : Nat), i + k = 11 → 1 ≤ i → ∃ t, HH 88 [] (k + 1) [true, false, true] (hdS [(0, .S s), (2, .pb 66 0), (3, nI (i : Int))] [] [(66, 3, [nI 0, nI 0, .S ByteArray.empty])]) = some (slTerm t, []) ∧ TOk s t ∧
    ∀ u, okTm u = true → s = termTxt u → (∀ j, 1 ≤ j → j < i → s ≠ T0 j) → t = u := by
  intro k
  induction k with
  | zero =>
    intro i hi h1
    obtain rfl : i = 11 := by omega
    obtain ⟨t, h, h2, h3⟩ := tail92 s hs 0
    exact ⟨t, h, h2, fun u hu e hn => h3 u hu e (fun j ha hb => hn j ha (by omega))⟩
  | succ k ih =>
    intro i hi h1
    have q := v86g ⟨i, 0, ByteArray.empty⟩ (fun _ => by show numR 0; exact ⟨by omega, by omega⟩) (by show ByteArray.empty.size ≤ _; decide)
    by_cases c : s = T0 i
    · refine ⟨⟨i, 0, ByteArray.empty⟩, ?_, by show ByteArray.empty.size ≤ _; have : ByteArray.empty.size = 0 := rfl; omega, fun u hu e _ => T0_inj hu ⟨h1, by omega⟩ (e.symm.trans c)⟩
      rw [hstep, h92, bt (by simp; omega)]
      exact obind' q (bt' (beqT c) rfl)
    · obtain ⟨t, h, h2, h3⟩ := ih (i + 1) (by omega) (by omega)
      refine ⟨t, ?_, h2, fun u hu e hn => h3 u hu e (fun j ha hb => ?_)⟩
      · rw [hstep, h92, bt (by simp; omega)]
        refine obind' q (bf' (beqF c) ?_)
        rw [wrapN (by omega)]
        exact h
      · by_cases hj : j = i
        · rw [hj]; exact c
        · exact hn j ha (by omega)
theorem v92 (s : ByteArray) (hs : s.size ≤ 1048576) : ∃ t, E 88 [.S s] [] = some (slTerm t, []) ∧ TOk s t ∧ ∀ u, okTm u = true → s = termTxt u → t = u := by
  obtain ⟨t, h, h2, h3⟩ := l92 s hs 10 1 (by omega) (by omega)
  exact ⟨t, ev1 11 rfl ((e92 ..).trans h), h2, fun u hu e => h3 u hu e (fun j ha hb => by omega)⟩
end Go.Fw
