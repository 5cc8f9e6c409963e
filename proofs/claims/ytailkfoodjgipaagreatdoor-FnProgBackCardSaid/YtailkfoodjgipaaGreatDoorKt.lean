/- Values: messages that are read; texts cut at their first byte of a kind. -/
import Derived.Test.YtailkfoodjgipaaGreatDoorKs
set_option linter.unusedVariables false
set_option linter.unusedSimpArgs false
namespace Go.Fw
open Go.Proofs
theorem q_dl (T : ByteArray) : dl (bs [34] ++ T ++ bs [34]) = 34 :: (dl T ++ [34]) := by
  show (bs [34] ++ T ++ bs [34]).data.toList = _
  rw [dapp, dapp]; rfl
theorem q_size (T : ByteArray) : (bs [34] ++ T ++ bs [34]).size = T.size + 2 := by
  rw [← dl_len, q_dl]; simp [dl_len]
theorem q_ext (T : ByteArray) : (bs [34] ++ T ++ bs [34]).extract 1 (T.size + 1) = T := by
  refine ba_ext ?_
  rw [ext_data]
  show ((dl (bs [34] ++ T ++ bs [34])).drop 1).take (T.size + 1 - 1) = dl T
  rw [q_dl, List.drop_succ_cons, List.drop_zero, Nat.add_sub_cancel, ← dl_len, List.take_left']
  rfl
theorem msg_cases {m : VMsg} (h : okMs m = true) : (m = ⟨1, m.Num, ByteArray.empty⟩ ∧ numR m.Num ∧ msgTxt m = txt m.Num) ∨ (m = ⟨2, 0, m.Text⟩ ∧ msgTxt m = bs [34] ++ m.Text ++ bs [34] ∧ okPl m.Text = true) := by
  by_cases hk : m.Kind = 1
  · have := msg1 h hk
    exact .inl ⟨this.1, this.2, by unfold msgTxt; rw [if_pos h, if_pos hk]⟩
  · have := msg2 h hk
    refine .inr ⟨?_, by unfold msgTxt; rw [if_pos h, if_neg hk], this.2.2⟩
    obtain ⟨K, N, T⟩ := m
    simp only at this
    rw [this.1, this.2.1]
theorem msg_q {s : ByteArray} {m : VMsg} (h : okMs m = true) (e : s = msgTxt m) (h34 : byN s 0 = 34) : 2 ≤ s.size ∧ m = ⟨2, 0, s.extract 1 (s.size - 1)⟩ := by
  rcases msg_cases h with ⟨h1, h2, h3⟩ | ⟨h1, h2, h3⟩
  · exfalso
    obtain ⟨x, r, ex, hx⟩ := txt_head m.Num
    rw [byN0 (s := s) (by rw [e, h3]; exact ex)] at h34
    exact hx (UInt8.toNat_inj.1 (by have : (34 : UInt8).toNat = 34 := rfl; omega))
  · have hz : s.size = m.Text.size + 2 := by rw [e, h2, q_size]
    refine ⟨by omega, ?_⟩
    rw [hz, show m.Text.size + 2 - 1 = m.Text.size + 1 by omega, e, h2, q_ext]
    exact h1
theorem msg_n {s : ByteArray} {m : VMsg} (h : okMs m = true) (e : s = msgTxt m) (h34 : s.size < 2 ∨ byN s 0 ≠ 34) : m = ⟨1, m.Num, ByteArray.empty⟩ ∧ numR m.Num ∧ s = txt m.Num := by
  rcases msg_cases h with ⟨h1, h2, h3⟩ | ⟨h1, h2, h3⟩
  · exact ⟨h1, h2, e.trans h3⟩
  · exfalso
    have hz : s.size = m.Text.size + 2 := by rw [e, h2, q_size]
    have : byN s 0 = 34 := byN0 (x := 34) (r := dl m.Text ++ [34]) (by rw [e, h2, q_dl])
    rcases h34 with h | h
    · omega
    · exact h this
theorem okMs_n {n : Int} (h : numR n) : okMs ⟨1, n, ByteArray.empty⟩ = true := by
  unfold okMs
  simp [inR, h.1, h.2]
abbrev MOk (s : ByteArray) (m : VMsg) : Prop := m.Text.size ≤ s.size ∧ ∀ d, okMs d = true → s = msgTxt d → m = d
theorem sub77 (s : ByteArray) (n : Int) (b : Bool) (hn : numR n) (hc : ∀ m, numR m → s = txt m → n = m ∧ b = true) (h34 : s.size < 2 ∨ byN s 0 ≠ 34) : ∃ m b', (bif !b then
        (some (AV.tup 2 (lstG [AV.ag 3 (lstG [nI 0, nI 0, AV.S ByteArray.empty]), AV.B false]), []))
      else
        (Option.bind (E 46 [AV.ag 3 (lstG [nI 1, nI n, AV.S ByteArray.empty])] []) fun r3 =>
        bif !asB r3.fst then
          (some (AV.tup 2 (lstG [AV.ag 3 (lstG [nI 0, nI 0, AV.S ByteArray.empty]), AV.B false]), []))
        else
          (Option.bind (E 52 [AV.ag 3 (lstG [nI 1, nI n, AV.S ByteArray.empty])] []) fun r5 =>
          bif !(asS r5.fst).toList == s.toList then
            (some (AV.tup 2 (lstG [AV.ag 3 (lstG [nI 0, nI 0, AV.S ByteArray.empty]), AV.B false]), []))
          else
            (some (AV.tup 2 (lstG [AV.ag 3 (lstG [nI 1, nI n, AV.S ByteArray.empty]), AV.B true]), []))))) = rMsg m b' ∧ MOk s m := by
  have hz : ByteArray.empty.size = 0 := rfl
  cases b with
  | false =>
    refine ⟨zMsg, false, rfl, by show ByteArray.empty.size ≤ _; omega, fun d hd e => ?_⟩
    obtain ⟨h1, h2, h3⟩ := msg_n hd e h34
    have := (hc _ h2 h3).2
    simp at this
  | true =>
    have q := v58 ⟨1, n, ByteArray.empty⟩ (by show ByteArray.empty.size ≤ _; omega)
    rw [okMs_n hn] at q
    have q2 := v64 ⟨1, n, ByteArray.empty⟩ (by show ByteArray.empty.size ≤ _; omega)
    have e2 : msgTxt ⟨1, n, ByteArray.empty⟩ = txt n := by unfold msgTxt; rw [if_pos (okMs_n hn)]; rfl
    rw [e2] at q2
    by_cases hs : txt n = s
    · refine ⟨⟨1, n, ByteArray.empty⟩, true, bf' rfl (obind' q (bf' rfl (obind' q2 (bf' (by show (!(txt n).toList == s.toList) = false; rw [hs]; simp) rfl)))), by show ByteArray.empty.size ≤ _; omega, fun d hd e => ?_⟩
      obtain ⟨h1, h2, h3⟩ := msg_n hd e h34
      rw [h1, (hc _ h2 h3).1]
    · refine ⟨zMsg, false, bf' rfl (obind' q (bf' rfl (obind' q2 (bt' (by show (!(txt n).toList == s.toList) = true; simp [ByteArray.toList_eq]; exact fun h => hs (ba_ext (by rw [h]))) rfl)))), by show ByteArray.empty.size ≤ _; omega, fun d hd e => ?_⟩
      obtain ⟨h1, h2, h3⟩ := msg_n hd e h34
      exact absurd (by rw [(hc _ h2 h3).1]; exact h3.symm) hs
theorem v77 (s : ByteArray) (hs : s.size ≤ 1048576) : ∃ m b, E 65 [.S s] [] = rMsg m b ∧ MOk s m := by
  obtain ⟨n, b, q, hn, hc⟩ := v76 s hs
  by_cases c2 : 2 ≤ s.size
  · have d2 : decide (2 ≤ zN s.size) = true := decide_eq_true (by simp only [zN]; omega)
    have d0 : decide (0 < zN s.size) = true := decide_eq_true (by simp only [zN]; omega)
    by_cases c34 : byN s 0 = 34
    · have hw : IntKind.i64.wrap (zN s.size - 1) = ((s.size - 1 : Nat) : Int) := by rw [wrapS (by simp only [zN]; omega) (by simp only [zN]; omega)]; simp only [zN]; omega
      have d1 : (decide (1 ≤ IntKind.i64.wrap (zN s.size - 1)) && decide (IntKind.i64.wrap (zN s.size - 1) ≤ zN s.size)) = true := by rw [hw]; simp [zN]; omega
      have hT : (s.extract 1 (s.size - 1)).size ≤ s.size := ext_sz ..
      have q1 := v58 ⟨2, 0, s.extract 1 (s.size - 1)⟩ (by show (s.extract 1 (s.size - 1)).size ≤ _; omega)
      have q2 := v64 ⟨2, 0, s.extract 1 (s.size - 1)⟩ (by show (s.extract 1 (s.size - 1)).size ≤ _; omega)
      have hz : ByteArray.empty.size = 0 := rfl
      have go : ∀ X, (Option.bind (E 46 [AV.ag 3 (lstG [nI 2, nI 0, AV.S (s.extract 1 (IntKind.i64.wrap (zN s.size - 1)).toNat)])] []) fun r5 =>
          bif !asB r5.fst then
            (some (AV.tup 2 (lstG [AV.ag 3 (lstG [nI 0, nI 0, AV.S ByteArray.empty]), AV.B false]), []))
          else
            (Option.bind (E 52 [AV.ag 3 (lstG [nI 2, nI 0, AV.S (s.extract 1 (IntKind.i64.wrap (zN s.size - 1)).toNat)])] []) fun r7 =>
            bif !(asS r7.fst).toList == s.toList then
              (some (AV.tup 2 (lstG [AV.ag 3 (lstG [nI 0, nI 0, AV.S ByteArray.empty]), AV.B false]), []))
            else
              (some (AV.tup 2 (lstG [AV.ag 3 (lstG [nI 2, nI 0, AV.S (s.extract 1 (IntKind.i64.wrap (zN s.size - 1)).toNat)]), AV.B true]), [])))) = some X → E 65 [.S s] [] = some X := fun X hX =>
        ev1 0 rfl ((e77 ..).trans (obind' q (bt' d2 (bt' d0 (bt' (decide_eq_true c34) (bt' d1 hX))))))
      rw [hw, Int.toNat_natCast] at go
      cases ho : okMs ⟨2, 0, s.extract 1 (s.size - 1)⟩ with
      | false =>
        rw [ho] at q1
        refine ⟨zMsg, false, go _ (obind' q1 rfl), by show ByteArray.empty.size ≤ _; omega, fun d hd e => ?_⟩
        have := (msg_q hd e c34).2
        rw [this, ho] at hd; simp at hd
      | true =>
        rw [ho] at q1
        by_cases hx : msgTxt ⟨2, 0, s.extract 1 (s.size - 1)⟩ = s
        · exact ⟨⟨2, 0, s.extract 1 (s.size - 1)⟩, true, go _ (obind' q1 (bf' rfl (obind' q2 (bf' (by show (!(msgTxt ⟨2, 0, s.extract 1 (s.size - 1)⟩).toList == s.toList) = false; rw [hx]; simp) rfl)))), hT, fun d hd e => ((msg_q hd e c34).2).symm⟩
        · refine ⟨zMsg, false, go _ (obind' q1 (bf' rfl (obind' q2 (bt' (by show (!(msgTxt ⟨2, 0, s.extract 1 (s.size - 1)⟩).toList == s.toList) = true; simp [ByteArray.toList_eq]; exact fun h => hx (ba_ext (by rw [h]))) rfl)))), by show ByteArray.empty.size ≤ _; omega, fun d hd e => ?_⟩
          have := (msg_q hd e c34).2
          exact absurd (by rw [← this]; exact e.symm) hx
    · obtain ⟨m, b', hX, hm⟩ := sub77 s n b hn hc (.inr c34)
      exact ⟨m, b', ev1 0 rfl ((e77 ..).trans (obind' q (bt' d2 (bt' d0 (bf' (decide_eq_false c34) hX))))), hm⟩
  · obtain ⟨m, b', hX, hm⟩ := sub77 s n b hn hc (.inl (by omega))
    exact ⟨m, b', ev1 0 rfl ((e77 ..).trans (obind' q (bf' (decide_eq_false (by simp only [zN]; omega)) hX))), hm⟩
theorem v71q (s : ByteArray) (h34 : byN s 0 = 34) (h0 : 0 < s.size) (hs : s.size ≤ 1048576) : E 70 [.S s] [] = rNum 0 false := by
  have e0 : decide (0 < zN s.size) = true := decide_eq_true (by simp only [zN]; omega)
  refine ev1 (s.size + 1) rfl ((e71 ..).trans (bt' e0 (bt' e0 (bf' (decide_eq_false (by omega)) ?_))))
  cases hi : inR (zN s.size) 1 9 with
  | false => exact obind' (v31 ..) (bt' (by show (!inR (zN s.size) 1 9) = true; rw [hi]; rfl) rfl)
  | true =>
    have hl : 1 ≤ s.size ∧ s.size ≤ 9 := by simp only [inR, zN, Bool.and_eq_true, decide_eq_true_eq] at hi; omega
    have L := l71 s (decide (byN s 0 = 45)) hl.2 s.size 0 0 (by omega) (by omega) (by decide)
    rw [List.drop_zero] at L
    obtain ⟨x, ed, eb⟩ := byN_drop (show 0 < s.size by omega)
    rw [List.drop_zero] at ed
    have hx : ¬ (48 ≤ x.toNat ∧ x.toNat ≤ 57) := by rw [h34] at eb; omega
    rw [ed] at L
    simp only [nf, if_neg hx] at L
    exact obind' (v31 ..) (bf' (by show (!inR (zN s.size) 1 9) = false; rw [hi]; rfl) (bt' e0 (bf' (decide_eq_false (by omega)) L)))
theorem q_last (T : ByteArray) : byN (bs [34] ++ T ++ bs [34]) (T.size + 1) = 34 := by
  refine (byN_eq _ _ (by rw [q_size]; omega) 34).2 ?_
  show (dl (bs [34] ++ T ++ bs [34]))[T.size + 1]? = _
  rw [q_dl]
  simp [dl_len]
theorem v72 (s : ByteArray) (hs : s.size ≤ 1048576) : ∃ m b, E 71 [.S s] [] = rMsg m b ∧ MOk s m := by
  have hz : ByteArray.empty.size = 0 := rfl
  by_cases h34 : 2 ≤ s.size ∧ byN s 0 = 34
  · have d2 : decide (zN s.size < 2) = false := decide_eq_false (by simp only [zN]; omega)
    have d0 : decide (0 < zN s.size) = true := decide_eq_true (by simp only [zN]; omega)
    have hw : IntKind.i64.wrap (zN s.size - 1) = ((s.size - 1 : Nat) : Int) := by rw [wrapS (by simp only [zN]; omega) (by simp only [zN]; omega)]; simp only [zN]; omega
    have d1 : (decide (1 ≤ IntKind.i64.wrap (zN s.size - 1)) && decide (IntKind.i64.wrap (zN s.size - 1) ≤ zN s.size)) = true := by rw [hw]; simp [zN]; omega
    have dl1 : (bif decide (0 ≤ IntKind.i64.wrap (zN s.size - 1)) then decide (IntKind.i64.wrap (zN s.size - 1) < zN s.size) else false) = true := by rw [hw]; simp [zN]; omega
    have q := v71q s h34.2 (by omega) hs
    have hT : (s.extract 1 (s.size - 1)).size ≤ s.size := ext_sz ..
    have q1 := v79 (s.extract 1 (s.size - 1)) (by omega)
    have mo : ∀ d, okMs d = true → s = msgTxt d → d = ⟨2, 0, s.extract 1 (s.size - 1)⟩ ∧ byN s (s.size - 1) = 34 ∧ okPl (s.extract 1 (s.size - 1)) = true := fun d hd e => by
      have h := (msg_q hd e h34.2).2
      refine ⟨h, ?_, ?_⟩
      · rcases msg_cases hd with ⟨h1, h2, h3⟩ | ⟨h1, h2, h3⟩
        · rw [h1] at h; simp at h
        · have hz : s.size = d.Text.size + 2 := by rw [e, h2, q_size]
          rw [hz, show d.Text.size + 2 - 1 = d.Text.size + 1 by omega, e, h2, q_last]
      · have := msg2 hd (by rw [h]; show (2 : Int) ≠ 1; omega)
        rw [h] at this; exact this.2.2
    have go : ∀ X, (bif !decide (byN s (s.size - 1) = 34) then
              (some (AV.tup 2 (lstG [AV.ag 3 (lstG [nI 0, nI 0, AV.S ByteArray.empty]), AV.B false]), []))
            else
                (Option.bind (E 83 [AV.S (s.extract 1 (s.size - 1))] []) fun r8 =>
                bif !asB r8.fst then
                  (some (AV.tup 2 (lstG [AV.ag 3 (lstG [nI 0, nI 0, AV.S ByteArray.empty]), AV.B false]), []))
                else
                    (some (AV.tup 2 (lstG [AV.ag 3 (lstG [nI 2, nI 0, AV.S (s.extract 1 (s.size - 1))]), AV.B true]), [])))) = some X → E 71 [.S s] [] = some X := fun X hX => by
      refine ev1 0 rfl ((e72 ..).trans (obind' q (bf' rfl (bf' d2 (bt' d0 (bf' (by rw [decide_eq_true h34.2]; rfl) (bt' dl1 ?_)))))))
      rw [hw] at d1 ⊢
      rw [Int.toNat_natCast, d1]
      exact hX
    by_cases c1 : byN s (s.size - 1) = 34
    · cases ho : okPl (s.extract 1 (s.size - 1)) with
      | false =>
        rw [ho] at q1
        refine ⟨zMsg, false, go _ (bf' (by rw [decide_eq_true c1]; rfl) (obind' q1 rfl)), by show ByteArray.empty.size ≤ _; omega, fun d hd e => ?_⟩
        have := (mo d hd e).2.2
        rw [ho] at this; simp at this
      | true =>
        rw [ho] at q1
        exact ⟨⟨2, 0, s.extract 1 (s.size - 1)⟩, true, go _ (bf' (by rw [decide_eq_true c1]; rfl) (obind' q1 rfl)), hT, fun d hd e => ((mo d hd e).1).symm⟩
    · refine ⟨zMsg, false, go _ (bt' (by rw [decide_eq_false c1]; rfl) rfl), by show ByteArray.empty.size ≤ _; omega, fun d hd e => absurd (mo d hd e).2.1 c1⟩
  · have h34' : s.size < 2 ∨ byN s 0 ≠ 34 := by
      by_cases c : 2 ≤ s.size
      · exact .inr (fun e => h34 ⟨c, e⟩)
      · exact .inl (by omega)
    obtain ⟨n, b, q, hn, hc⟩ := v71 s hs
    cases b with
    | true =>
      refine ⟨⟨1, n, ByteArray.empty⟩, true, ev1 0 rfl ((e72 ..).trans (obind' q (bt' rfl rfl))), by show ByteArray.empty.size ≤ _; omega, fun d hd e => ?_⟩
      obtain ⟨h1, h2, h3⟩ := msg_n hd e h34'
      rw [h1, (hc _ h2 h3).1]
    | false =>
      have no : ∀ d, okMs d = true → s = msgTxt d → zMsg = d := fun d hd e => by
        obtain ⟨h1, h2, h3⟩ := msg_n hd e h34'
        have := (hc _ h2 h3).2
        simp at this
      refine ⟨zMsg, false, ev1 0 rfl ((e72 ..).trans (obind' q (bf' rfl ?_))), by show ByteArray.empty.size ≤ _; omega, no⟩
      by_cases c : s.size < 2
      · exact bt' (decide_eq_true (by simp only [zN]; omega)) rfl
      · have c34 : byN s 0 ≠ 34 := h34'.resolve_left c
        exact bf' (decide_eq_false (by simp only [zN]; omega)) (bt' (decide_eq_true (by simp only [zN]; omega)) (bt' (by rw [decide_eq_false c34]; rfl) rfl))
/-- What stands ahead of the first byte of a kind, and behind it. -/
def cut1 (c : UInt8) (s : ByteArray) : ByteArray := ⟨((dl s).takeWhile (· != c)).toArray⟩
def cut2 (c : UInt8) (s : ByteArray) : ByteArray := ⟨(((dl s).dropWhile (· != c)).drop 1).toArray⟩
def cutF (c : UInt8) (s : ByteArray) : Bool := (dl s).any (· == c)
theorem cut1_dl (c : UInt8) (s : ByteArray) : dl (cut1 c s) = (dl s).takeWhile (· != c) := by simp [dl, cut1]
theorem cut2_dl (c : UInt8) (s : ByteArray) : dl (cut2 c s) = ((dl s).dropWhile (· != c)).drop 1 := by simp [dl, cut2]
theorem cut1_size (c : UInt8) (s : ByteArray) : (cut1 c s).size ≤ s.size := by
  rw [← dl_len, cut1_dl, ← dl_len s]; exact (List.takeWhile_prefix _).length_le
theorem cut2_size (c : UInt8) (s : ByteArray) : (cut2 c s).size ≤ s.size := by
  rw [← dl_len, cut2_dl, ← dl_len s, List.length_drop]
  have := (List.dropWhile_suffix (l := dl s) (· != c)).length_le
  omega
theorem cut_app (c : UInt8) {x : ByteArray} (y : ByteArray) (h : ∀ b ∈ dl x, b ≠ c) : cut1 c (x ++ bs [c] ++ y) = x ∧ cut2 c (x ++ bs [c] ++ y) = y ∧ cutF c (x ++ bs [c] ++ y) = true := by
  have e : dl (x ++ bs [c] ++ y) = dl x ++ c :: dl y := by
    show (x ++ bs [c] ++ y).data.toList = _
    rw [dapp, dapp]; simp [bs]
  have hx : ∀ b ∈ dl x, (b != c) = true := fun b hb => by simpa using h b hb
  refine ⟨dl_inj ?_, dl_inj ?_, ?_⟩
  · rw [cut1_dl, e, List.takeWhile_append_of_pos hx]; simp
  · rw [cut2_dl, e, List.dropWhile_append_of_pos hx]; simp
  · unfold cutF; rw [e]; simp
theorem cut_no (c : UInt8) {x : ByteArray} (h : ∀ b ∈ dl x, b ≠ c) : cut1 c x = x ∧ cut2 c x = ByteArray.empty ∧ cutF c x = false := by
  have hx : ∀ b ∈ dl x, (b != c) = true := fun b hb => by simpa using h b hb
  refine ⟨dl_inj ?_, dl_inj ?_, ?_⟩
  · rw [cut1_dl]
    have := List.takeWhile_append_of_pos (l₂ := []) hx
    simpa using this
  · rw [cut2_dl]
    have := List.dropWhile_append_of_pos (l₂ := []) hx
    rw [List.append_nil] at this
    rw [this]; rfl
  · unfold cutF
    rw [List.any_eq_false]
    intro b hb
    simpa using h b hb
theorem takeW_len {l : List UInt8} {c : UInt8} {j : Nat} (h : j < (l.takeWhile (· != c)).length) : (l[j]? == some c) = false := by
  induction l generalizing j with
  | nil => simp at h
  | cons b r ih =>
    rw [List.takeWhile_cons] at h
    split at h
    · rename_i hb
      cases j with
      | zero => simpa using hb
      | succ j => simpa using ih (by simpa using h)
    · simp at h
theorem v42 (c : UInt8) (s : ByteArray) (hs : s.size < 4294967281) : E 32 [.S s, .S (bs [c])] [] = some (.tup 3 (lstG [.S (cut1 c s), .S (cut2 c s), .B (cutF c s)]), []) := by
  refine ev_out rfl ?_
  have e : cfg.outO 32 [.S s, .S (bs [c])] [] = (bif decide (s.size < 4294967281) then some (.tup 3 (lstG [.S ⟨(Lib.cut s.data.toList (bs [c]).data.toList).1.toArray⟩, .S ⟨(Lib.cut s.data.toList (bs [c]).data.toList).2.1.toArray⟩, .B (Lib.cut s.data.toList (bs [c]).data.toList).2.2]), ([] : List AV)) else none) := rfl
  rw [e, decide_eq_true hs]
  have hno : Lib.NoOcc (dl s) [c] ((dl s).takeWhile (· != c)).length := fun j hj => by rw [occ1]; exact takeW_len hj
  have hsp := List.takeWhile_append_dropWhile (p := (· != c)) (l := dl s)
  cases hd : (dl s).dropWhile (· != c) with
  | nil =>
    have ht : (dl s).takeWhile (· != c) = dl s := by rw [hd, List.append_nil] at hsp; exact hsp
    rw [ht] at hno
    have hm : Lib.indexB s (bs [c]) = -1 := Lib.index_past (by simp [bs]) hno (Nat.lt_succ_self _)
    obtain ⟨h1, h2, h3⟩ := Lib.cutB_miss s (bs [c]) hm
    rw [h1, h2, h3]
    have e1 : cut1 c s = s := dl_inj (by rw [cut1_dl, ht])
    have e2 : cut2 c s = ByteArray.empty := dl_inj (by rw [cut2_dl, hd]; rfl)
    have e3 : cutF c s = false := by
      unfold cutF
      rw [List.any_eq_false]
      intro b hb
      rw [← ht] at hb
      have := List.all_eq_true.1 (List.all_takeWhile (p := (· != c)) (l := dl s)) b hb
      simpa using this
    rw [e1, e2, e3]; rfl
  | cons x r =>
    have hx : x = c := by
      have := List.head?_dropWhile_not (p := (· != c)) (dl s)
      rw [hd] at this
      simpa using this
    subst hx
    rw [hd] at hsp
    have w1 := cut1_dl x s
    generalize hw : (dl s).takeWhile (· != x) = w at *
    have hh : Lib.indexB s (bs [x]) = ((w.length : Nat) : Int) := by
      refine Lib.index_hit hno (by show _ ≤ (dl s).length; rw [← hsp]; simp) ?_
      show Lib.occAt (dl s) [x] _ = true
      rw [occ1, ← hsp]
      simp
    obtain ⟨h1, h2, h3⟩ := Lib.cutB_hit s (bs [x]) _ hh
    rw [h1, h2, h3]
    have e1 : cut1 x s = s.extract 0 w.length := by
      refine dl_inj ?_
      rw [w1]
      show _ = (s.extract 0 _).data.toList
      rw [ext_data]
      show _ = ((dl s).drop 0).take _
      rw [List.drop_zero, Nat.sub_zero, ← hsp]
      simp
    have e2 : cut2 x s = s.extract (w.length + (bs [x]).size) s.size := by
      refine dl_inj ?_
      rw [cut2_dl, hd]
      show _ = (s.extract _ _).data.toList
      rw [ext_data, List.take_of_length_le (by rw [List.length_drop]; exact Nat.le_of_eq rfl)]
      show _ = (dl s).drop (w.length + 1)
      rw [← hsp]
      simp
    have e3 : cutF x s = true := by
      unfold cutF; rw [← hsp]; simp
    rw [e1, e2, e3]; rfl
end Go.Fw
