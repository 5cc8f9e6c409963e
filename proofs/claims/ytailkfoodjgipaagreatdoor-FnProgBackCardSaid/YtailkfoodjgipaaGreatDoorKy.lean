/- The plain law of reading: what a text of a call tells of the call. -/
import Derived.Test.YtailkfoodjgipaaGreatDoorKx
set_option linter.unusedVariables false
set_option linter.unusedSimpArgs false
namespace Go.Fw
open Go.Proofs
theorem jw_dl (x : ByteArray) (r : List ByteArray) : dl (jw (x :: r)) = dl x ++ Lib.joinTail [32] (r.map (·.data.toList)) := by
  show (r.foldl (fun s w => s ++ bs [32] ++ w) x).data.toList = _
  rw [foldl_tail]
theorem jw_cons2 (x y : ByteArray) (r : List ByteArray) : jw (x :: y :: r) = x ++ bs [32] ++ jw (y :: r) := by
  refine dl_inj ?_
  rw [jw_dl]
  show _ = (x ++ bs [32] ++ jw (y :: r)).data.toList
  rw [dapp, dapp]
  show _ = dl x ++ [32] ++ dl (jw (y :: r))
  rw [jw_dl]
  simp [Lib.joinTail]
theorem jw_cut {x : ByteArray} (r : List ByteArray) (h : noBl x) : cut1 32 (jw (x :: r)) = x ∧ cut2 32 (jw (x :: r)) = jw r := by
  cases r with
  | nil => exact ⟨(cut_no 32 h).1, (cut_no 32 h).2.1⟩
  | cons y r => rw [jw_cons2]; exact ⟨(cut_app 32 _ h).1, (cut_app 32 _ h).2.1⟩
theorem jw_one (x : ByteArray) : jw [x] = x := rfl
theorem jw_nil : jw [] = ByteArray.empty := rfl
theorem cut_e : cut1 32 ByteArray.empty = ByteArray.empty ∧ cut2 32 ByteArray.empty = ByteArray.empty := ⟨rfl, rfl⟩
theorem pt_mem (s : ByteArray) : ∀ (k a i : Nat), i + k = s.size + 1 → a ≤ i → i ≤ s.size → ∀ b ∈ (dl s).drop a, b = 46 ∨ ∃ x ∈ pt s k a i, b ∈ dl x := by
  intro k
  induction k with
  | zero => intro a i hi ha hs; omega
  | succ k ih =>
    intro a i hi ha hs b hb
    have e1 : (dl s).drop a = ((dl s).drop a).take (i - a) ++ (dl s).drop i := by
      have := List.take_append_drop (i - a) ((dl s).drop a)
      rw [List.drop_drop, show a + (i - a) = i by omega] at this
      exact this.symm
    have ex : dl (s.extract a i) = ((dl s).drop a).take (i - a) := by
      show (s.extract a i).data.toList = _
      rw [ext_data]
    by_cases c : i = s.size
    · rw [pt, if_pos (.inl c)]
      have e0 : (dl s).drop i = [] := List.drop_eq_nil_of_le (by rw [dl_len]; omega)
      rw [e1, e0, List.append_nil] at hb
      exact .inr ⟨_, List.mem_cons_self .., by rw [ex]; exact hb⟩
    · obtain ⟨x, ed, eb⟩ := byN_drop (show i < s.size by omega)
      by_cases c2 : byN s i = 46
      · rw [pt, if_pos (.inr c2)]
        rw [e1, ed] at hb
        rcases List.mem_append.1 hb with hb | hb
        · exact .inr ⟨_, List.mem_cons_self .., by rw [ex]; exact hb⟩
        · rcases List.mem_cons.1 hb with rfl | hb
          · exact .inl (UInt8.toNat_inj.1 (by rw [eb] at c2; show _ = 46; omega))
          · by_cases c3 : i + 1 ≤ s.size
            · rcases ih (i + 1) (i + 1) (by omega) (by omega) c3 b hb with h | ⟨y, hy, h⟩
              · exact .inl h
              · exact .inr ⟨y, List.mem_cons_of_mem _ hy, h⟩
            · omega
      · rw [pt, if_neg (fun h => h.elim c c2)]
        exact ih a (i + 1) (by omega) (by omega) (by omega) b hb
theorem patF_mem (ps : List ByteArray) : ∀ (k i : Nat), patF ps k i = true → ∀ j, i ≤ j → j < i + k → okPat ps j = true := by
  intro k
  induction k with
  | zero => intro i h j h1 h2; omega
  | succ k ih =>
    intro i h j h1 h2
    unfold patF at h
    simp only [Bool.and_eq_true] at h
    by_cases e : j = i
    · rw [e]; exact h.1
    · exact ih (i + 1) h.2 j (by omega) (by omega)
theorem pat_noBl {s : ByteArray} (h : okPatS s = true) : noBl s := fun b hb e => by
  unfold okPatS at h
  simp only [Bool.and_eq_true] at h
  rcases pt_mem s (s.size + 1) 0 0 (by omega) (by omega) (by omega) b (by rw [List.drop_zero]; exact hb) with h1 | ⟨x, hx, hbx⟩
  · rw [e] at h1; exact absurd h1 (by decide)
  · obtain ⟨j, hj, ej⟩ := List.getElem_of_mem hx
    have hj' : j < (parts s).length := hj
    have := patF_mem _ _ 0 h.2 j (by omega) (by omega)
    have eg : (parts s).getD j ByteArray.empty = x := by
      rw [List.getD_eq_getElem?_getD, List.getElem?_eq_getElem hj', Option.getD_some]; exact ej
    unfold okPat at this
    rw [eg] at this
    simp only [Bool.or_eq_true, Bool.and_eq_true] at this
    have tol : ∀ L : List UInt8, (x.toList == (bs L).toList) = true → dl x = L := fun L h => by
      rw [ByteArray.toList_eq, ByteArray.toList_eq] at h
      exact eq_of_beq h
    rcases this with (h2 | h2) | h2
    · rw [tol _ h2, e] at hbx; exact absurd hbx (by decide)
    · rw [tol _ h2.1, e] at hbx; exact absurd hbx (by decide)
    · unfold okPlain at h2
      simp only [Bool.and_eq_true] at h2
      have := allB_mem x.size 0 (by omega) h2.2 b (by rw [List.drop_zero]; exact hbx)
      rw [e] at this
      exact absurd this (by decide)
theorem WLs_noBl : ∀ o, o < 20 → ∀ b ∈ WLs.getD o [], b ≠ 32 := by decide
theorem KLs_noBl : ∀ o, o < 5 → ∀ b ∈ KLs.getD o [], b ≠ 32 := by decide
theorem word1_noBl {d : VCall} (h : callOk d = true) : noBl (word1 d) := by
  rcases word1_dl h with ⟨c, b, h1, h2, h3, h4⟩ | ⟨c, o, h1, h2, h3, h4, h5⟩
  · intro x hx; rw [h4] at hx; exact KLs_noBl b h2 x hx
  · intro x hx; rw [h5] at hx; exact WLs_noBl o h2 x hx
abbrev X1 (d : VCall) : ByteArray := if d.Op = 13 then d.Name else txt (if d.Op = 15 ∨ d.Op = 16 then d.B else d.A)
abbrev tlW (d : VCall) : List ByteArray := W2 d ++ W3 d ++ W4 d ++ W5 d
theorem WW_tl (d : VCall) : WW d = word1 d :: X1 d :: tlW d := rfl
theorem callB_nums {d : VCall} (h : callB d = true) : callOk d = true ∧ (d.Op ≠ 13 → numR (if d.Op = 15 ∨ d.Op = 16 then d.B else d.A)) ∧ (d.Op = 7 ∨ d.Op = 19 → numR d.B) ∧ (0 ≤ d.Tok → numR d.Tok) := by
  unfold callB at h
  simp only [Bool.and_eq_true] at h
  have h2 := h.2
  have nr : ∀ n, inR n 0 999999999 = true → numR n := fun n h => by have := inR_num h; exact ⟨by omega, by omega⟩
  have h3 : K2' d (K1 d) = true ∧ (0 ≤ d.Tok → numR d.Tok) := by
    unfold KK K3 at h2
    split at h2
    · simp only [Bool.and_eq_true] at h2; exact ⟨h2.1, fun _ => nr _ h2.2⟩
    · exact ⟨h2, fun h => absurd h ‹_›⟩
  have h4 : K1 d = true ∧ (d.Op = 7 ∨ d.Op = 19 → numR d.B) := by
    have h3 := h3.1
    unfold K2' at h3
    split at h3
    · simp only [Bool.and_eq_true] at h3; exact ⟨h3.1, fun _ => nr _ h3.2⟩
    · exact ⟨h3, fun h => absurd h ‹_›⟩
  refine ⟨h.1, fun hn => ?_, h4.2, h3.2⟩
  have := h4.1
  unfold K1 at this
  rw [if_neg hn] at this
  exact nr _ this
theorem zm_eq {m : VMsg} (h : zm m = true) : m = zMsg := by
  obtain ⟨k, n, t⟩ := m
  unfold zm at h
  simp only [Bool.cond_eq_ite] at h
  split at h
  · rename_i h1
    split at h
    · rename_i h2
      split at h
      · rename_i h3
        rw [of_decide_eq_true h1, of_decide_eq_true h2, emp_eq (x := t) h3]
      · simp at h
    · simp at h
  · simp at h
theorem lenE {α : Type} {xs : List α} (h : decide (xs.length = 0) = true) : xs = [] := List.eq_nil_of_length_eq_zero (of_decide_eq_true h)
abbrev bkW : ByteArray := bs [98, 97, 99, 107]
abbrev ifW : ByteArray := bs [105, 102]
abbrev byW : ByteArray := bs [98, 121]
inductive Form (d : VCall) : Prop
  | upd (ho : d.Op = 9) (e : d = ⟨9, d.A, d.B, -1, ByteArray.empty, d.Msg, []⟩) (hx : X1 d = txt d.A) (hn : numR d.A) (ht : tlW d = [msgTxt d.Msg]) (hm : okMs d.Msg = true)
  | pub (ho : d.Op = 13) (e : d = ⟨13, 0, 0, -1, d.Name, d.Msg, []⟩) (hx : X1 d = d.Name) (ht : tlW d = [msgTxt d.Msg]) (hm : okMs d.Msg = true) (hp : okPatS d.Name = true)
  | two (ho : d.Op = 7 ∨ d.Op = 19) (e : d = ⟨d.Op, d.A, d.B, -1, ByteArray.empty, zMsg, []⟩) (hx : X1 d = txt d.A) (hn : numR d.A) (ht : tlW d = [txt d.B]) (hb : numR d.B)
  | sub (ho : d.Op = 14) (e : d = ⟨14, d.A, d.B, -1, ByteArray.empty, zMsg, d.Filter⟩) (hx : X1 d = txt d.A) (hn : numR d.A) (hb : d.B = 0 ∨ d.B = 1) (hf : filtOk d.Filter = true) (ht : tlW d = (if d.B = 1 then [bkW] else []) ++ (if emp (filtTxt d.Filter) = true then [] else [ifW, filtTxt d.Filter]))
  | rcv (ho : d.Op = 15 ∨ d.Op = 16) (e : d = ⟨d.Op, 0, d.B, d.Tok, ByteArray.empty, zMsg, []⟩) (hx : X1 d = txt d.B) (hn : numR d.B) (ht : tlW d = W3 d) (hk : -1 ≤ d.Tok ∧ (0 ≤ d.Tok → numR d.Tok))
  | any (ho : ¬ (d.Op = 9 ∨ d.Op = 13 ∨ d.Op = 7 ∨ d.Op = 19 ∨ d.Op = 14 ∨ d.Op = 15 ∨ d.Op = 16)) (e : d = ⟨d.Op, d.A, 0, d.Tok, ByteArray.empty, zMsg, []⟩) (hx : X1 d = txt d.A) (hn : numR d.A) (ht : tlW d = W3 d) (hk : -1 ≤ d.Tok ∧ (0 ≤ d.Tok → numR d.Tok))
theorem form {d : VCall} (h : callB d = true) : Form d := by
  obtain ⟨hk, hn, hb, ht⟩ := callB_nums h
  obtain ⟨h1, h2, h3, h4⟩ := callOk_op hk
  have tok : blk d.Op = false → d.Tok = -1 := fun hb => by
    rcases h3 with h3 | h3
    · rw [hb] at h3; simp at h3
    · exact h3
  have w3n : d.Tok = -1 → W3 d = [] := fun e => by unfold W3; rw [if_neg (by omega)]
  have w5n : d.Op ≠ 14 → d.Filter = [] → W5 d = [] := fun e f => by
    unfold W5; rw [if_neg (fun h => e h.1), f, if_pos filt_nil]; rfl
  have w2n : ¬ (d.Op = 7 ∨ d.Op = 19) → W2 d = [] := fun e => by unfold W2; rw [if_neg e]
  have w4n : ¬ (d.Op = 9 ∨ d.Op = 13) → W4 d = [] := fun e => by unfold W4; rw [if_neg e]
  obtain ⟨Op, A, B, Tok, Name, Msg, Filter⟩ := d
  simp only at hn hb ht h1 h2 h3 tok w3n w5n w2n w4n
  by_cases c7 : Op = 7 ∨ Op = 19
  · unfold okBody at h4
    simp only [if_pos c7, Bool.and_eq_true] at h4
    have hT := tok (by rcases c7 with e | e <;> rw [e] <;> rfl)
    have hF : Filter = [] := lenE h4.2.2
    refine .two c7 (by rw [hT, emp_eq h4.1, zm_eq h4.2.1, hF]) ?_ ?_ ?_ (hb c7)
    · show X1 _ = txt A
      unfold X1; rw [if_neg (by show ¬ Op = 13; omega), if_neg (by show ¬ (Op = 15 ∨ Op = 16); omega)]
    · have := hn (by omega); rw [if_neg (by omega)] at this; exact this
    · show _ ++ _ ++ _ ++ _ = _
      rw [w3n hT, w4n (by omega), w5n (by omega) hF]
      unfold W2; rw [if_pos c7]; rfl
  by_cases c9 : Op = 9
  · unfold okBody at h4
    simp only [if_neg c7, if_pos c9, Bool.and_eq_true] at h4
    have hT := tok (by rw [c9]; rfl)
    have hF : Filter = [] := lenE h4.2.2.2
    refine .upd c9 (by rw [hT, emp_eq h4.2.2.1, hF, c9]) ?_ ?_ ?_ h4.2.1
    · show X1 _ = txt A
      unfold X1; rw [if_neg (by show ¬ Op = 13; omega), if_neg (by show ¬ (Op = 15 ∨ Op = 16); omega)]
    · have := hn (by omega); rw [if_neg (by omega)] at this; exact this
    · show _ ++ _ ++ _ ++ _ = _
      rw [w3n hT, w2n c7, w5n (by omega) hF]
      unfold W4; rw [if_pos (.inl c9)]; rfl
  by_cases c13 : Op = 13
  · unfold okBody at h4
    simp only [if_neg c7, if_neg c9, if_pos c13, Bool.and_eq_true, decide_eq_true_eq] at h4
    have hT := tok (by rw [c13]; rfl)
    have hF : Filter = [] := List.eq_nil_of_length_eq_zero h4.2.2.2.2
    refine .pub c13 (by rw [hT, h4.2.2.1, h4.2.2.2.1, hF, c13]) ?_ ?_ h4.2.1 h4.1
    · show X1 _ = Name
      unfold X1; rw [if_pos c13]
    · show _ ++ _ ++ _ ++ _ = _
      rw [w3n hT, w2n c7, w5n (by omega) hF]
      unfold W4; rw [if_pos (.inr c13)]; rfl
  by_cases c14 : Op = 14
  · unfold okBody at h4
    simp only [if_neg c7, if_neg c9, if_neg c13, if_pos c14, Bool.and_eq_true] at h4
    have hT := tok (by rw [c14]; rfl)
    have hB : 0 ≤ B ∧ B ≤ 1 := by simpa [inR] using h4.1
    refine .sub c14 (by rw [hT, emp_eq h4.2.2.1, zm_eq h4.2.2.2, c14]) ?_ ?_ (by show B = 0 ∨ B = 1; omega) h4.2.1 ?_
    · show X1 _ = txt A
      unfold X1; rw [if_neg (by show ¬ Op = 13; omega), if_neg (by show ¬ (Op = 15 ∨ Op = 16); omega)]
    · have := hn (by omega); rw [if_neg (by omega)] at this; exact this
    · show _ ++ _ ++ _ ++ _ = _
      rw [w3n hT, w2n c7, w4n (by omega), List.nil_append, List.nil_append, List.nil_append]
      unfold W5
      by_cases b1 : B = 1
      · rw [if_pos ⟨c14, b1⟩, if_pos b1]
      · rw [if_neg (fun h => b1 h.2), if_neg b1]
  by_cases c15 : Op = 15 ∨ Op = 16
  · unfold okBody at h4
    simp only [if_neg c7, if_neg c9, if_neg c13, if_neg c14, if_pos c15, Bool.and_eq_true, decide_eq_true_eq] at h4
    have hF : Filter = [] := List.eq_nil_of_length_eq_zero h4.2.2.2
    refine .rcv c15 (by rw [h4.1, emp_eq h4.2.1, zm_eq h4.2.2.1, hF]) ?_ ?_ ?_ ⟨h2, ht⟩
    · show X1 _ = txt B
      unfold X1; rw [if_neg (by show ¬ Op = 13; omega), if_pos c15]
    · have := hn (by omega); rw [if_pos c15] at this; exact this
    · show _ ++ _ ++ _ ++ _ = _
      rw [w2n c7, w4n (by omega), w5n c14 hF, List.nil_append, List.append_nil, List.append_nil]
  · unfold okBody at h4
    simp only [if_neg c7, if_neg c9, if_neg c13, if_neg c14, if_neg c15, Bool.and_eq_true, decide_eq_true_eq] at h4
    have hF : Filter = [] := List.eq_nil_of_length_eq_zero h4.2.2.2
    refine .any (by show ¬ (Op = 9 ∨ Op = 13 ∨ Op = 7 ∨ Op = 19 ∨ Op = 14 ∨ Op = 15 ∨ Op = 16); omega) (by rw [h4.1, emp_eq h4.2.1, zm_eq h4.2.2.1, hF]) ?_ ?_ ?_ ⟨h2, ht⟩
    · show X1 _ = txt A
      unfold X1; rw [if_neg (by show ¬ Op = 13; omega), if_neg c15]
    · have := hn (by omega); rw [if_neg c15] at this; exact this
    · show _ ++ _ ++ _ ++ _ = _
      rw [w2n c7, w4n (by omega), w5n c14 hF, List.nil_append, List.append_nil, List.append_nil]
/-- What a call's text is cut into. -/
theorem callT_cut {d : VCall} (h : callB d = true) {s : ByteArray} (e : callT d = s) : cut1 32 s = word1 d ∧ cut1 32 (cut2 32 s) = X1 d ∧ cut2 32 (cut2 32 s) = jw (tlW d) := by
  have hk := (callB_nums h).1
  have eT : s = jw (word1 d :: X1 d :: tlW d) := by
    rw [← e]; unfold callT; rw [h]; rfl
  have h1 := jw_cut (X1 d :: tlW d) (word1_noBl hk)
  have hX : noBl (X1 d) := by
    cases form h with
    | upd ho e hx => rw [hx]; exact txt_noBl _
    | pub ho e hx ht hm hp => rw [hx]; exact pat_noBl hp
    | two ho e hx => rw [hx]; exact txt_noBl _
    | sub ho e hx => rw [hx]; exact txt_noBl _
    | rcv ho e hx => rw [hx]; exact txt_noBl _
    | any ho e hx => rw [hx]; exact txt_noBl _
  have h2 := jw_cut (tlW d) hX
  rw [eT, h1.1, h1.2]
  exact ⟨rfl, h2.1, h2.2⟩
/-- The call as it stands ahead of what is behind its first two words. -/
def C0 (op bb n : Int) (f : ByteArray) : VCall := if op = 13 then ⟨op, 0, bb, -1, f, zMsg, []⟩ else if op = 15 ∨ op = 16 then ⟨op, 0, n, -1, ByteArray.empty, zMsg, []⟩ else ⟨op, n, bb, -1, ByteArray.empty, zMsg, []⟩
abbrev NOk (s : ByteArray) (n : Int) : Prop := numR n ∧ ∀ k, numR k → s = txt k → n = k
/-- What stands behind a blank word that says back. -/
abbrev mB (m : ByteArray) : ByteArray := if cut1 32 m = bkW then cut2 32 m else m
inductive Beh (c : VCall) (m : ByteArray) : VCall → Prop
  | msg (ho : c.Op = 9 ∨ c.Op = 13) (x : VMsg) (hx : MOk m x) : Beh c m ⟨c.Op, c.A, c.B, c.Tok, c.Name, x, c.Filter⟩
  | num (ho : c.Op = 7 ∨ c.Op = 19) (n : Int) (hn : NOk m n) : Beh c m ⟨c.Op, c.A, n, c.Tok, c.Name, c.Msg, c.Filter⟩
  | fil (ho : c.Op = 14) (hi : cut1 32 (mB m) = ifW) (fs : List VTerm) (hf : FOk (cut2 32 (mB m)) fs) : Beh c m ⟨c.Op, c.A, if cut1 32 m = bkW then 1 else c.B, c.Tok, c.Name, c.Msg, fs⟩
  | nof (ho : c.Op = 14) (hi : cut1 32 (mB m) ≠ ifW) : Beh c m ⟨c.Op, c.A, if cut1 32 m = bkW then 1 else c.B, c.Tok, c.Name, c.Msg, c.Filter⟩
  | tok (ho : ¬ (c.Op = 9 ∨ c.Op = 13 ∨ c.Op = 7 ∨ c.Op = 19 ∨ c.Op = 14)) (hi : cut1 32 m = byW) (n : Int) (hn : NOk (cut2 32 m) n) : Beh c m ⟨c.Op, c.A, c.B, n, c.Name, c.Msg, c.Filter⟩
  | nok (ho : ¬ (c.Op = 9 ∨ c.Op = 13 ∨ c.Op = 7 ∨ c.Op = 19 ∨ c.Op = 14)) (hi : cut1 32 m ≠ byW) : Beh c m c
theorem C0_op (op bb n : Int) (f : ByteArray) : (C0 op bb n f).Op = op ∧ (C0 op bb n f).Tok = -1 ∧ (C0 op bb n f).Filter = [] ∧ (C0 op bb n f).Msg = zMsg := by
  unfold C0
  split
  · exact ⟨rfl, rfl, rfl, rfl⟩
  · split
    · exact ⟨rfl, rfl, rfl, rfl⟩
    · exact ⟨rfl, rfl, rfl, rfl⟩
theorem small_nil : small [] := fun x hx => by simp at hx
theorem numR64 {n : Int} (h : numR n) : i64R n := ⟨by have := h.1; omega, by have := h.2; omega⟩
theorem C0_fit {op bb n : Int} {f : ByteArray} (hbb : 0 ≤ bb ∧ bb ≤ 4) (hn : numR n) (hf : f.size ≤ 1048576) : Fit (C0 op bb n f) := by
  have hz : ByteArray.empty.size = 0 := rfl
  have b64 : i64R bb := ⟨by omega, by omega⟩
  have n64 := numR64 hn
  have z64 : i64R 0 := ⟨by omega, by omega⟩
  have m64 : i64R (-1) := ⟨by omega, by omega⟩
  unfold C0
  split
  · exact ⟨by simp, small_nil, hf, by show ByteArray.empty.size ≤ _; omega, z64, b64, m64⟩
  · split
    · exact ⟨by simp, small_nil, by show ByteArray.empty.size ≤ _; omega, by show ByteArray.empty.size ≤ _; omega, z64, n64, m64⟩
    · exact ⟨by simp, small_nil, by show ByteArray.empty.size ≤ _; omega, by show ByteArray.empty.size ≤ _; omega, n64, b64, m64⟩
theorem mB_size (m : ByteArray) : (mB m).size ≤ m.size := by
  unfold mB
  split
  · exact cut2_size ..
  · exact Nat.le_refl _
theorem beh_fit {c e : VCall} {m : ByteArray} (hc : Fit c) (hm : m.size ≤ 1048576) (h : Beh c m e) : Fit e := by
  have one : i64R 1 := ⟨by omega, by omega⟩
  have hB : i64R (if cut1 32 m = bkW then 1 else c.B) := by split; exact one; exact hc.hB
  cases h with
  | msg ho x hx => exact ⟨hc.hf, hc.hs, hc.hn, Nat.le_trans hx.1 hm, hc.hA, hc.hB, hc.hT⟩
  | num ho n hn => exact ⟨hc.hf, hc.hs, hc.hn, hc.hm, hc.hA, numR64 hn.1, hc.hT⟩
  | fil ho hi fs hf =>
    have h1 := mB_size m
    have h2 := cut2_size 32 (mB m)
    exact ⟨by have := hf.1; show fs.length ≤ _; omega, hf.2.1, hc.hn, hc.hm, hc.hA, hB, hc.hT⟩
  | nof ho hi => exact ⟨hc.hf, hc.hs, hc.hn, hc.hm, hc.hA, hB, hc.hT⟩
  | tok ho hi n hn => exact ⟨hc.hf, hc.hs, hc.hn, hc.hm, hc.hA, hc.hB, numR64 hn.1⟩
  | nok ho hi => exact hc
theorem bk_noBl : noBl bkW := by unfold noBl; decide
theorem if_noBl : noBl ifW := by unfold noBl; decide
theorem by_noBl : noBl byW := by unfold noBl; decide
theorem ne_dl {x y : ByteArray} (h : dl x ≠ dl y) : x ≠ y := fun e => h (by rw [e])
theorem e_by : cut1 32 ByteArray.empty ≠ byW := ne_dl (by decide)
theorem e_if : cut1 32 ByteArray.empty ≠ ifW := ne_dl (by decide)
theorem e_bk : cut1 32 ByteArray.empty ≠ bkW := ne_dl (by decide)
theorem if_bk : ifW ≠ bkW := ne_dl (by decide)
theorem tok_ok {c d : VCall} {m : ByteArray} (ho : ¬ (c.Op = 9 ∨ c.Op = 13 ∨ c.Op = 7 ∨ c.Op = 19 ∨ c.Op = 14)) (hm : m = jw (W3 d)) (hk : -1 ≤ d.Tok ∧ (0 ≤ d.Tok → numR d.Tok)) (hc : c.Tok = -1) (hd : d = ⟨c.Op, c.A, c.B, d.Tok, c.Name, c.Msg, c.Filter⟩) {e : VCall} (h : Beh c m e) : e = d := by
  have w3 : (0 ≤ d.Tok ∧ cut1 32 m = byW ∧ cut2 32 m = txt d.Tok) ∨ (d.Tok = -1 ∧ cut1 32 m ≠ byW) := by
    by_cases t : 0 ≤ d.Tok
    · rw [hm, W3, if_pos t]
      have := jw_cut [txt d.Tok] by_noBl
      exact .inl ⟨t, this.1, this.2⟩
    · rw [hm, W3, if_neg t]
      exact .inr ⟨by omega, e_by⟩
  cases h with
  | msg h1 => exact absurd h1 (by omega)
  | num h1 => exact absurd h1 (by omega)
  | fil h1 => exact absurd h1 (by omega)
  | nof h1 => exact absurd h1 (by omega)
  | tok h1 hi n hn =>
    rcases w3 with ⟨a, b, e⟩ | ⟨a, b⟩
    · rw [hn.2 d.Tok (hk.2 a) e]; exact hd.symm
    · exact absurd hi b
  | nok h1 hi =>
    rcases w3 with ⟨a, b, e⟩ | ⟨a, b⟩
    · exact absurd b hi
    · rw [hd, a, ← hc]
theorem beh_ok {s : ByteArray} {op bb n : Int} {c : VCall} (hn : NOk (cut1 32 (cut2 32 s)) n) (hw : ∀ d, callOk d = true → cut1 32 s = word1 d → op = d.Op ∧ bb = kd d)
    (hb : Beh (C0 op bb n (cut1 32 (cut2 32 s))) (cut2 32 (cut2 32 s)) c) {d : VCall} (h : callB d = true) (e : callT d = s) : c = d := by
  have hk := (callB_nums h).1
  obtain ⟨h1, h2, h3⟩ := callT_cut h e
  obtain ⟨ho, hbb⟩ := hw d hk h1
  rw [h2] at hn hb
  rw [h3] at hb
  subst ho hbb
  cases form h with
  | upd ho he hx hr ht hm =>
    have hn' : n = d.A := hn.2 d.A hr hx
    have hC : C0 d.Op (kd d) n (X1 d) = ⟨9, d.A, d.B, -1, ByteArray.empty, zMsg, []⟩ := by
      unfold C0 kd
      rw [if_pos ho, ho, hn', if_neg (by omega), if_neg (by omega)]
    rw [hC, ht, jw_one] at hb
    generalize hmm : msgTxt d.Msg = m at hb
    cases hb with
    | msg h1 x hx => rw [hx.2 d.Msg hm hmm.symm]; exact he.symm
    | num h1 => exact absurd h1 (by simp)
    | fil h1 => exact absurd h1 (by simp)
    | nof h1 => exact absurd h1 (by simp)
    | tok h1 => exact absurd (.inl rfl) h1
    | nok h1 => exact absurd (.inl rfl) h1
  | pub ho he hx ht hm hp =>
    have hC : C0 d.Op (kd d) n (X1 d) = ⟨13, 0, 0, -1, d.Name, zMsg, []⟩ := by
      unfold C0 kd
      rw [ho, hx, if_pos rfl, if_neg (by omega)]
    rw [hC, ht, jw_one] at hb
    generalize hmm : msgTxt d.Msg = m at hb
    cases hb with
    | msg h1 x hx => rw [hx.2 d.Msg hm hmm.symm]; exact he.symm
    | num h1 => exact absurd h1 (by simp)
    | fil h1 => exact absurd h1 (by simp)
    | nof h1 => exact absurd h1 (by simp)
    | tok h1 => exact absurd (.inr (.inl rfl)) h1
    | nok h1 => exact absurd (.inr (.inl rfl)) h1
  | two ho he hx hr ht hB =>
    have hn' : n = d.A := hn.2 d.A hr hx
    have hC : C0 d.Op (kd d) n (X1 d) = ⟨d.Op, d.A, 0, -1, ByteArray.empty, zMsg, []⟩ := by
      unfold C0 kd
      rw [hn', if_neg (by omega), if_neg (by omega), if_neg (by omega)]
    rw [hC, ht, jw_one] at hb
    generalize hmm : txt d.B = m at hb
    cases hb with
    | msg h1 => exact absurd h1 (by show ¬ (d.Op = 9 ∨ d.Op = 13); omega)
    | num h1 x hx => rw [hx.2 d.B hB hmm.symm]; exact he.symm
    | fil h1 => exact absurd h1 (by show ¬ (d.Op = 14); omega)
    | nof h1 => exact absurd h1 (by show ¬ (d.Op = 14); omega)
    | tok h1 => exact absurd (.inr (.inr (by show d.Op = 7 ∨ d.Op = 19 ∨ d.Op = 14; omega))) h1
    | nok h1 => exact absurd (.inr (.inr (by show d.Op = 7 ∨ d.Op = 19 ∨ d.Op = 14; omega))) h1
  | sub ho he hx hr hB hf ht =>
    have hn' : n = d.A := hn.2 d.A hr hx
    have hC : C0 d.Op (kd d) n (X1 d) = ⟨14, d.A, 0, -1, ByteArray.empty, zMsg, []⟩ := by
      unfold C0 kd
      rw [ho, hn', if_neg (by omega), if_neg (by omega), if_neg (by omega)]
    rw [hC, ht] at hb
    have fe : emp (filtTxt d.Filter) = true → d.Filter = [] := fun h => by
      by_cases h0 : d.Filter = []
      · exact h0
      · rw [filt_cons hf h0] at h; simp at h
    have fin : ∀ (m : ByteArray) (b : Int), d.B = (if cut1 32 m = bkW then 1 else 0) → ((emp (filtTxt d.Filter) = true ∧ cut1 32 (mB m) ≠ ifW) ∨ (cut1 32 (mB m) = ifW ∧ cut2 32 (mB m) = filtTxt d.Filter)) → Beh ⟨14, d.A, 0, -1, ByteArray.empty, zMsg, []⟩ m c → c = d := fun m b hm hq hb => by
      cases hb with
      | msg h1 => exact absurd h1 (by simp)
      | num h1 => exact absurd h1 (by simp)
      | fil h1 hi fs hfs =>
        rcases hq with ⟨a, b⟩ | ⟨a, b⟩
        · exact absurd hi b
        · rw [hfs.2.2 d.Filter hf b]
          show (⟨14, d.A, if cut1 32 m = bkW then 1 else 0, -1, ByteArray.empty, zMsg, d.Filter⟩ : VCall) = d
          rw [← hm]; exact he.symm
      | nof h1 hi =>
        rcases hq with ⟨a, b⟩ | ⟨a, b⟩
        · show (⟨14, d.A, if cut1 32 m = bkW then 1 else 0, -1, ByteArray.empty, zMsg, []⟩ : VCall) = d
          rw [← hm]
          conv => rhs; rw [he, fe a]
        · exact absurd a hi
      | tok h1 => exact absurd (.inr (.inr (.inr (.inr rfl)))) h1
      | nok h1 => exact absurd (.inr (.inr (.inr (.inr rfl)))) h1
    refine fin _ 0 ?_ ?_ hb
    · by_cases b1 : d.B = 1
      · rw [if_pos b1, List.cons_append, List.nil_append, if_pos (jw_cut _ bk_noBl).1]; exact b1
      · rw [if_neg b1, List.nil_append]
        by_cases q : emp (filtTxt d.Filter) = true
        · rw [if_pos q, jw_nil, if_neg e_bk]; omega
        · rw [if_neg q, (jw_cut _ if_noBl).1, if_neg if_bk]; omega
    · have hmB : mB (jw ((if d.B = 1 then [bkW] else []) ++ (if emp (filtTxt d.Filter) = true then [] else [ifW, filtTxt d.Filter]))) = jw (if emp (filtTxt d.Filter) = true then [] else [ifW, filtTxt d.Filter]) := by
        by_cases b1 : d.B = 1
        · rw [if_pos b1]
          have := jw_cut (if emp (filtTxt d.Filter) = true then [] else [ifW, filtTxt d.Filter]) bk_noBl
          unfold mB
          rw [List.cons_append, List.nil_append, if_pos this.1]
          exact this.2
        · rw [if_neg b1, List.nil_append]
          unfold mB
          rw [if_neg]
          by_cases q : emp (filtTxt d.Filter) = true
          · rw [if_pos q, jw_nil]; exact e_bk
          · rw [if_neg q, (jw_cut _ if_noBl).1]; exact if_bk
      rw [hmB]
      by_cases q : emp (filtTxt d.Filter) = true
      · rw [if_pos q, jw_nil]; exact .inl ⟨q, e_if⟩
      · rw [if_neg q]
        have := jw_cut [filtTxt d.Filter] if_noBl
        exact .inr ⟨this.1, this.2⟩
  | rcv ho he hx hr ht hk =>
    have hn' : n = d.B := hn.2 d.B hr hx
    have hC : C0 d.Op (kd d) n (X1 d) = ⟨d.Op, 0, d.B, -1, ByteArray.empty, zMsg, []⟩ := by
      unfold C0
      rw [hn', if_neg (by omega), if_pos ho]
    rw [hC, ht] at hb
    exact tok_ok (by show ¬ (d.Op = 9 ∨ d.Op = 13 ∨ d.Op = 7 ∨ d.Op = 19 ∨ d.Op = 14); omega) rfl hk rfl he hb
  | any ho he hx hr ht hk =>
    have hn' : n = d.A := hn.2 d.A hr hx
    have hC : C0 d.Op (kd d) n (X1 d) = ⟨d.Op, d.A, 0, -1, ByteArray.empty, zMsg, []⟩ := by
      unfold C0 kd
      rw [hn', if_neg (by omega), if_neg (by omega), if_neg (by omega)]
    rw [hC, ht] at hb
    exact tok_ok (by show ¬ (d.Op = 9 ∨ d.Op = 13 ∨ d.Op = 7 ∨ d.Op = 19 ∨ d.Op = 14); omega) rfl hk rfl he hb
end Go.Fw
