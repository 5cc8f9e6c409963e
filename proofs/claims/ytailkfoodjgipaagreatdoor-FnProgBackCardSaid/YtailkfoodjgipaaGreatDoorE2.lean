/- Values: the law of a program's text: read as the program; twice one behind the other. -/
import Derived.Test.YtailkfoodjgipaaGreatDoorD7
import Derived.Test.YtailkfoodjgipaaGreatDoorKp
import Derived.Test.YtailkfoodjgipaaGreatDoorM3
set_option linter.unusedVariables false
set_option linter.unusedSimpArgs false
namespace Go.Fw
open Go.Proofs
theorem sumL_cons {α : Type} {f : α → Nat} {a : α} {r : List α} : sumL f (a :: r) = 1 + f a + sumL f r := by
  unfold sumL; simp only [List.length_cons, List.map_cons, List.sum_cons]; omega
theorem msg_40 {m : VMsg} (h : okMs m = true) : m.Text.size ≤ 40 := by
  have hz : ByteArray.empty.size = 0 := rfl
  rcases msg_cases h with ⟨a, b, c⟩ | ⟨a, b, c⟩
  · rw [a]; show ByteArray.empty.size ≤ _; omega
  · unfold okPl at c
    simp only [Bool.and_eq_true, decide_eq_true_eq] at c
    exact c.1
theorem part_10 {s : ByteArray} (h : okPart s = true) : s.size ≤ 10 := by
  unfold okPart inR zN at h
  simp at h; omega
theorem term_10 {u : VTerm} (h : okTm u = true) : u.Text.size ≤ 10 := by
  have h2 := termTxt_12 h
  rw [term_rs h, ByteArray.size_append] at h2
  have hw : 1 ≤ (wd u.Op).size := by
    have := wd_dl (opN h).2
    rw [(opN h).1] at this
    have h3 := WL_ne (opN h).2
    rw [← dl_len, this]
    cases hq : WL u.Op.toNat with
    | nil => exact absurd hq h3
    | cons x r => simp
  have hz : ByteArray.empty.size = 0 := rfl
  unfold rs at h2
  rcases term_cases h with ⟨a, b⟩ | ⟨a, b⟩ | ⟨a, b⟩ | ⟨a, b⟩ | ⟨a, b⟩
  · rw [a]; show ByteArray.empty.size ≤ _; omega
  · rw [a]; show ByteArray.empty.size ≤ _; omega
  · rw [a]; show ByteArray.empty.size ≤ _; omega
  · have : u.Op = 6 := by rw [a]
    rw [if_neg (by omega)] at h2; omega
  · have : u.Op = 7 := by rw [a]
    rw [if_neg (by omega)] at h2; omega
theorem sumL_le {α : Type} {f : α → Nat} {B : Nat} : ∀ xs : List α, (∀ x ∈ xs, f x ≤ B) → sumL f xs ≤ xs.length * (1 + B) := by
  intro xs
  induction xs with
  | nil => intro _; simp [sumL]
  | cons a r ih =>
    intro h
    have h1 := h a (by simp)
    have h2 := ih (fun x hx => h x (List.mem_cons_of_mem _ hx))
    rw [sumL_cons, List.length_cons, Nat.add_mul]
    omega
theorem filt_sz {fs : List VTerm} (h : filtOk fs = true) : szTermS fs ≤ 132 := by
  have ho := filtOk_all h
  have hall : ∀ u ∈ fs, szTerm u ≤ 10 := fun u hu => by
    obtain ⟨i, hi, e⟩ := List.getElem_of_mem hu
    have := ho.2 i hi
    rw [List.getD_eq_getElem?_getD, List.getElem?_eq_getElem hi, Option.getD_some, e] at this
    exact term_10 this
  have := sumL_le fs hall
  have : fs.length * (1 + 10) ≤ 12 * 11 := Nat.mul_le_mul_right 11 ho.1
  show sumL szTerm fs ≤ 132
  omega
theorem call_sz {c : VCall} (h : callB c = true) : szCall c ≤ 1000 := by
  have hz : ByteArray.empty.size = 0 := rfl
  have hs0 : szTermS [] = 0 := rfl
  have hm0 : szMsg zMsg = 0 := rfl
  cases form h with
  | upd ho e hx hn ht hm =>
    have := msg_40 hm
    rw [e]; show ByteArray.empty.size + c.Msg.Text.size + szTermS [] ≤ _; omega
  | pub ho e hx ht hm hp =>
    have := msg_40 hm
    have h24 : c.Name.size ≤ 24 := by unfold okPatS inR zN at hp; simp at hp; omega
    rw [e]; show c.Name.size + c.Msg.Text.size + szTermS [] ≤ _; omega
  | two ho e => rw [e]; show ByteArray.empty.size + szMsg zMsg + szTermS [] ≤ _; omega
  | sub ho e hx hn hb hf ht =>
    have := filt_sz hf
    rw [e]; show ByteArray.empty.size + szMsg zMsg + szTermS c.Filter ≤ _; omega
  | rcv ho e => rw [e]; show ByteArray.empty.size + szMsg zMsg + szTermS [] ≤ _; omega
  | any ho e => rw [e]; show ByteArray.empty.size + szMsg zMsg + szTermS [] ≤ _; omega

theorem nl_app {a b : ByteArray} (ha : noNl a) (hb : noNl b) : noNl (a ++ b) := fun x hx => by
  have e : dl (a ++ b) = dl a ++ dl b := by show (a ++ b).data.toList = _; rw [dapp]
  rw [e] at hx
  exact (List.mem_append.1 hx).elim (ha x) (hb x)
theorem digs_noNl (n : Nat) : noNl (digs n) := fun b hb e => by
  have := digs_all n b hb
  rw [e] at this; simp at this
theorem txt_noNl (n : Int) : noNl (txt n) := fun b hb => by
  by_cases h : n < 0
  · rw [txt_neg h] at hb
    rcases List.mem_cons.1 hb with rfl | hb
    · decide
    · exact digs_noNl _ b hb
  · rw [txt_pos h] at hb
    exact digs_noNl _ b hb
theorem part_noNl {s : ByteArray} (h : okPart s = true) : noNl s := fun b hb e => by
  unfold okPart at h
  simp only [Bool.and_eq_true] at h
  have := allB_mem s.size 0 (by omega) h.2 b (by rw [List.drop_zero]; exact hb)
  rw [e] at this
  exact absurd this (by decide)
theorem WL_noNl : ∀ i, i < 11 → ∀ b ∈ WL i, b ≠ 10 := by decide
theorem term_noNl {u : VTerm} (h : okTm u = true) : noNl (termTxt u) := fun b hb => by
  rw [term_dl h] at hb
  rcases List.mem_append.1 hb with hb | hb
  · exact WL_noNl _ (by have := (opN h).2; omega) b hb
  · unfold rs at hb
    by_cases c : u.Op = 4 ∨ u.Op = 5
    · rw [if_pos c] at hb; exact txt_noNl _ b hb
    · rw [if_neg c] at hb
      by_cases c6 : u.Op = 6 ∨ u.Op = 7
      · refine part_noNl ?_ b hb
        rcases c6 with c6 | c6 <;> simp [okTm, isOp, c6] at h <;> exact h.2
      · have : u.Text = ByteArray.empty := by
          rcases term_cases h with ⟨a, x⟩ | ⟨a, x⟩ | ⟨a, x⟩ | ⟨a, x⟩ | ⟨a, x⟩
          · rw [a]
          · rw [a]
          · rw [a]
          · exfalso; have : u.Op = 6 := by rw [a]
            omega
          · exfalso; have : u.Op = 7 := by rw [a]
            omega
        rw [this] at hb
        simp [dl] at hb
theorem pat_noNl {s : ByteArray} (h : okPatS s = true) : noNl s := fun b hb e => by
  unfold okPatS at h
  simp only [Bool.and_eq_true] at h
  rcases pt_mem s (s.size + 1) 0 0 (by omega) (by omega) (by omega) b (by rw [List.drop_zero]; exact hb) with h1 | ⟨x, hx, hbx⟩
  · rw [e] at h1; exact absurd h1 (by decide)
  · obtain ⟨j, hj, ej⟩ := List.getElem_of_mem hx
    have hj' : j < (parts s).length := hj
    have := patF_mem _ _ 0 h.2 j (by omega) (by omega)
    have eg : (parts s).getD j ByteArray.empty = x := by
      rw [List.getD_eq_getElem?_getD, List.getElem?_eq_getElem hj', Option.getD_some]; exact ej
    unfold okPat at this
    rw [eg] at this
    simp only [Bool.or_eq_true, Bool.and_eq_true] at this
    have tol : ∀ L : List UInt8, (x.toList == (bs L).toList) = true → dl x = L := fun L h => by
      rw [ByteArray.toList_eq, ByteArray.toList_eq] at h
      exact eq_of_beq h
    rcases this with (h2 | h2) | h2
    · rw [tol _ h2, e] at hbx; exact absurd hbx (by decide)
    · rw [tol _ h2.1, e] at hbx; exact absurd hbx (by decide)
    · unfold okPlain at h2
      simp only [Bool.and_eq_true] at h2
      have := allB_mem x.size 0 (by omega) h2.2 b (by rw [List.drop_zero]; exact hbx)
      rw [e] at this
      exact absurd this (by decide)
theorem WLs_noNl : ∀ o, o < 20 → ∀ b ∈ WLs.getD o [], b ≠ 10 := by decide
theorem KLs_noNl : ∀ o, o < 5 → ∀ b ∈ KLs.getD o [], b ≠ 10 := by decide
theorem word1_noNl {d : VCall} (h : callOk d = true) : noNl (word1 d) := by
  rcases word1_dl h with ⟨c, b, h1, h2, h3, h4⟩ | ⟨c, o, h1, h2, h3, h4, h5⟩
  · intro x hx; rw [h4] at hx; exact KLs_noNl b h2 x hx
  · intro x hx; rw [h5] at hx; exact WLs_noNl o h2 x hx
theorem bs_noNl {L : List UInt8} (h : ∀ b ∈ L, b ≠ 10) : noNl (bs L) := h
theorem empty_noNl : noNl ByteArray.empty := fun b hb => by simp [dl] at hb
theorem msg_noNl {m : VMsg} (h : okMs m = true) : noNl (msgTxt m) := by
  unfold msgTxt
  rw [if_pos h]
  split
  · exact txt_noNl _
  · rcases msg_cases h with ⟨a, b, c⟩ | ⟨a, b, c⟩
    · exact absurd (by rw [a]) ‹¬m.Kind = 1›
    · unfold okPl at c
      simp only [Bool.and_eq_true] at c
      refine nl_app (nl_app (bs_noNl (by decide)) (fun x hx e => ?_)) (bs_noNl (by decide))
      have := allB_mem m.Text.size 0 (by omega) c.2 x (by rw [List.drop_zero]; exact hx)
      rw [e] at this
      exact absurd this (by decide)
theorem jn_noNl (ts : List VTerm) : ∀ (k i : Nat) (s : ByteArray), i + k = ts.length → (∀ j, j < ts.length → okTm (ts.getD j zTerm) = true) → noNl s → noNl (jn ts k i s) := by
  intro k
  induction k with
  | zero => intro i s hi ho hs; exact hs
  | succ k ih =>
    intro i s hi ho hs
    unfold jn
    refine ih (i + 1) _ (by omega) ho (nl_app ?_ (term_noNl (ho i (by omega))))
    split
    · exact nl_app hs (bs_noNl (by decide))
    · exact hs
theorem filt_noNl (ts : List VTerm) : noNl (filtTxt ts) := by
  unfold filtTxt
  split
  · rename_i h
    exact jn_noNl ts _ 0 _ (by omega) (filtOk_all h).2 empty_noNl
  · exact empty_noNl
theorem jw_noNl (ws : List ByteArray) (h : ∀ w ∈ ws, noNl w) : noNl (jw ws) := by
  cases ws with
  | nil => exact empty_noNl
  | cons x r =>
    have : ∀ (r : List ByteArray) (x : ByteArray), noNl x → (∀ w ∈ r, noNl w) → noNl (r.foldl (fun s w => s ++ bs [32] ++ w) x) := by
      intro r
      induction r with
      | nil => intro x hx _; exact hx
      | cons y r ih => intro x hx hr; exact ih _ (nl_app (nl_app hx (bs_noNl (by decide))) (hr y (by simp))) (fun w hw => hr w (List.mem_cons_of_mem _ hw))
    exact this r x (h x (by simp)) (fun w hw => h w (List.mem_cons_of_mem _ hw))
theorem w3_noNl (d : VCall) : ∀ w ∈ W3 d, noNl w := by
  intro w hw
  unfold W3 at hw
  split at hw
  · simp only [List.mem_cons, List.not_mem_nil, or_false] at hw
    rcases hw with rfl | rfl
    · exact bs_noNl (by decide)
    · exact txt_noNl _
  · simp at hw
theorem callT_noNl {d : VCall} (h : callB d = true) : noNl (callT d) := by
  have hk := (callB_nums h).1
  have eT : callT d = jw (word1 d :: X1 d :: tlW d) := by unfold callT; rw [h]; rfl
  rw [eT]
  have key : noNl (X1 d) ∧ ∀ w ∈ tlW d, noNl w := by
    cases form h with
    | upd ho e hx hn ht hm =>
      rw [hx, ht]
      exact ⟨txt_noNl _, fun w hw => by rw [List.mem_singleton.1 hw]; exact msg_noNl hm⟩
    | pub ho e hx ht hm hp =>
      rw [hx, ht]
      exact ⟨pat_noNl hp, fun w hw => by rw [List.mem_singleton.1 hw]; exact msg_noNl hm⟩
    | two ho e hx hn ht =>
      rw [hx, ht]
      exact ⟨txt_noNl _, fun w hw => by rw [List.mem_singleton.1 hw]; exact txt_noNl _⟩
    | sub ho e hx hn hb hf ht =>
      rw [hx, ht]
      refine ⟨txt_noNl _, fun w hw => ?_⟩
      rcases List.mem_append.1 hw with hw | hw
      · split at hw
        · rw [List.mem_singleton.1 hw]; exact bs_noNl (by decide)
        · simp at hw
      · split at hw
        · simp at hw
        · simp only [List.mem_cons, List.not_mem_nil, or_false] at hw
          rcases hw with rfl | rfl
          · exact bs_noNl (by decide)
          · exact filt_noNl _
    | rcv ho e hx hn ht => rw [hx, ht]; exact ⟨txt_noNl _, w3_noNl d⟩
    | any ho e hx hn ht => rw [hx, ht]; exact ⟨txt_noNl _, w3_noNl d⟩
  refine jw_noNl _ fun w hw => ?_
  rcases List.mem_cons.1 hw with rfl | hw
  · exact word1_noNl hk
  · rcases List.mem_cons.1 hw with rfl | hw
    · exact key.1
    · exact key.2 w hw
theorem callT_1400 {c : VCall} (hx : Fit c) : (callT c).size ≤ 1400 := by
  cases h : callB c with
  | true => have := call_sz h; have := callT_size2 c hx; omega
  | false => unfold callT; rw [h]; show (ByteArray.empty).size ≤ _; have hz : ByteArray.empty.size = 0 := rfl; omega
def prT (cs : List VCall) : Nat → Nat → ByteArray → ByteArray × Bool
  | 0, _, s => (s, true)
  | k + 1, i, s => if callB (cs.getD i zCall) = true then prT cs k (i + 1) (s ++ callT (cs.getD i zCall) ++ bs [10]) else (ByteArray.empty, false)
abbrev rPr (r : ByteArray × Bool) : Option (AV × List AV) := some (.tup 2 (lstG [.S r.1, .B r.2]), [])
theorem z10 : (bs [10]).size = 1 := rfl
theorem l13 (cs : List VCall) (hl : cs.length ≤ 100) (hf : ∀ c ∈ cs, Fit c) : ∀ (k i : Nat) (s : ByteArray), i + k = cs.length → s.size ≤ i * 1401 →
    HH 15 [] (k + 1) [true, true, true, false, true] (hdS [(0, slCallS cs), (4, .S s), (5, nI (i : Int))] [] []) = rPr (prT cs k i s) := by
  intro k
  induction k with
  | zero => intro i s hi hs; rw [hstep, h13, bf (by simp [zN]; omega)]; rfl
  | succ k ih =>
    intro i s hi hs
    have hi2 : i < cs.length := by omega
    have hx := hf _ (getD_mem (d := zCall) hi2)
    have hz := callT_1400 hx
    have hm : i * 1401 ≤ 100 * 1401 := Nat.mul_le_mul_right _ (by omega)
    rw [hstep, h13, bt (by simp [zN]; omega), bt (bndL hi2), Int.toNat_natCast]
    refine obind' (v8 _ hx) ?_
    unfold prT
    cases hb : callB (cs.getD i zCall) with
    | false => exact bt' rfl rfl
    | true =>
      rw [if_pos rfl]
      refine bf' rfl (bt' (decide_eq_true (by show s.size + (callT (cs.getD i zCall)).size ≤ _; omega)) (bt' (decide_eq_true (by show (s ++ callT (cs.getD i zCall)).size + 1 ≤ _; rw [ByteArray.size_append]; omega)) ?_))
      rw [wrapN (by omega)]
      exact ih (i + 1) (s ++ callT (cs.getD i zCall) ++ bs [10]) (by omega) (by rw [ByteArray.size_append, ByteArray.size_append, z10]; omega)
def progR (cs : List VCall) : ByteArray × Bool := if cs.length ≤ 30 then prT cs cs.length 0 ByteArray.empty else (ByteArray.empty, false)
theorem l15 (cs : List VCall) (hl : cs.length ≤ 100) (hf : ∀ c ∈ cs, Fit c) : ∀ (k i : Nat) (s : ByteArray), i + k = cs.length → s.size ≤ i * 1401 →
    HH 14 [] (k + 1) [true, true, false, true] (hdS [(0, slCallS cs), (4, .S s), (9, slCallS cs), (10, nI (zN cs.length)), (11, nI (i : Int))] [] []) = rPr (if cs.length ≤ 30 then prT cs k i s else (ByteArray.empty, false)) := by
  intro k
  induction k with
  | zero =>
    intro i s hi hs
    rw [hstep, h15, bf (by simp [zN]; omega)]
    by_cases c : cs.length ≤ 30
    · rw [if_pos c]; exact bf' (decide_eq_false (by simp only [zN]; omega)) rfl
    · rw [if_neg c]; exact bt' (decide_eq_true (by simp only [zN]; omega)) rfl
  | succ k ih =>
    intro i s hi hs
    have hi2 : i < cs.length := by omega
    have hx := hf _ (getD_mem (d := zCall) hi2)
    have hz := callT_1400 hx
    have hm : i * 1401 ≤ 100 * 1401 := Nat.mul_le_mul_right _ (by omega)
    rw [hstep, h15, bt (by simp [zN]; omega), bt (bndL hi2), Int.toNat_natCast]
    refine obind' (v10 _ hx) ?_
    unfold prT
    cases hb : callB (cs.getD i zCall) with
    | false =>
      refine bt' rfl ?_
      rw [if_neg (by simp : ¬ false = true)]
      split <;> rfl
    | true =>
      rw [if_pos rfl]
      refine bf' rfl (bt' (decide_eq_true (by show (callT (cs.getD i zCall)).size + 1 ≤ _; omega)) (bt' (decide_eq_true (by show s.size + (callT (cs.getD i zCall) ++ bs [10]).size ≤ _; rw [ByteArray.size_append, z10]; omega)) ?_))
      rw [wrapN (by omega)]
      show HH 14 [] (k + 1) [true, true, false, true] (hdS [(0, slCallS cs), (4, AV.S (s ++ (callT (cs.getD i zCall) ++ bs [10]))), (9, slCallS cs), (10, nI (zN cs.length)), (11, nI ((i + 1 : Nat) : Int))] [] []) = _
      rw [← ByteArray.append_assoc]
      exact ih (i + 1) (s ++ callT (cs.getD i zCall) ++ bs [10]) (by omega) (by rw [ByteArray.size_append, ByteArray.size_append, z10]; omega)
theorem v13 (cs : List VCall) (hl : cs.length ≤ 100) (hf : ∀ c ∈ cs, Fit c) : E 15 [slCallS cs] [] = rPr (progR cs) := by
  refine ev1 (cs.length + 1) rfl ((e13 ..).trans ?_)
  unfold progR
  by_cases c : cs.length ≤ 30
  · rw [if_pos c]
    exact bf' (decide_eq_false (by simp only [zN]; omega)) (l13 cs hl hf cs.length 0 ByteArray.empty (by omega) (by show 0 ≤ _; omega))
  · rw [if_neg c]
    exact bt' (decide_eq_true (by simp only [zN]; omega)) rfl
theorem v15 (cs : List VCall) (hl : cs.length ≤ 100) (hf : ∀ c ∈ cs, Fit c) : E 14 [slCallS cs] [] = rPr (progR cs) :=
  ev1 (cs.length + 1) rfl ((e15 ..).trans (l15 cs hl hf cs.length 0 ByteArray.empty (by omega) (by show 0 ≤ _; omega)))
/-- The text of calls that are right. -/
def tx : List VCall → ByteArray
  | [] => ByteArray.empty
  | c :: r => callT c ++ bs [10] ++ tx r
theorem tx_app (a b : List VCall) : tx (a ++ b) = tx a ++ tx b := by
  induction a with
  | nil => show tx b = ByteArray.empty ++ tx b; simp
  | cons c r ih => show callT c ++ bs [10] ++ tx (r ++ b) = callT c ++ bs [10] ++ tx r ++ tx b; rw [ih, ← ByteArray.append_assoc]
theorem tx_size (xs : List VCall) (hf : ∀ c ∈ xs, Fit c) : (tx xs).size ≤ xs.length * 1401 := by
  induction xs with
  | nil => show 0 ≤ _; omega
  | cons c r ih =>
    have h1 := callT_1400 (hf c (by simp))
    have h2 := ih (fun c hc => hf c (List.mem_cons_of_mem _ hc))
    show (callT c ++ bs [10] ++ tx r).size ≤ _
    rw [ByteArray.size_append, ByteArray.size_append, z10, List.length_cons, Nat.add_mul]; omega
theorem prT_tx (cs : List VCall) : ∀ (k i : Nat) (s : ByteArray), i + k = cs.length → ((∀ c ∈ cs.drop i, callB c = true) ∧ prT cs k i s = (s ++ tx (cs.drop i), true)) ∨ prT cs k i s = (ByteArray.empty, false) := by
  intro k
  induction k with
  | zero =>
    intro i s hi
    rw [List.drop_eq_nil_of_le (by omega)]
    refine .inl ⟨fun c hc => by simp at hc, ?_⟩
    show (s, true) = (s ++ ByteArray.empty, true)
    simp
  | succ k ih =>
    intro i s hi
    rw [drop_getD (d := zCall) (show i < cs.length by omega)]
    unfold prT
    cases hb : callB (cs.getD i zCall) with
    | false => exact .inr (if_neg (by simp))
    | true =>
      rw [if_pos rfl]
      rcases ih (i + 1) (s ++ callT (cs.getD i zCall) ++ bs [10]) (by omega) with ⟨h1, h2⟩ | h
      · refine .inl ⟨fun c hc => ?_, ?_⟩
        · rcases List.mem_cons.1 hc with rfl | hc
          · exact hb
          · exact h1 c hc
        · rw [h2]
          show _ = (s ++ (callT (cs.getD i zCall) ++ bs [10] ++ tx (cs.drop (i + 1))), true)
          simp only [ByteArray.append_assoc]
      · exact .inr h
theorem progR_tx (cs : List VCall) : (cs.length ≤ 30 ∧ (∀ c ∈ cs, callB c = true) ∧ progR cs = (tx cs, true)) ∨ progR cs = (ByteArray.empty, false) := by
  unfold progR
  by_cases c : cs.length ≤ 30
  · rw [if_pos c]
    rcases prT_tx cs cs.length 0 ByteArray.empty (by omega) with ⟨h1, h2⟩ | h
    · refine .inl ⟨c, by simpa using h1, ?_⟩
      rw [h2, List.drop_zero]; simp
    · exact .inr h
  · rw [if_neg c]; exact .inr rfl
theorem RP_cons (c : VCall) (r : ByteArray) (pre : List VCall) (hb : callB c = true) : RP (callT c ++ bs [10] ++ r) pre = if rdB (callT c) = false ∨ pre.length = 30 then ([], (pre.length : Int)) else RP r (pre ++ [rdC (callT c)]) := by
  have hn : callT c ++ bs [10] ++ r ≠ ByteArray.empty := fun e => by
    have := congrArg ByteArray.size e
    rw [ByteArray.size_append, ByteArray.size_append, z10] at this
    have hz : ByteArray.empty.size = 0 := rfl
    omega
  obtain ⟨e1, e2, e3⟩ := cut_app 10 r (callT_noNl hb)
  rw [RP, dif_neg hn, e1, e2, e3]
  simp
theorem rd_self {c : VCall} (hb : callB c = true) (h : rdB (callT c) = true) : rdC (callT c) = c := by
  rcases (rd_spec (callT c)).2.2.1 with h1 | h1
  · exact ((rd_spec (callT c)).2.2.2 h1.2.2.2 c hb rfl).1
  · rw [h1.1] at h; simp at h
theorem RP_tx : ∀ (ys pre : List VCall), (∀ c ∈ ys, callB c = true) → (∀ c ∈ ys, rdB (callT c) = true) → pre.length + ys.length ≤ 30 → RP (tx ys) pre = (pre ++ ys, -1) := by
  intro ys
  induction ys with
  | nil => intro pre _ _ _; show RP ByteArray.empty pre = _; rw [RP, dif_pos rfl]; simp
  | cons c r ih =>
    intro pre hb hr hl
    have hb0 := hb c (by simp)
    have hr0 := hr c (by simp)
    simp only [List.length_cons] at hl
    show RP (callT c ++ bs [10] ++ tx r) pre = _
    rw [RP_cons c _ _ hb0, if_neg (fun h => h.elim (fun h => by rw [hr0] at h; simp at h) (fun h => by omega)), rd_self hb0 hr0, ih (pre ++ [c]) (fun c hc => hb c (List.mem_cons_of_mem _ hc)) (fun c hc => hr c (List.mem_cons_of_mem _ hc)) (by simp; omega)]
    simp
theorem RP_bad : ∀ (ys pre : List VCall), (∀ c ∈ ys, callB c = true) → ¬ (∀ c ∈ ys, rdB (callT c) = true) → ∃ n : Int, 0 ≤ n ∧ RP (tx ys) pre = ([], n) := by
  intro ys
  induction ys with
  | nil => intro pre _ h; exact absurd (fun c hc => by simp at hc) h
  | cons c r ih =>
    intro pre hb hr
    have hb0 := hb c (by simp)
    show ∃ n : Int, 0 ≤ n ∧ RP (callT c ++ bs [10] ++ tx r) pre = _
    rw [RP_cons c _ _ hb0]
    by_cases h : rdB (callT c) = false ∨ pre.length = 30
    · rw [if_pos h]; exact ⟨_, by omega, rfl⟩
    · rw [if_neg h]
      refine ih _ (fun c hc => hb c (List.mem_cons_of_mem _ hc)) (fun hall => hr fun x hx => ?_)
      rcases List.mem_cons.1 hx with rfl | hx
      · cases e : rdB (callT x) with
        | true => rfl
        | false => exact absurd (.inl e) h
      · exact hall x hx
theorem u67 (xs : List VTerm) (hl : xs.length ≤ 4294967296) : ∀ (k j : Nat), j + k = xs.length → HH 67 [] (k + 1) P67 (S67 xs xs j) = some (.B true, []) := by
  intro k
  induction k with
  | zero => intro j hj; rw [hstep, dh67, bf (by simp [zN]; omega)]
  | succ k ih =>
    intro j hj
    rw [hstep, dh67, bt (by simp [zN]; omega), bt (bndL (by omega)), bt (bndL (by omega)), wrapN (by omega), bf (by simp)]
    exact ih (j + 1) (by omega)
theorem w10 (c : VCall) (hf : c.Filter.length ≤ 4294967296) : E 10 [slCall c, slCall c] [] = some (.B true, []) := by
  have q : E 67 [slTermS c.Filter, slTermS c.Filter] [] = some (.B true, []) := ev1 (c.Filter.length + 1) rfl ((de67 ..).trans (bf' (by simp) (u67 c.Filter hf _ 0 (by omega))))
  have q2 : E 36 [slCall c, slCall c] [] = some (.B true, []) :=
    ev1 0 rfl ((de36 ..).trans (bt' (by simp) (bt' (by simp) (bt' (by simp) (bt' (by simp) (bt' (by simp) (bt' (by simp) (obind' q rfl))))))))
  exact ev1 0 rfl ((de10 ..).trans (obind' q2 rfl))
theorem u4 (cs : List Int) (xs : List VCall) (hf : ∀ c ∈ xs, Fit c) (hl : xs.length ≤ 30) (hb : ∀ c ∈ xs, callB c = true) (hr : ∀ c ∈ xs, rdB (callT c) = true) : ∀ (k j : Nat), j + k = xs.length →
    HH 4 [] (k + 1) [true, true, true, true, true, true, true, true, true, true, true, true, false, true] (hdS [(3, .rf 4096000), (6, .S (tx xs)), (8, .rf 4100096), (12, nI (j : Int))] [(4096000, ⟨xs.length, 9, goCallS xs⟩), (4100096, ⟨xs.length, 9, goCallS xs⟩)] []) = some (.B true, []) := by
  have hs := tx_size xs hf
  have hs2 : xs.length * 1401 ≤ 30 * 1401 := Nat.mul_le_mul_right _ hl
  intro k
  induction k with
  | zero =>
    intro j hj
    rw [hstep, dh4 _ _ cs, bf (by simp [zN]; omega)]
    have w : IntKind.i64.wrap (zN xs.length * 2) = zN xs.length * 2 := wrapS (by simp only [zN]; omega) (by simp only [zN]; omega)
    have w2 : IntKind.i64.wrap (2 * zN xs.length) = 2 * zN xs.length := wrapS (by simp only [zN]; omega) (by simp only [zN]; omega)
    rw [w]
    by_cases c : 30 < zN xs.length * 2
    · exact bt' (decide_eq_true c) rfl
    · have e2 : tx xs ++ tx xs = tx (xs ++ xs) := (tx_app xs xs).symm
      have q := v22 (tx xs ++ tx xs) (by rw [ByteArray.size_append]; omega)
      rw [e2, RP_tx (xs ++ xs) [] (fun c hc => (List.mem_append.1 hc).elim (hb c) (hb c)) (fun c hc => (List.mem_append.1 hc).elim (hr c) (hr c)) (by simp only [zN] at c; simp; omega), ← e2] at q
      refine bf' (decide_eq_false c) (bt' (decide_eq_true (by omega)) (obind' q (bt' (decide_eq_true rfl) ?_)))
      show some (AV.B (decide (zN ([] ++ (xs ++ xs)).length = IntKind.i64.wrap (2 * zN xs.length))), []) = _
      rw [w2, decide_eq_true (by simp only [zN, List.nil_append, List.length_append]; omega)]
  | succ k ih =>
    intro j hj
    have hj2 : j < xs.length := by omega
    have hx := hf _ (getD_mem (d := zCall) hj2)
    have q := w10 (xs.getD j zCall) hx.hf
    rw [hstep, dh4 _ _ cs, bt (by simp [zN]; omega), bt (bndL hj2), bt (bndL hj2), Int.toNat_natCast]
    refine obind' q (bf' rfl ?_)
    rw [wrapN (by omega)]
    exact ih (j + 1) (by omega)
theorem c4 (cs : List Int) : E 4 [.gv cs] [] = some (.B true, []) := by
  have q5 : E 5 [.gv cs] [] = some (.B (decide (1048576 < zN cs.length)), []) := ev1 0 rfl (de5 ..)
  by_cases hb : 1048576 < cs.length
  · exact ev1 0 rfl ((de4 ..).trans (obind' q5 (bt' (decide_eq_true (by simp only [zN]; omega)) rfl)))
  have hc : codeOk cs := by unfold codeOk; omega
  obtain ⟨_, q13, xs, rfl, hl, hf⟩ := w13 hc
  have q14 := v15 xs (by omega) hf
  have q15 := v13 xs (by omega) hf
  have ebb : ∀ b : Bool, (!b == b) = false := fun b => by cases b <;> rfl
  refine ev1 (xs.length + 1) rfl ((de4 ..).trans (obind' q5 (bf' (decide_eq_false (by simp only [zN]; omega)) (obind' q13 (obind' q14 (obind' q15 (bf' (ebb (progR xs).2) (bf' (by show (!(progR xs).1.toList == (progR xs).1.toList) = false; simp) ?_))))))))
  rcases progR_tx xs with ⟨h30, hcb, hp⟩ | hp
  · rw [hp]
    refine bf' rfl ?_
    have hs := tx_size xs hf
    have hs2 : xs.length * 1401 ≤ 30 * 1401 := Nat.mul_le_mul_right _ h30
    have q16 := v22 (tx xs) (by omega)
    have q17 := v21 (tx xs) (by omega)
    by_cases hr : ∀ c ∈ xs, rdB (callT c) = true
    · rw [RP_tx xs [] hcb hr (by simp; omega), List.nil_append] at q16 q17
      refine obind' q16 (obind' q17 (bf' rfl (bf' rfl (bf' ?_ ?_))))
      · show (!decide (zN xs.length = zN xs.length)) = false; simp
      · exact u4 cs xs hf h30 hcb hr xs.length 0 (by omega)
    · obtain ⟨n, hn, e⟩ := RP_bad xs [] hcb hr
      rw [e] at q16 q17
      refine obind' q16 (obind' q17 (bf' ?_ (bt' (decide_eq_true hn) rfl)))
      show (!decide (n = n)) = false; simp
  · rw [hp]
    refine bt' rfl ?_
    show some (AV.B (ByteArray.empty.toList == ByteArray.empty.toList), []) = _
    simp
end Go.Fw
