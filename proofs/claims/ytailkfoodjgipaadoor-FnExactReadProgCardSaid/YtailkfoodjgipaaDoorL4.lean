/- The law's value: ReadCall. -/
import Derived.Test.YtailkfoodjgipaaDoorL3
set_option linter.unusedVariables false
set_option linter.unusedSimpArgs false
namespace Go.Fw
open Go.Proofs
theorem msg_40 {m : VMsg} (h : okMs m = true) : m.Text.size ≤ 40 := by
  have hz : ByteArray.empty.size = 0 := rfl
  rcases msg_cases h with ⟨a, b, c⟩ | ⟨a, b, c⟩
  · rw [a]; show ByteArray.empty.size ≤ _; omega
  · unfold okPl at c
    simp only [Bool.and_eq_true, decide_eq_true_eq] at c
    exact c.1
theorem part_10 {s : ByteArray} (h : okPart s = true) : s.size ≤ 10 := by
  unfold okPart inR zN at h
  simp at h; omega
theorem term_10 {u : VTerm} (h : okTm u = true) : u.Text.size ≤ 10 := by
  have h2 := termTxt_12 h
  rw [term_rs h, ByteArray.size_append] at h2
  have hw : 1 ≤ (wd u.Op).size := by
    have := wd_dl (opN h).2
    rw [(opN h).1] at this
    have h3 := WL_ne (opN h).2
    rw [← dl_len, this]
    cases hq : WL u.Op.toNat with
    | nil => exact absurd hq h3
    | cons x r => simp
  have hz : ByteArray.empty.size = 0 := rfl
  unfold rs at h2
  rcases term_cases h with ⟨a, b⟩ | ⟨a, b⟩ | ⟨a, b⟩ | ⟨a, b⟩ | ⟨a, b⟩
  · rw [a]; show ByteArray.empty.size ≤ _; omega
  · rw [a]; show ByteArray.empty.size ≤ _; omega
  · rw [a]; show ByteArray.empty.size ≤ _; omega
  · have : u.Op = 6 := by rw [a]
    rw [if_neg (by omega)] at h2; omega
  · have : u.Op = 7 := by rw [a]
    rw [if_neg (by omega)] at h2; omega
theorem sumL_le {α : Type} {f : α → Nat} {B : Nat} : ∀ xs : List α, (∀ x ∈ xs, f x ≤ B) → sumL f xs ≤ xs.length * (1 + B) := by
  intro xs
  induction xs with
  | nil => intro _; simp [sumL]
  | cons a r ih =>
    intro h
    have h1 := h a (by simp)
    have h2 := ih (fun x hx => h x (List.mem_cons_of_mem _ hx))
    rw [sumL_cons, List.length_cons, Nat.add_mul]
    omega
theorem filt_sz {fs : List VTerm} (h : filtOk fs = true) : szTermS fs ≤ 132 := by
  have ho := filtOk_all h
  have hall : ∀ u ∈ fs, szTerm u ≤ 10 := fun u hu => by
    obtain ⟨i, hi, e⟩ := List.getElem_of_mem hu
    have := ho.2 i hi
    rw [List.getD_eq_getElem?_getD, List.getElem?_eq_getElem hi, Option.getD_some, e] at this
    exact term_10 this
  have := sumL_le fs hall
  have : fs.length * (1 + 10) ≤ 12 * 11 := Nat.mul_le_mul_right 11 ho.1
  show sumL szTerm fs ≤ 132
  omega
theorem call_sz {c : VCall} (h : callB c = true) : szCall c ≤ 1000 := by
  have hz : ByteArray.empty.size = 0 := rfl
  have hs0 : szTermS [] = 0 := rfl
  have hm0 : szMsg zMsg = 0 := rfl
  cases form h with
  | upd ho e hx hn ht hm =>
    have := msg_40 hm
    rw [e]; show ByteArray.empty.size + c.Msg.Text.size + szTermS [] ≤ _; omega
  | pub ho e hx ht hm hp =>
    have := msg_40 hm
    have h24 : c.Name.size ≤ 24 := by unfold okPatS inR zN at hp; simp at hp; omega
    rw [e]; show c.Name.size + c.Msg.Text.size + szTermS [] ≤ _; omega
  | two ho e => rw [e]; show ByteArray.empty.size + szMsg zMsg + szTermS [] ≤ _; omega
  | sub ho e hx hn hb hf ht =>
    have := filt_sz hf
    rw [e]; show ByteArray.empty.size + szMsg zMsg + szTermS c.Filter ≤ _; omega
  | rcv ho e => rw [e]; show ByteArray.empty.size + szMsg zMsg + szTermS [] ≤ _; omega
  | any ho e => rw [e]; show ByteArray.empty.size + szMsg zMsg + szTermS [] ≤ _; omega
theorem v19 (c : VCall) (k : Int) (h0 : 0 ≤ k) (h1 : k + 64 * (szTermS c.Filter : Nat) ≤ 1125899906842624) : E 19 [.ag 9 (lstG [nI c.Op, nI c.A, nI c.B, nI c.Tok, .S c.Name, nI c.Msg.Kind, nI c.Msg.Num, .S c.Msg.Text, .rf 0]), nI k] [owTermS c.Filter] =
    some (nI (enTermS c.Filter k), [.own c.Filter.length 3 (gsTermS (mkTermS c.Filter k))]) :=
  ev1 0 rfl ((e19 ..).trans (obind' (kv46 c.Filter k h0 h1) (bt' okT_eq rfl)))
theorem v20 (c : VCall) (k : Int) (h0 : 0 ≤ k) (h1 : k + 64 * (szTermS c.Filter : Nat) ≤ 1125899906842624) : E 20 [.ag 9 (lstG [nI c.Op, nI c.A, nI c.B, nI c.Tok, .S c.Name, nI c.Msg.Kind, nI c.Msg.Num, .S c.Msg.Text, .sl c.Filter.length 3 (gsTermS (mkTermS c.Filter k))]), nI k] [] =
    some (nI (enTermS c.Filter k), []) := by
  have q := hv47 c.Filter k c.Filter.length rfl h0 h1
  have hb := bdTermS c.Filter k
  have e : c.Filter.length = (mkTermS c.Filter k).length := (mkL_len _ _).symm
  rw [e] at q ⊢
  refine ev1 0 rfl ((e20 E _ ⟨c.Op, c.A, c.B, c.Tok, c.Name, c.Msg, mkTermS c.Filter k⟩ k).trans (obind' q (bf' (decide_eq_false (by show ¬ enTermS c.Filter k < 0; omega)) rfl)))
theorem v5 (s : ByteArray) : E 5 [.S s] [] = some (.B true, []) := by
  by_cases hs : s.size ≤ 1048576
  · obtain ⟨c, b, q1, q2, hc, _⟩ := vRead s
    have hz : szCall c ≤ 1048576 := by
      rcases hc with ⟨_, h, _⟩ | ⟨_, h⟩
      · exact Nat.le_trans (call_sz h) (by omega)
      · rw [h]; show ByteArray.empty.size + 0 + 0 ≤ _; exact Nat.zero_le _
    have q3 := w11 c hz
    have hf : 1 + 64 * (szTermS c.Filter : Nat) ≤ (1125899906842624 : Int) := by unfold szCall at hz; omega
    have q4 := v19 c 1 (by omega) hf
    have q5 := v20 c 1 (by omega) hf
    have hb := bdTermS c.Filter 1
    have ebb : (!b == b) = false := by cases b <;> rfl
    have en : ¬ enTermS c.Filter 1 < 0 := by omega
    refine ev1 0 rfl ((e5 ..).trans (bf' (decide_eq_false (by simp only [zN]; omega)) (obind' q1 (obind' q2 (obind' q3 (bf' rfl (bf' ebb (obind' q4 (obind' q5 (bf' (decide_eq_false en) (bf' ?_ (obind' q2 (obind' q3 (bf' rfl (bf' ebb (obind' q5 (bf' (decide_eq_false en) (bf' ?_ rfl))))))))))))))))))
    · show (!decide (enTermS c.Filter 1 = enTermS c.Filter 1)) = false; simp
    · show (!decide (enTermS c.Filter 1 = enTermS c.Filter 1)) = false; simp
  · exact ev1 0 rfl ((e5 ..).trans (bt' (decide_eq_true (by simp only [zN]; omega)) rfl))
end Go.Fw
