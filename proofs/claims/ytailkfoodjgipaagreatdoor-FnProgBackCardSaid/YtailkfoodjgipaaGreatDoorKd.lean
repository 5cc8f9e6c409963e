/- Values of numbers' texts. -/
import Derived.Test.YtailkfoodjgipaaGreatDoorKc
set_option linter.unusedVariables false
set_option linter.unusedSimpArgs false
namespace Go.Fw
open Go.Proofs
def b1 (n : Nat) : ByteArray := bs [UInt8.ofNat n]
theorem b1_size (n : Nat) : (b1 n).size = 1 := rfl
def digs (n : Nat) : ByteArray := if h : n < 10 then b1 (48 + n) else digs (n / 10) ++ b1 (48 + n % 10)
termination_by n
theorem digs_lt {n : Nat} (h : n < 10) : digs n = b1 (48 + n) := by rw [digs, dif_pos h]
theorem digs_ge {n : Nat} (h : 10 ≤ n) : digs n = digs (n / 10) ++ b1 (48 + n % 10) := by rw [digs, dif_neg (by omega)]
theorem digs_size (n : Nat) : (digs n).size ≤ n + 1 := by
  induction n using Nat.strongRecOn with
  | ind n ih =>
    by_cases h : n < 10
    · rw [digs_lt h, b1_size]; omega
    · rw [digs_ge (by omega), ByteArray.size_append, b1_size]
      have := ih (n / 10) (by omega)
      omega
theorem digs_pow (k : Nat) : ∀ n : Nat, n < 10 ^ (k + 1) → (digs n).size ≤ k + 1 := by
  induction k with
  | zero => intro n h; rw [digs_lt (by omega), b1_size]; omega
  | succ k ih =>
    intro n h
    by_cases c : n < 10
    · rw [digs_lt c, b1_size]; omega
    · rw [digs_ge (by omega), ByteArray.size_append, b1_size]
      have := ih (n / 10) (by rw [Nat.pow_succ] at h; omega)
      omega
theorem digs_s20 {n : Nat} (h : n ≤ 9223372036854775808) : (digs n).size ≤ 20 := digs_pow 19 n (by omega)
def txt (n : Int) : ByteArray := if n < 0 then bs [45] ++ digs n.natAbs else digs n.natAbs
theorem txt_size (n : Int) : (txt n).size ≤ n.natAbs + 2 := by
  unfold txt
  have := digs_size n.natAbs
  split
  · rw [ByteArray.size_append]
    have : (bs [45]).size = 1 := rfl
    omega
  · omega
theorem enc_dig {k : Nat} (h : k < 10) : Utf8.encode (IntKind.i32.wrap (IntKind.i64.wrap (48 + (k : Int)))) = b1 (48 + k) := by
  match k, h with
  | 0, _ => rfl
  | 1, _ => rfl
  | 2, _ => rfl
  | 3, _ => rfl
  | 4, _ => rfl
  | 5, _ => rfl
  | 6, _ => rfl
  | 7, _ => rfl
  | 8, _ => rfl
  | 9, _ => rfl
theorem byte_dig {k : Nat} (h : k < 10) : bs [UInt8.ofNat ((IntKind.u8.wrap (IntKind.i64.wrap (48 + (k : Int)))).toNat)] = b1 (48 + k) := by
  match k, h with
  | 0, _ => rfl
  | 1, _ => rfl
  | 2, _ => rfl
  | 3, _ => rfl
  | 4, _ => rfl
  | 5, _ => rfl
  | 6, _ => rfl
  | 7, _ => rfl
  | 8, _ => rfl
  | 9, _ => rfl
theorem v63p (n : Nat) (h : n ≤ 9223372036854775807) : E 51 [nI (n : Int)] [] = some (.S (digs n), []) := by
  induction n using Nat.strongRecOn with
  | ind n ih =>
    refine ev1 0 rfl ((e63 ..).trans (bf' (decide_eq_false (by omega)) (bf' (decide_eq_false (by omega)) ?_)))
    by_cases c : n < 10
    · refine bt' (decide_eq_true (by omega)) ?_
      rw [enc_dig c, digs_lt c]
    · refine bf' (decide_eq_false (by omega)) ?_
      have e1 : IntKind.i64.wrap ((n : Int).tdiv 10) = ((n / 10 : Nat) : Int) := by
        rw [Int.tdiv_eq_ediv_of_nonneg (by omega), wrapS (by omega) (by omega)]; omega
      have e2 : (n : Int).tmod 10 = ((n % 10 : Nat) : Int) := by
        rw [Int.tmod_eq_emod_of_nonneg (by omega)]; omega
      rw [e1, e2]
      have hs := digs_s20 (n := n / 10) (by omega)
      refine obind' (ih (n / 10) (by omega) (by omega)) ?_
      rw [enc_dig (by omega)]
      refine bt' (decide_eq_true ?_) ?_
      · show (digs (n / 10)).size + (b1 _).size ≤ _
        rw [b1_size]; omega
      · show some (AV.S (digs (n / 10) ++ b1 (48 + n % 10)), []) = _
        rw [← digs_ge (by omega)]
theorem v63n (m : Nat) : ∀ n : Int, n.natAbs = m → n < 0 → m ≤ 9223372036854775808 → E 51 [nI n] [] = some (.S (bs [45] ++ digs m), []) := by
  induction m using Nat.strongRecOn with
  | ind m ih =>
    intro n hm h0 h1
    have hb : (bs [45]).size = 1 := rfl
    refine ev1 0 rfl ((e63 ..).trans (bt' (decide_eq_true h0) ?_))
    by_cases c : -10 < n
    · have e1 : IntKind.i64.wrap (0 - n) = ((m : Nat) : Int) := by rw [wrapS (by omega) (by omega)]; omega
      have hs := digs_s20 (n := m) (by omega)
      refine bt' (decide_eq_true c) ?_
      rw [e1]
      refine obind' (v63p m (by omega)) (bt' (decide_eq_true ?_) rfl)
      show 1 + (digs m).size ≤ _
      omega
    · refine bf' (decide_eq_false c) (bt' (decide_eq_true h0) ?_)
      have e0 : n = -((m : Nat) : Int) := by omega
      have e1 : IntKind.i64.wrap (n.tdiv 10) = -((m / 10 : Nat) : Int) := by
        rw [e0, Int.neg_tdiv, Int.tdiv_eq_ediv_of_nonneg (by omega), wrapS (by omega) (by omega)]; omega
      have e2 : IntKind.i64.wrap (0 - n.tmod 10) = ((m % 10 : Nat) : Int) := by
        rw [e0, Int.neg_tmod, Int.tmod_eq_emod_of_nonneg (by omega), wrapS (by omega) (by omega)]; omega
      rw [e1, e2]
      have hs := digs_s20 (n := m / 10) (by omega)
      have hs2 := digs_s20 (n := m % 10) (by omega)
      refine obind' (ih (m / 10) (by omega) _ (by omega) (by omega) (by omega)) (obind' (v63p (m % 10) (by omega)) (bt' (decide_eq_true ?_) ?_))
      · show (bs [45] ++ digs (m / 10)).size + (digs (m % 10)).size ≤ _
        rw [ByteArray.size_append, hb]; omega
      · show some (AV.S (bs [45] ++ digs (m / 10) ++ digs (m % 10)), []) = _
        rw [ByteArray.append_assoc, digs_ge (n := m) (by omega), digs_lt (n := m % 10) (by omega)]
theorem v63 (n : Int) (h1 : -9223372036854775808 ≤ n) (h2 : n ≤ 9223372036854775807) : E 51 [nI n] [] = some (.S (txt n), []) := by
  unfold txt
  split
  · exact v63n _ n rfl (by omega) (by omega)
  · have : n = ((n.natAbs : Nat) : Int) := by omega
    rw [this]
    exact v63p _ (by omega)
theorem l32 (b : Bool) (m : Nat) : ∀ (n : Int) (s : ByteArray) (k : Nat), n.natAbs = m → n ≠ 0 → m ≤ 999999999 → m ≤ k → s.size ≤ 4000000000 - 2 * m →
    HH 30 [] (k + 1) [true, true, true, true, false] (hdS [(0, nI n), (3, .S s), (4, .B b)] [] []) = some (.S (bif b then bs [45] ++ (digs m ++ s) else digs m ++ s), []) := by
  induction m using Nat.strongRecOn with
  | ind m ih =>
    intro n s k hm h0 h1 hk hs
    have hb : (bs [45]).size = 1 := rfl
    have hd : ∀ (x : ByteArray) (d : Nat), (b1 d ++ x).size = x.size + 1 := fun x d => by rw [ByteArray.size_append, b1_size]; omega
    have step : HH 30 [] (k + 1) [true, true, true, true, false] (hdS [(0, nI n), (3, .S s), (4, .B b)] [] []) = HH 30 [] k [true, true, true, true, false] (hdS [(0, nI (IntKind.i64.wrap (n.tdiv 10))), (3, .S (b1 (48 + m % 10) ++ s)), (4, .B b)] [] []) := by
      rw [hstep, h32]
      refine bt' (by simp [h0]) ?_
      by_cases c : n < 0
      · have e0 : n = -((m : Nat) : Int) := by omega
        have e2 : n.tmod 10 = -((m % 10 : Nat) : Int) := by
          rw [e0, Int.neg_tmod, Int.tmod_eq_emod_of_nonneg (by omega)]; omega
        by_cases c2 : m % 10 = 0
        · refine bf' (decide_eq_false (by omega)) (bt' (decide_eq_true (by omega)) ?_)
          rw [e2, c2]
          have := byte_dig (k := 0) (by omega)
          rw [show (-((0 : Nat) : Int)) = ((0 : Nat) : Int) from rfl, this]
        · refine bt' (decide_eq_true (by omega)) (bt' (decide_eq_true (by omega)) ?_)
          rw [show IntKind.i64.wrap (0 - n.tmod 10) = ((m % 10 : Nat) : Int) by rw [e2, wrapS (by omega) (by omega)]; omega, byte_dig (by omega)]
      · have e0 : n = ((m : Nat) : Int) := by omega
        have e2 : n.tmod 10 = ((m % 10 : Nat) : Int) := by
          rw [e0, Int.tmod_eq_emod_of_nonneg (by omega)]; omega
        refine bf' (decide_eq_false (by omega)) (bt' (decide_eq_true (by omega)) ?_)
        rw [e2, byte_dig (by omega)]
    have e3 : (IntKind.i64.wrap (n.tdiv 10)).natAbs = m / 10 := by
      by_cases c : n < 0
      · have e0 : n = -((m : Nat) : Int) := by omega
        rw [e0, Int.neg_tdiv, Int.tdiv_eq_ediv_of_nonneg (by omega), wrapS (by omega) (by omega)]; omega
      · have e0 : n = ((m : Nat) : Int) := by omega
        rw [e0, Int.tdiv_eq_ediv_of_nonneg (by omega), wrapS (by omega) (by omega)]; omega
    rw [step]
    by_cases c : m < 10
    · have ez : IntKind.i64.wrap (n.tdiv 10) = 0 := by omega
      obtain ⟨k, rfl⟩ : ∃ j, k = j + 1 := ⟨k - 1, by omega⟩
      rw [ez, hstep, h32]
      refine bf' (by simp) ?_
      rw [digs_lt c, show m % 10 = m by omega]
      cases b with
      | true => exact bt' rfl (bt' (decide_eq_true (by rw [hd]; omega)) rfl)
      | false => exact bf' rfl rfl
    · obtain ⟨k, rfl⟩ : ∃ j, k = j + 1 := ⟨k - 1, by omega⟩
      rw [ih (m / 10) (by omega) _ _ k e3 (by omega) (by omega) (by omega) (by rw [hd]; omega), digs_ge (n := m) (by omega), ByteArray.append_assoc]
theorem v32 (n : Int) (h1 : -999999999 ≤ n) (h2 : n ≤ 999999999) : E 30 [nI n] [] = some (.S (txt n), []) := by
  refine ev1 (n.natAbs + 1) rfl ((e32 ..).trans ?_)
  by_cases c : n = 0
  · refine bt' (decide_eq_true c) ?_
    subst c
    unfold txt
    rw [if_neg (by omega), show (0 : Int).natAbs = 0 from rfl, digs_lt (by omega)]
    rfl
  · refine bf' (decide_eq_false c) ?_
    rw [l32 (decide (n < 0)) n.natAbs n ByteArray.empty n.natAbs rfl c (by omega) (Nat.le_refl _) (by show 0 ≤ _; omega)]
    unfold txt
    rw [ByteArray.append_empty]
    by_cases d : n < 0
    · rw [if_pos d, decide_eq_true d]; rfl
    · rw [if_neg d, decide_eq_false d]; rfl
end Go.Fw
