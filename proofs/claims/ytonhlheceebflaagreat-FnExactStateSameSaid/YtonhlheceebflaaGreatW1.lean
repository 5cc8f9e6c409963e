/- Numbers' texts; texts that tell where they end. -/
import Derived.Test.YtonhlheceebflaaGreatK
set_option linter.unusedVariables false
set_option linter.unusedSimpArgs false
namespace Go.Fw
open Go.Proofs
def b1 (n : Nat) : ByteArray := bs [UInt8.ofNat n]
theorem b1_size (n : Nat) : (b1 n).size = 1 := rfl
def digs (n : Nat) : ByteArray := if h : n < 10 then b1 (48 + n) else digs (n / 10) ++ b1 (48 + n % 10)
termination_by n
theorem digs_lt {n : Nat} (h : n < 10) : digs n = b1 (48 + n) := by rw [digs, dif_pos h]
theorem digs_ge {n : Nat} (h : 10 ≤ n) : digs n = digs (n / 10) ++ b1 (48 + n % 10) := by rw [digs, dif_neg (by omega)]
theorem digs_size (n : Nat) : (digs n).size ≤ n + 1 := by
  induction n using Nat.strongRecOn with
  | ind n ih =>
    by_cases h : n < 10
    · rw [digs_lt h, b1_size]; omega
    · rw [digs_ge (by omega), ByteArray.size_append, b1_size]
      have := ih (n / 10) (by omega)
      omega
theorem digs_pow (k : Nat) : ∀ n : Nat, n < 10 ^ (k + 1) → (digs n).size ≤ k + 1 := by
  induction k with
  | zero => intro n h; rw [digs_lt (by omega), b1_size]; omega
  | succ k ih =>
    intro n h
    by_cases c : n < 10
    · rw [digs_lt c, b1_size]; omega
    · rw [digs_ge (by omega), ByteArray.size_append, b1_size]
      have := ih (n / 10) (by rw [Nat.pow_succ] at h; omega)
      omega
theorem digs_s20 {n : Nat} (h : n ≤ 9223372036854775808) : (digs n).size ≤ 20 := digs_pow 19 n (by omega)
def txt (n : Int) : ByteArray := if n < 0 then bs [45] ++ digs n.natAbs else digs n.natAbs
theorem txt_size (n : Int) : (txt n).size ≤ n.natAbs + 2 := by
  unfold txt
  have := digs_size n.natAbs
  split
  · rw [ByteArray.size_append]
    have : (bs [45]).size = 1 := rfl
    omega
  · omega
theorem enc_dig {k : Nat} (h : k < 10) : Utf8.encode (IntKind.i32.wrap (IntKind.i64.wrap (48 + (k : Int)))) = b1 (48 + k) := by
  match k, h with
  | 0, _ => rfl
  | 1, _ => rfl
  | 2, _ => rfl
  | 3, _ => rfl
  | 4, _ => rfl
  | 5, _ => rfl
  | 6, _ => rfl
  | 7, _ => rfl
  | 8, _ => rfl
  | 9, _ => rfl
abbrev dl (s : ByteArray) : List UInt8 := s.data.toList
theorem dl_len (s : ByteArray) : (dl s).length = s.size := rfl
theorem dapp (a b : ByteArray) : (a ++ b).data.toList = a.data.toList ++ b.data.toList := by simp
theorem ba_ext {x y : ByteArray} (h : x.data.toList = y.data.toList) : x = y := by
  obtain ⟨⟨x⟩⟩ := x
  obtain ⟨⟨y⟩⟩ := y
  simp at h; subst h; rfl
theorem dl_app (a b : ByteArray) : dl (a ++ b) = dl a ++ dl b := dapp a b
/-- The number that digits tell. -/
def nf : List UInt8 → Int → Option Int
  | [], n => some n
  | b :: r, n => if 48 ≤ b.toNat ∧ b.toNat ≤ 57 then nf r (10 * n + ((b.toNat : Int) - 48)) else none
theorem nf_app (x y : List UInt8) : ∀ n : Int, nf (x ++ y) n = (nf x n).bind (nf y) := by
  induction x with
  | nil => intro n; rfl
  | cons b r ih =>
    intro n
    simp only [List.cons_append, nf]
    split
    · exact ih _
    · rfl
theorem b1_dl {k : Nat} (h : k < 10) : dl (b1 (48 + k)) = [UInt8.ofNat (48 + k)] := rfl
theorem u8_dig {k : Nat} (h : k < 10) : (UInt8.ofNat (48 + k)).toNat = 48 + k := by
  rw [UInt8.toNat_ofNat']; omega
theorem digs_nf (n : Nat) : nf (dl (digs n)) 0 = some (n : Int) := by
  induction n using Nat.strongRecOn with
  | ind n ih =>
    by_cases c : n < 10
    · rw [digs_lt c, b1_dl c]
      simp only [nf, u8_dig c]
      rw [if_pos (by omega)]
      congr 1; omega
    · rw [digs_ge (by omega)]
      show nf (digs (n / 10) ++ b1 (48 + n % 10)).data.toList 0 = _
      rw [dapp, nf_app, ih (n / 10) (by omega)]
      show nf (dl (b1 (48 + n % 10))) _ = _
      rw [b1_dl (by omega)]
      simp only [nf, u8_dig (show n % 10 < 10 by omega)]
      rw [if_pos (by omega)]
      congr 1; omega
theorem digs_all (n : Nat) : ∀ x ∈ dl (digs n), 48 ≤ x.toNat ∧ x.toNat ≤ 57 := by
  induction n using Nat.strongRecOn with
  | ind n ih =>
    by_cases c : n < 10
    · rw [digs_lt c, b1_dl c]
      intro x hx
      rw [List.mem_singleton] at hx; subst hx
      rw [u8_dig c]; omega
    · rw [digs_ge (by omega)]
      intro x hx
      have hx : x ∈ (digs (n / 10) ++ b1 (48 + n % 10)).data.toList := hx
      rw [dapp] at hx
      rcases List.mem_append.1 hx with hx | hx
      · exact ih _ (by omega) x hx
      · have hx : x ∈ dl (b1 (48 + n % 10)) := hx
        rw [b1_dl (by omega)] at hx
        rw [List.mem_singleton] at hx; subst hx
        rw [u8_dig (k := n % 10) (by omega)]; omega
theorem txt_neg {m : Int} (h : m < 0) : dl (txt m) = 45 :: dl (digs m.natAbs) := by
  unfold txt
  rw [if_pos h]
  show (bs [45] ++ digs m.natAbs).data.toList = _
  rw [dapp]; rfl
theorem txt_pos {m : Int} (h : ¬ m < 0) : txt m = digs m.natAbs := by unfold txt; rw [if_neg h]
theorem txt_20 {n : Int} (h1 : -9223372036854775808 ≤ n) (h2 : n ≤ 9223372036854775807) : (txt n).size ≤ 21 := by
  have := digs_s20 (n := n.natAbs) (by omega)
  have hb : (bs [45]).size = 1 := rfl
  unfold txt
  split
  · rw [ByteArray.size_append]; omega
  · omega
/-- A byte that stands in numbers. -/
def isNum (b : UInt8) : Bool := (decide (48 ≤ b.toNat) && decide (b.toNat ≤ 57)) || b == 45
theorem txt_num (n : Int) : ∀ x ∈ dl (txt n), isNum x = true := by
  have key : ∀ m, ∀ x ∈ dl (digs m), isNum x = true := fun m x hx => by
    have := digs_all m x hx
    unfold isNum
    simp [this]
  intro x hx
  by_cases h : n < 0
  · rw [txt_neg h] at hx
    rcases List.mem_cons.1 hx with rfl | hx
    · rfl
    · exact key _ x hx
  · rw [txt_pos h] at hx; exact key _ x hx
theorem txt_inj {a b : Int} (h : dl (txt a) = dl (txt b)) : a = b := by
  have hd : ∀ m : Nat, ∀ r, dl (digs m) ≠ 45 :: r := fun m r h => by
    have := digs_all m 45 (by rw [h]; exact List.mem_cons_self ..)
    simp at this
  have hn : ∀ m k : Nat, dl (digs m) = dl (digs k) → m = k := fun m k h => by
    have h1 := digs_nf m
    rw [h, digs_nf k] at h1
    have := Option.some.inj h1
    omega
  by_cases ha : a < 0
  · by_cases hb : b < 0
    · rw [txt_neg ha, txt_neg hb] at h
      have := hn _ _ (List.cons.inj h).2
      omega
    · rw [txt_neg ha, txt_pos hb] at h
      exact absurd h.symm (hd _ _)
  · by_cases hb : b < 0
    · rw [txt_pos ha, txt_neg hb] at h
      exact absurd h (hd _ _)
    · rw [txt_pos ha, txt_pos hb] at h
      have := hn _ _ h
      omega
/-- What tells where it ends. -/
def PF {α : Type} (f : α → ByteArray) : Prop := ∀ (x y : α) (r s : List UInt8), dl (f x) ++ r = dl (f y) ++ s → x = y ∧ r = s
theorem take_while {p : UInt8 → Bool} {a b : List UInt8} {c d : UInt8} {r s : List UInt8} (ha : ∀ x ∈ a, p x = true) (hb : ∀ x ∈ b, p x = true) (hc : p c = false) (hd : p d = false)
    (h : a ++ c :: r = b ++ d :: s) : a = b ∧ c :: r = d :: s := by
  induction a generalizing b with
  | nil =>
    cases b with
    | nil => exact ⟨rfl, h⟩
    | cons y b =>
      have := (List.cons.inj h).1
      have := hb y (by simp)
      simp_all
  | cons x a ih =>
    cases b with
    | nil =>
      have := (List.cons.inj h).1
      have := ha x (by simp)
      simp_all
    | cons y b =>
      obtain ⟨h1, h2⟩ := List.cons.inj h
      obtain ⟨h3, h4⟩ := ih (fun z hz => ha z (List.mem_cons_of_mem _ hz)) (fun z hz => hb z (List.mem_cons_of_mem _ hz)) h2
      exact ⟨by rw [h1, h3], h4⟩
/-- One behind the other. -/
def wL {α : Type} (f : α → ByteArray) : List α → ByteArray
  | [] => ByteArray.empty
  | x :: r => f x ++ wL f r
theorem wL_nil {α : Type} (f : α → ByteArray) : dl (wL f []) = [] := rfl
theorem PFL {α : Type} {f : α → ByteArray} (hf : PF f) : ∀ (xs ys : List α) (r s : List UInt8), xs.length = ys.length → dl (wL f xs) ++ r = dl (wL f ys) ++ s → xs = ys ∧ r = s := by
  intro xs
  induction xs with
  | nil =>
    intro ys r s hl h
    have : ys = [] := List.eq_nil_of_length_eq_zero hl.symm
    subst this
    exact ⟨rfl, h⟩
  | cons x xs ih =>
    intro ys r s hl h
    cases ys with
    | nil => simp at hl
    | cons y ys =>
      have h' : dl (f x ++ wL f xs) ++ r = dl (f y ++ wL f ys) ++ s := h
      rw [dl_app, dl_app, List.append_assoc, List.append_assoc] at h'
      obtain ⟨rfl, h2⟩ := hf _ _ _ _ h'
      obtain ⟨rfl, h3⟩ := ih ys r s (by simpa using hl) h2
      exact ⟨rfl, h3⟩
abbrev num1 (n : Int) : ByteArray := bs [32] ++ txt n
/-- Numbers, as the program writes them. -/
def wN (xs : List Int) : ByteArray := txt xs.length ++ wL num1 xs ++ bs [59]
theorem tail_form (xs : List Int) (r : List UInt8) : ∃ c t, dl (wL num1 xs) ++ (59 :: r) = c :: t ∧ isNum c = false := by
  cases xs with
  | nil => exact ⟨59, r, rfl, rfl⟩
  | cons x xs =>
    refine ⟨32, dl (txt x) ++ (dl (wL num1 xs) ++ 59 :: r), ?_, rfl⟩
    show dl (bs [32] ++ txt x ++ wL num1 xs) ++ _ = _
    rw [dl_app, dl_app]
    show ([32] ++ dl (txt x) ++ dl (wL num1 xs)) ++ _ = _
    simp
theorem nums_inj : ∀ (xs ys : List Int) (r s : List UInt8), xs.length = ys.length → dl (wL num1 xs) ++ (59 :: r) = dl (wL num1 ys) ++ (59 :: s) → xs = ys ∧ r = s := by
  intro xs
  induction xs with
  | nil =>
    intro ys r s hl h
    have : ys = [] := List.eq_nil_of_length_eq_zero hl.symm
    subst this
    exact ⟨rfl, (List.cons.inj h).2⟩
  | cons x xs ih =>
    intro ys r s hl h
    cases ys with
    | nil => simp at hl
    | cons y ys =>
      have h' : dl (bs [32] ++ txt x ++ wL num1 xs) ++ (59 :: r) = dl (bs [32] ++ txt y ++ wL num1 ys) ++ (59 :: s) := h
      rw [dl_app, dl_app, dl_app, dl_app, List.append_assoc, List.append_assoc, List.append_assoc, List.append_assoc] at h'
      have h2 := (List.cons.inj (show (32 : UInt8) :: (dl (txt x) ++ (dl (wL num1 xs) ++ 59 :: r)) = 32 :: (dl (txt y) ++ (dl (wL num1 ys) ++ 59 :: s)) from h')).2
      obtain ⟨c, t, e1, c1⟩ := tail_form xs r
      obtain ⟨d, u, e2, d1⟩ := tail_form ys s
      rw [e1, e2] at h2
      obtain ⟨h3, h4⟩ := take_while (txt_num x) (txt_num y) c1 d1 h2
      rw [← e1, ← e2] at h4
      obtain ⟨rfl, h5⟩ := ih ys r s (by simpa using hl) h4
      rw [txt_inj h3]
      exact ⟨rfl, h5⟩
theorem wN_dl (xs : List Int) (r : List UInt8) : dl (wN xs) ++ r = dl (txt xs.length) ++ (dl (wL num1 xs) ++ 59 :: r) := by
  unfold wN
  rw [dl_app, dl_app]
  show (dl (txt xs.length) ++ dl (wL num1 xs) ++ [59]) ++ r = _
  simp
theorem PF_N : PF wN := by
  intro x y r s h
  rw [wN_dl, wN_dl] at h
  obtain ⟨c, t, e1, c1⟩ := tail_form x r
  obtain ⟨d, u, e2, d1⟩ := tail_form y s
  have h' := h
  rw [e1, e2] at h'
  obtain ⟨h3, h4⟩ := take_while (txt_num _) (txt_num _) c1 d1 h'
  rw [← e1, ← e2] at h4
  have := txt_inj h3
  exact nums_inj x y r s (by omega) h4
def wT (s : ByteArray) : ByteArray := wN [(s.size : Int)] ++ s
theorem PF_T : PF wT := by
  intro x y r s h
  unfold wT at h
  rw [dl_app, dl_app, List.append_assoc, List.append_assoc] at h
  obtain ⟨h1, h2⟩ := PF_N _ _ _ _ h
  have h3 : (dl x).length = (dl y).length := by
    have := (List.cons.inj h1).1
    rw [dl_len, dl_len]; omega
  obtain ⟨h4, h5⟩ := List.append_inj h2 h3
  exact ⟨ba_ext h4, h5⟩
end Go.Fw
