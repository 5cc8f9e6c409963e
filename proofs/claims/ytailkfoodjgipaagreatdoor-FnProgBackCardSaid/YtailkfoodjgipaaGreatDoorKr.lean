/- Values: numbers and messages that are read. -/
import Derived.Test.YtailkfoodjgipaaGreatDoorKl
set_option linter.unusedVariables false
set_option linter.unusedSimpArgs false
namespace Go.Fw
open Go.Proofs
abbrev dl (s : ByteArray) : List UInt8 := s.data.toList
theorem dl_len (s : ByteArray) : (dl s).length = s.size := rfl
theorem byN_drop {s : ByteArray} {i : Nat} (h : i < s.size) : ∃ x : UInt8, (dl s).drop i = x :: (dl s).drop (i + 1) ∧ byN s i = (x.toNat : Int) := by
  refine ⟨(dl s)[i]'h, List.drop_eq_getElem_cons h, (byN_eq s i h _).2 (List.getElem?_eq_getElem h)⟩
/-- The number that digits tell. -/
def nf : List UInt8 → Int → Option Int
  | [], n => some n
  | b :: r, n => if 48 ≤ b.toNat ∧ b.toNat ≤ 57 then nf r (10 * n + ((b.toNat : Int) - 48)) else none
theorem nf_app (x y : List UInt8) : ∀ n : Int, nf (x ++ y) n = (nf x n).bind (nf y) := by
  induction x with
  | nil => intro n; rfl
  | cons b r ih =>
    intro n
    simp only [List.cons_append, nf]
    split
    · exact ih _
    · rfl
theorem nf_bd (l : List UInt8) : ∀ (a : Nat) (n m : Int), 0 ≤ n → n < 10 ^ a → nf l n = some m → 0 ≤ m ∧ m < 10 ^ (a + l.length) := by
  induction l with
  | nil => intro a n m h0 h1 h; simp only [nf, Option.some.injEq] at h; subst h; exact ⟨h0, h1⟩
  | cons b r ih =>
    intro a n m h0 h1 h
    simp only [nf] at h
    split at h
    · rename_i hb
      have := ih (a + 1) _ m (by omega) (by rw [Int.pow_succ]; omega) h
      rw [List.length_cons, show a + (r.length + 1) = a + 1 + r.length by omega]
      exact this
    · simp at h
theorem b1_dl {k : Nat} (h : k < 10) : dl (b1 (48 + k)) = [UInt8.ofNat (48 + k)] := rfl
theorem u8_dig {k : Nat} (h : k < 10) : (UInt8.ofNat (48 + k)).toNat = 48 + k := by
  rw [UInt8.toNat_ofNat']; omega
theorem digs_nf (n : Nat) : nf (dl (digs n)) 0 = some (n : Int) := by
  induction n using Nat.strongRecOn with
  | ind n ih =>
    by_cases c : n < 10
    · rw [digs_lt c, b1_dl c]
      simp only [nf, u8_dig c]
      rw [if_pos (by omega)]
      congr 1; omega
    · rw [digs_ge (by omega)]
      show nf (digs (n / 10) ++ b1 (48 + n % 10)).data.toList 0 = _
      rw [dapp, nf_app, ih (n / 10) (by omega)]
      show nf (dl (b1 (48 + n % 10))) _ = _
      rw [b1_dl (by omega)]
      simp only [nf, u8_dig (show n % 10 < 10 by omega)]
      rw [if_pos (by omega)]
      congr 1; omega
theorem digs_all (n : Nat) : ∀ x ∈ dl (digs n), 48 ≤ x.toNat ∧ x.toNat ≤ 57 := by
  induction n using Nat.strongRecOn with
  | ind n ih =>
    by_cases c : n < 10
    · rw [digs_lt c, b1_dl c]
      intro x hx
      rw [List.mem_singleton] at hx; subst hx
      rw [u8_dig c]; omega
    · rw [digs_ge (by omega)]
      intro x hx
      have hx : x ∈ (digs (n / 10) ++ b1 (48 + n % 10)).data.toList := hx
      rw [dapp] at hx
      rcases List.mem_append.1 hx with hx | hx
      · exact ih _ (by omega) x hx
      · have hx : x ∈ dl (b1 (48 + n % 10)) := hx
        rw [b1_dl (by omega)] at hx
        rw [List.mem_singleton] at hx; subst hx
        rw [u8_dig (k := n % 10) (by omega)]; omega
theorem digs_head (n : Nat) (h : 0 < n) : ∃ x r, dl (digs n) = x :: r ∧ x.toNat ≠ 48 := by
  induction n using Nat.strongRecOn with
  | ind n ih =>
    by_cases c : n < 10
    · exact ⟨_, _, by rw [digs_lt c, b1_dl c], by rw [u8_dig c]; omega⟩
    · obtain ⟨x, r, e, hx⟩ := ih (n / 10) (by omega) (by omega)
      refine ⟨x, r ++ dl (b1 (48 + n % 10)), ?_, hx⟩
      rw [digs_ge (by omega)]
      show (digs (n / 10) ++ b1 (48 + n % 10)).data.toList = _
      rw [dapp]
      show dl (digs (n / 10)) ++ _ = _
      rw [e]; rfl
theorem digs_len (n : Nat) (h : n ≤ 999999999) : 1 ≤ (digs n).size ∧ (digs n).size ≤ 9 := by
  refine ⟨?_, digs_pow 8 n (by omega)⟩
  by_cases c : n < 10
  · rw [digs_lt c, b1_size]; omega
  · rw [digs_ge (by omega), ByteArray.size_append, b1_size]; omega
abbrev numR (n : Int) : Prop := -999999999 ≤ n ∧ n ≤ 999999999
/-- The text behind a dash. -/
def tr (s : ByteArray) : ByteArray := if 1 ≤ s.size ∧ ((s.extract 0 1).toList == (bs [45]).toList) = true then s.extract 1 s.size else s
theorem v91 (s : ByteArray) (hs : s.size ≤ 1048576) : E 87 [.S s, .S (bs [45])] [] = some (.S (tr s), []) := by
  have z : zN (bs [45]).size = 1 := rfl
  have q : E 108 [.S s, .S (bs [45])] [] = some (.B (decide (1 ≤ s.size) && ((s.extract 0 1).toList == (bs [45]).toList)), []) := by
    refine ev1 0 rfl ((e110 ..).trans ?_)
    rw [z]
    by_cases h : 1 ≤ s.size
    · rw [decide_eq_true h]
      exact bt' (decide_eq_true (by simp only [zN]; omega)) (bt' (decide_eq_true (by simp only [zN]; omega)) rfl)
    · rw [decide_eq_false h]
      exact bf' (decide_eq_false (by simp only [zN]; omega)) rfl
  have q2 : E 102 [.S s, .S (bs [45])] [] = some (.S (tr s), []) := by
    refine ev1 0 rfl ((e104 ..).trans (obind' q ?_))
    unfold tr
    rw [z]
    by_cases h : 1 ≤ s.size ∧ ((s.extract 0 1).toList == (bs [45]).toList) = true
    · rw [if_pos h]
      refine bt' (by show (decide (1 ≤ s.size) && ((s.extract 0 1).toList == (bs [45]).toList)) = true; rw [decide_eq_true h.1, h.2]; rfl) (bt' (by simp [zN]; omega) ?_)
      simp [zN]
    · rw [if_neg h]
      refine bf' ?_ rfl
      show (decide (1 ≤ s.size) && ((s.extract 0 1).toList == (bs [45]).toList)) = false
      by_cases h1 : 1 ≤ s.size
      · rw [decide_eq_true h1, Bool.true_and]; exact eq_false_of_ne_true (fun h2 => h ⟨h1, h2⟩)
      · rw [decide_eq_false h1]; rfl
  exact ev1 0 rfl ((e91 ..).trans (obind' q2 rfl))
theorem tr_dash {s : ByteArray} {r : List UInt8} (h : dl s = 45 :: r) : dl (tr s) = r := by
  have h1 : 1 ≤ s.size := by rw [← dl_len, h]; simp
  have h2 : ((s.extract 0 1).toList == (bs [45]).toList) = true := by
    rw [ByteArray.toList_eq, ByteArray.toList_eq, ext_data]
    show (((dl s).drop 0).take 1 == [45]) = true
    rw [h]; rfl
  rw [tr, if_pos ⟨h1, h2⟩]
  show (s.extract 1 s.size).data.toList = r
  rw [ext_data, List.take_of_length_le (by rw [List.length_drop]; exact Nat.le_of_eq rfl)]
  show (dl s).drop 1 = r
  rw [h]; rfl
theorem tr_no {s : ByteArray} (h : ∀ r, dl s ≠ 45 :: r) : tr s = s := by
  rw [tr, if_neg]
  rintro ⟨h1, h2⟩
  rw [ByteArray.toList_eq, ByteArray.toList_eq, ext_data] at h2
  have h2 : ((dl s).drop 0).take 1 = [45] := by simpa using h2
  cases hd : dl s with
  | nil => rw [hd] at h2; simp at h2
  | cons x r =>
    rw [hd] at h2
    simp at h2
    exact h r (by rw [hd, h2])
theorem tr_size (s : ByteArray) : (tr s).size ≤ s.size := by
  unfold tr
  split
  · show (s.extract 1 s.size).data.toList.length ≤ s.data.toList.length
    rw [ext_data, List.length_take, List.length_drop]; omega
  · exact Nat.le_refl _
abbrev rNum (n : Int) (b : Bool) : Option (AV × List AV) := some (.tup 2 (lstG [nI n, .B b]), [])
theorem u8w {x : UInt8} (h : 48 ≤ x.toNat) : IntKind.i64.wrap (IntKind.u8.wrap ((x.toNat : Int) - 48)) = (x.toNat : Int) - 48 := by
  have := x.toNat_lt
  have e : IntKind.u8.wrap ((x.toNat : Int) - 48) = (x.toNat : Int) - 48 := by
    show ((x.toNat : Int) - 48) % 256 = _
    omega
  rw [e, wrapS (by omega) (by omega)]
theorem pow9 {i : Nat} (h : i ≤ 9) : (10 : Int) ^ i ≤ 1000000000 := by
  have : i = 0 ∨ i = 1 ∨ i = 2 ∨ i = 3 ∨ i = 4 ∨ i = 5 ∨ i = 6 ∨ i = 7 ∨ i = 8 ∨ i = 9 := by omega
  rcases this with rfl | rfl | rfl | rfl | rfl | rfl | rfl | rfl | rfl | rfl <;> decide
theorem l76 (s t : ByteArray) (ht : t.size ≤ 9) : ∀ (k i : Nat) (n : Int), i + k = t.size → 0 ≤ n → n < 10 ^ i →
    HH 64 [] (k + 1) [true, true, true, true, false, true] (hdS [(0, .S s), (4, .S t), (5, nI n), (17, nI (zN t.size)), (18, nI (i : Int))] [] []) =
      (match nf ((dl t).drop i) n with | none => rNum 0 false | some m => (if t.size < s.size then rNum (-m) ((txt (-m)).toList == s.toList) else rNum m ((txt m).toList == s.toList))) := by
  intro k
  induction k with
  | zero =>
    intro i n hi h0 h1
    have hp := pow9 (show i ≤ 9 by omega)
    rw [hstep, h76, bf (by simp [zN]; omega), List.drop_eq_nil_of_le (by rw [dl_len]; omega)]
    simp only [nf]
    by_cases c : t.size < s.size
    · rw [if_pos c]
      refine bt' (decide_eq_true (by simp only [zN]; omega)) ?_
      rw [show IntKind.i64.wrap (0 - n) = -n by rw [wrapS (by omega) (by omega)]; omega]
      exact obind' (v63 (-n) (by omega) (by omega)) rfl
    · rw [if_neg c]
      exact bf' (decide_eq_false (by simp only [zN]; omega)) (obind' (v63 n (by omega) (by omega)) rfl)
  | succ k ih =>
    intro i n hi h0 h1
    have hi2 : i < t.size := by omega
    obtain ⟨x, ed, eb⟩ := byN_drop hi2
    have hp := pow9 (show i ≤ 9 by omega)
    have hx := x.toNat_lt
    rw [hstep, h76, bt (by simp [zN]; omega), bt (bnd hi2), Int.toNat_natCast, eb, ed]
    simp only [nf]
    by_cases c1 : 48 ≤ x.toNat
    · refine bf' (decide_eq_false (by omega)) (bt' (bnd hi2) ?_)
      by_cases c2 : x.toNat ≤ 57
      · refine bf' (decide_eq_false (by omega)) (bt' (bnd hi2) ?_)
        rw [if_pos ⟨c1, c2⟩, u8w c1, wrapN (by omega), wrapS (x := 10 * n) (by omega) (by omega), wrapS (by omega) (by omega)]
        exact ih (i + 1) _ (by omega) (by omega) (by rw [Int.pow_succ]; omega)
      · rw [if_neg (fun h => c2 h.2)]
        exact bt' (decide_eq_true (by omega)) rfl
    · rw [if_neg (fun h => c1 h.1)]
      exact bt' (decide_eq_true (by omega)) rfl
theorem dl_inj {x y : ByteArray} (h : dl x = dl y) : x = y := ba_ext h
theorem txt_neg {m : Int} (h : m < 0) : dl (txt m) = 45 :: dl (digs m.natAbs) := by
  unfold txt
  rw [if_pos h]
  show (bs [45] ++ digs m.natAbs).data.toList = _
  rw [dapp]; rfl
theorem txt_pos {m : Int} (h : ¬ m < 0) : txt m = digs m.natAbs := by unfold txt; rw [if_neg h]
theorem digs_dash (n : Nat) : ∀ r, dl (digs n) ≠ 45 :: r := fun r h => by
  have := digs_all n 45 (by rw [h]; exact List.mem_cons_self ..)
  simp at this
theorem emp_size {s : ByteArray} (h : emp s = false) : 1 ≤ s.size := by
  by_cases c : s.size = 0
  · exfalso
    have : dl s = [] := List.eq_nil_of_length_eq_zero c
    have e : s = ByteArray.empty := ba_ext this
    rw [e] at h; simp at h
  · omega
theorem v76 (s : ByteArray) (hs : s.size ≤ 1048576) : ∃ n b, E 64 [.S s] [] = rNum n b ∧ numR n ∧ ∀ m, numR m → s = txt m → n = m ∧ b = true := by
  have q := v91 s hs
  have htr := tr_size s
  by_cases he : emp (tr s) = true
  · refine ⟨0, false, ev1 0 rfl ((e76 ..).trans (obind' q (bt' he rfl))), ⟨by omega, by omega⟩, fun m hm e => ?_⟩
    exfalso
    have h0 : dl (tr s) = [] := by rw [emp_eq he]; rfl
    have hl := digs_len m.natAbs (by unfold numR at hm; omega)
    by_cases hn : m < 0
    · have := tr_dash (s := s) (by rw [e]; exact txt_neg hn)
      rw [h0] at this
      have : (digs m.natAbs).size = 0 := by rw [← dl_len, ← this]; rfl
      omega
    · rw [txt_pos hn] at e
      have := tr_no (s := s) (by rw [e]; exact digs_dash _)
      rw [this, e] at h0
      have : (digs m.natAbs).size = 0 := by rw [← dl_len, h0]; rfl
      omega
  have he' := eq_false_of_ne_true he
  by_cases h9 : 9 < (tr s).size
  · refine ⟨0, false, ev1 0 rfl ((e76 ..).trans (obind' q (bf' he' (bt' (decide_eq_true (by show 9 < zN (tr s).size; simp only [zN]; omega)) rfl)))), ⟨by omega, by omega⟩, fun m hm e => ?_⟩
    exfalso
    have hl := digs_len m.natAbs (by unfold numR at hm; omega)
    by_cases hn : m < 0
    · have := tr_dash (s := s) (by rw [e]; exact txt_neg hn)
      have : (tr s).size = (digs m.natAbs).size := by rw [← dl_len, this, dl_len]
      omega
    · rw [txt_pos hn] at e
      have := tr_no (s := s) (by rw [e]; exact digs_dash _)
      rw [this, e] at h9
      omega
  have L := l76 s (tr s) (by omega) (tr s).size 0 0 (by omega) (by omega) (by decide)
  rw [List.drop_zero] at L
  have run : E 64 [.S s] [] = (match nf (dl (tr s)) 0 with | none => rNum 0 false | some m => (if (tr s).size < s.size then rNum (-m) ((txt (-m)).toList == s.toList) else rNum m ((txt m).toList == s.toList))) → True := fun _ => trivial
  have full : ∀ r, (match nf (dl (tr s)) 0 with | none => rNum 0 false | some m => (if (tr s).size < s.size then rNum (-m) ((txt (-m)).toList == s.toList) else rNum m ((txt m).toList == s.toList))) = some r → E 64 [.S s] [] = some r := fun r h =>
    ev1 ((tr s).size + 1) rfl ((e76 ..).trans (obind' q (bf' he' (bf' (decide_eq_false (by show ¬ 9 < zN (tr s).size; simp only [zN]; omega)) (L.trans h)))))
  cases hq : nf (dl (tr s)) 0 with
  | none =>
    rw [hq] at full
    refine ⟨0, false, full _ rfl, ⟨by omega, by omega⟩, fun m hm e => ?_⟩
    exfalso
    by_cases hn : m < 0
    · have := tr_dash (s := s) (by rw [e]; exact txt_neg hn)
      rw [this, digs_nf] at hq; simp at hq
    · rw [txt_pos hn] at e
      have := tr_no (s := s) (by rw [e]; exact digs_dash _)
      rw [this, e, digs_nf] at hq; simp at hq
  | some v =>
    rw [hq] at full
    have hb := nf_bd _ 0 0 v (by omega) (by decide) hq
    rw [Nat.zero_add, dl_len] at hb
    have hp := pow9 (show (tr s).size ≤ 9 by omega)
    by_cases c : (tr s).size < s.size
    · simp only [if_pos c] at full
      refine ⟨-v, _, full _ rfl, ⟨by omega, by omega⟩, fun m hm e => ?_⟩
      by_cases hn : m < 0
      · have := tr_dash (s := s) (by rw [e]; exact txt_neg hn)
        rw [this, digs_nf] at hq
        have hv : -v = m := by have := Option.some.inj hq; omega
        rw [hv, e]
        exact ⟨rfl, by simp⟩
      · rw [txt_pos hn] at e
        have := tr_no (s := s) (by rw [e]; exact digs_dash _)
        rw [this] at c; omega
    · simp only [if_neg c] at full
      refine ⟨v, _, full _ rfl, ⟨by omega, by omega⟩, fun m hm e => ?_⟩
      by_cases hn : m < 0
      · have h1 := tr_dash (s := s) (by rw [e]; exact txt_neg hn)
        exfalso
        have h2 : s.size = (tr s).size + 1 := by rw [← dl_len, e, txt_neg hn, List.length_cons, ← h1, ← e]; rfl
        omega
      · have e2 := e
        rw [txt_pos hn] at e
        have := tr_no (s := s) (by rw [e]; exact digs_dash _)
        rw [this, e, digs_nf] at hq
        have hv : v = m := by have := Option.some.inj hq; omega
        rw [hv, e2]
        exact ⟨rfl, by simp⟩
end Go.Fw
