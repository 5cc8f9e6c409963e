/- Values of draws: each gives something, within its bounds; what it gives exactly is of no account. -/
import Derived.Test.YtkhfkekbfjkpcaaG2
set_option linter.unusedVariables false
set_option linter.unusedSimpArgs false
namespace Go.Fw
open Go.Proofs
theorem bt' {α : Type} {c : Bool} {x y r : α} (h : c = true) (h' : x = r) : (bif c then x else y) = r := by subst h; exact h'
theorem bf' {α : Type} {c : Bool} {x y r : α} (h : c = false) (h' : y = r) : (bif c then x else y) = r := by subst h; exact h'
theorem obind' {α β : Type} {x : Option α} {a : α} {f : α → Option β} {r : Option β} (h : x = some a) (h' : f a = r) : Option.bind x f = r := by subst h; exact h'
theorem and2_both {R : Type} {x y r : Option R} (h : x = r) (h' : y = r) : and2 x y = r := by subst h h'; simp [and2]
abbrev cur (cs : List Int) (i h : Int) : AV := .nbx 3 (lstG [.gv cs, nI i, nI h])
theorem andW (x : BitVec 64) (m : Nat) (h : m < 9223372036854775808) : 0 ≤ IntKind.i64.wrap (zN (x &&& BitVec.ofInt 64 (m : Int)).toNat) ∧ IntKind.i64.wrap (zN (x &&& BitVec.ofInt 64 (m : Int)).toNat) ≤ (m : Int) := by
  have e : (BitVec.ofInt 64 (m : Int)).toNat = m := by rw [BitVec.toNat_ofInt]; omega
  have h1 : (x &&& BitVec.ofInt 64 (m : Int)).toNat ≤ m := by
    rw [BitVec.toNat_and, e]; exact Nat.and_le_right
  rw [IntKind.wrap_i64]
  simp only [zN]
  omega
theorem and2_ex {R : Type} {x : Option R} {Q : R → Prop} (h : ∃ r, x = some r ∧ Q r) : ∃ r, and2 x x = some r ∧ Q r := by
  obtain ⟨r, e, q⟩ := h
  exact ⟨r, by rw [e]; simp [and2], q⟩
theorem d86 (cs : List Int) (hc : cs.length ≤ 4611686018427387904) (i h : Int) (hi : 0 ≤ i) : ∃ x i' h', 0 ≤ x ∧ x ≤ 255 ∧ 0 ≤ i' ∧ E 86 [.pb 0 0] [cur cs i h] = some (nI x, [cur cs i' h']) := by
  by_cases c : i < zN cs.length
  · have w : IntKind.i64.wrap (i + 1) = i + 1 := by rw [IntKind.wrap_i64]; simp only [zN] at c; omega
    have hb : (bif decide (0 ≤ i) then decide (i < zN cs.length) else false) = true := by rw [decide_eq_true hi, decide_eq_true c]; rfl
    have key : ∃ (x : BitVec 64) (h' : Int), E 86 [.pb 0 0] [cur cs i h] = some (nI (IntKind.i64.wrap (zN (x &&& BitVec.ofInt 64 255).toNat)), [cur cs (IntKind.i64.wrap (i + 1)) h']) :=
      ⟨_, _, ev1 0 rfl ((e86 ..).trans (and2_both (bt' (decide_eq_true c) (bt' hb rfl)) (bt' (decide_eq_true c) (bt' hb rfl))))⟩
    obtain ⟨x, h', q⟩ := key
    exact ⟨_, _, h', (andW x 255 (by decide)).1, (andW x 255 (by decide)).2, (by rw [w]; omega), q⟩
  · have key : ∃ (x : BitVec 64) (h' : Int), E 86 [.pb 0 0] [cur cs i h] = some (nI (IntKind.i64.wrap (zN (x &&& BitVec.ofInt 64 255).toNat)), [cur cs i h']) :=
      ⟨_, _, ev1 0 rfl ((e86 ..).trans (and2_both (bf' (decide_eq_false c) rfl) (bf' (decide_eq_false c) rfl)))⟩
    obtain ⟨x, h', q⟩ := key
    exact ⟨_, _, h', (andW x 255 (by decide)).1, (andW x 255 (by decide)).2, hi, q⟩
theorem d75 (cs : List Int) (hc : cs.length ≤ 4611686018427387904) (n i h : Int) (hi : 0 ≤ i) (hn : n ≤ 4294967296) : ∃ x i' h', 0 ≤ x ∧ (0 < n → x < n) ∧ 0 ≤ i' ∧ E 75 [.pb 0 0, nI n] [cur cs i h] = some (nI x, [cur cs i' h']) := by
  by_cases c : n ≤ 0
  · exact ⟨0, i, h, by omega, by omega, hi, ev1 0 rfl (by rw [e75, bt (decide_eq_true c)])⟩
  have hz : (!decide (n = 0)) = true := by simp; omega
  obtain ⟨x1, i1, h1, b1, t1, p1, q1⟩ := d86 cs hc i h hi
  by_cases c2 : n ≤ 256
  · refine ⟨x1.tmod n, i1, h1, Int.tmod_nonneg _ b1, fun _ => by rw [Int.tmod_eq_emod_of_nonneg b1]; exact Int.emod_lt_of_pos _ (by omega), p1, ev1 0 rfl ?_⟩
    rw [e75]
    exact bf' (decide_eq_false c) (bt' (decide_eq_true c2) (obind' q1 (bt' hz rfl)))
  · obtain ⟨x2, i2, h2, b2, t2, p2, q2⟩ := d86 cs hc i1 h1 p1
    obtain ⟨x3, i3, h3, b3, t3, p3, q3⟩ := d86 cs hc i2 h2 p2
    obtain ⟨x4, i4, h4, b4, t4, p4, q4⟩ := d86 cs hc i3 h3 p3
    have w : IntKind.i64.wrap (IntKind.i64.wrap (IntKind.i64.wrap (IntKind.i64.wrap (x1 * 16777216) + IntKind.i64.wrap (x2 * 65536)) + IntKind.i64.wrap (x3 * 256)) + x4) = x1 * 16777216 + x2 * 65536 + x3 * 256 + x4 := by
      simp only [IntKind.wrap_i64]; omega
    have b : 0 ≤ x1 * 16777216 + x2 * 65536 + x3 * 256 + x4 := by omega
    refine ⟨(x1 * 16777216 + x2 * 65536 + x3 * 256 + x4).tmod n, i4, h4, Int.tmod_nonneg _ b, fun _ => by rw [Int.tmod_eq_emod_of_nonneg b]; exact Int.emod_lt_of_pos _ (by omega), p4, ev1 0 rfl ?_⟩
    rw [e75]
    refine bf' (decide_eq_false c) (bf' (decide_eq_false c2) (obind' q1 (obind' q2 (obind' q3 (obind' q4 (bt' hz ?_))))))
    rw [← w]; rfl
theorem d76 (cs : List Int) (hc : cs.length ≤ 4611686018427387904) (n i h : Int) (hi : 0 ≤ i) (hn : n ≤ 4294967296) : ∃ b i' h', 0 ≤ i' ∧ E 76 [.pb 0 0, nI n] [cur cs i h] = some (.B b, [cur cs i' h']) := by
  obtain ⟨x, i', h', _, _, p, q⟩ := d75 cs hc n i h hi hn
  exact ⟨_, i', h', p, ev1 0 rfl ((e76 ..).trans (obind' q rfl))⟩
theorem d87 (cs : List Int) (hc : cs.length ≤ 4611686018427387904) (xs : List Int) (i h : Int) (hi : 0 ≤ i) (hx : 0 < xs.length) (hx' : xs.length ≤ 4294967296) : ∃ x i' h', x ∈ xs ∧ 0 ≤ i' ∧ E 87 [.pb 0 0, slI xs] [cur cs i h] = some (nI x, [cur cs i' h']) := by
  obtain ⟨x, i', h', b, t, p, q⟩ := d75 cs hc (zN xs.length) i h hi (by simp only [zN]; omega)
  have ht : x < zN xs.length := t (by simp only [zN]; omega)
  have hm : xs.getD x.toNat 0 ∈ xs := by
    have : x.toNat < xs.length := by simp only [zN] at ht; omega
    simp [List.getD_eq_getElem?_getD, this]
  exact ⟨xs.getD x.toNat 0, i', h', hm, p, ev1 0 rfl (by rw [e87]; exact obind' q (bt' (by show (bif decide (0 ≤ x) then decide (x < zN xs.length) else false) = true; rw [decide_eq_true b, decide_eq_true ht]; rfl) rfl))⟩
/-- The cursor's beginning. -/
theorem l58 (cs : List Int) (hc : cs.length ≤ 4611686018427387904) : ∀ (k i : Nat) (h : Int), i + k = cs.length → ∃ h', HH 58 [] (k + 1) [true, true, false, true] (hdS [(0, .gv cs), (3, nI h), (4, nI (i : Int))] [] []) = some (cur cs 0 h', []) := by
  intro k
  induction k with
  | zero =>
    intro i h hi
    exact ⟨h, by rw [hstep, h58, bf (by simp [zN] <;> omega)]⟩
  | succ k ih =>
    intro i h hi
    rw [hstep, h58, bt (by simp [zN] <;> omega)]
    by_cases c : (i : Int) < 4000
    · rw [bt (decide_eq_true c), bt (by simp [zN] <;> omega), wrapN (by omega)]
      exact ih (i + 1) _ (by omega)
    · exact ⟨h, by rw [bf (decide_eq_false c)]⟩
theorem d58 (cs : List Int) (hc : cs.length ≤ 4611686018427387904) : ∃ h', E 58 [.gv cs] [] = some (cur cs 0 h', []) := by
  obtain ⟨h', q⟩ := l58 cs hc cs.length 0 (IntKind.i64.wrap (98098 + zN cs.length)) (by omega)
  exact ⟨h', ev1 (cs.length + 1) rfl (by rw [e58]; exact q)⟩
end Go.Fw
