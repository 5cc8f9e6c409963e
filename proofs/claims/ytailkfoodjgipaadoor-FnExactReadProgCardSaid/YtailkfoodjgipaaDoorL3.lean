/- Values of marking what was handed over, and of looking at marks. -/
import Derived.Test.YtailkfoodjgipaaDoorL2
set_option linter.unusedVariables false
set_option linter.unusedSimpArgs false
set_option maxRecDepth 100000
namespace Go.Fw
open Go.Proofs
theorem wch1 (k : Int) (h0 : 0 ≤ k) (h1 : k ≤ 4611686018427387904) : IntKind.i64.wrap (k + 1) = k + 1 := wrapS (by omega) (by omega)
theorem wch2 (k : Int) (h0 : 0 ≤ k) (h1 : k ≤ 4611686018427387904) : IntKind.i64.wrap (k + 1) = k + 1 ∧ IntKind.i64.wrap (k + 1 + 1) = k + 1 + 1 := ⟨wrapS (by omega) (by omega), wrapS (by omega) (by omega)⟩
theorem wch3 (k : Int) (h0 : 0 ≤ k) (h1 : k ≤ 4611686018427387904) : IntKind.i64.wrap (k + 1) = k + 1 ∧ IntKind.i64.wrap (k + 1 + 1) = k + 1 + 1 ∧ IntKind.i64.wrap (k + 1 + 1 + 1) = k + 1 + 1 + 1 := ⟨wrapS (by omega) (by omega), wrapS (by omega) (by omega), wrapS (by omega) (by omega)⟩
theorem wch4 (k : Int) (h0 : 0 ≤ k) (h1 : k ≤ 4611686018427387904) : IntKind.i64.wrap (k + 1) = k + 1 ∧ IntKind.i64.wrap (k + 1 + 1) = k + 1 + 1 ∧ IntKind.i64.wrap (k + 1 + 1 + 1) = k + 1 + 1 + 1 ∧ IntKind.i64.wrap (k + 1 + 1 + 1 + 1) = k + 1 + 1 + 1 + 1 := ⟨wrapS (by omega) (by omega), wrapS (by omega) (by omega), wrapS (by omega) (by omega), wrapS (by omega) (by omega)⟩
theorem wch5 (k : Int) (h0 : 0 ≤ k) (h1 : k ≤ 4611686018427387904) : IntKind.i64.wrap (k + 1) = k + 1 ∧ IntKind.i64.wrap (k + 1 + 1) = k + 1 + 1 ∧ IntKind.i64.wrap (k + 1 + 1 + 1) = k + 1 + 1 + 1 ∧ IntKind.i64.wrap (k + 1 + 1 + 1 + 1) = k + 1 + 1 + 1 + 1 ∧ IntKind.i64.wrap (k + 1 + 1 + 1 + 1 + 1) = k + 1 + 1 + 1 + 1 + 1 := ⟨wrapS (by omega) (by omega), wrapS (by omega) (by omega), wrapS (by omega) (by omega), wrapS (by omega) (by omega), wrapS (by omega) (by omega)⟩
theorem wch6 (k : Int) (h0 : 0 ≤ k) (h1 : k ≤ 4611686018427387904) : IntKind.i64.wrap (k + 1) = k + 1 ∧ IntKind.i64.wrap (k + 1 + 1) = k + 1 + 1 ∧ IntKind.i64.wrap (k + 1 + 1 + 1) = k + 1 + 1 + 1 ∧ IntKind.i64.wrap (k + 1 + 1 + 1 + 1) = k + 1 + 1 + 1 + 1 ∧ IntKind.i64.wrap (k + 1 + 1 + 1 + 1 + 1) = k + 1 + 1 + 1 + 1 + 1 ∧ IntKind.i64.wrap (k + 1 + 1 + 1 + 1 + 1 + 1) = k + 1 + 1 + 1 + 1 + 1 + 1 := ⟨wrapS (by omega) (by omega), wrapS (by omega) (by omega), wrapS (by omega) (by omega), wrapS (by omega) (by omega), wrapS (by omega) (by omega), wrapS (by omega) (by omega)⟩
theorem wch7 (k : Int) (h0 : 0 ≤ k) (h1 : k ≤ 4611686018427387904) : IntKind.i64.wrap (k + 1) = k + 1 ∧ IntKind.i64.wrap (k + 1 + 1) = k + 1 + 1 ∧ IntKind.i64.wrap (k + 1 + 1 + 1) = k + 1 + 1 + 1 ∧ IntKind.i64.wrap (k + 1 + 1 + 1 + 1) = k + 1 + 1 + 1 + 1 ∧ IntKind.i64.wrap (k + 1 + 1 + 1 + 1 + 1) = k + 1 + 1 + 1 + 1 + 1 ∧ IntKind.i64.wrap (k + 1 + 1 + 1 + 1 + 1 + 1) = k + 1 + 1 + 1 + 1 + 1 + 1 ∧ IntKind.i64.wrap (k + 1 + 1 + 1 + 1 + 1 + 1 + 1) = k + 1 + 1 + 1 + 1 + 1 + 1 + 1 := ⟨wrapS (by omega) (by omega), wrapS (by omega) (by omega), wrapS (by omega) (by omega), wrapS (by omega) (by omega), wrapS (by omega) (by omega), wrapS (by omega) (by omega), wrapS (by omega) (by omega)⟩
theorem wch8 (k : Int) (h0 : 0 ≤ k) (h1 : k ≤ 4611686018427387904) : IntKind.i64.wrap (k + 1) = k + 1 ∧ IntKind.i64.wrap (k + 1 + 1) = k + 1 + 1 ∧ IntKind.i64.wrap (k + 1 + 1 + 1) = k + 1 + 1 + 1 ∧ IntKind.i64.wrap (k + 1 + 1 + 1 + 1) = k + 1 + 1 + 1 + 1 ∧ IntKind.i64.wrap (k + 1 + 1 + 1 + 1 + 1) = k + 1 + 1 + 1 + 1 + 1 ∧ IntKind.i64.wrap (k + 1 + 1 + 1 + 1 + 1 + 1) = k + 1 + 1 + 1 + 1 + 1 + 1 ∧ IntKind.i64.wrap (k + 1 + 1 + 1 + 1 + 1 + 1 + 1) = k + 1 + 1 + 1 + 1 + 1 + 1 + 1 ∧ IntKind.i64.wrap (k + 1 + 1 + 1 + 1 + 1 + 1 + 1 + 1) = k + 1 + 1 + 1 + 1 + 1 + 1 + 1 + 1 := ⟨wrapS (by omega) (by omega), wrapS (by omega) (by omega), wrapS (by omega) (by omega), wrapS (by omega) (by omega), wrapS (by omega) (by omega), wrapS (by omega) (by omega), wrapS (by omega) (by omega), wrapS (by omega) (by omega)⟩
theorem wch9 (k : Int) (h0 : 0 ≤ k) (h1 : k ≤ 4611686018427387904) : IntKind.i64.wrap (k + 1) = k + 1 ∧ IntKind.i64.wrap (k + 1 + 1) = k + 1 + 1 ∧ IntKind.i64.wrap (k + 1 + 1 + 1) = k + 1 + 1 + 1 ∧ IntKind.i64.wrap (k + 1 + 1 + 1 + 1) = k + 1 + 1 + 1 + 1 ∧ IntKind.i64.wrap (k + 1 + 1 + 1 + 1 + 1) = k + 1 + 1 + 1 + 1 + 1 ∧ IntKind.i64.wrap (k + 1 + 1 + 1 + 1 + 1 + 1) = k + 1 + 1 + 1 + 1 + 1 + 1 ∧ IntKind.i64.wrap (k + 1 + 1 + 1 + 1 + 1 + 1 + 1) = k + 1 + 1 + 1 + 1 + 1 + 1 + 1 ∧ IntKind.i64.wrap (k + 1 + 1 + 1 + 1 + 1 + 1 + 1 + 1) = k + 1 + 1 + 1 + 1 + 1 + 1 + 1 + 1 ∧ IntKind.i64.wrap (k + 1 + 1 + 1 + 1 + 1 + 1 + 1 + 1 + 1) = k + 1 + 1 + 1 + 1 + 1 + 1 + 1 + 1 + 1 := ⟨wrapS (by omega) (by omega), wrapS (by omega) (by omega), wrapS (by omega) (by omega), wrapS (by omega) (by omega), wrapS (by omega) (by omega), wrapS (by omega) (by omega), wrapS (by omega) (by omega), wrapS (by omega) (by omega), wrapS (by omega) (by omega)⟩
theorem wch10 (k : Int) (h0 : 0 ≤ k) (h1 : k ≤ 4611686018427387904) : IntKind.i64.wrap (k + 1) = k + 1 ∧ IntKind.i64.wrap (k + 1 + 1) = k + 1 + 1 ∧ IntKind.i64.wrap (k + 1 + 1 + 1) = k + 1 + 1 + 1 ∧ IntKind.i64.wrap (k + 1 + 1 + 1 + 1) = k + 1 + 1 + 1 + 1 ∧ IntKind.i64.wrap (k + 1 + 1 + 1 + 1 + 1) = k + 1 + 1 + 1 + 1 + 1 ∧ IntKind.i64.wrap (k + 1 + 1 + 1 + 1 + 1 + 1) = k + 1 + 1 + 1 + 1 + 1 + 1 ∧ IntKind.i64.wrap (k + 1 + 1 + 1 + 1 + 1 + 1 + 1) = k + 1 + 1 + 1 + 1 + 1 + 1 + 1 ∧ IntKind.i64.wrap (k + 1 + 1 + 1 + 1 + 1 + 1 + 1 + 1) = k + 1 + 1 + 1 + 1 + 1 + 1 + 1 + 1 ∧ IntKind.i64.wrap (k + 1 + 1 + 1 + 1 + 1 + 1 + 1 + 1 + 1) = k + 1 + 1 + 1 + 1 + 1 + 1 + 1 + 1 + 1 ∧ IntKind.i64.wrap (k + 1 + 1 + 1 + 1 + 1 + 1 + 1 + 1 + 1 + 1) = k + 1 + 1 + 1 + 1 + 1 + 1 + 1 + 1 + 1 + 1 := ⟨wrapS (by omega) (by omega), wrapS (by omega) (by omega), wrapS (by omega) (by omega), wrapS (by omega) (by omega), wrapS (by omega) (by omega), wrapS (by omega) (by omega), wrapS (by omega) (by omega), wrapS (by omega) (by omega), wrapS (by omega) (by omega), wrapS (by omega) (by omega)⟩
theorem wch11 (k : Int) (h0 : 0 ≤ k) (h1 : k ≤ 4611686018427387904) : IntKind.i64.wrap (k + 1) = k + 1 ∧ IntKind.i64.wrap (k + 1 + 1) = k + 1 + 1 ∧ IntKind.i64.wrap (k + 1 + 1 + 1) = k + 1 + 1 + 1 ∧ IntKind.i64.wrap (k + 1 + 1 + 1 + 1) = k + 1 + 1 + 1 + 1 ∧ IntKind.i64.wrap (k + 1 + 1 + 1 + 1 + 1) = k + 1 + 1 + 1 + 1 + 1 ∧ IntKind.i64.wrap (k + 1 + 1 + 1 + 1 + 1 + 1) = k + 1 + 1 + 1 + 1 + 1 + 1 ∧ IntKind.i64.wrap (k + 1 + 1 + 1 + 1 + 1 + 1 + 1) = k + 1 + 1 + 1 + 1 + 1 + 1 + 1 ∧ IntKind.i64.wrap (k + 1 + 1 + 1 + 1 + 1 + 1 + 1 + 1) = k + 1 + 1 + 1 + 1 + 1 + 1 + 1 + 1 ∧ IntKind.i64.wrap (k + 1 + 1 + 1 + 1 + 1 + 1 + 1 + 1 + 1) = k + 1 + 1 + 1 + 1 + 1 + 1 + 1 + 1 + 1 ∧ IntKind.i64.wrap (k + 1 + 1 + 1 + 1 + 1 + 1 + 1 + 1 + 1 + 1) = k + 1 + 1 + 1 + 1 + 1 + 1 + 1 + 1 + 1 + 1 ∧ IntKind.i64.wrap (k + 1 + 1 + 1 + 1 + 1 + 1 + 1 + 1 + 1 + 1 + 1) = k + 1 + 1 + 1 + 1 + 1 + 1 + 1 + 1 + 1 + 1 + 1 := ⟨wrapS (by omega) (by omega), wrapS (by omega) (by omega), wrapS (by omega) (by omega), wrapS (by omega) (by omega), wrapS (by omega) (by omega), wrapS (by omega) (by omega), wrapS (by omega) (by omega), wrapS (by omega) (by omega), wrapS (by omega) (by omega), wrapS (by omega) (by omega), wrapS (by omega) (by omega)⟩
theorem wch12 (k : Int) (h0 : 0 ≤ k) (h1 : k ≤ 4611686018427387904) : IntKind.i64.wrap (k + 1) = k + 1 ∧ IntKind.i64.wrap (k + 1 + 1) = k + 1 + 1 ∧ IntKind.i64.wrap (k + 1 + 1 + 1) = k + 1 + 1 + 1 ∧ IntKind.i64.wrap (k + 1 + 1 + 1 + 1) = k + 1 + 1 + 1 + 1 ∧ IntKind.i64.wrap (k + 1 + 1 + 1 + 1 + 1) = k + 1 + 1 + 1 + 1 + 1 ∧ IntKind.i64.wrap (k + 1 + 1 + 1 + 1 + 1 + 1) = k + 1 + 1 + 1 + 1 + 1 + 1 ∧ IntKind.i64.wrap (k + 1 + 1 + 1 + 1 + 1 + 1 + 1) = k + 1 + 1 + 1 + 1 + 1 + 1 + 1 ∧ IntKind.i64.wrap (k + 1 + 1 + 1 + 1 + 1 + 1 + 1 + 1) = k + 1 + 1 + 1 + 1 + 1 + 1 + 1 + 1 ∧ IntKind.i64.wrap (k + 1 + 1 + 1 + 1 + 1 + 1 + 1 + 1 + 1) = k + 1 + 1 + 1 + 1 + 1 + 1 + 1 + 1 + 1 ∧ IntKind.i64.wrap (k + 1 + 1 + 1 + 1 + 1 + 1 + 1 + 1 + 1 + 1) = k + 1 + 1 + 1 + 1 + 1 + 1 + 1 + 1 + 1 + 1 ∧ IntKind.i64.wrap (k + 1 + 1 + 1 + 1 + 1 + 1 + 1 + 1 + 1 + 1 + 1) = k + 1 + 1 + 1 + 1 + 1 + 1 + 1 + 1 + 1 + 1 + 1 ∧ IntKind.i64.wrap (k + 1 + 1 + 1 + 1 + 1 + 1 + 1 + 1 + 1 + 1 + 1 + 1) = k + 1 + 1 + 1 + 1 + 1 + 1 + 1 + 1 + 1 + 1 + 1 + 1 := ⟨wrapS (by omega) (by omega), wrapS (by omega) (by omega), wrapS (by omega) (by omega), wrapS (by omega) (by omega), wrapS (by omega) (by omega), wrapS (by omega) (by omega), wrapS (by omega) (by omega), wrapS (by omega) (by omega), wrapS (by omega) (by omega), wrapS (by omega) (by omega), wrapS (by omega) (by omega), wrapS (by omega) (by omega)⟩
theorem sumL_cons {α : Type} {f : α → Nat} {x : α} {xs : List α} : sumL f (x :: xs) = 1 + f x + sumL f xs := by simp only [sumL, List.length_cons, List.map_cons, List.sum_cons]; omega
theorem sumL_nil {α : Type} {f : α → Nat} : sumL f [] = 0 := rfl
def mkL {α : Type} (f : α → Int → α) (e : α → Int → Int) : List α → Int → List α
  | [], _ => []
  | x :: xs, k => f x k :: mkL f e xs (e x k)
def enL {α : Type} (e : α → Int → Int) : List α → Int → Int
  | [], k => k
  | x :: xs, k => enL e xs (e x k)
theorem mkL_len {α : Type} {f : α → Int → α} {e : α → Int → Int} : ∀ (xs : List α) (k : Int), (mkL f e xs k).length = xs.length
  | [], _ => rfl
  | x :: xs, k => by simp only [mkL, List.length_cons, mkL_len xs]
theorem enL_bd {α : Type} {e : α → Int → Int} {f : α → Nat} (h : ∀ x k, k ≤ e x k ∧ e x k ≤ k + 64 * (1 + f x : Nat)) : ∀ (xs : List α) (k : Int), k ≤ enL e xs k ∧ enL e xs k ≤ k + 64 * (sumL f xs : Nat)
  | [], k => by simp only [enL, sumL_nil]; omega
  | x :: xs, k => by
    have h1 := h x k
    have h2 := enL_bd h xs (e x k)
    simp only [enL, sumL_cons]
    omega
theorem getD_mid {α : Type} {d a : α} {pre xs y : List α} {i : Nat} (h : y = pre ++ a :: xs) (hi : i = pre.length) : y.getD i d = a := by subst h hi; simp [List.getD_eq_getElem?_getD]
theorem set_mid {α : Type} {a v : α} {pre xs y : List α} {i : Nat} (h : y = pre ++ a :: xs) (hi : i = pre.length) : y.set i v = (pre ++ [v]) ++ xs := by subst h hi; simp
theorem l40 : ∀ (n : Nat) (k : Int) (s : ByteArray), 0 ≤ k → k ≤ 1125899906842624 → k < 10 ^ n → s.size + n ≤ 4294967295 → ∃ t, HH 48 [] (n + 1) [true, true, true, false] (hdS [(0, nI k), (3, .S s)] [] []) = some (.S t, []) := by
  intro n
  induction n with
  | zero =>
    intro k s h0 hb h1 h2
    rw [hstep, h48, bf (decide_eq_false (by simp at h1; omega))]
    exact ⟨_, bt (decide_eq_true (by omega))⟩
  | succ n ih =>
    intro k s h0 hb h1 h2
    rw [hstep, h48]
    by_cases c : 0 < k
    · rw [bt (decide_eq_true c), bt (decide_eq_true (by omega))]
      have w : IntKind.i64.wrap (k.tdiv 10) = k / 10 := by rw [Int.tdiv_eq_ediv_of_nonneg h0]; exact wrapS (by omega) (by omega)
      rw [w]
      refine ih _ _ (by omega) (by omega) (by rw [Int.pow_succ] at h1; omega) ?_
      rw [ByteArray.size_append]
      show 1 + s.size + n ≤ _
      omega
    · rw [bf (decide_eq_false c)]
      exact ⟨_, bt (decide_eq_true (by omega))⟩
theorem x40 (k : Int) (h0 : 0 ≤ k) (h1 : k ≤ 1125899906842624) : ∃ t, E 48 [nI k] [] = some (.S t, []) := by
  by_cases c : k ≤ 0
  · exact ⟨_, ev1 0 rfl (by rw [e48, bt (decide_eq_true c)])⟩
  · obtain ⟨t, h⟩ := l40 18 k ByteArray.empty h0 h1 (by omega) (by decide)
    exact ⟨t, ev1 19 rfl (by rw [e48, bf (decide_eq_false c)]; exact h)⟩
/-- The text that 'markText' gives of a number. -/
noncomputable def mtS (k : Int) : ByteArray := open Classical in if h : ∃ t, E 48 [nI k] [] = some (.S t, []) then h.choose else ByteArray.empty
theorem v48 (k : Int) (h0 : 0 ≤ k) (h1 : k ≤ 1125899906842624) : E 48 [nI k] [] = some (.S (mtS k), []) := by
  unfold mtS
  rw [dif_pos (x40 k h0 h1)]
  exact (x40 k h0 h1).choose_spec
noncomputable def mkTerm (x : VTerm) (k : Int) : VTerm := ⟨k, k + 1, mtS (k + 1 + 1)⟩
noncomputable def enTerm (x : VTerm) (k : Int) : Int := k + 1 + 1 + 1
theorem bdTerm (x : VTerm) (k : Int) : k ≤ enTerm x k ∧ enTerm x k ≤ k + 64 * (1 + szTerm x : Nat) := by
  unfold enTerm szTerm
  omega
noncomputable abbrev mkTermS : List VTerm → Int → List VTerm := mkL mkTerm enTerm
noncomputable abbrev enTermS : List VTerm → Int → Int := enL enTerm
theorem bdTermS (xs : List VTerm) (k : Int) : k ≤ enTermS xs k ∧ enTermS xs k ≤ k + 64 * (szTermS xs : Nat) := enL_bd bdTerm xs k
theorem k46 (x : (List VTerm)) (hx : x.length ≤ 17592186044416) : ∀ (xs pre y : (List VTerm)) (k : Int) (i : Nat), y = pre ++ xs → i = pre.length → y.length = x.length → 0 ≤ k → k + 64 * (szTermS xs : Nat) ≤ 1125899906842624 →
    HH 46 [owTermS x] (xs.length + 1) [true, false, true] (hdS [(0, .rf 0), (1, nI k), (5, nI (i : Int))] [(0, ⟨y.length, 3, goTermS y⟩)] []) = some (nI (enTermS xs k), [owTermS (pre ++ mkTermS xs k)]) := by
  intro xs
  induction xs with
  | nil =>
    intro pre y k i hy hi hl h0 h1
    rw [hstep, h46, bf (by simp [zN, hy, hi])]
    refine bt' (by simp [okT_eq, okU_eq, okV_eq, okW_eq]) ?_
    rw [← hl, hy]; simp [enL, mkL]
  | cons a ys ih =>
    intro pre y k i hy hi hl h0 h1
    have hle : i < y.length := by rw [hy, hi]; simp
    have b := bdTerm a k
    have h2 : szTermS (a :: ys) = 1 + szTerm a + szTermS ys := sumL_cons
    have h3 : szTerm a = szTerm a := rfl
    conv at h3 => lhs; unfold szTerm
    have f0 : 0 ≤ k ∧ k ≤ 4611686018427387904 := by constructor <;> omega
    have p2 : 0 ≤ k + 1 + 1 ∧ k + 1 + 1 ≤ 1125899906842624 := by constructor <;> omega
    have be : enTerm a k = k + 1 + 1 + 1 := rfl
    have pn : 0 ≤ enTerm a k ∧ enTerm a k + 64 * (szTermS ys : Nat) ≤ 1125899906842624 := by constructor <;> omega
    obtain ⟨w0_0, w0_1, w0_2⟩ := wch3 (k) f0.1 f0.2
    have c0 : (bif decide (0 ≤ (i : Int)) then decide ((i : Int) < zN y.length) else false) = true := by simp [zN]; omega
    have g : y.getD i zTerm = a := getD_mid hy hi
    rw [hstep, h46, bt (by simp [zN]; omega), wrapN (by omega)]
    simp only [Int.toNat_natCast, c0, cond_true, g, w0_0, w0_1, w0_2]
    refine obind' (v48 (k + 1 + 1) p2.1 p2.2) ?_
    refine (congrArg (fun G => HH 46 [owTermS x] (ys.length + 1) [true, false, true] (hdS [(0, .rf 0), (1, nI (enTerm a k)), (5, nI ((i + 1 : Nat) : Int))] [(0, ⟨y.length, 3, G⟩)] [])) (set_TermS (os := y) (k := i) (v := mkTerm a k) hle)).trans ?_
    have := ih (pre ++ [mkTerm a k]) (y.set i (mkTerm a k)) (enTerm a k) (i + 1) (set_mid hy hi) (by simp [hi]) (by simpa using hl) pn.1 pn.2
    rw [List.length_set] at this
    rw [this]
    simp [enL, mkL]
theorem kv46 (x : (List VTerm)) (k : Int) (h0 : 0 ≤ k) (h1 : k + 64 * (szTermS x : Nat) ≤ 1125899906842624) : E 46 [.rf 0, nI k] [owTermS x] = some (nI (enTermS x k), [owTermS (mkTermS x k)]) := by
  have hx : x.length ≤ 17592186044416 := by have : x.length ≤ szTermS x := sumL_len (Nat.le_refl _); omega
  refine ev1 (x.length + 1) rfl ?_
  rw [e46]
  exact k46 x hx x [] x k 0 rfl rfl rfl h0 h1
theorem j47 : ∀ (xs pre x : (List VTerm)) (k : Int) (i : Nat), x = pre ++ mkTermS xs k → i = pre.length → x.length ≤ 17592186044416 → 0 ≤ k → k + 64 * (szTermS xs : Nat) ≤ 1125899906842624 →
    HH 47 [] (xs.length + 1) [true, false, true] (hdS [(0, slTermS x), (1, nI k), (5, nI (i : Int))] [] []) = some (nI (enTermS xs k), []) := by
  intro xs
  induction xs with
  | nil =>
    intro pre x k i hy hi hl h0 h1
    rw [hstep, h47, bf (by simp [zN, hy, hi, mkL])]
    rfl
  | cons a ys ih =>
    intro pre x k i hy hi hl h0 h1
    have hle : i < x.length := by rw [hy, hi]; simp [mkL]
    have b := bdTerm a k
    have h2 : szTermS (a :: ys) = 1 + szTerm a + szTermS ys := sumL_cons
    have h3 : szTerm a = szTerm a := rfl
    conv at h3 => lhs; unfold szTerm
    have f0 : 0 ≤ k ∧ k ≤ 4611686018427387904 := by constructor <;> omega
    have p2 : 0 ≤ k + 1 + 1 ∧ k + 1 + 1 ≤ 1125899906842624 := by constructor <;> omega
    have be : enTerm a k = k + 1 + 1 + 1 := rfl
    have pn : 0 ≤ enTerm a k ∧ enTerm a k + 64 * (szTermS ys : Nat) ≤ 1125899906842624 := by constructor <;> omega
    obtain ⟨w0_0, w0_1, w0_2⟩ := wch3 (k) f0.1 f0.2
    have c0 : (bif decide (0 ≤ (i : Int)) then decide ((i : Int) < zN x.length) else false) = true := by simp [zN]; omega
    have g : x.getD i zTerm = mkTerm a k := getD_mid (xs := mkTermS ys (enTerm a k)) hy hi
    rw [hstep, h47, bt (by simp [zN]; omega), wrapN (by omega)]
    simp only [Int.toNat_natCast, List.length_cons, g, w0_0, w0_1, w0_2]
    dsimp only [mkTerm]
    have nx : HH 47 [] (ys.length + 1) [true, false, true] (hdS [(0, slTermS x), (1, nI (k + 1 + 1 + 1)), (5, nI ((i + 1 : Nat) : Int))] [] []) = some (nI (enTermS (a :: ys) k), []) := ih (pre ++ [mkTerm a k]) x (enTerm a k) (i + 1) (by rw [hy]; simp [mkL]) (by simp [hi]) hl pn.1 pn.2
    repeat' first
      | with_reducible refine and2_both ?_ ?_
      | with_reducible refine bt' c0 ?_
      | with_reducible refine obind' (v48 (k + 1 + 1) p2.1 p2.2) ?_
      | with_reducible refine bf' (by simp [asS]) ?_
      | with_reducible exact nx
theorem hv47 (x : (List VTerm)) (k : Int) (nn : Nat) (hn : nn = x.length) (h0 : 0 ≤ k) (h1 : k + 64 * (szTermS x : Nat) ≤ 1125899906842624) : E 47 [.sl nn 3 (gsTermS (mkTermS x k)), nI k] [] = some (nI (enTermS x k), []) := by
  have hx : x.length ≤ 17592186044416 := by have : x.length ≤ szTermS x := sumL_len (Nat.le_refl _); omega
  subst hn
  rw [show x.length = (mkTermS x k).length from (mkL_len _ _).symm]
  refine ev1 (x.length + 1) rfl ?_
  refine (e47 ..).trans ?_
  exact j47 x [] (mkTermS x k) k 0 rfl rfl (by rw [mkL_len]; exact hx) h0 h1
end Go.Fw
