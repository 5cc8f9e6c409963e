/- Values of the functions that TellOne's law reaches: comparing, marking, and looking for the marks. -/
import Derived.Test.YtkhfkekbfjkpcaaG4
set_option linter.unusedVariables false
set_option linter.unusedSimpArgs false
namespace Go.Fw
open Go.Proofs

theorem l39 (xs : List Int) (hx : xs.length ≤ 4294967296) : ∀ (k i : Nat), i + k = xs.length →
    HH 39 [] (k + 1) [true, true, false, true] (hdS [(0, slI xs), (1, slI xs), (5, nI (i : Int))] [] []) = some (.B true, []) := by
  intro k
  induction k with
  | zero => intro i hi; rw [hstep, h39, bf (by simp [zN]; omega)]
  | succ k ih =>
    intro i hi
    rw [hstep, h39, bt (by simp [zN]; omega), bt (by simp [zN]; omega), bt (by simp [zN]; omega), bf (by simp), wrapN (by omega)]
    exact ih (i + 1) (by omega)
theorem v39 (xs : List Int) (hx : xs.length ≤ 4294967296) : E 39 [slI xs, slI xs] [] = some (.B true, []) := by
  refine ev1 (xs.length + 1) rfl ?_
  rw [e39, bf (by simp)]; exact l39 xs hx xs.length 0 (by omega)
theorem v67 (a : Int) (b : Bool) : E 67 [.ag 2 (lstG [nI a, .B b]), .ag 2 (lstG [nI a, .B b])] [] = some (.B true, []) := by
  refine ev1 0 rfl ?_
  rw [e67, bf (by simp), bf (by simp)]
theorem l40 (xs : List (Int × Bool)) (hx : xs.length ≤ 4294967296) : ∀ (k i : Nat), i + k = xs.length →
    HH 40 [] (k + 1) [true, true, false, true] (hdS [(0, slG xs), (1, slG xs), (5, nI (i : Int))] [] []) = some (.B true, []) := by
  intro k
  induction k with
  | zero => intro i hi; rw [hstep, h40, bf (by simp [zN]; omega)]
  | succ k ih =>
    intro i hi
    rw [hstep, h40, bt (by simp [zN]; omega), bt (by simp [zN]; omega), bt (by simp [zN]; omega), obind (v67 _ _), wrapN (by omega)]
    exact ih (i + 1) (by omega)
theorem v40 (xs : List (Int × Bool)) (hx : xs.length ≤ 4294967296) : E 40 [slG xs, slG xs] [] = some (.B true, []) := by
  refine ev1 (xs.length + 1) rfl ?_
  rw [e40, bf (by simp)]; exact l40 xs hx xs.length 0 (by omega)
theorem v12 (n : NT) (h1 : n.l.length ≤ 4294967296) (h2 : n.g.length ≤ 4294967296) : E 12 [slN n, slN n] [] = some (.B true, []) := by
  refine ev1 0 rfl ?_
  rw [e12, bf (by simp), obind (v39 _ h1)]
  refine (bf rfl).trans ?_
  rw [obind (v40 _ h2)]
  refine (bf rfl).trans ?_
  rw [bf (by simp), bf (by simp), bf (by simp)]

def mI (k : Int) (m : Nat) : List Int := (List.range m).map fun (i : Nat) => k + (i : Int)
def mG (k : Int) (m : Nat) : List (Int × Bool) := (List.range m).map fun (i : Nat) => (k + 2 * (i : Int), decide ((k + 2 * (i : Int) + 1).tmod 3 = 0))
theorem mI_len (k : Int) (m : Nat) : (mI k m).length = m := by simp [mI]
theorem mG_len (k : Int) (m : Nat) : (mG k m).length = m := by simp [mG]
theorem mI_get {k : Int} {m i : Nat} (h : i < m) : (mI k m).getD i 0 = k + (i : Int) := by simp [mI, List.getD_eq_getElem?_getD, h]
theorem mG_get {k : Int} {m i : Nat} (h : i < m) : (mG k m).getD i (0, false) = (k + 2 * (i : Int), decide ((k + 2 * (i : Int) + 1).tmod 3 = 0)) := by simp [mG, List.getD_eq_getElem?_getD, h]
theorem l41 (xs : List Int) (k0 : Int) (hk : 0 ≤ k0) (hk' : k0 ≤ 1099511627776) (hx : xs.length ≤ 4294967296) : ∀ (m i : Nat) (ys : List Int), i + m = xs.length → ys.length = xs.length → (∀ j, j < i → ys.getD j 0 = k0 + (j : Int)) →
    HH 41 [owI xs] (m + 1) [true, false, true] (hdS [(0, .rf 0), (1, nI (k0 + (i : Int))), (5, nI (i : Int))] [(0, ⟨ys.length, 1, gI ys⟩)] []) = some (nI (k0 + (xs.length : Int)), [owI (mI k0 xs.length)]) := by
  intro m
  induction m with
  | zero =>
    intro i ys hi hl ho
    rw [hstep, h41, bf (by simp [zN]; omega), bt okT_eq]
    have : ys = mI k0 xs.length := list_ext_getD (d := 0) (by rw [hl, mI_len]) fun j hj => by rw [ho j (by omega), mI_get (by omega)]
    rw [this]
    have hi' : i = xs.length := by omega
    subst hi'
    unfold owI
    rw [mI_len]
  | succ m ih =>
    intro i ys hi hl ho
    rw [hstep, h41, bt (by simp [zN]; omega), bt (by simp [zN]; omega), wrapN (by omega), wrapS (by omega) (by omega)]
    simp only [Int.toNat_natCast]
    rw [gI_set (by omega)]
    have := ih (i + 1) (ys.set i (k0 + (i : Int))) (by omega) (by simpa using hl) (fun j hj => by
      rw [getD_set (by omega)]
      by_cases hji : j = i
      · subst hji; simp
      · rw [if_neg hji]; exact ho j (by omega))
    rw [List.length_set] at this
    have e1 : k0 + ((i + 1 : Nat) : Int) = k0 + (i : Int) + 1 := by omega
    rw [e1] at this
    exact this
theorem v41 (xs : List Int) (k0 : Int) (hk : 0 ≤ k0) (hk' : k0 ≤ 1099511627776) (hx : xs.length ≤ 4294967296) : E 41 [.rf 0, nI k0] [owI xs] = some (nI (k0 + (xs.length : Int)), [owI (mI k0 xs.length)]) := by
  refine ev1 (xs.length + 1) rfl ?_
  rw [e41]
  have := l41 xs k0 hk hk' hx xs.length 0 xs (by omega) rfl (fun j hj => by omega)
  rw [show k0 + ((0 : Nat) : Int) = k0 by omega] at this
  exact this
theorem l42 (xs : List (Int × Bool)) (k0 : Int) (hk : 0 ≤ k0) (hk' : k0 ≤ 1099511627776) (hx : xs.length ≤ 4294967296) : ∀ (m i : Nat) (ys : List (Int × Bool)), i + m = xs.length → ys.length = xs.length → (∀ j, j < i → ys.getD j (0, false) = (k0 + 2 * (j : Int), decide ((k0 + 2 * (j : Int) + 1).tmod 3 = 0))) →
    HH 42 [owG xs] (m + 1) [true, false, true] (hdS [(0, .rf 0), (1, nI (k0 + 2 * (i : Int))), (5, nI (i : Int))] [(0, ⟨ys.length, 2, gG ys⟩)] []) = some (nI (k0 + 2 * (xs.length : Int)), [owG (mG k0 xs.length)]) := by
  intro m
  induction m with
  | zero =>
    intro i ys hi hl ho
    rw [hstep, h42, bf (by simp [zN]; omega), bt okT_eq]
    have : ys = mG k0 xs.length := list_ext_getD (d := (0, false)) (by rw [hl, mG_len]) fun j hj => by rw [ho j (by omega), mG_get (by omega)]
    rw [this]
    have hi' : i = xs.length := by omega
    subst hi'
    unfold owG
    rw [mG_len]
  | succ m ih =>
    intro i ys hi hl ho
    rw [hstep, h42, bt (by simp [zN]; omega), bt (by simp [zN]; omega), bt (by simp [zN]; omega), wrapN (by omega), wrapS (x := k0 + 2 * (i : Int) + 1) (by omega) (by omega), wrapS (by omega) (by omega)]
    simp only [Int.toNat_natCast]
    rw [gG_set (by omega)]
    have := ih (i + 1) (ys.set i (k0 + 2 * (i : Int), decide ((k0 + 2 * (i : Int) + 1).tmod 3 = 0))) (by omega) (by simpa using hl) (fun j hj => by
      rw [getD_set (by omega)]
      by_cases hji : j = i
      · subst hji; simp
      · rw [if_neg hji]; exact ho j (by omega))
    rw [List.length_set] at this
    have e1 : k0 + 2 * ((i + 1 : Nat) : Int) = k0 + 2 * (i : Int) + 1 + 1 := by omega
    rw [e1] at this
    exact this
theorem v42 (xs : List (Int × Bool)) (k0 : Int) (hk : 0 ≤ k0) (hk' : k0 ≤ 1099511627776) (hx : xs.length ≤ 4294967296) : E 42 [.rf 0, nI k0] [owG xs] = some (nI (k0 + 2 * (xs.length : Int)), [owG (mG k0 xs.length)]) := by
  refine ev1 (xs.length + 1) rfl ?_
  rw [e42]
  have := l42 xs k0 hk hk' hx xs.length 0 xs (by omega) rfl (fun j hj => by omega)
  rw [show k0 + 2 * ((0 : Nat) : Int) = k0 by omega] at this
  exact this
theorem l43 (k0 : Int) (hk : 0 ≤ k0) (hk' : k0 ≤ 1099511627776) (len : Nat) (hx : len ≤ 4294967296) : ∀ (m i : Nat), i + m = len →
    HH 43 [] (m + 1) [true, false, true] (hdS [(0, slI (mI k0 len)), (1, nI (k0 + (i : Int))), (5, nI (i : Int))] [] []) = some (nI (k0 + (len : Int)), []) := by
  intro m
  have hlen := mI_len k0 len
  induction m with
  | zero =>
    intro i hi
    rw [hstep, h43, bf (by simp [zN, hlen]; omega)]
    have : i = len := by omega
    rw [this]
  | succ m ih =>
    intro i hi
    rw [hstep, h43, bt (by simp [zN, hlen]; omega), bt (by simp [zN, hlen]; omega),
      bf (by rw [Bool.not_eq_false']; exact decide_eq_true (by rw [Int.toNat_natCast]; exact mI_get (by omega))), wrapN (by omega), wrapS (by omega) (by omega)]
    have := ih (i + 1) (by omega)
    have e1 : k0 + ((i + 1 : Nat) : Int) = k0 + (i : Int) + 1 := by omega
    rw [e1] at this
    exact this
theorem v43 (k0 : Int) (hk : 0 ≤ k0) (hk' : k0 ≤ 1099511627776) (len : Nat) (hx : len ≤ 4294967296) : E 43 [slI (mI k0 len), nI k0] [] = some (nI (k0 + (len : Int)), []) := by
  refine ev1 (len + 1) rfl ?_
  rw [e43]
  have := l43 k0 hk hk' len hx len 0 (by omega)
  rw [show k0 + ((0 : Nat) : Int) = k0 by omega] at this
  exact this
theorem l44 (k0 : Int) (hk : 0 ≤ k0) (hk' : k0 ≤ 1099511627776) (len : Nat) (hx : len ≤ 4294967296) : ∀ (m i : Nat), i + m = len →
    HH 44 [] (m + 1) [true, false, true] (hdS [(0, slG (mG k0 len)), (1, nI (k0 + 2 * (i : Int))), (5, nI (i : Int))] [] []) = some (nI (k0 + 2 * (len : Int)), []) := by
  intro m
  have hlen := mG_len k0 len
  induction m with
  | zero =>
    intro i hi
    rw [hstep, h44, bf (by simp [zN, hlen]; omega)]
    have : i = len := by omega
    rw [this]
  | succ m ih =>
    intro i hi
    rw [hstep, h44, bt (by simp [zN, hlen]; omega), bt (by simp [zN, hlen]; omega),
      bf (by rw [Bool.not_eq_false']; exact decide_eq_true (by rw [Int.toNat_natCast, mG_get (by omega)])), bt (by simp [zN, hlen]; omega),
      bf (by rw [Bool.not_eq_false', beq_iff_eq, Int.toNat_natCast, mG_get (by omega)]; exact decide_eq_decide.2 (by rw [wrapS (by omega) (by omega)])),
      wrapN (by omega), wrapS (x := k0 + 2 * (i : Int) + 1) (by omega) (by omega), wrapS (by omega) (by omega)]
    have := ih (i + 1) (by omega)
    have e1 : k0 + 2 * ((i + 1 : Nat) : Int) = k0 + 2 * (i : Int) + 1 + 1 := by omega
    rw [e1] at this
    exact this
theorem v44 (k0 : Int) (hk : 0 ≤ k0) (hk' : k0 ≤ 1099511627776) (len : Nat) (hx : len ≤ 4294967296) : E 44 [slG (mG k0 len), nI k0] [] = some (nI (k0 + 2 * (len : Int)), []) := by
  refine ev1 (len + 1) rfl ?_
  rw [e44]
  have := l44 k0 hk hk' len hx len 0 (by omega)
  rw [show k0 + 2 * ((0 : Nat) : Int) = k0 by omega] at this
  exact this
def markN (n : NT) : NT := ⟨n.p, mI 1 n.l.length, mG (1 + (n.l.length : Int)) n.g.length, n.o, n.s, n.t⟩
def endN (n : NT) : Int := 1 + (n.l.length : Int) + 2 * (n.g.length : Int)
theorem v13 (n : NT) (h1 : n.l.length ≤ 4294967296) (h2 : n.g.length ≤ 4294967296) : E 13 [.ag 6 (lstG [.B n.p, .rf 0, .rf 4096, nI n.o, nI n.s, nI n.t]), nI 1] [owI n.l, owG n.g] = some (nI (endN n), [owI (markN n).l, owG (markN n).g]) := by
  refine ev1 0 rfl ?_
  rw [e13, obind (v41 n.l 1 (by omega) (by omega) h1)]
  have q := v42 n.g (1 + (n.l.length : Int)) (by omega) (by omega) h2
  refine (obind q).trans ?_
  rw [bt okT_eq, bt okT_eq]
  unfold markN endN owI owG
  simp only [mI_len, mG_len]
  rfl
theorem v14 (n : NT) (h1 : n.l.length ≤ 4294967296) (h2 : n.g.length ≤ 4294967296) : E 14 [slN (markN n), nI 1] [] = some (nI (endN n), []) := by
  refine ev1 0 rfl ?_
  rw [e14]
  have q1 := v43 1 (by omega) (by omega) n.l.length h1
  have q2 := v44 (1 + (n.l.length : Int)) (by omega) (by omega) n.g.length h2
  refine (obind q1).trans ?_
  rw [bf (decide_eq_false (by show ¬ (1 + (n.l.length : Int)) < 0; omega))]
  refine (obind q2).trans ?_
  rw [bf (decide_eq_false (by show ¬ (1 + (n.l.length : Int) + 2 * (n.g.length : Int)) < 0; omega))]
  rfl
end Go.Fw
