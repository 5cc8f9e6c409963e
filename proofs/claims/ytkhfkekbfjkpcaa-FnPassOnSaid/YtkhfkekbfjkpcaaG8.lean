/- Values of the functions that Withdraw's law reaches: lists without one. -/
import Derived.Test.YtkhfkekbfjkpcaaG4
set_option linter.unusedVariables false
set_option linter.unusedSimpArgs false
namespace Go.Fw
open Go.Proofs

theorem drop_getD {α : Type} {d : α} {xs : List α} {i : Nat} (h : i < xs.length) : xs.drop i = xs.getD i d :: xs.drop (i + 1) := by
  rw [List.drop_eq_getElem_cons h]
  simp [List.getD_eq_getElem?_getD, h]
theorem l53 (xs : List Int) (a : Int) (hx : xs.length ≤ 4294967295) : ∀ (k i : Nat) (os : List Int) (b : Bool), i + k = xs.length → os.length ≤ i →
    HH 53 [] (k + 1) [true, true, true, false, true] (hdS [(0, slI xs), (1, nI a), (5, .rf 389120), (6, .B b), (7, nI (i : Int))] [(389120, ⟨os.length, 1, gI os⟩)] []) = some (owI (os ++ (if b = true then xs.drop i else (xs.drop i).erase a)), []) := by
  intro k
  induction k with
  | zero =>
    intro i os b hi ho
    rw [hstep, h53, bf (by simp [zN]; omega), bt okT_eq]
    rw [show xs.drop i = [] from List.drop_eq_nil_of_le (by omega)]
    simp
  | succ k ih =>
    intro i os b hi ho
    have hg : 0 ≤ (i : Int) ∧ (i : Int) < zN xs.length := by simp [zN]; omega
    have happ := fun (b : Bool) => ih (i + 1) (os ++ [xs.getD i 0]) b (by omega) (by simp; omega)
    simp only [List.length_append, List.length_singleton, List.append_assoc, List.singleton_append] at happ
    rw [hstep, h53, bt (by simp [zN]; omega), bt (by simp [zN]; omega), wrapN (by omega)]
    simp only [Int.toNat_natCast]
    rw [drop_getD (d := 0) (show i < xs.length by omega), row_app]
    by_cases h : xs.getD i 0 = a
    · rw [bt (decide_eq_true h)]
      cases b with
      | false =>
        refine (bt rfl).trans ?_
        have := ih (i + 1) os true (by omega) (by omega)
        rw [h]
        simpa using this
      | true =>
        refine (bf rfl).trans ?_
        rw [bt (by simp [zN]; omega), bt (by simp; omega)]
        exact (happ true).trans (by simp)
    · rw [bf (decide_eq_false h), bt (by simp [zN]; omega), bt (by simp; omega)]
      refine (happ b).trans ?_
      cases b with
      | true => simp
      | false => simp only [Bool.false_eq_true, if_false]; rw [List.erase_cons_tail (by simpa using h)]
theorem v53 (xs : List Int) (a : Int) (hx : xs.length ≤ 4294967295) : E 53 [slI xs, nI a] [] = some (owI (xs.erase a), []) := by
  refine ev1 (xs.length + 1) rfl ?_
  have hz : (fun i : Nat => lstG [AV.I IntKind.i64 0]) = gI [] := by funext i; unfold gI; simp
  rw [e53, hz]
  have := l53 xs a hx xs.length 0 [] false (by omega) (by simp)
  simpa using this
def keepF (g : List (Int × Bool)) (k : Nat) : Nat → Nat → List (Int × Bool)
  | 0, _ => []
  | m + 1, i => if i = k then keepF g k m (i + 1) else g.getD i (0, false) :: keepF g k m (i + 1)
theorem keepF_eq (g : List (Int × Bool)) (k : Nat) : ∀ (m i : Nat), i + m = g.length → keepF g k m i = if i ≤ k then (g.drop i).eraseIdx (k - i) else g.drop i := by
  intro m
  induction m with
  | zero => intro i hi; rw [List.drop_eq_nil_of_le (by omega)]; simp [keepF]
  | succ m ih =>
    intro i hi
    rw [drop_getD (d := ((0 : Int), false)) (show i < g.length by omega)]
    simp only [keepF]
    rw [ih (i + 1) (by omega)]
    by_cases h : i = k
    · subst h; rw [if_pos rfl, if_neg (by omega), if_pos (by omega)]; simp
    · rw [if_neg h]
      by_cases h2 : i ≤ k
      · rw [if_pos h2, if_pos (by omega), show k - i = (k - (i + 1)) + 1 by omega]; simp
      · rw [if_neg h2, if_neg (by omega)]
abbrev agR (n : NT) : AV := .ag 6 (lstG [.B n.p, .rf 0, .rf 4096, nI n.o, nI n.s, nI n.t])
theorem l51 (n : NT) (h1 : n.l.length ≤ 4294967295) (h2 : n.g.length ≤ 4294967295) (a : Nat) : ∀ (k i : Nat) (os : List (Int × Bool)), i + k = n.g.length → os.length ≤ i →
    HH 51 [owI n.l, owG n.g] (k + 1) [true, true, false, true] (hdS [(1, nI (a : Int)), (2, .pb 66 0), (4, .pb 68 0), (5, .rf 364544), (6, nI (i : Int))] [(0, ⟨n.l.length, 1, gI n.l⟩), (4096, ⟨n.g.length, 2, gG n.g⟩), (364544, ⟨os.length, 2, gG os⟩)]
      [(66, 6, [.B n.p, .rf 0, .rf 4096, nI n.o, nI n.s, nI n.t]), (68, 6, [.B false, .nsl 1 (fun _ => lstG [nI 0]), .nsl 2 (fun _ => lstG [nI 0, .B false]), nI 0, nI 0, nI 0])]) =
      some (owN ⟨n.p, n.l, os ++ keepF n.g a k i, n.o, n.s, n.t⟩, [.bad, .bad]) := by
  intro k
  induction k with
  | zero =>
    intro i os hi ho
    rw [hstep, h51, bf (by simp [zN]; omega), bt okT2]
    simp only [keepF, List.append_nil]
  | succ k ih =>
    intro i os hi ho
    rw [hstep, h51, bt (by simp [zN]; omega), wrapN (by omega)]
    simp only [Int.toNat_natCast, keepF]
    by_cases h : i = a
    · rw [if_pos h, bf (by rw [decide_eq_true (by omega)]; rfl)]
      exact ih (i + 1) os (by omega) (by omega)
    · rw [if_neg h, bt (by rw [decide_eq_false (by omega)]; rfl), bt (by simp [zN]; omega), bt (by simp; omega), row_appG]
      have := ih (i + 1) (os ++ [n.g.getD i (0, false)]) (by omega) (by simp; omega)
      simpa using this
theorem v51 (n : NT) (a : Nat) (h1 : n.l.length ≤ 4294967295) (h2 : n.g.length ≤ 4294967295) : E 51 [agR n, nI (a : Int)] [owI n.l, owG n.g] = some (owN ⟨n.p, n.l, n.g.eraseIdx a, n.o, n.s, n.t⟩, [.bad, .bad]) := by
  refine ev1 (n.g.length + 1) rfl ?_
  have hz : (fun i : Nat => lstG [AV.I IntKind.i64 0, AV.B false]) = gG [] := by funext i; unfold gG; simp
  rw [e51]
  have := l51 n h1 h2 a n.g.length 0 [] (by omega) (by simp)
  rw [keepF_eq _ _ _ _ (by omega), if_pos (Nat.zero_le _), List.nil_append, ← hz] at this
  exact this
theorem v72 (a b : Int) : E 72 [nI b, .sp 1 (lstG [nI a])] [] = some (.B (decide (b = a)), []) := ev1 0 rfl (by rw [e72])
theorem l84b (xs : List Int) (a : Int) (hx : xs.length ≤ 4294967296) : ∀ (k i : Nat), i + k = xs.length →
    HH 84 [] (k + 1) [true, false, true] (hdS [(0, slI xs), (1, .clo 72 1 (lstG [.sp 1 (lstG [nI a])])), (7, nI (zN xs.length)), (8, nI (i : Int))] [] []) = some (nI (ixF (fun j => xs.getD j 0) a k i), []) := by
  intro k
  induction k with
  | zero => intro i hi; rw [hstep, h84b, bf (by simp [zN]; omega)]; rfl
  | succ k ih =>
    intro i hi
    rw [hstep, h84b, bt (by simp [zN]; omega), bt (by simp [zN]; omega), obind (v72 _ _), wrapN (by omega)]
    simp only [Int.toNat_natCast, ixF]
    by_cases h : xs.getD i 0 = a
    · rw [if_pos h]; exact bt (decide_eq_true h)
    · rw [if_neg h]; exact (bf (c := asB (AV.B _)) (decide_eq_false h)).trans (ih (i + 1) (by omega))
theorem v84b (xs : List Int) (a : Int) (hx : xs.length ≤ 4294967296) : E 84 [slI xs, .clo 72 1 (lstG [.sp 1 (lstG [nI a])])] [] = some (nI (ixF (fun j => xs.getD j 0) a xs.length 0), []) := by
  refine ev1 (xs.length + 1) rfl ?_
  rw [e84b]; exact l84b xs a hx xs.length 0 (by omega)
/-- Of what is looked for: its place, and that it is the first. -/
theorem ixF_spec (f : Nat → Int) (a : Int) : ∀ (k i : Nat), (ixF f a k i = -1 ∧ ∀ j, i ≤ j → j < i + k → f j ≠ a) ∨ ∃ j : Nat, ixF f a k i = j ∧ i ≤ j ∧ j < i + k ∧ f j = a ∧ ∀ j', i ≤ j' → j' < j → f j' ≠ a := by
  intro k
  induction k with
  | zero => intro i; exact .inl ⟨rfl, fun j h1 h2 => by omega⟩
  | succ k ih =>
    intro i
    simp only [ixF]
    by_cases h : f i = a
    · rw [if_pos h]; exact .inr ⟨i, rfl, by omega, by omega, h, fun j' h1 h2 => by omega⟩
    · rw [if_neg h]
      rcases ih (i + 1) with ⟨h1, h2⟩ | ⟨j, h1, h2, h3, h4, h5⟩
      · refine .inl ⟨h1, fun j h3 h4 => ?_⟩
        by_cases hj : j = i
        · subst hj; exact h
        · exact h2 j (by omega) (by omega)
      · refine .inr ⟨j, h1, by omega, by omega, h4, fun j' h6 h7 => ?_⟩
        by_cases hj : j' = i
        · subst hj; exact h
        · exact h5 j' (by omega) (by omega)
theorem filter_take_succ {xs : List Int} {i : Nat} (p : Int → Bool) (h : i < xs.length) : (xs.take (i + 1)).filter p = (xs.take i).filter p ++ (if p (xs.getD i 0) = true then [xs.getD i 0] else []) := by
  rw [List.take_add_one, List.filter_append]
  congr 1
  simp only [List.getD_eq_getElem?_getD, List.getElem?_eq_getElem h, Option.toList_some, Option.getD_some, List.filter_cons, List.filter_nil]
theorem row71 {ys : List Int} {m : Nat} (h : m ≤ ys.length) : AV.own ((m : Int).toNat - 0) 1 (fun i => lstG [AV.I IntKind.i64 (bif decide (i < (m : Int).toNat - 0) then bif decide ((m : Int).toNat ≤ 0 + i) && decide (0 + i < (m : Int).toNat + ((zN ys.length).toNat - (m : Int).toNat)) then 0 else ys.getD (0 + i) 0 else bif decide ((m : Int).toNat ≤ ys.length) && decide (ys.length < (m : Int).toNat + ((zN ys.length).toNat - (m : Int).toNat)) then 0 else ys.getD ys.length 0)]) = owI (ys.take m) := by
  have hl : (ys.take m).length = m := by simp; omega
  unfold owI
  rw [hl]
  simp only [Int.toNat_natCast, Nat.sub_zero, Nat.zero_add]
  congr 1
  funext i
  unfold gI
  congr 3
  by_cases hi : i < m
  · rw [decide_eq_true hi]
    have : decide (m ≤ i) = false := decide_eq_false (by omega)
    simp [this, List.getD_eq_getElem?_getD, List.getElem?_take, hi]
  · rw [decide_eq_false hi]
    simp only [cond_false]
    have : (ys.take m).getD i 0 = 0 := by rw [List.getD_eq_getElem?_getD, List.getElem?_eq_none (by omega)]; rfl
    rw [this]
    have : ys.getD ys.length 0 = 0 := by rw [List.getD_eq_getElem?_getD, List.getElem?_eq_none (by omega)]; rfl
    rw [this]
    exact Bool.cond_self _ _
theorem l71 (xs : List Int) (a : Int) (hx : xs.length ≤ 4294967296) : ∀ (k i m : Nat) (ys : List Int), i + k = xs.length → ys.length = xs.length → m < i → ys.take m = (xs.take i).filter (· != a) → (∀ j, i ≤ j → ys.getD j 0 = xs.getD j 0) →
    HH 71 [owI xs] (k + 1) [true, true, true, false, true] (hdS [(0, .rf 0), (1, .clo 72 1 (lstG [.sp 1 (lstG [nI a])])), (5, nI (m : Int)), (6, nI (i : Int))] [(0, ⟨ys.length, 1, gI ys⟩)] []) = some (owI (xs.filter (· != a)), [.bad]) := by
  intro k
  induction k with
  | zero =>
    intro i m ys hi hl hm hf hr
    rw [hstep, h71, bf (by simp [zN]; omega), bt (by simp [zN]; omega), bt (by simp [zN]; omega), bt okT_eq, row71 (by omega), hf, List.take_of_length_le (by omega)]
  | succ k ih =>
    intro i m ys hi hl hm hf hr
    have hfl : m ≤ (xs.take i).length := by
      have := congrArg List.length hf
      have h2 := List.length_filter_le (· != a) (xs.take i)
      rw [List.length_take] at this
      omega
    rw [hstep, h71, bt (by simp [zN]; omega), bt (by simp [zN]; omega), obind (v72 _ _), wrapN (i := i) (by omega), wrapN (i := m) (by omega)]
    simp only [Int.toNat_natCast]
    have hri := hr i (Nat.le_refl _)
    have hts := filter_take_succ (xs := xs) (i := i) (· != a) (by omega)
    by_cases h : ys.getD i 0 = a
    · refine (bf (by show (!decide (ys.getD i 0 = a)) = false; rw [decide_eq_true h]; rfl)).trans ?_
      refine ih (i + 1) m ys (by omega) hl (by omega) ?_ (fun j hj => hr j (by omega))
      rw [hts, hf, if_neg (by rw [← hri, h]; simp)]; simp
    · refine (bt (by show (!decide (ys.getD i 0 = a)) = true; rw [decide_eq_false h]; rfl)).trans ?_
      rw [bt (by simp [zN]; omega), gI_set (by omega)]
      have := ih (i + 1) (m + 1) (ys.set m (ys.getD i 0)) (by omega) (by simpa using hl) (by omega) (by
        have hlt : m < (ys.set m (ys.getD i 0)).length := by simp; omega
        rw [hts, ← hri, if_pos (by simpa using h), List.take_succ_eq_append_getElem hlt, List.take_set_of_le (Nat.le_refl _), hf]
        simp) (fun j hj => by
          rw [getD_set (by omega), if_neg (by omega)]; exact hr j (by omega))
      rw [List.length_set] at this
      exact this
theorem v71 (xs : List Int) (a : Int) (hx : xs.length ≤ 4294967296) : E 71 [.rf 0, .clo 72 1 (lstG [.sp 1 (lstG [nI a])])] [owI xs] = some (owI (xs.filter (· != a)), [.bad]) := by
  rcases ixF_spec (fun j => xs.getD j 0) a xs.length 0 with ⟨h1, h2⟩ | ⟨m, h1, h2, h3, h4, h5⟩
  · refine ev1 0 rfl ?_
    rw [e71, obind (v84b xs a hx)]
    refine (bt (decide_eq_true h1)).trans ?_
    rw [bt okT_eq]
    have : xs.filter (· != a) = xs := List.filter_eq_self.2 fun x hx => by
      obtain ⟨j, hj, rfl⟩ := List.mem_iff_getElem.1 hx
      have := h2 j (by omega) (by omega)
      simp only [List.getD_eq_getElem?_getD, List.getElem?_eq_getElem hj, Option.getD_some] at this
      simpa using this
    rw [this]
  · refine ev1 (xs.length - (m + 1) + 1) rfl ?_
    rw [e71, obind (v84b xs a hx)]
    refine (bf (decide_eq_false (by show ¬ ixF (fun j => xs.getD j 0) a xs.length 0 = -1; rw [h1]; omega))).trans ?_
    show HH 71 [owI xs] (xs.length - (m + 1) + 1) [true, true, true, false, true] (hdS [(0, .rf 0), (1, .clo 72 1 (lstG [.sp 1 (lstG [nI a])])), (5, nI (ixF (fun j => xs.getD j 0) a xs.length 0)), (6, nI (IntKind.i64.wrap (ixF (fun j => xs.getD j 0) a xs.length 0 + 1)))] [(0, ⟨xs.length, 1, gI xs⟩)] []) = _
    rw [h1, wrapN (by omega)]
    have hfm : (xs.take (m + 1)).filter (· != a) = xs.take m := by
      rw [filter_take_succ _ (by omega), if_neg (by simpa using h4), List.append_nil]
      refine List.filter_eq_self.2 fun x hx => ?_
      obtain ⟨j, hj, rfl⟩ := List.mem_iff_getElem.1 hx
      have hjm : j < m := by simp at hj; omega
      have := h5 j (by omega) hjm
      simp only [List.getD_eq_getElem?_getD, List.getElem?_eq_getElem (show j < xs.length by omega), Option.getD_some] at this
      simpa using this
    exact l71 xs a hx (xs.length - (m + 1)) (m + 1) m xs (by omega) rfl (by omega) hfm.symm (fun j _ => rfl)
theorem v52 (xs : List Int) (a : Int) (hx : xs.length ≤ 4294967296) : E 52 [slI xs, nI a] [] = some (owI (xs.filter (· != a)), []) := by
  refine ev1 0 rfl ?_
  rw [e52, obind (v45 xs hx)]
  refine (obind (v71 xs a hx)).trans ?_
  rw [bt okT_eq]
  rfl
theorem erase_getD {gs : List (Int × Bool)} {k i : Nat} : (gs.eraseIdx k).getD i (0, false) = if i < k then gs.getD i (0, false) else gs.getD (i + 1) (0, false) := by
  simp only [List.getD_eq_getElem?_getD, List.getElem?_eraseIdx]
  split <;> rfl
theorem v48 (gs : List (Int × Bool)) (k : Nat) (hk : k < gs.length) (hx : gs.length ≤ 4294967295) : E 48 [.rf 0, nI (k : Int), nI ((k + 1 : Nat) : Int)] [owG gs] = some (owG (gs.eraseIdx k), [.bad]) := by
  refine ev1 0 rfl ?_
  have hl : (gs.eraseIdx k).length = gs.length - 1 := by rw [List.length_eraseIdx]; simp [hk]
  have hz : (zN gs.length).toNat = gs.length := by simp [zN]
  have hz2 : (zN (k + (gs.length - (k + 1)))).toNat = gs.length - 1 := by simp only [zN]; omega
  have hz3 : k + (gs.length - (k + 1)) = gs.length - 1 := by omega
  rw [e48, bt (by simp [zN]; omega), bf (decide_eq_false (by omega)), bt (by simp [zN]; omega), bt (by simp [zN]; omega), bt (by simp [zN]; omega), bt (by simp [zN]; omega), bt okT_eq]
  simp only [Int.toNat_natCast, Nat.sub_zero, Nat.zero_add, hz, hz2]
  unfold owG
  rw [hl, hz3]
  congr 3
  funext i
  unfold gG
  rw [erase_getD]
  by_cases h1 : i < gs.length - 1
  · rw [decide_eq_true h1, decide_eq_false (show ¬ gs.length - 1 ≤ i by omega)]
    by_cases h2 : i < k
    · rw [decide_eq_false (show ¬ k ≤ i by omega), if_pos h2]; rfl
    · rw [decide_eq_true (show k ≤ i by omega), decide_eq_true (show i - k < gs.length - (k + 1) by omega), if_neg h2, show k + 1 + (i - k) = i + 1 by omega]; rfl
  · rw [decide_eq_false h1, decide_eq_false (show ¬ gs.length < gs.length - 1 + (gs.length - (gs.length - 1)) by omega), decide_eq_false (show ¬ gs.length < gs.length - 1 by omega), if_neg (by omega)]
    have e1 : gs.getD gs.length ((0 : Int), false) = (0, false) := by rw [List.getD_eq_getElem?_getD, List.getElem?_eq_none (by omega)]; rfl
    have e2 : gs.getD (i + 1) ((0 : Int), false) = (0, false) := by rw [List.getD_eq_getElem?_getD, List.getElem?_eq_none (by omega)]; rfl
    rw [e1, e2]
    cases decide (gs.length - 1 ≤ gs.length) <;> cases decide (k ≤ gs.length) <;> rfl
theorem v69 (a b : Int) (c : Bool) : E 69 [.ag 2 (lstG [nI b, .B c]), .sp 1 (lstG [nI a])] [] = some (.B (decide (b = a)), []) := ev1 0 rfl (by rw [e69])
theorem l68 (xs : List (Int × Bool)) (a : Int) (hx : xs.length ≤ 4294967296) : ∀ (k i : Nat), i + k = xs.length →
    HH 68 [] (k + 1) [true, false, true] (hdS [(0, slG xs), (1, .clo 69 1 (lstG [.sp 1 (lstG [nI a])])), (7, nI (zN xs.length)), (8, nI (i : Int))] [] []) = some (nI (ixF (whoF xs) a k i), []) := by
  intro k
  induction k with
  | zero => intro i hi; rw [hstep, h68, bf (by simp [zN]; omega)]; rfl
  | succ k ih =>
    intro i hi
    rw [hstep, h68, bt (by simp [zN]; omega), bt (by simp [zN]; omega), obind (v69 _ _ _), wrapN (by omega)]
    simp only [Int.toNat_natCast, ixF]
    by_cases h : whoF xs i = a
    · rw [if_pos h]; exact bt (decide_eq_true h)
    · rw [if_neg h]; exact (bf (c := asB (AV.B _)) (decide_eq_false h)).trans (ih (i + 1) (by omega))
theorem v68 (xs : List (Int × Bool)) (a : Int) (hx : xs.length ≤ 4294967296) : E 68 [slG xs, .clo 69 1 (lstG [.sp 1 (lstG [nI a])])] [] = some (nI (ixF (whoF xs) a xs.length 0), []) := by
  refine ev1 (xs.length + 1) rfl ?_
  rw [e68]; exact l68 xs a hx xs.length 0 (by omega)
theorem v46 (xs : List (Int × Bool)) (a : Int) (hx : xs.length ≤ 4294967296) : E 46 [slG xs, nI a] [] = some (nI (ixF (whoF xs) a xs.length 0), []) := by
  refine ev1 0 rfl ?_
  rw [e46, obind (v68 xs a hx)]; rfl
end Go.Fw
