/- Values of the functions that TellOne's law reaches: sizes, copies, searches. -/
import Derived.Test.YtkhfkekbfjkpcaaG1
import Derived.Laws.BitsLemmas
set_option linter.unusedVariables false
set_option linter.unusedSimpArgs false
namespace Go.Fw
open Go.Proofs

noncomputable abbrev E : Orc := ev Try.prog cfg
noncomputable abbrev HH (f : Nat) (exts : List AV) (n : Nat) : Hd := HF Try.prog cfg E f exts n
theorem ev1 {f : Nat} {args exts : List AV} {r : AV × List AV} (n : Nat) (hn : (cfg.nil f && isSl args) = false) (e : ent Try.prog cfg E f (HH f exts n) args exts = some r) : E f args exts = some r := ev_ent hn e
theorem hstep (f : Nat) (exts : List AV) (n : Nat) (q : List Bool) (st : St) : HH f exts (n + 1) q st = hed Try.prog cfg E f (HH f exts n) exts q st := rfl
theorem bt {α : Type} {c : Bool} {x y : α} (h : c = true) : (bif c then x else y) = x := by subst h; rfl
theorem bf {α : Type} {c : Bool} {x y : α} (h : c = false) : (bif c then x else y) = y := by subst h; rfl
theorem obind {α β : Type} {x : Option α} {a : α} {f : α → Option β} (h : x = some a) : Option.bind x f = f a := by subst h; rfl
theorem wrapS {x : Int} (h1 : -9223372036854775808 ≤ x) (h2 : x ≤ 9223372036854775807) : IntKind.i64.wrap x = x := by rw [IntKind.wrap_i64]; omega
theorem wrapN {i : Nat} (h : i ≤ 4611686018427387904) : IntKind.i64.wrap ((i : Int) + 1) = ((i + 1 : Nat) : Int) := by rw [wrapS] <;> omega
theorem gI_set {os : List Int} {k : Nat} {v : Int} (h : k < os.length) : (fun i => lstG [AV.I .i64 (bif decide (i = k) then v else os.getD i 0)]) = gI (os.set k v) := by
  funext i
  unfold gI
  by_cases hi : i = k
  · subst hi; simp [List.getD_eq_getElem?_getD, h]
  · simp [List.getD_eq_getElem?_getD, hi, Ne.symm hi]
theorem gG_set {os : List (Int × Bool)} {k : Nat} {v : Int} {b : Bool} (h : k < os.length) : (fun i => lstG [AV.I .i64 (bif decide (i = k) then v else (os.getD i (0, false)).1), AV.B (bif decide (i = k) then b else (os.getD i (0, false)).2)]) = gG (os.set k (v, b)) := by
  funext i
  unfold gG
  by_cases hi : i = k
  · subst hi; simp [List.getD_eq_getElem?_getD, h]
  · simp [List.getD_eq_getElem?_getD, hi, Ne.symm hi]
theorem list_ext_getD {α : Type} {d : α} {xs ys : List α} (hl : xs.length = ys.length) (h : ∀ i, i < xs.length → xs.getD i d = ys.getD i d) : xs = ys := by
  apply List.ext_getElem? 
  intro i
  by_cases hi : i < xs.length
  · have := h i hi
    simp [List.getD_eq_getElem?_getD, hi, hl ▸ hi] at this
    simp [hi, hl ▸ hi, this]
  · simp [List.getElem?_eq_none (Nat.le_of_not_lt hi), List.getElem?_eq_none (hl ▸ Nat.le_of_not_lt hi)]
theorem getD_set {α : Type} {d v : α} {xs : List α} {k i : Nat} (h : k < xs.length) : (xs.set k v).getD i d = if i = k then v else xs.getD i d := by
  by_cases hi : i = k
  · subst hi; simp [List.getD_eq_getElem?_getD, h]
  · simp [List.getD_eq_getElem?_getD, hi, Ne.symm hi]

/-! ### Sizes -/
theorem v30 (xs : List Int) (a : Int) : E 30 [slI xs, nI a] [] = some (nI (if IntKind.i64.wrap (a - zN xs.length) < 0 then -1 else IntKind.i64.wrap (a - zN xs.length)), []) := by
  refine ev1 0 rfl ?_
  rw [e30]
  by_cases h : IntKind.i64.wrap (a - zN xs.length) < 0 <;> simp [h]
theorem v31 (xs : List (Int × Bool)) (a : Int) : E 31 [slG xs, nI a] [] = some (nI (if IntKind.i64.wrap (a - zN xs.length) < 0 then -1 else IntKind.i64.wrap (a - zN xs.length)), []) := by
  refine ev1 0 rfl ?_
  rw [e31]
  by_cases h : IntKind.i64.wrap (a - zN xs.length) < 0 <;> simp [h]
theorem v8 (n : NT) (h1 : n.l.length ≤ maxLen) (h2 : n.g.length ≤ maxLen) : ∃ r, E 8 [slN n, nI 1048576] [] = some (nI r, []) ∧ (0 ≤ r → n.l.length + n.g.length ≤ 1048576) := by
  have hm : maxLen = 9223372036854775807 := by decide
  rw [hm] at h1 h2
  have w1 : IntKind.i64.wrap (1048576 - zN n.l.length) = 1048576 - zN n.l.length := wrapS (by simp only [zN]; omega) (by simp only [zN]; omega)
  by_cases hl : n.l.length ≤ 1048576
  · have w2 : IntKind.i64.wrap (1048576 - zN n.l.length - zN n.g.length) = 1048576 - zN n.l.length - zN n.g.length := wrapS (by simp only [zN]; omega) (by simp only [zN]; omega)
    have q1 : E 30 [slI n.l, nI 1048576] [] = some (nI (1048576 - zN n.l.length), []) := by
      rw [v30, w1, if_neg (by simp only [zN]; omega)]
    by_cases hg : n.l.length + n.g.length ≤ 1048576
    · refine ⟨1048576 - zN n.l.length - zN n.g.length, ?_, fun _ => hg⟩
      refine ev1 0 rfl ?_
      rw [e8, obind q1, bf (decide_eq_false (by show ¬ asI (nI _) < 0; simp only [asI, zN]; omega))]
      have q2 : E 31 [slG n.g, nI (asI (nI (1048576 - zN n.l.length)))] [] = some (nI (1048576 - zN n.l.length - zN n.g.length), []) := by
        rw [v31, asI, w2, if_neg (by simp only [zN]; omega)]
      rw [obind q2, bf (decide_eq_false (by show ¬ asI (nI _) < 0; simp only [asI, zN]; omega))]
      rfl
    · refine ⟨-1, ?_, fun h => by omega⟩
      refine ev1 0 rfl ?_
      rw [e8, obind q1, bf (decide_eq_false (by show ¬ asI (nI _) < 0; simp only [asI, zN]; omega))]
      have q2 : E 31 [slG n.g, nI (asI (nI (1048576 - zN n.l.length)))] [] = some (nI (-1), []) := by
        rw [v31, asI, w2, if_pos (by simp only [zN]; omega)]
      rw [obind q2, bt (decide_eq_true (by show asI (nI _) < 0; simp only [asI]; omega))]
  · refine ⟨-1, ?_, fun h => by omega⟩
    refine ev1 0 rfl ?_
    have q1 : E 30 [slI n.l, nI 1048576] [] = some (nI (-1), []) := by
      rw [v30, w1, if_pos (by simp only [zN]; omega)]
    rw [e8, obind q1, bt (decide_eq_true (by show asI (nI _) < 0; simp only [asI]; omega))]

/-! ### Copies -/
theorem l34 (xs : List Int) (hx : xs.length ≤ 4294967296) : ∀ (k i : Nat) (os : List Int), i + k = xs.length → os.length = xs.length → (∀ j, j < i → os.getD j 0 = xs.getD j 0) →
    HH 34 [] (k + 1) [true, true, false, true] (hdS [(0, slI xs), (3, .rf 290816), (4, nI (i : Int))] [(290816, ⟨os.length, 1, gI os⟩)] []) = some (owI xs, []) := by
  intro k
  induction k with
  | zero =>
    intro i os hi hl ho
    rw [hstep, h34, bf (by simp [zN]; omega)]
    have : os = xs := list_ext_getD (d := 0) hl fun j hj => ho j (by omega)
    subst this; rw [bt okT_eq]
  | succ k ih =>
    intro i os hi hl ho
    rw [hstep, h34, bt (by simp [zN]; omega), bt (by simp [zN]; omega), bt (by simp [zN]; omega), wrapN (by omega)]
    simp only [Int.toNat_natCast]
    rw [gI_set (by omega)]
    have := ih (i + 1) (os.set i (xs.getD i 0)) (by omega) (by simpa using hl) (fun j hj => by
      rw [getD_set (by omega)]
      by_cases hji : j = i
      · subst hji; simp
      · rw [if_neg hji]; exact ho j (by omega))
    simpa using this
theorem v34 (xs : List Int) (hx : xs.length ≤ 4294967296) : E 34 [slI xs] [] = some (owI xs, []) := by
  refine ev1 (xs.length + 1) rfl ?_
  rw [e34, bt (by simp [zN]; omega)]
  have := l34 xs hx xs.length 0 (List.replicate xs.length 0) (by omega) (by simp) (fun j hj => by omega)
  have hz : (fun i : Nat => lstG [AV.I IntKind.i64 0]) = gI (List.replicate xs.length 0) := by
    funext i; unfold gI; simp [List.getD_eq_getElem?_getD, List.getElem?_replicate]; split <;> rfl
  rw [hz]
  simpa [zN] using this
theorem v63 (a : Int) (b : Bool) : E 63 [.ag 2 (lstG [nI a, .B b])] [] = some (.ag 2 (lstG [nI a, .B b]), []) := by
  refine ev1 0 rfl ?_
  rw [e63]
theorem l35 (xs : List (Int × Bool)) (hx : xs.length ≤ 4294967296) : ∀ (k i : Nat) (os : List (Int × Bool)), i + k = xs.length → os.length = xs.length → (∀ j, j < i → os.getD j (0, false) = xs.getD j (0, false)) →
    HH 35 [] (k + 1) [true, true, false, true] (hdS [(0, slG xs), (3, .rf 290816), (4, nI (i : Int))] [(290816, ⟨os.length, 2, gG os⟩)] []) = some (owG xs, []) := by
  intro k
  induction k with
  | zero =>
    intro i os hi hl ho
    rw [hstep, h35, bf (by simp [zN]; omega)]
    have : os = xs := list_ext_getD (d := (0, false)) hl fun j hj => ho j (by omega)
    subst this; rw [bt okT_eq]
  | succ k ih =>
    intro i os hi hl ho
    rw [hstep, h35, bt (by simp [zN]; omega), bt (by simp [zN]; omega), obind (v63 _ _), bt (by simp [zN]; omega), wrapN (by omega)]
    simp only [Int.toNat_natCast, asA, asI, asB, lstG_zero, lstG_succ]
    rw [gG_set (by omega)]
    have := ih (i + 1) (os.set i (xs.getD i (0, false))) (by omega) (by simpa using hl) (fun j hj => by
      rw [getD_set (by omega)]
      by_cases hji : j = i
      · subst hji; simp
      · rw [if_neg hji]; exact ho j (by omega))
    rw [List.length_set] at this
    exact this
theorem v35 (xs : List (Int × Bool)) (hx : xs.length ≤ 4294967296) : E 35 [slG xs] [] = some (owG xs, []) := by
  refine ev1 (xs.length + 1) rfl ?_
  rw [e35, bt (by simp [zN]; omega)]
  have := l35 xs hx xs.length 0 (List.replicate xs.length (0, false)) (by omega) (by simp) (fun j hj => by omega)
  have hz : (fun i : Nat => lstG [AV.I IntKind.i64 0, AV.B false]) = gG (List.replicate xs.length (0, false)) := by
    funext i; unfold gG; simp [List.getD_eq_getElem?_getD, List.getElem?_replicate]; split <;> simp
  rw [hz]
  simpa [zN] using this
theorem own_I (xs : List Int) : AV.own (asN (owI xs)) 1 (fun i => lstG [AV.I IntKind.i64 (asI (asG (owI xs) i 0))]) = owI xs := rfl
theorem own_G (xs : List (Int × Bool)) : AV.own (asN (owG xs)) 2 (fun i => lstG [AV.I IntKind.i64 (asI (asG (owG xs) i 0)), AV.B (asB (asG (owG xs) i 1))]) = owG xs := rfl
theorem v10 (n : NT) (h1 : n.l.length ≤ 4294967296) (h2 : n.g.length ≤ 4294967296) : E 10 [slN n] [] = some (owN n, []) := by
  refine ev1 0 rfl ?_
  rw [e10, obind (v34 _ h1), obind (v35 _ h2), bt (by rw [okT_eq]; rfl)]
  rfl
theorem v62 (xs : List Int) (hx : xs.length ≤ 4294967296) : E 62 [slI xs] [] = some (owI xs, []) := by
  refine ev1 0 rfl ?_
  rw [e62, bt (by simp; omega), bt okT_eq]
  simp only [Nat.zero_add, Nat.sub_zero]
  rfl
theorem v32 (n : NT) (h1 : n.l.length ≤ 4294967296) (h2 : n.g.length ≤ 4294967296) : E 32 [slN n] [] = some (owN n, []) := by
  refine ev1 0 rfl ?_
  rw [e32, obind (v62 _ h1), bt (by simp; omega), bt (by rw [okT_eq]; rfl)]
  simp only [Nat.zero_add, Nat.sub_zero]
  rfl
theorem v45 (xs : List Int) (hx : xs.length ≤ 4294967296) : E 45 [slI xs] [] = some (owI xs, []) := by
  refine ev_nil rfl (ev1 0 rfl ?_) fun h0 => ev1 0 rfl ?_
  · rw [e45n, bt (by simp; omega), bt okT_eq]
    simp only [Nat.zero_add, Nat.sub_zero]
    rfl
  · obtain rfl : xs = [] := List.length_eq_zero_iff.1 h0
    rw [e45z, bt okT_eq]
    rfl
theorem v64 (xs : List (Int × Bool)) (hx : xs.length ≤ 4294967296) : E 64 [slG xs] [] = some (owG xs, []) := by
  refine ev_nil rfl (ev1 0 rfl ?_) fun h0 => ev1 0 rfl ?_
  · rw [e64n, bt (by simp; omega), bt okT_eq]
    simp only [Nat.zero_add, Nat.sub_zero]
    rfl
  · obtain rfl : xs = [] := List.length_eq_zero_iff.1 h0
    rw [e64z, bt okT_eq]
    rfl
theorem v36 (n : NT) (h1 : n.l.length ≤ 4294967296) (h2 : n.g.length ≤ 4294967296) : E 36 [slN n] [] = some (owN n, []) := by
  refine ev1 0 rfl ?_
  rw [e36, obind (v45 _ h1), obind (v64 _ h2), bt (by rw [okT_eq]; rfl)]
  rfl

/-! ### Searches -/
def ixF (f : Nat → Int) (a : Int) : Nat → Nat → Int
  | 0, _ => -1
  | k + 1, i => if f i = a then (i : Int) else ixF f a k (i + 1)
def hasF (f : Nat → Int) (a : Int) : Nat → Nat → Bool
  | 0, _ => false
  | k + 1, i => if f i = a then true else hasF f a k (i + 1)
theorem l50 (xs : List Int) (a : Int) (hx : xs.length ≤ 4294967296) : ∀ (k i : Nat), i + k = xs.length →
    HH 50 [] (k + 1) [true, false, true] (hdS [(0, slI xs), (1, nI a), (5, nI (i : Int))] [] []) = some (.B (hasF (fun j => xs.getD j 0) a k i), []) := by
  intro k
  induction k with
  | zero => intro i hi; rw [hstep, h50, bf (by simp [zN]; omega)]; rfl
  | succ k ih =>
    intro i hi
    rw [hstep, h50, bt (by simp [zN]; omega), bt (by simp [zN]; omega), wrapN (by omega)]
    simp only [Int.toNat_natCast, hasF]
    by_cases h : xs.getD i 0 = a
    · rw [bt (decide_eq_true h), if_pos h]
    · rw [bf (decide_eq_false h), if_neg h]; exact ih (i + 1) (by omega)
theorem v50 (xs : List Int) (a : Int) (hx : xs.length ≤ 4294967296) : E 50 [slI xs, nI a] [] = some (.B (hasF (fun j => xs.getD j 0) a xs.length 0), []) := by
  refine ev1 (xs.length + 1) rfl ?_
  rw [e50]; exact l50 xs a hx xs.length 0 (by omega)
theorem l49 (xs : List (Int × Bool)) (a : Int) (hx : xs.length ≤ 4294967296) : ∀ (k i : Nat), i + k = xs.length →
    HH 49 [] (k + 1) [true, false, true] (hdS [(0, slG xs), (1, nI a), (5, nI (i : Int))] [] []) = some (nI (ixF (fun j => (xs.getD j (0, false)).1) a k i), []) := by
  intro k
  induction k with
  | zero => intro i hi; rw [hstep, h49, bf (by simp [zN]; omega)]; rfl
  | succ k ih =>
    intro i hi
    rw [hstep, h49, bt (by simp [zN]; omega), bt (by simp [zN]; omega), wrapN (by omega)]
    simp only [Int.toNat_natCast, ixF]
    by_cases h : (xs.getD i (0, false)).1 = a
    · rw [bt (decide_eq_true h), if_pos h]
    · rw [bf (decide_eq_false h), if_neg h]; exact ih (i + 1) (by omega)
theorem v49 (xs : List (Int × Bool)) (a : Int) (hx : xs.length ≤ 4294967296) : E 49 [slG xs, nI a] [] = some (nI (ixF (fun j => (xs.getD j (0, false)).1) a xs.length 0), []) := by
  refine ev1 (xs.length + 1) rfl ?_
  rw [e49]; exact l49 xs a hx xs.length 0 (by omega)
theorem l70 (xs : List Int) (a : Int) (hx : xs.length ≤ 4294967296) : ∀ (k i : Nat), i + k = xs.length →
    HH 70 [] (k + 1) [true, false, true] (hdS [(0, slI xs), (1, nI a), (7, nI (zN xs.length)), (8, nI (i : Int))] [] []) = some (nI (ixF (fun j => xs.getD j 0) a k i), []) := by
  intro k
  induction k with
  | zero => intro i hi; rw [hstep, h70, bf (by simp [zN]; omega)]; rfl
  | succ k ih =>
    intro i hi
    rw [hstep, h70, bt (by simp [zN]; omega), bt (by simp [zN]; omega), wrapN (by omega)]
    simp only [Int.toNat_natCast, ixF]
    by_cases h : xs.getD i 0 = a
    · rw [bt (decide_eq_true h.symm), if_pos h]
    · rw [bf (decide_eq_false (Ne.symm h)), if_neg h]; exact ih (i + 1) (by omega)
theorem v70 (xs : List Int) (a : Int) (hx : xs.length ≤ 4294967296) : E 70 [slI xs, nI a] [] = some (nI (ixF (fun j => xs.getD j 0) a xs.length 0), []) := by
  refine ev1 (xs.length + 1) rfl ?_
  rw [e70]; exact l70 xs a hx xs.length 0 (by omega)
theorem ix_has (f : Nat → Int) (a : Int) : ∀ (k i : Nat), decide (0 ≤ ixF f a k i) = hasF f a k i := by
  intro k
  induction k with
  | zero => intro i; rfl
  | succ k ih =>
    intro i
    simp only [ixF, hasF]
    split
    · simp
    · exact ih (i + 1)
theorem v47 (xs : List Int) (a : Int) (hx : xs.length ≤ 4294967296) : E 47 [slI xs, nI a] [] = some (.B (hasF (fun j => xs.getD j 0) a xs.length 0), []) := by
  refine ev1 0 rfl ?_
  rw [e47, obind (v70 xs a hx)]
  exact congrArg (fun b => some (AV.B b, ([] : List AV))) (ix_has _ _ _ _)
theorem v83 (a : Int) (ys : List Int) (hx : ys.length ≤ 4294967296) : E 83 [nI a, .sp 1 (lstG [slI ys])] [] = some (.B (hasF (fun j => ys.getD j 0) a ys.length 0), []) := by
  refine ev1 0 rfl ?_
  rw [e83, obind (v47 ys a hx)]
  rfl
def anyF (p : Nat → Bool) : Nat → Nat → Bool
  | 0, _ => false
  | k + 1, i => if p i = true then true else anyF p k (i + 1)
def ixB (p : Nat → Bool) : Nat → Nat → Int
  | 0, _ => -1
  | k + 1, i => if p i = true then (i : Int) else ixB p k (i + 1)
theorem ixB_any (p : Nat → Bool) : ∀ (k i : Nat), decide (0 ≤ ixB p k i) = anyF p k i := by
  intro k
  induction k with
  | zero => intro i; rfl
  | succ k ih =>
    intro i
    simp only [ixB, anyF]
    split
    · simp
    · exact ih (i + 1)
theorem l84 (xs ys : List Int) (hx : xs.length ≤ 4294967296) (hy : ys.length ≤ 4294967296) : ∀ (k i : Nat), i + k = xs.length →
    HH 84 [] (k + 1) [true, false, true] (hdS [(0, slI xs), (1, .clo 83 1 (lstG [.sp 1 (lstG [slI ys])])), (7, nI (zN xs.length)), (8, nI (i : Int))] [] []) = some (nI (ixB (fun j => hasF (fun j => ys.getD j 0) (xs.getD j 0) ys.length 0) k i), []) := by
  intro k
  induction k with
  | zero => intro i hi; rw [hstep, h84, bf (by simp [zN]; omega)]; rfl
  | succ k ih =>
    intro i hi
    rw [hstep, h84, bt (by simp [zN]; omega), bt (by simp [zN]; omega), obind (v83 _ _ hy), wrapN (by omega)]
    simp only [Int.toNat_natCast, ixB]
    by_cases h : hasF (fun j => ys.getD j 0) (xs.getD i 0) ys.length 0 = true
    · rw [if_pos h]; exact bt h
    · rw [if_neg h]; exact (bf (c := asB (AV.B _)) (eq_false_of_ne_true h)).trans (ih (i + 1) (by omega))
theorem v84 (xs ys : List Int) (hx : xs.length ≤ 4294967296) (hy : ys.length ≤ 4294967296) : E 84 [slI xs, .clo 83 1 (lstG [.sp 1 (lstG [slI ys])])] [] = some (nI (ixB (fun j => hasF (fun j => ys.getD j 0) (xs.getD j 0) ys.length 0) xs.length 0), []) := by
  refine ev1 (xs.length + 1) rfl ?_
  rw [e84]; exact l84 xs ys hx hy xs.length 0 (by omega)
theorem v82 (xs ys : List Int) (hx : xs.length ≤ 4294967296) (hy : ys.length ≤ 4294967296) : E 82 [slI xs, .clo 83 1 (lstG [.sp 1 (lstG [slI ys])])] [] = some (.B (anyF (fun j => hasF (fun j => ys.getD j 0) (xs.getD j 0) ys.length 0) xs.length 0), []) := by
  refine ev1 0 rfl ?_
  rw [e82, obind (v84 xs ys hx hy)]
  exact congrArg (fun b => some (AV.B b, ([] : List AV))) (ixB_any _ _ _)
def inR (a b c : Int) : Bool := decide (b ≤ a) && decide (a ≤ c)
theorem v56 (a b c : Int) : E 56 [nI a, nI b, nI c] [] = some (.B (inR a b c), []) := by
  refine ev1 0 rfl ?_
  rw [e56]; unfold inR; cases decide (b ≤ a) <;> rfl
theorem v73 (a b c : Int) : E 73 [nI a, nI b, nI c] [] = some (.B (inR a b c), []) := by
  refine ev1 0 rfl ?_
  rw [e73]; unfold inR; cases decide (b ≤ a) <;> rfl
theorem v57 (a : Int) : E 57 [nI a] [] = some (.B (inR a 0 63), []) := by
  refine ev1 0 rfl ?_
  rw [e57, obind (v56 _ _ _)]; rfl
theorem v54 (a : Int) : E 54 [nI a] [] = some (.B (inR a 0 63), []) := by
  refine ev1 0 rfl ?_
  rw [e54, obind (v73 _ _ _)]; rfl
theorem v66 (a : Int) : E 66 [nI a] [] = some (.B (inR a 0 1000000000), []) := by
  refine ev1 0 rfl ?_
  rw [e66, obind (v73 _ _ _)]; rfl
end Go.Fw
