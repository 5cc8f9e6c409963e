/- Values of sizes, copies and comparisons. -/
import Derived.Test.YtgpigigeoanahaaBb
import Derived.Test.YtgpigigeoanahaaBa
import Derived.Laws.BitsLemmas
set_option linter.unusedVariables false
set_option linter.unusedSimpArgs false
namespace Go.Fw
open Go.Proofs
noncomputable abbrev E : Orc := ev Try.prog cfg
noncomputable abbrev HH (f : Nat) (exts : List AV) (n : Nat) : Hd := HF Try.prog cfg E f exts n
theorem ev1 {f : Nat} {args exts : List AV} {r : AV × List AV} (n : Nat) (hn : (cfg.nil f && isSl args) = false) (e : ent Try.prog cfg E f (HH f exts n) args exts = some r) : E f args exts = some r := ev_ent hn e
theorem hstep (f : Nat) (exts : List AV) (n : Nat) (q : List Bool) (st : St) : HH f exts (n + 1) q st = hed Try.prog cfg E f (HH f exts n) exts q st := rfl
theorem bt {α : Type} {c : Bool} {x y : α} (h : c = true) : (bif c then x else y) = x := by subst h; rfl
theorem bf {α : Type} {c : Bool} {x y : α} (h : c = false) : (bif c then x else y) = y := by subst h; rfl
theorem bt' {α : Type} {c : Bool} {x y r : α} (h : c = true) (h' : x = r) : (bif c then x else y) = r := by subst h; exact h'
theorem bf' {α : Type} {c : Bool} {x y r : α} (h : c = false) (h' : y = r) : (bif c then x else y) = r := by subst h; exact h'
theorem obind {α β : Type} {x : Option α} {a : α} {f : α → Option β} (h : x = some a) : Option.bind x f = f a := by subst h; rfl
theorem obind' {α β : Type} {x : Option α} {a : α} {f : α → Option β} {r : Option β} (h : x = some a) (h' : f a = r) : Option.bind x f = r := by subst h; exact h'
theorem and2_both {R : Type} {x y r : Option R} (h : x = r) (h' : y = r) : and2 x y = r := by subst h h'; simp [and2]
theorem wrapS {x : Int} (h1 : -9223372036854775808 ≤ x) (h2 : x ≤ 9223372036854775807) : IntKind.i64.wrap x = x := by rw [IntKind.wrap_i64]; omega
theorem wrapN {i : Nat} (h : i ≤ 4611686018427387904) : IntKind.i64.wrap ((i : Int) + 1) = ((i + 1 : Nat) : Int) := by rw [wrapS] <;> omega
theorem list_ext_getD {α : Type} {d : α} {xs ys : List α} (hl : xs.length = ys.length) (h : ∀ i, i < xs.length → xs.getD i d = ys.getD i d) : xs = ys := by
  apply List.ext_getElem?
  intro i
  by_cases hi : i < xs.length
  · have := h i hi
    simp [List.getD_eq_getElem?_getD, hi, hl ▸ hi] at this
    simp [hi, hl ▸ hi, this]
  · simp [List.getElem?_eq_none (Nat.le_of_not_lt hi), List.getElem?_eq_none (hl ▸ Nat.le_of_not_lt hi)]
theorem getD_set {α : Type} {d v : α} {xs : List α} {k i : Nat} (h : k < xs.length) : (xs.set k v).getD i d = if i = k then v else xs.getD i d := by
  by_cases hi : i = k
  · subst hi; simp [List.getD_eq_getElem?_getD, h]
  · simp [List.getD_eq_getElem?_getD, hi, Ne.symm hi]
theorem getD_app {α : Type} {d v : α} {xs : List α} {i : Nat} : (xs ++ [v]).getD i d = if i < xs.length then xs.getD i d else if i = xs.length then v else d := by
  by_cases h : i < xs.length
  · simp [List.getD_eq_getElem?_getD, h, List.getElem?_append_left h]
  · rw [if_neg h]
    by_cases h2 : i = xs.length
    · subst h2; simp [List.getD_eq_getElem?_getD]
    · rw [if_neg h2]
      have : (xs ++ [v])[i]? = none := List.getElem?_eq_none (by simp; omega)
      rw [List.getD_eq_getElem?_getD, this]; rfl
theorem getD_rep {α : Type} {d : α} {n i : Nat} : (List.replicate n d).getD i d = d := by
  simp [List.getD_eq_getElem?_getD, List.getElem?_replicate]; split <;> rfl
theorem drop_getD {α : Type} {d : α} {xs : List α} {i : Nat} (h : i < xs.length) : xs.drop i = xs.getD i d :: xs.drop (i + 1) := by
  rw [List.drop_eq_getElem_cons h]; simp [List.getD_eq_getElem?_getD, h]
theorem getD_mem {α : Type} {d : α} {xs : List α} {i : Nat} (h : i < xs.length) : xs.getD i d ∈ xs := by
  simp [List.getD_eq_getElem?_getD, h]
/-- What is left of 'a' behind 'n'; -1 where it is not enough. -/
def subZ (a : Int) (n : Nat) : Int := if (n : Int) ≤ a then a - n else -1
theorem subZ_le {a : Int} {n : Nat} (h : (n : Int) ≤ a) : subZ a n = a - n := if_pos h
theorem subZ_add {a : Int} {n s : Nat} (h : (n : Int) ≤ a) : subZ (a - (n : Int)) s = subZ a (n + s) := by
  unfold subZ
  by_cases h2 : (s : Int) ≤ a - n
  · rw [if_pos h2, if_pos (by omega)]; omega
  · rw [if_neg h2, if_neg (by omega)]
theorem subZ_big {a : Int} {n s : Nat} (h : ¬ (n : Int) ≤ a) : subZ a (n + s) = -1 := by unfold subZ; rw [if_neg (by omega)]
theorem subZ_gt {a : Int} {n : Nat} (h : ¬ (n : Int) ≤ a) : subZ a n = -1 := if_neg h
def sumL {α : Type} (f : α → Nat) (xs : List α) : Nat := xs.length + (xs.map f).sum
theorem sumL_len {α : Type} {f : α → Nat} {xs : List α} {b : Nat} (h : sumL f xs ≤ b) : xs.length ≤ b := by unfold sumL at h; omega
theorem sumL_get {α : Type} {f : α → Nat} {xs : List α} {b i : Nat} {d : α} (h : sumL f xs ≤ b) (hi : i < xs.length) : f (xs.getD i d) ≤ b := by
  have key : ∀ (ys : List α) (y : α), y ∈ ys → f y ≤ (ys.map f).sum := fun ys => by
    induction ys with
    | nil => intro y hy; simp at hy
    | cons a ys ih =>
      intro y hy
      simp only [List.map_cons, List.sum_cons]
      rcases List.mem_cons.1 hy with rfl | hy
      · omega
      · have := ih y hy; omega
  have := key xs _ (getD_mem (d := d) hi)
  unfold sumL at h; omega
theorem resI {x y : Int} (h : x = y) : (some (AV.I .i64 x, ([] : List AV)) : Option (AV × List AV)) = some (AV.I .i64 y, []) := by rw [h]
abbrev szIntS (xs : List Int) : Nat := sumL (fun _ => 0) xs
def szTerm (x : VTerm) : Nat := x.Text.size
def okTerm (x : VTerm) : Prop := x.Text.size ≤ 9223372036854775807
abbrev szTermS (xs : List VTerm) : Nat := sumL szTerm xs
def okTermS (xs : List VTerm) : Prop := xs.length ≤ 9223372036854775807 ∧ ∀ x ∈ xs, okTerm x
def szMsg (x : VMsg) : Nat := x.Text.size
def okMsg (x : VMsg) : Prop := x.Text.size ≤ 9223372036854775807
def szCall (x : VCall) : Nat := x.Name.size + (szMsg x.Msg) + (szTermS x.Filter)
def okCall (x : VCall) : Prop := x.Name.size ≤ 9223372036854775807 ∧ okMsg x.Msg ∧ okTermS x.Filter
abbrev szCallS (xs : List VCall) : Nat := sumL szCall xs
def okCallS (xs : List VCall) : Prop := xs.length ≤ 9223372036854775807 ∧ ∀ x ∈ xs, okCall x
abbrev szCallSS (xs : List (List VCall)) : Nat := sumL szCallS xs
def okCallSS (xs : List (List VCall)) : Prop := xs.length ≤ 9223372036854775807 ∧ ∀ x ∈ xs, okCallS x
def szReply (x : VReply) : Nat := (szMsg x.Msg)
def okReply (x : VReply) : Prop := okMsg x.Msg
def szMark (x : VMark) : Nat := (szReply x.Reply)
def okMark (x : VMark) : Prop := okReply x.Reply
abbrev szMarkS (xs : List VMark) : Nat := sumL szMark xs
def okMarkS (xs : List VMark) : Prop := xs.length ≤ 9223372036854775807 ∧ ∀ x ∈ xs, okMark x
def szRec (x : VRec) : Nat := szCall x.Call
abbrev szRecS (xs : List VRec) : Nat := sumL szRec xs
theorem v62 (x : VTerm) (a : Int) (ok : okTerm x) (h0 : 0 ≤ a) (h1 : a ≤ 1048576) : E 62 [slTerm x, nI a] [] = some (nI (subZ a (szTerm x)), []) := by
  refine ev1 0 rfl ?_
  rw [e62]
  unfold okTerm at ok
  unfold szTerm
  have ok0 := ok
  have w0 : IntKind.i64.wrap (a - zN x.Text.size) = a - (x.Text.size : Int) := wrapS (by simp only [zN]; omega) (by simp only [zN]; omega)
  try rw [w0]
  by_cases c0 : (x.Text.size : Int) ≤ a
  case neg => exact bt' (decide_eq_true (by omega)) (resI (by unfold subZ; rw [if_neg (by omega)]))
  refine bf' (decide_eq_false (by omega)) ?_
  exact resI (by unfold subZ; rw [if_pos (by omega)] <;> omega)
theorem l56 (x : (List VTerm)) (ok : okTermS x) : ∀ (m i : Nat) (a : Int), i + m = x.length → 0 ≤ a → a ≤ 1048576 → i ≤ 1048576 →
    x.length ≤ 1048576 → HH 56 [] (m + 1) [true, true, true, false, true] (hdS [(0, slTermS x), (1, nI a), (5, nI (i : Int))] [] []) = some (nI (subZ a ((x.drop i).map szTerm).sum), []) := by
  intro m
  induction m with
  | zero =>
    intro i a hi h0 h1 _ _
    rw [hstep, h56, bf (by simp [zN] <;> omega), List.drop_eq_nil_of_le (by omega)]
    exact resI (by unfold subZ; simp <;> omega)
  | succ m ih =>
    intro i a hi h0 h1 h2 h3
    rw [hstep, h56, bt (by simp [zN] <;> omega), bt (by simp [zN] <;> omega), wrapN (by omega)]
    simp only [Int.toNat_natCast]
    rw [drop_getD (d := zTerm) (show i < x.length by omega), List.map_cons, List.sum_cons]
    have q := v62 (x.getD i zTerm) a (ok.2 _ (getD_mem (by omega))) h0 h1
    by_cases c : (szTerm (x.getD i zTerm) : Int) ≤ a
    · rw [subZ_le c] at q
      refine obind' q (bf' (decide_eq_false (by show ¬ (a - szTerm (x.getD i zTerm) < 0); omega)) ?_)
      refine (ih (i + 1) (a - szTerm (x.getD i zTerm)) (by omega) (by omega) (by omega) (by omega) h3).trans (resI ?_)
      unfold subZ
      split <;> split <;> omega
    · rw [subZ_gt c] at q
      refine obind' q (bt' rfl (resI ?_))
      unfold subZ
      rw [if_neg (by omega)]
theorem v56 (x : (List VTerm)) (a : Int) (ok : okTermS x) (h0 : 0 ≤ a) (h1 : a ≤ 1048576) : E 56 [slTermS x, nI a] [] = some (nI (subZ a (szTermS x)), []) := by
  have ok1 := ok.1
  have w1 : IntKind.i64.wrap (a - zN x.length) = a - zN x.length := wrapS (by simp only [zN]; omega) (by simp only [zN]; omega)
  refine ev1 (x.length + 1) rfl ?_
  rw [e56]
  change (bif decide (IntKind.i64.wrap (a - zN x.length) < 0) then _ else _) = _
  by_cases c : (x.length : Int) ≤ a
  · refine bf' (decide_eq_false (by rw [w1]; simp only [zN]; omega)) ?_
    show HH 56 [] (x.length + 1) _ (hdS [(0, slTermS x), (1, nI (IntKind.i64.wrap (a - zN x.length))), (5, nI ((0 : Nat) : Int))] [] []) = _
    rw [w1]
    refine (l56 x ok x.length 0 (a - zN x.length) (by omega) (by simp only [zN]; omega) (by simp only [zN]; omega) (by omega) (by omega)).trans (resI (subZ_add c))
  · exact bt' (decide_eq_true (by rw [w1]; simp only [zN]; omega)) (resI (subZ_big c).symm)
theorem v55 (x : VMsg) (a : Int) (ok : okMsg x) (h0 : 0 ≤ a) (h1 : a ≤ 1048576) : E 55 [slMsg x, nI a] [] = some (nI (subZ a (szMsg x)), []) := by
  refine ev1 0 rfl ?_
  rw [e55]
  unfold okMsg at ok
  unfold szMsg
  have ok0 := ok
  have w0 : IntKind.i64.wrap (a - zN x.Text.size) = a - (x.Text.size : Int) := wrapS (by simp only [zN]; omega) (by simp only [zN]; omega)
  try rw [w0]
  by_cases c0 : (x.Text.size : Int) ≤ a
  case neg => exact bt' (decide_eq_true (by omega)) (resI (by unfold subZ; rw [if_neg (by omega)]))
  refine bf' (decide_eq_false (by omega)) ?_
  exact resI (by unfold subZ; rw [if_pos (by omega)] <;> omega)
theorem v44 (x : VCall) (a : Int) (ok : okCall x) (h0 : 0 ≤ a) (h1 : a ≤ 1048576) : E 44 [slCall x, nI a] [] = some (nI (subZ a (szCall x)), []) := by
  refine ev1 0 rfl ?_
  rw [e44]
  unfold okCall at ok
  unfold szCall
  obtain ⟨ok0, ok1, ok2⟩ := ok
  have w0 : IntKind.i64.wrap (a - zN x.Name.size) = a - (x.Name.size : Int) := wrapS (by simp only [zN]; omega) (by simp only [zN]; omega)
  try rw [w0]
  by_cases c0 : (x.Name.size : Int) ≤ a
  case neg => exact bt' (decide_eq_true (by omega)) (resI (by unfold subZ; rw [if_neg (by omega)]))
  refine bf' (decide_eq_false (by omega)) ?_
  have q1 := v55 x.Msg (a - (x.Name.size : Int)) ok1 (by omega) (by omega)
  by_cases c1 : ((szMsg x.Msg) : Int) ≤ a - (x.Name.size : Int)
  case neg =>
    rw [subZ_gt c1] at q1
    exact obind' q1 (bt' rfl (resI (by unfold subZ; rw [if_neg (by omega)])))
  rw [subZ_le c1] at q1
  refine obind' q1 (bf' (decide_eq_false (by show ¬ (a - (x.Name.size : Int) - ((szMsg x.Msg) : Int) < 0); omega)) ?_)
  have q2 := v56 x.Filter (a - (x.Name.size : Int) - ((szMsg x.Msg) : Int)) ok2 (by omega) (by omega)
  by_cases c2 : ((szTermS x.Filter) : Int) ≤ a - (x.Name.size : Int) - ((szMsg x.Msg) : Int)
  case neg =>
    rw [subZ_gt c2] at q2
    exact obind' q2 (bt' rfl (resI (by unfold subZ; rw [if_neg (by omega)])))
  rw [subZ_le c2] at q2
  refine obind' q2 (bf' (decide_eq_false (by show ¬ (a - (x.Name.size : Int) - ((szMsg x.Msg) : Int) - ((szTermS x.Filter) : Int) < 0); omega)) ?_)
  exact resI (by unfold subZ; rw [if_pos (by omega)]; show a - (x.Name.size : Int) - ((szMsg x.Msg) : Int) - ((szTermS x.Filter) : Int) = _; omega)
theorem l29 (x : (List VCall)) (ok : okCallS x) : ∀ (m i : Nat) (a : Int), i + m = x.length → 0 ≤ a → a ≤ 1048576 → i ≤ 1048576 →
    x.length ≤ 1048576 → HH 29 [] (m + 1) [true, true, true, false, true] (hdS [(0, slCallS x), (1, nI a), (5, nI (i : Int))] [] []) = some (nI (subZ a ((x.drop i).map szCall).sum), []) := by
  intro m
  induction m with
  | zero =>
    intro i a hi h0 h1 _ _
    rw [hstep, h29, bf (by simp [zN] <;> omega), List.drop_eq_nil_of_le (by omega)]
    exact resI (by unfold subZ; simp <;> omega)
  | succ m ih =>
    intro i a hi h0 h1 h2 h3
    rw [hstep, h29, bt (by simp [zN] <;> omega), bt (by simp [zN] <;> omega), wrapN (by omega)]
    simp only [Int.toNat_natCast]
    rw [drop_getD (d := zCall) (show i < x.length by omega), List.map_cons, List.sum_cons]
    have q := v44 (x.getD i zCall) a (ok.2 _ (getD_mem (by omega))) h0 h1
    by_cases c : (szCall (x.getD i zCall) : Int) ≤ a
    · rw [subZ_le c] at q
      refine obind' q (bf' (decide_eq_false (by show ¬ (a - szCall (x.getD i zCall) < 0); omega)) ?_)
      refine (ih (i + 1) (a - szCall (x.getD i zCall)) (by omega) (by omega) (by omega) (by omega) h3).trans (resI ?_)
      unfold subZ
      split <;> split <;> omega
    · rw [subZ_gt c] at q
      refine obind' q (bt' rfl (resI ?_))
      unfold subZ
      rw [if_neg (by omega)]
theorem v29 (x : (List VCall)) (a : Int) (ok : okCallS x) (h0 : 0 ≤ a) (h1 : a ≤ 1048576) : E 29 [slCallS x, nI a] [] = some (nI (subZ a (szCallS x)), []) := by
  have ok1 := ok.1
  have w1 : IntKind.i64.wrap (a - zN x.length) = a - zN x.length := wrapS (by simp only [zN]; omega) (by simp only [zN]; omega)
  refine ev1 (x.length + 1) rfl ?_
  rw [e29]
  change (bif decide (IntKind.i64.wrap (a - zN x.length) < 0) then _ else _) = _
  by_cases c : (x.length : Int) ≤ a
  · refine bf' (decide_eq_false (by rw [w1]; simp only [zN]; omega)) ?_
    show HH 29 [] (x.length + 1) _ (hdS [(0, slCallS x), (1, nI (IntKind.i64.wrap (a - zN x.length))), (5, nI ((0 : Nat) : Int))] [] []) = _
    rw [w1]
    refine (l29 x ok x.length 0 (a - zN x.length) (by omega) (by simp only [zN]; omega) (by simp only [zN]; omega) (by omega) (by omega)).trans (resI (subZ_add c))
  · exact bt' (decide_eq_true (by rw [w1]; simp only [zN]; omega)) (resI (subZ_big c).symm)
theorem l7 (x : (List (List VCall))) (ok : okCallSS x) : ∀ (m i : Nat) (a : Int), i + m = x.length → 0 ≤ a → a ≤ 1048576 → i ≤ 1048576 →
    x.length ≤ 1048576 → HH 7 [] (m + 1) [true, true, true, false, true] (hdS [(0, slCallSS x), (1, nI a), (5, nI (i : Int))] [] []) = some (nI (subZ a ((x.drop i).map szCallS).sum), []) := by
  intro m
  induction m with
  | zero =>
    intro i a hi h0 h1 _ _
    rw [hstep, h7, bf (by simp [zN] <;> omega), List.drop_eq_nil_of_le (by omega)]
    exact resI (by unfold subZ; simp <;> omega)
  | succ m ih =>
    intro i a hi h0 h1 h2 h3
    rw [hstep, h7, bt (by simp [zN] <;> omega), bt (by simp [zN] <;> omega), wrapN (by omega)]
    simp only [Int.toNat_natCast]
    rw [drop_getD (d := []) (show i < x.length by omega), List.map_cons, List.sum_cons]
    have q := v29 (x.getD i []) a (ok.2 _ (getD_mem (by omega))) h0 h1
    by_cases c : (szCallS (x.getD i []) : Int) ≤ a
    · rw [subZ_le c] at q
      refine obind' q (bf' (decide_eq_false (by show ¬ (a - szCallS (x.getD i []) < 0); omega)) ?_)
      refine (ih (i + 1) (a - szCallS (x.getD i [])) (by omega) (by omega) (by omega) (by omega) h3).trans (resI ?_)
      unfold subZ
      split <;> split <;> omega
    · rw [subZ_gt c] at q
      refine obind' q (bt' rfl (resI ?_))
      unfold subZ
      rw [if_neg (by omega)]
theorem v7 (x : (List (List VCall))) (a : Int) (ok : okCallSS x) (h0 : 0 ≤ a) (h1 : a ≤ 1048576) : E 7 [slCallSS x, nI a] [] = some (nI (subZ a (szCallSS x)), []) := by
  have ok1 := ok.1
  have w1 : IntKind.i64.wrap (a - zN x.length) = a - zN x.length := wrapS (by simp only [zN]; omega) (by simp only [zN]; omega)
  refine ev1 (x.length + 1) rfl ?_
  rw [e7]
  change (bif decide (IntKind.i64.wrap (a - zN x.length) < 0) then _ else _) = _
  by_cases c : (x.length : Int) ≤ a
  · refine bf' (decide_eq_false (by rw [w1]; simp only [zN]; omega)) ?_
    show HH 7 [] (x.length + 1) _ (hdS [(0, slCallSS x), (1, nI (IntKind.i64.wrap (a - zN x.length))), (5, nI ((0 : Nat) : Int))] [] []) = _
    rw [w1]
    refine (l7 x ok x.length 0 (a - zN x.length) (by omega) (by simp only [zN]; omega) (by simp only [zN]; omega) (by omega) (by omega)).trans (resI (subZ_add c))
  · exact bt' (decide_eq_true (by rw [w1]; simp only [zN]; omega)) (resI (subZ_big c).symm)
theorem v45 (x : VReply) (a : Int) (ok : okReply x) (h0 : 0 ≤ a) (h1 : a ≤ 1048576) : E 45 [slReply x, nI a] [] = some (nI (subZ a (szReply x)), []) := by
  refine ev1 0 rfl ?_
  rw [e45]
  unfold okReply at ok
  unfold szReply
  have ok0 := ok
  have q0 := v55 x.Msg (a) ok0 (by omega) (by omega)
  by_cases c0 : ((szMsg x.Msg) : Int) ≤ a
  case neg =>
    rw [subZ_gt c0] at q0
    exact obind' q0 (bt' rfl (resI (by unfold subZ; rw [if_neg (by omega)])))
  rw [subZ_le c0] at q0
  refine obind' q0 (bf' (decide_eq_false (by show ¬ (a - ((szMsg x.Msg) : Int) < 0); omega)) ?_)
  exact resI (by unfold subZ; rw [if_pos (by omega)]; show a - ((szMsg x.Msg) : Int) = _; omega)
theorem v30 (x : VMark) (a : Int) (ok : okMark x) (h0 : 0 ≤ a) (h1 : a ≤ 1048576) : E 30 [slMark x, nI a] [] = some (nI (subZ a (szMark x)), []) := by
  refine ev1 0 rfl ?_
  rw [e30]
  unfold okMark at ok
  unfold szMark
  have ok0 := ok
  have q0 := v45 x.Reply (a) ok0 (by omega) (by omega)
  by_cases c0 : ((szReply x.Reply) : Int) ≤ a
  case neg =>
    rw [subZ_gt c0] at q0
    exact obind' q0 (bt' rfl (resI (by unfold subZ; rw [if_neg (by omega)])))
  rw [subZ_le c0] at q0
  refine obind' q0 (bf' (decide_eq_false (by show ¬ (a - ((szReply x.Reply) : Int) < 0); omega)) ?_)
  exact resI (by unfold subZ; rw [if_pos (by omega)]; show a - ((szReply x.Reply) : Int) = _; omega)
theorem l8 (x : (List VMark)) (ok : okMarkS x) : ∀ (m i : Nat) (a : Int), i + m = x.length → 0 ≤ a → a ≤ 1048576 → i ≤ 1048576 →
    x.length ≤ 1048576 → HH 8 [] (m + 1) [true, true, true, false, true] (hdS [(0, slMarkS x), (1, nI a), (5, nI (i : Int))] [] []) = some (nI (subZ a ((x.drop i).map szMark).sum), []) := by
  intro m
  induction m with
  | zero =>
    intro i a hi h0 h1 _ _
    rw [hstep, h8, bf (by simp [zN] <;> omega), List.drop_eq_nil_of_le (by omega)]
    exact resI (by unfold subZ; simp <;> omega)
  | succ m ih =>
    intro i a hi h0 h1 h2 h3
    rw [hstep, h8, bt (by simp [zN] <;> omega), bt (by simp [zN] <;> omega), wrapN (by omega)]
    simp only [Int.toNat_natCast]
    rw [drop_getD (d := zMark) (show i < x.length by omega), List.map_cons, List.sum_cons]
    have q := v30 (x.getD i zMark) a (ok.2 _ (getD_mem (by omega))) h0 h1
    by_cases c : (szMark (x.getD i zMark) : Int) ≤ a
    · rw [subZ_le c] at q
      refine obind' q (bf' (decide_eq_false (by show ¬ (a - szMark (x.getD i zMark) < 0); omega)) ?_)
      refine (ih (i + 1) (a - szMark (x.getD i zMark)) (by omega) (by omega) (by omega) (by omega) h3).trans (resI ?_)
      unfold subZ
      split <;> split <;> omega
    · rw [subZ_gt c] at q
      refine obind' q (bt' rfl (resI ?_))
      unfold subZ
      rw [if_neg (by omega)]
theorem v8 (x : (List VMark)) (a : Int) (ok : okMarkS x) (h0 : 0 ≤ a) (h1 : a ≤ 1048576) : E 8 [slMarkS x, nI a] [] = some (nI (subZ a (szMarkS x)), []) := by
  have ok1 := ok.1
  have w1 : IntKind.i64.wrap (a - zN x.length) = a - zN x.length := wrapS (by simp only [zN]; omega) (by simp only [zN]; omega)
  refine ev1 (x.length + 1) rfl ?_
  rw [e8]
  change (bif decide (IntKind.i64.wrap (a - zN x.length) < 0) then _ else _) = _
  by_cases c : (x.length : Int) ≤ a
  · refine bf' (decide_eq_false (by rw [w1]; simp only [zN]; omega)) ?_
    show HH 8 [] (x.length + 1) _ (hdS [(0, slMarkS x), (1, nI (IntKind.i64.wrap (a - zN x.length))), (5, nI ((0 : Nat) : Int))] [] []) = _
    rw [w1]
    refine (l8 x ok x.length 0 (a - zN x.length) (by omega) (by simp only [zN]; omega) (by simp only [zN]; omega) (by omega) (by omega)).trans (resI (subZ_add c))
  · exact bt' (decide_eq_true (by rw [w1]; simp only [zN]; omega)) (resI (subZ_big c).symm)
theorem v63 (x : VTerm) (hb : szTerm x ≤ 1048576) : E 63 [slTerm x] [] = some (owTerm x, []) := by
  refine ev1 0 rfl ?_
  rw [e63]
theorem set_TermS {os : List VTerm} {k : Nat} {v : VTerm} (h : k < os.length) : (fun i => lstG [nI (bif decide (i = k) then v.Op else (os.getD i zTerm).Op), nI (bif decide (i = k) then v.Num else (os.getD i zTerm).Num), AV.S (bif decide (i = k) then v.Text else (os.getD i zTerm).Text)]) = goTermS (os.set k v) := by
  funext i
  unfold goTermS gsTermS
  rw [getD_set h]
  by_cases hi : i = k
  · subst hi; simp only [decide_true, cond_true, if_true]; try rfl
  · simp only [hi, decide_false, cond_false, if_false]; try rfl
theorem l58 (x : (List VTerm)) (hb : szTermS x ≤ 1048576) : ∀ (m i : Nat) (os : (List VTerm)), i + m = x.length → os.length = x.length → (∀ j, j < i → os.getD j zTerm = x.getD j zTerm) →
    HH 58 [] (m + 1) [true, true, false, true] (hdS [(0, slTermS x), (3, .rf 290816), (4, nI (i : Int))] [(290816, ⟨os.length, 3, goTermS os⟩)] []) = some (owTermS x, []) := by
  have hlen : x.length ≤ 1048576 := sumL_len hb
  intro m
  induction m with
  | zero =>
    intro i os hi hl ho
    have : os = x := list_ext_getD (d := zTerm) hl fun j hj => ho j (by omega)
    subst this
    rw [hstep, h58, bf (by simp [zN] <;> omega)]
    exact bt (by simp [okT_eq, okU_eq, okV_eq, okW_eq])
  | succ m ih =>
    intro i os hi hl ho
    rw [hstep, h58, bt (by simp [zN] <;> omega), bt (by simp [zN] <;> omega), wrapN (by omega)]
    simp only [Int.toNat_natCast]
    refine obind' (v63 (x.getD i zTerm) (sumL_get hb (by omega))) (bt' (by simp [zN] <;> omega) ?_)
    refine (congrArg (fun G => HH 58 [] (m + 1) [true, true, false, true] (hdS [(0, slTermS x), (3, .rf 290816), (4, nI ((i + 1 : Nat) : Int))] [(290816, ⟨os.length, 3, G⟩)] [])) (set_TermS (os := os) (k := i) (v := x.getD i zTerm) (by omega))).trans ?_
    have := ih (i + 1) (os.set i (x.getD i zTerm)) (by omega) (by simpa using hl) (fun j hj => by
      rw [getD_set (by omega)]
      by_cases hji : j = i
      · subst hji; simp
      · rw [if_neg hji]; exact ho j (by omega))
    rw [List.length_set] at this
    exact this
theorem v58 (x : (List VTerm)) (hb : szTermS x ≤ 1048576) : E 58 [slTermS x] [] = some (owTermS x, []) := by
  have hlen : x.length ≤ 1048576 := sumL_len hb
  refine ev1 (x.length + 1) rfl ?_
  rw [e58, bt (by simp [zN] <;> omega)]
  have := l58 x hb x.length 0 (List.replicate x.length zTerm) (by omega) (by simp) (fun j hj => by omega)
  rw [List.length_replicate] at this
  refine Eq.trans ?_ this
  refine congrArg (fun G => HH 58 [] (x.length + 1) [true, true, false, true] (hdS [(0, slTermS x), (3, .rf 290816), (4, nI 0)] [(290816, ⟨x.length, 3, G⟩)] [])) ?_
  funext i
  simp only [goTermS, gsTermS, getD_rep]
  try rfl
theorem v57 (x : VMsg) (hb : szMsg x ≤ 1048576) : E 57 [slMsg x] [] = some (owMsg x, []) := by
  refine ev1 0 rfl ?_
  rw [e57]
theorem v46 (x : VCall) (hb : szCall x ≤ 1048576) : E 46 [slCall x] [] = some (owCall x, []) := by
  refine ev1 0 rfl ?_
  rw [e46]
  unfold szCall at hb
  refine obind' (v57 x.Msg (by omega)) ?_
  refine obind' (v58 x.Filter (by omega)) ?_
  exact bt (by simp [okT_eq, okU_eq, okV_eq, okW_eq])
theorem set_CallS {os : List VCall} {k : Nat} {v : VCall} (h : k < os.length) : (fun i => lstG [nI (bif decide (i = k) then v.Op else (os.getD i zCall).Op), nI (bif decide (i = k) then v.A else (os.getD i zCall).A), nI (bif decide (i = k) then v.B else (os.getD i zCall).B), nI (bif decide (i = k) then v.Tok else (os.getD i zCall).Tok), AV.S (bif decide (i = k) then v.Name else (os.getD i zCall).Name), nI (bif decide (i = k) then v.Msg.Kind else (os.getD i zCall).Msg.Kind), nI (bif decide (i = k) then v.Msg.Num else (os.getD i zCall).Msg.Num), AV.S (bif decide (i = k) then v.Msg.Text else (os.getD i zCall).Msg.Text), AV.own (bif decide (i = k) then (v.Filter).length else ((os.getD i zCall).Filter).length) 3 (fun j0 => lstG [nI (bif decide (i = k) then ((v.Filter).getD j0 zTerm).Op else (((os.getD i zCall).Filter).getD j0 zTerm).Op), nI (bif decide (i = k) then ((v.Filter).getD j0 zTerm).Num else (((os.getD i zCall).Filter).getD j0 zTerm).Num), AV.S (bif decide (i = k) then ((v.Filter).getD j0 zTerm).Text else (((os.getD i zCall).Filter).getD j0 zTerm).Text)])]) = goCallS (os.set k v) := by
  funext i
  unfold goCallS
  rw [getD_set h]
  by_cases hi : i = k
  · subst hi; simp only [decide_true, cond_true, if_true, gsTermS]; try rfl
  · simp only [hi, decide_false, cond_false, if_false, gsTermS]; try rfl
theorem l31 (x : (List VCall)) (hb : szCallS x ≤ 1048576) : ∀ (m i : Nat) (os : (List VCall)), i + m = x.length → os.length = x.length → (∀ j, j < i → os.getD j zCall = x.getD j zCall) →
    HH 31 [] (m + 1) [true, true, false, true] (hdS [(0, slCallS x), (3, .rf 290816), (4, nI (i : Int))] [(290816, ⟨os.length, 9, goCallS os⟩)] []) = some (owCallS x, []) := by
  have hlen : x.length ≤ 1048576 := sumL_len hb
  intro m
  induction m with
  | zero =>
    intro i os hi hl ho
    have : os = x := list_ext_getD (d := zCall) hl fun j hj => ho j (by omega)
    subst this
    rw [hstep, h31, bf (by simp [zN] <;> omega)]
    exact bt (by simp [okT_eq, okU_eq, okV_eq, okW_eq])
  | succ m ih =>
    intro i os hi hl ho
    rw [hstep, h31, bt (by simp [zN] <;> omega), bt (by simp [zN] <;> omega), wrapN (by omega)]
    simp only [Int.toNat_natCast]
    refine obind' (v46 (x.getD i zCall) (sumL_get hb (by omega))) (bt' (by simp [zN] <;> omega) ?_)
    refine (congrArg (fun G => HH 31 [] (m + 1) [true, true, false, true] (hdS [(0, slCallS x), (3, .rf 290816), (4, nI ((i + 1 : Nat) : Int))] [(290816, ⟨os.length, 9, G⟩)] [])) (set_CallS (os := os) (k := i) (v := x.getD i zCall) (by omega))).trans ?_
    have := ih (i + 1) (os.set i (x.getD i zCall)) (by omega) (by simpa using hl) (fun j hj => by
      rw [getD_set (by omega)]
      by_cases hji : j = i
      · subst hji; simp
      · rw [if_neg hji]; exact ho j (by omega))
    rw [List.length_set] at this
    exact this
theorem v31 (x : (List VCall)) (hb : szCallS x ≤ 1048576) : E 31 [slCallS x] [] = some (owCallS x, []) := by
  have hlen : x.length ≤ 1048576 := sumL_len hb
  refine ev1 (x.length + 1) rfl ?_
  rw [e31, bt (by simp [zN] <;> omega)]
  have := l31 x hb x.length 0 (List.replicate x.length zCall) (by omega) (by simp) (fun j hj => by omega)
  rw [List.length_replicate] at this
  refine Eq.trans ?_ this
  refine congrArg (fun G => HH 31 [] (x.length + 1) [true, true, false, true] (hdS [(0, slCallS x), (3, .rf 290816), (4, nI 0)] [(290816, ⟨x.length, 9, G⟩)] [])) ?_
  funext i
  simp only [goCallS, gsCallS, getD_rep]
  try rfl
theorem set_CallSS {os : List (List VCall)} {k : Nat} {v : (List VCall)} (h : k < os.length) : (fun i => lstG [AV.own (bif decide (i = k) then (v).length else ((os.getD i [])).length) 9 (fun j0 => lstG [nI (bif decide (i = k) then ((v).getD j0 zCall).Op else (((os.getD i [])).getD j0 zCall).Op), nI (bif decide (i = k) then ((v).getD j0 zCall).A else (((os.getD i [])).getD j0 zCall).A), nI (bif decide (i = k) then ((v).getD j0 zCall).B else (((os.getD i [])).getD j0 zCall).B), nI (bif decide (i = k) then ((v).getD j0 zCall).Tok else (((os.getD i [])).getD j0 zCall).Tok), AV.S (bif decide (i = k) then ((v).getD j0 zCall).Name else (((os.getD i [])).getD j0 zCall).Name), nI (bif decide (i = k) then ((v).getD j0 zCall).Msg.Kind else (((os.getD i [])).getD j0 zCall).Msg.Kind), nI (bif decide (i = k) then ((v).getD j0 zCall).Msg.Num else (((os.getD i [])).getD j0 zCall).Msg.Num), AV.S (bif decide (i = k) then ((v).getD j0 zCall).Msg.Text else (((os.getD i [])).getD j0 zCall).Msg.Text), AV.own (bif decide (i = k) then (((v).getD j0 zCall).Filter).length else ((((os.getD i [])).getD j0 zCall).Filter).length) 3 (fun j1 => lstG [nI (bif decide (i = k) then ((((v).getD j0 zCall).Filter).getD j1 zTerm).Op else (((((os.getD i [])).getD j0 zCall).Filter).getD j1 zTerm).Op), nI (bif decide (i = k) then ((((v).getD j0 zCall).Filter).getD j1 zTerm).Num else (((((os.getD i [])).getD j0 zCall).Filter).getD j1 zTerm).Num), AV.S (bif decide (i = k) then ((((v).getD j0 zCall).Filter).getD j1 zTerm).Text else (((((os.getD i [])).getD j0 zCall).Filter).getD j1 zTerm).Text)])])]) = goCallSS (os.set k v) := by
  funext i
  unfold goCallSS
  rw [getD_set h]
  by_cases hi : i = k
  · subst hi; simp only [decide_true, cond_true, if_true, goCallS, gsTermS]; try rfl
  · simp only [hi, decide_false, cond_false, if_false, goCallS, gsTermS]; try rfl
theorem l10 (x : (List (List VCall))) (hb : szCallSS x ≤ 1048576) : ∀ (m i : Nat) (os : (List (List VCall))), i + m = x.length → os.length = x.length → (∀ j, j < i → os.getD j [] = x.getD j []) →
    HH 10 [] (m + 1) [true, true, false, true] (hdS [(0, slCallSS x), (3, .rf 290816), (4, nI (i : Int))] [(290816, ⟨os.length, 1, goCallSS os⟩)] []) = some (owCallSS x, []) := by
  have hlen : x.length ≤ 1048576 := sumL_len hb
  intro m
  induction m with
  | zero =>
    intro i os hi hl ho
    have : os = x := list_ext_getD (d := []) hl fun j hj => ho j (by omega)
    subst this
    rw [hstep, h10, bf (by simp [zN] <;> omega)]
    exact bt (by simp [okT_eq, okU_eq, okV_eq, okW_eq])
  | succ m ih =>
    intro i os hi hl ho
    rw [hstep, h10, bt (by simp [zN] <;> omega), bt (by simp [zN] <;> omega), wrapN (by omega)]
    simp only [Int.toNat_natCast]
    refine obind' (v31 (x.getD i []) (sumL_get hb (by omega))) (bt' (by simp [zN] <;> omega) ?_)
    refine (congrArg (fun G => HH 10 [] (m + 1) [true, true, false, true] (hdS [(0, slCallSS x), (3, .rf 290816), (4, nI ((i + 1 : Nat) : Int))] [(290816, ⟨os.length, 1, G⟩)] [])) (set_CallSS (os := os) (k := i) (v := x.getD i []) (by omega))).trans ?_
    have := ih (i + 1) (os.set i (x.getD i [])) (by omega) (by simpa using hl) (fun j hj => by
      rw [getD_set (by omega)]
      by_cases hji : j = i
      · subst hji; simp
      · rw [if_neg hji]; exact ho j (by omega))
    rw [List.length_set] at this
    exact this
theorem v10 (x : (List (List VCall))) (hb : szCallSS x ≤ 1048576) : E 10 [slCallSS x] [] = some (owCallSS x, []) := by
  have hlen : x.length ≤ 1048576 := sumL_len hb
  refine ev1 (x.length + 1) rfl ?_
  rw [e10, bt (by simp [zN] <;> omega)]
  have := l10 x hb x.length 0 (List.replicate x.length []) (by omega) (by simp) (fun j hj => by omega)
  rw [List.length_replicate] at this
  refine Eq.trans ?_ this
  refine congrArg (fun G => HH 10 [] (x.length + 1) [true, true, false, true] (hdS [(0, slCallSS x), (3, .rf 290816), (4, nI 0)] [(290816, ⟨x.length, 1, G⟩)] [])) ?_
  funext i
  simp only [goCallSS, gsCallSS, getD_rep]
  try rfl
theorem v47 (x : VStep) : E 47 [slStep x] [] = some (owStep x, []) := by
  refine ev1 0 rfl ?_
  rw [e47]
theorem v48 (x : VReply) (hb : szReply x ≤ 1048576) : E 48 [slReply x] [] = some (owReply x, []) := by
  refine ev1 0 rfl ?_
  rw [e48]
  unfold szReply at hb
  refine obind' (v57 x.Msg (by omega)) ?_
  rfl
theorem v32 (x : VMark) (hb : szMark x ≤ 1048576) : E 32 [slMark x] [] = some (owMark x, []) := by
  refine ev1 0 rfl ?_
  rw [e32]
  unfold szMark at hb
  refine obind' (v47 x.Step) ?_
  refine obind' (v48 x.Reply (by omega)) ?_
  rfl
theorem set_MarkS {os : List VMark} {k : Nat} {v : VMark} (h : k < os.length) : (fun i => lstG [nI (bif decide (i = k) then v.Step.Kind else (os.getD i zMark).Step.Kind), nI (bif decide (i = k) then v.Step.Who else (os.getD i zMark).Step.Who), nI (bif decide (i = k) then v.Step.Leg else (os.getD i zMark).Step.Leg), nI (bif decide (i = k) then v.Reply.Code else (os.getD i zMark).Reply.Code), nI (bif decide (i = k) then v.Reply.N else (os.getD i zMark).Reply.N), nI (bif decide (i = k) then v.Reply.M else (os.getD i zMark).Reply.M), nI (bif decide (i = k) then v.Reply.Msg.Kind else (os.getD i zMark).Reply.Msg.Kind), nI (bif decide (i = k) then v.Reply.Msg.Num else (os.getD i zMark).Reply.Msg.Num), AV.S (bif decide (i = k) then v.Reply.Msg.Text else (os.getD i zMark).Reply.Msg.Text)]) = goMarkS (os.set k v) := by
  funext i
  unfold goMarkS gsMarkS
  rw [getD_set h]
  by_cases hi : i = k
  · subst hi; simp only [decide_true, cond_true, if_true]; try rfl
  · simp only [hi, decide_false, cond_false, if_false]; try rfl
theorem l11 (x : (List VMark)) (hb : szMarkS x ≤ 1048576) : ∀ (m i : Nat) (os : (List VMark)), i + m = x.length → os.length = x.length → (∀ j, j < i → os.getD j zMark = x.getD j zMark) →
    HH 11 [] (m + 1) [true, true, false, true] (hdS [(0, slMarkS x), (3, .rf 290816), (4, nI (i : Int))] [(290816, ⟨os.length, 9, goMarkS os⟩)] []) = some (owMarkS x, []) := by
  have hlen : x.length ≤ 1048576 := sumL_len hb
  intro m
  induction m with
  | zero =>
    intro i os hi hl ho
    have : os = x := list_ext_getD (d := zMark) hl fun j hj => ho j (by omega)
    subst this
    rw [hstep, h11, bf (by simp [zN] <;> omega)]
    exact bt (by simp [okT_eq, okU_eq, okV_eq, okW_eq])
  | succ m ih =>
    intro i os hi hl ho
    rw [hstep, h11, bt (by simp [zN] <;> omega), bt (by simp [zN] <;> omega), wrapN (by omega)]
    simp only [Int.toNat_natCast]
    refine obind' (v32 (x.getD i zMark) (sumL_get hb (by omega))) (bt' (by simp [zN] <;> omega) ?_)
    refine (congrArg (fun G => HH 11 [] (m + 1) [true, true, false, true] (hdS [(0, slMarkS x), (3, .rf 290816), (4, nI ((i + 1 : Nat) : Int))] [(290816, ⟨os.length, 9, G⟩)] [])) (set_MarkS (os := os) (k := i) (v := x.getD i zMark) (by omega))).trans ?_
    have := ih (i + 1) (os.set i (x.getD i zMark)) (by omega) (by simpa using hl) (fun j hj => by
      rw [getD_set (by omega)]
      by_cases hji : j = i
      · subst hji; simp
      · rw [if_neg hji]; exact ho j (by omega))
    rw [List.length_set] at this
    exact this
theorem v11 (x : (List VMark)) (hb : szMarkS x ≤ 1048576) : E 11 [slMarkS x] [] = some (owMarkS x, []) := by
  have hlen : x.length ≤ 1048576 := sumL_len hb
  refine ev1 (x.length + 1) rfl ?_
  rw [e11, bt (by simp [zN] <;> omega)]
  have := l11 x hb x.length 0 (List.replicate x.length zMark) (by omega) (by simp) (fun j hj => by omega)
  rw [List.length_replicate] at this
  refine Eq.trans ?_ this
  refine congrArg (fun G => HH 11 [] (x.length + 1) [true, true, false, true] (hdS [(0, slMarkS x), (3, .rf 290816), (4, nI 0)] [(290816, ⟨x.length, 9, G⟩)] [])) ?_
  funext i
  simp only [goMarkS, gsMarkS, getD_rep]
  try rfl
theorem w64 (x : VTerm) (hb : szTerm x ≤ 1048576) : E 64 [slTerm x, slTerm x] [] = some (.B true, []) := by
  refine ev1 0 rfl ?_
  rw [e64]
  refine bf' (by simp) ?_
  refine bf' (by simp) ?_
  refine bf' (by simp) ?_
  rfl
theorem m60 (x : (List VTerm)) (hb : szTermS x ≤ 1048576) : ∀ (m i : Nat), i + m = x.length →
    HH 60 [] (m + 1) [true, true, false, true] (hdS [(0, slTermS x), (1, slTermS x), (5, nI (i : Int))] [] []) = some (.B true, []) := by
  have hlen : x.length ≤ 1048576 := sumL_len hb
  intro m
  induction m with
  | zero => intro i hi; rw [hstep, h60, bf (by simp [zN] <;> omega)]
  | succ m ih =>
    intro i hi
    rw [hstep, h60, bt (by simp [zN] <;> omega), bt (by simp [zN] <;> omega), bt (by simp [zN] <;> omega), wrapN (by omega)]
    simp only [Int.toNat_natCast]
    refine obind' (w64 (x.getD i zTerm) (sumL_get hb (by omega))) (bf' rfl ?_)
    exact ih (i + 1) (by omega)
theorem w60 (x : (List VTerm)) (hb : szTermS x ≤ 1048576) : E 60 [slTermS x, slTermS x] [] = some (.B true, []) := by
  refine ev1 (x.length + 1) rfl ?_
  rw [e60, bf (by simp)]
  exact m60 x hb x.length 0 (by omega)
theorem w59 (x : VMsg) (hb : szMsg x ≤ 1048576) : E 59 [slMsg x, slMsg x] [] = some (.B true, []) := by
  refine ev1 0 rfl ?_
  rw [e59]
  refine bf' (by simp) ?_
  refine bf' (by simp) ?_
  refine bf' (by simp) ?_
  rfl
theorem w49 (x : VCall) (hb : szCall x ≤ 1048576) : E 49 [slCall x, slCall x] [] = some (.B true, []) := by
  refine ev1 0 rfl ?_
  rw [e49]
  unfold szCall at hb
  refine bf' (by simp) ?_
  refine bf' (by simp) ?_
  refine bf' (by simp) ?_
  refine bf' (by simp) ?_
  refine bf' (by simp) ?_
  refine obind' (w59 x.Msg (by omega)) (bf' rfl ?_)
  refine obind' (w60 x.Filter (by omega)) (bf' rfl ?_)
  rfl
theorem m33 (x : (List VCall)) (hb : szCallS x ≤ 1048576) : ∀ (m i : Nat), i + m = x.length →
    HH 33 [] (m + 1) [true, true, false, true] (hdS [(0, slCallS x), (1, slCallS x), (5, nI (i : Int))] [] []) = some (.B true, []) := by
  have hlen : x.length ≤ 1048576 := sumL_len hb
  intro m
  induction m with
  | zero => intro i hi; rw [hstep, h33, bf (by simp [zN] <;> omega)]
  | succ m ih =>
    intro i hi
    rw [hstep, h33, bt (by simp [zN] <;> omega), bt (by simp [zN] <;> omega), bt (by simp [zN] <;> omega), wrapN (by omega)]
    simp only [Int.toNat_natCast]
    refine obind' (w49 (x.getD i zCall) (sumL_get hb (by omega))) (bf' rfl ?_)
    exact ih (i + 1) (by omega)
theorem w33 (x : (List VCall)) (hb : szCallS x ≤ 1048576) : E 33 [slCallS x, slCallS x] [] = some (.B true, []) := by
  refine ev1 (x.length + 1) rfl ?_
  rw [e33, bf (by simp)]
  exact m33 x hb x.length 0 (by omega)
theorem m13 (x : (List (List VCall))) (hb : szCallSS x ≤ 1048576) : ∀ (m i : Nat), i + m = x.length →
    HH 13 [] (m + 1) [true, true, false, true] (hdS [(0, slCallSS x), (1, slCallSS x), (5, nI (i : Int))] [] []) = some (.B true, []) := by
  have hlen : x.length ≤ 1048576 := sumL_len hb
  intro m
  induction m with
  | zero => intro i hi; rw [hstep, h13, bf (by simp [zN] <;> omega)]
  | succ m ih =>
    intro i hi
    rw [hstep, h13, bt (by simp [zN] <;> omega), bt (by simp [zN] <;> omega), bt (by simp [zN] <;> omega), wrapN (by omega)]
    simp only [Int.toNat_natCast]
    refine obind' (w33 (x.getD i []) (sumL_get hb (by omega))) (bf' rfl ?_)
    exact ih (i + 1) (by omega)
theorem w13 (x : (List (List VCall))) (hb : szCallSS x ≤ 1048576) : E 13 [slCallSS x, slCallSS x] [] = some (.B true, []) := by
  refine ev1 (x.length + 1) rfl ?_
  rw [e13, bf (by simp)]
  exact m13 x hb x.length 0 (by omega)
theorem w50 (x : VStep) : E 50 [slStep x, slStep x] [] = some (.B true, []) := by
  refine ev1 0 rfl ?_
  rw [e50]
  refine bf' (by simp) ?_
  refine bf' (by simp) ?_
  refine bf' (by simp) ?_
  rfl
theorem w51 (x : VReply) (hb : szReply x ≤ 1048576) : E 51 [slReply x, slReply x] [] = some (.B true, []) := by
  refine ev1 0 rfl ?_
  rw [e51]
  unfold szReply at hb
  refine bf' (by simp) ?_
  refine bf' (by simp) ?_
  refine bf' (by simp) ?_
  refine obind' (w59 x.Msg (by omega)) (bf' rfl ?_)
  rfl
theorem w34 (x : VMark) (hb : szMark x ≤ 1048576) : E 34 [slMark x, slMark x] [] = some (.B true, []) := by
  refine ev1 0 rfl ?_
  rw [e34]
  unfold szMark at hb
  refine obind' (w50 x.Step) (bf' rfl ?_)
  refine obind' (w51 x.Reply (by omega)) (bf' rfl ?_)
  rfl
theorem m14 (x : (List VMark)) (hb : szMarkS x ≤ 1048576) : ∀ (m i : Nat), i + m = x.length →
    HH 14 [] (m + 1) [true, true, false, true] (hdS [(0, slMarkS x), (1, slMarkS x), (5, nI (i : Int))] [] []) = some (.B true, []) := by
  have hlen : x.length ≤ 1048576 := sumL_len hb
  intro m
  induction m with
  | zero => intro i hi; rw [hstep, h14, bf (by simp [zN] <;> omega)]
  | succ m ih =>
    intro i hi
    rw [hstep, h14, bt (by simp [zN] <;> omega), bt (by simp [zN] <;> omega), bt (by simp [zN] <;> omega), wrapN (by omega)]
    simp only [Int.toNat_natCast]
    refine obind' (w34 (x.getD i zMark) (sumL_get hb (by omega))) (bf' rfl ?_)
    exact ih (i + 1) (by omega)
theorem w14 (x : (List VMark)) (hb : szMarkS x ≤ 1048576) : E 14 [slMarkS x, slMarkS x] [] = some (.B true, []) := by
  refine ev1 (x.length + 1) rfl ?_
  rw [e14, bf (by simp)]
  exact m14 x hb x.length 0 (by omega)
theorem m19 (x : (List Int)) (hb : szIntS x ≤ 1048576) : ∀ (m i : Nat), i + m = x.length →
    HH 19 [] (m + 1) [true, true, false, true] (hdS [(0, slIntS x), (1, slIntS x), (5, nI (i : Int))] [] []) = some (.B true, []) := by
  have hlen : x.length ≤ 1048576 := sumL_len hb
  intro m
  induction m with
  | zero => intro i hi; rw [hstep, h19, bf (by simp [zN] <;> omega)]
  | succ m ih =>
    intro i hi
    rw [hstep, h19, bt (by simp [zN] <;> omega), bt (by simp [zN] <;> omega), bt (by simp [zN] <;> omega), wrapN (by omega)]
    simp only [Int.toNat_natCast]
    refine bf' (by simp) ?_
    exact ih (i + 1) (by omega)
theorem w19 (x : (List Int)) (hb : szIntS x ≤ 1048576) : E 19 [slIntS x, slIntS x] [] = some (.B true, []) := by
  refine ev1 (x.length + 1) rfl ?_
  rw [e19, bf (by simp)]
  exact m19 x hb x.length 0 (by omega)
theorem set_RecS {os : List VRec} {k : Nat} {v : VRec} (h : k < os.length) : (fun i => lstG [nI (bif decide (i = k) then v.Who else (os.getD i zRec).Who), nI (bif decide (i = k) then v.Number else (os.getD i zRec).Number), nI (bif decide (i = k) then v.Call.Op else (os.getD i zRec).Call.Op), nI (bif decide (i = k) then v.Call.A else (os.getD i zRec).Call.A), nI (bif decide (i = k) then v.Call.B else (os.getD i zRec).Call.B), nI (bif decide (i = k) then v.Call.Tok else (os.getD i zRec).Call.Tok), AV.S (bif decide (i = k) then v.Call.Name else (os.getD i zRec).Call.Name), nI (bif decide (i = k) then v.Call.Msg.Kind else (os.getD i zRec).Call.Msg.Kind), nI (bif decide (i = k) then v.Call.Msg.Num else (os.getD i zRec).Call.Msg.Num), AV.S (bif decide (i = k) then v.Call.Msg.Text else (os.getD i zRec).Call.Msg.Text), AV.own (bif decide (i = k) then (v.Call.Filter).length else ((os.getD i zRec).Call.Filter).length) 3 (fun j0 => lstG [nI (bif decide (i = k) then ((v.Call.Filter).getD j0 zTerm).Op else (((os.getD i zRec).Call.Filter).getD j0 zTerm).Op), nI (bif decide (i = k) then ((v.Call.Filter).getD j0 zTerm).Num else (((os.getD i zRec).Call.Filter).getD j0 zTerm).Num), AV.S (bif decide (i = k) then ((v.Call.Filter).getD j0 zTerm).Text else (((os.getD i zRec).Call.Filter).getD j0 zTerm).Text)]), nI (bif decide (i = k) then v.First else (os.getD i zRec).First), nI (bif decide (i = k) then v.Last else (os.getD i zRec).Last), nI (bif decide (i = k) then v.Code else (os.getD i zRec).Code)]) = goRecS (os.set k v) := by
  funext i
  unfold goRecS
  rw [getD_set h]
  by_cases hi : i = k
  · subst hi; simp only [decide_true, cond_true, if_true, gsTermS]; try rfl
  · simp only [hi, decide_false, cond_false, if_false, gsTermS]; try rfl
theorem set_IntS {os : List Int} {k : Nat} {v : Int} (h : k < os.length) : (fun i => lstG [AV.I .i64 (bif decide (i = k) then v else os.getD i 0)]) = goIntS (os.set k v) := by
  funext i
  unfold goIntS gI
  rw [getD_set h]
  by_cases hi : i = k <;> simp [hi]
theorem app_IntS {os : List Int} {v : Int} : (fun i => lstG [nI (bif decide (i < os.length) then (os.getD i 0) else bif decide (i - os.length = 0) then v else 0)]) = goIntS (os ++ [v]) := by
  funext i
  unfold goIntS gI
  rw [getD_app]
  by_cases hi : i < os.length
  · simp only [hi, decide_true, cond_true, if_true]; try rfl
  · by_cases h2 : i = os.length
    · have h3 : i - os.length = 0 := by omega
      simp only [hi, h2, Nat.sub_self, Nat.lt_irrefl, decide_true, decide_false, cond_true, cond_false, if_true, if_false]; try rfl
    · have h3 : ¬ i - os.length = 0 := by omega
      simp only [hi, h2, h3, decide_false, cond_false, if_false]; try rfl
theorem app_RecS {os : List VRec} {v : VRec} : (fun i => lstG [nI (bif decide (i < os.length) then (os.getD i zRec).Who else bif decide (i - os.length = 0) then v.Who else 0), nI (bif decide (i < os.length) then (os.getD i zRec).Number else bif decide (i - os.length = 0) then v.Number else 0), nI (bif decide (i < os.length) then (os.getD i zRec).Call.Op else bif decide (i - os.length = 0) then v.Call.Op else 0), nI (bif decide (i < os.length) then (os.getD i zRec).Call.A else bif decide (i - os.length = 0) then v.Call.A else 0), nI (bif decide (i < os.length) then (os.getD i zRec).Call.B else bif decide (i - os.length = 0) then v.Call.B else 0), nI (bif decide (i < os.length) then (os.getD i zRec).Call.Tok else bif decide (i - os.length = 0) then v.Call.Tok else 0), AV.S (bif decide (i < os.length) then (os.getD i zRec).Call.Name else bif decide (i - os.length = 0) then v.Call.Name else ByteArray.empty), nI (bif decide (i < os.length) then (os.getD i zRec).Call.Msg.Kind else bif decide (i - os.length = 0) then v.Call.Msg.Kind else 0), nI (bif decide (i < os.length) then (os.getD i zRec).Call.Msg.Num else bif decide (i - os.length = 0) then v.Call.Msg.Num else 0), AV.S (bif decide (i < os.length) then (os.getD i zRec).Call.Msg.Text else bif decide (i - os.length = 0) then v.Call.Msg.Text else ByteArray.empty), AV.own (bif decide (i < os.length) then ((os.getD i zRec).Call.Filter).length else bif decide (i - os.length = 0) then (v.Call.Filter).length else 0) 3 (fun j0 => lstG [nI (bif decide (i < os.length) then (((os.getD i zRec).Call.Filter).getD j0 zTerm).Op else bif decide (i - os.length = 0) then ((v.Call.Filter).getD j0 zTerm).Op else 0), nI (bif decide (i < os.length) then (((os.getD i zRec).Call.Filter).getD j0 zTerm).Num else bif decide (i - os.length = 0) then ((v.Call.Filter).getD j0 zTerm).Num else 0), AV.S (bif decide (i < os.length) then (((os.getD i zRec).Call.Filter).getD j0 zTerm).Text else bif decide (i - os.length = 0) then ((v.Call.Filter).getD j0 zTerm).Text else ByteArray.empty)]), nI (bif decide (i < os.length) then (os.getD i zRec).First else bif decide (i - os.length = 0) then v.First else 0), nI (bif decide (i < os.length) then (os.getD i zRec).Last else bif decide (i - os.length = 0) then v.Last else 0), nI (bif decide (i < os.length) then (os.getD i zRec).Code else bif decide (i - os.length = 0) then v.Code else 0)]) = goRecS (os ++ [v]) := by
  funext i
  unfold goRecS
  rw [getD_app]
  by_cases hi : i < os.length
  · simp only [hi, decide_true, cond_true, if_true, gsTermS]; try rfl
  · by_cases h2 : i = os.length
    · have h3 : i - os.length = 0 := by omega
      simp only [hi, h2, Nat.sub_self, Nat.lt_irrefl, decide_true, decide_false, cond_true, cond_false, if_true, if_false, gsTermS]; try rfl
    · have h3 : ¬ i - os.length = 0 := by omega
      simp only [hi, h2, h3, decide_false, cond_false, if_false, gsTermS]; try rfl
end Go.Fw
