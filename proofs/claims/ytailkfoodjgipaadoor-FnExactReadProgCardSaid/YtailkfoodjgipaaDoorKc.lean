/- Values of sizes, copies and comparisons. -/
import Derived.Test.YtailkfoodjgipaaDoorKb
import Derived.Test.YtailkfoodjgipaaDoorKa
import Derived.Laws.BitsLemmas
set_option linter.unusedVariables false
set_option linter.unusedSimpArgs false
namespace Go.Fw
open Go.Proofs
noncomputable abbrev E : Orc := ev Tryd.prog cfg
noncomputable abbrev HH (f : Nat) (exts : List AV) (n : Nat) : Hd := HF Tryd.prog cfg E f exts n
theorem ev1 {f : Nat} {args exts : List AV} {r : AV × List AV} (n : Nat) (hn : (cfg.nil f && isSl args || cfg.outF f) = false) (e : ent Tryd.prog cfg E f (HH f exts n) args exts = some r) : E f args exts = some r := ev_ent hn e
theorem hstep (f : Nat) (exts : List AV) (n : Nat) (q : List Bool) (st : St) : HH f exts (n + 1) q st = hed Tryd.prog cfg E f (HH f exts n) exts q st := rfl
theorem bt {α : Type} {c : Bool} {x y : α} (h : c = true) : (bif c then x else y) = x := by subst h; rfl
theorem bf {α : Type} {c : Bool} {x y : α} (h : c = false) : (bif c then x else y) = y := by subst h; rfl
theorem bt' {α : Type} {c : Bool} {x y r : α} (h : c = true) (h' : x = r) : (bif c then x else y) = r := by subst h; exact h'
theorem bf' {α : Type} {c : Bool} {x y r : α} (h : c = false) (h' : y = r) : (bif c then x else y) = r := by subst h; exact h'
theorem obind {α β : Type} {x : Option α} {a : α} {f : α → Option β} (h : x = some a) : Option.bind x f = f a := by subst h; rfl
theorem obind' {α β : Type} {x : Option α} {a : α} {f : α → Option β} {r : Option β} (h : x = some a) (h' : f a = r) : Option.bind x f = r := by subst h; exact h'
theorem and2_both {R : Type} {x y r : Option R} (h : x = r) (h' : y = r) : and2 x y = r := by subst h h'; simp [and2]
theorem wrapS {x : Int} (h1 : -9223372036854775808 ≤ x) (h2 : x ≤ 9223372036854775807) : IntKind.i64.wrap x = x := by rw [IntKind.wrap_i64]; omega
theorem wrapN {i : Nat} (h : i ≤ 4611686018427387904) : IntKind.i64.wrap ((i : Int) + 1) = ((i + 1 : Nat) : Int) := by rw [wrapS] <;> omega
theorem list_ext_getD {α : Type} {d : α} {xs ys : List α} (hl : xs.length = ys.length) (h : ∀ i, i < xs.length → xs.getD i d = ys.getD i d) : xs = ys := by
  apply List.ext_getElem?
  intro i
  by_cases hi : i < xs.length
  · have := h i hi
    simp [List.getD_eq_getElem?_getD, hi, hl ▸ hi] at this
    simp [hi, hl ▸ hi, this]
  · simp [List.getElem?_eq_none (Nat.le_of_not_lt hi), List.getElem?_eq_none (hl ▸ Nat.le_of_not_lt hi)]
theorem getD_set {α : Type} {d v : α} {xs : List α} {k i : Nat} (h : k < xs.length) : (xs.set k v).getD i d = if i = k then v else xs.getD i d := by
  by_cases hi : i = k
  · subst hi; simp [List.getD_eq_getElem?_getD, h]
  · simp [List.getD_eq_getElem?_getD, hi, Ne.symm hi]
theorem getD_app {α : Type} {d v : α} {xs : List α} {i : Nat} : (xs ++ [v]).getD i d = if i < xs.length then xs.getD i d else if i = xs.length then v else d := by
  by_cases h : i < xs.length
  · simp [List.getD_eq_getElem?_getD, h, List.getElem?_append_left h]
  · rw [if_neg h]
    by_cases h2 : i = xs.length
    · subst h2; simp [List.getD_eq_getElem?_getD]
    · rw [if_neg h2]
      have : (xs ++ [v])[i]? = none := List.getElem?_eq_none (by simp; omega)
      rw [List.getD_eq_getElem?_getD, this]; rfl
theorem getD_rep {α : Type} {d : α} {n i : Nat} : (List.replicate n d).getD i d = d := by
  simp [List.getD_eq_getElem?_getD, List.getElem?_replicate]; split <;> rfl
theorem drop_getD {α : Type} {d : α} {xs : List α} {i : Nat} (h : i < xs.length) : xs.drop i = xs.getD i d :: xs.drop (i + 1) := by
  rw [List.drop_eq_getElem_cons h]; simp [List.getD_eq_getElem?_getD, h]
theorem getD_mem {α : Type} {d : α} {xs : List α} {i : Nat} (h : i < xs.length) : xs.getD i d ∈ xs := by
  simp [List.getD_eq_getElem?_getD, h]
/-- What is left of 'a' behind 'n'; -1 where it is not enough. -/
def subZ (a : Int) (n : Nat) : Int := if (n : Int) ≤ a then a - n else -1
theorem subZ_le {a : Int} {n : Nat} (h : (n : Int) ≤ a) : subZ a n = a - n := if_pos h
theorem subZ_add {a : Int} {n s : Nat} (h : (n : Int) ≤ a) : subZ (a - (n : Int)) s = subZ a (n + s) := by
  unfold subZ
  by_cases h2 : (s : Int) ≤ a - n
  · rw [if_pos h2, if_pos (by omega)]; omega
  · rw [if_neg h2, if_neg (by omega)]
theorem subZ_big {a : Int} {n s : Nat} (h : ¬ (n : Int) ≤ a) : subZ a (n + s) = -1 := by unfold subZ; rw [if_neg (by omega)]
theorem subZ_gt {a : Int} {n : Nat} (h : ¬ (n : Int) ≤ a) : subZ a n = -1 := if_neg h
def sumL {α : Type} (f : α → Nat) (xs : List α) : Nat := xs.length + (xs.map f).sum
theorem sumL_len {α : Type} {f : α → Nat} {xs : List α} {b : Nat} (h : sumL f xs ≤ b) : xs.length ≤ b := by unfold sumL at h; omega
theorem sumL_get {α : Type} {f : α → Nat} {xs : List α} {b i : Nat} {d : α} (h : sumL f xs ≤ b) (hi : i < xs.length) : f (xs.getD i d) ≤ b := by
  have key : ∀ (ys : List α) (y : α), y ∈ ys → f y ≤ (ys.map f).sum := fun ys => by
    induction ys with
    | nil => intro y hy; simp at hy
    | cons a ys ih =>
      intro y hy
      simp only [List.map_cons, List.sum_cons]
      rcases List.mem_cons.1 hy with rfl | hy
      · omega
      · have := ih y hy; omega
  have := key xs _ (getD_mem (d := d) hi)
  unfold sumL at h; omega
theorem resI {x y : Int} (h : x = y) : (some (AV.I .i64 x, ([] : List AV)) : Option (AV × List AV)) = some (AV.I .i64 y, []) := by rw [h]
def szTerm (x : VTerm) : Nat := x.Text.size
def okTerm (x : VTerm) : Prop := x.Text.size ≤ 9223372036854775807
abbrev szTermS (xs : List VTerm) : Nat := sumL szTerm xs
def okTermS (xs : List VTerm) : Prop := xs.length ≤ 9223372036854775807 ∧ ∀ x ∈ xs, okTerm x
def szMsg (x : VMsg) : Nat := x.Text.size
def okMsg (x : VMsg) : Prop := x.Text.size ≤ 9223372036854775807
def szCall (x : VCall) : Nat := x.Name.size + (szMsg x.Msg) + (szTermS x.Filter)
def okCall (x : VCall) : Prop := x.Name.size ≤ 9223372036854775807 ∧ okMsg x.Msg ∧ okTermS x.Filter
abbrev szCallS (xs : List VCall) : Nat := sumL szCall xs
def okCallS (xs : List VCall) : Prop := xs.length ≤ 9223372036854775807 ∧ ∀ x ∈ xs, okCall x
theorem v49 (x : VTerm) (a : Int) (ok : okTerm x) (h0 : 0 ≤ a) (h1 : a ≤ 1048576) : E 49 [slTerm x, nI a] [] = some (nI (subZ a (szTerm x)), []) := by
  refine ev1 0 rfl ?_
  rw [e49]
  unfold okTerm at ok
  unfold szTerm
  have ok0 := ok
  have w0 : IntKind.i64.wrap (a - zN x.Text.size) = a - (x.Text.size : Int) := wrapS (by simp only [zN]; omega) (by simp only [zN]; omega)
  try rw [w0]
  by_cases c0 : (x.Text.size : Int) ≤ a
  case neg => exact bt' (decide_eq_true (by omega)) (resI (by unfold subZ; rw [if_neg (by omega)]))
  refine bf' (decide_eq_false (by omega)) ?_
  exact resI (by unfold subZ; rw [if_pos (by omega)] <;> omega)
theorem l26 (x : (List VTerm)) (ok : okTermS x) : ∀ (m i : Nat) (a : Int), i + m = x.length → 0 ≤ a → a ≤ 1048576 → i ≤ 1048576 →
    x.length ≤ 1048576 → HH 26 [] (m + 1) [true, true, true, false, true] (hdS [(0, slTermS x), (1, nI a), (5, nI (i : Int))] [] []) = some (nI (subZ a ((x.drop i).map szTerm).sum), []) := by
  intro m
  induction m with
  | zero =>
    intro i a hi h0 h1 _ _
    rw [hstep, h26, bf (by simp [zN] <;> omega), List.drop_eq_nil_of_le (by omega)]
    exact resI (by unfold subZ; simp <;> omega)
  | succ m ih =>
    intro i a hi h0 h1 h2 h3
    rw [hstep, h26, bt (by simp [zN] <;> omega), bt (by simp [zN] <;> omega), wrapN (by omega)]
    simp only [Int.toNat_natCast]
    rw [drop_getD (d := zTerm) (show i < x.length by omega), List.map_cons, List.sum_cons]
    have q := v49 (x.getD i zTerm) a (ok.2 _ (getD_mem (by omega))) h0 h1
    by_cases c : (szTerm (x.getD i zTerm) : Int) ≤ a
    · rw [subZ_le c] at q
      refine obind' q (bf' (decide_eq_false (by show ¬ (a - szTerm (x.getD i zTerm) < 0); omega)) ?_)
      refine (ih (i + 1) (a - szTerm (x.getD i zTerm)) (by omega) (by omega) (by omega) (by omega) h3).trans (resI ?_)
      unfold subZ
      split <;> split <;> omega
    · rw [subZ_gt c] at q
      refine obind' q (bt' rfl (resI ?_))
      unfold subZ
      rw [if_neg (by omega)]
theorem v26 (x : (List VTerm)) (a : Int) (ok : okTermS x) (h0 : 0 ≤ a) (h1 : a ≤ 1048576) : E 26 [slTermS x, nI a] [] = some (nI (subZ a (szTermS x)), []) := by
  have ok1 := ok.1
  have w1 : IntKind.i64.wrap (a - zN x.length) = a - zN x.length := wrapS (by simp only [zN]; omega) (by simp only [zN]; omega)
  refine ev1 (x.length + 1) rfl ?_
  rw [e26]
  change (bif decide (IntKind.i64.wrap (a - zN x.length) < 0) then _ else _) = _
  by_cases c : (x.length : Int) ≤ a
  · refine bf' (decide_eq_false (by rw [w1]; simp only [zN]; omega)) ?_
    show HH 26 [] (x.length + 1) _ (hdS [(0, slTermS x), (1, nI (IntKind.i64.wrap (a - zN x.length))), (5, nI ((0 : Nat) : Int))] [] []) = _
    rw [w1]
    refine (l26 x ok x.length 0 (a - zN x.length) (by omega) (by simp only [zN]; omega) (by simp only [zN]; omega) (by omega) (by omega)).trans (resI (subZ_add c))
  · exact bt' (decide_eq_true (by rw [w1]; simp only [zN]; omega)) (resI (subZ_big c).symm)
theorem v25 (x : VMsg) (a : Int) (ok : okMsg x) (h0 : 0 ≤ a) (h1 : a ≤ 1048576) : E 25 [slMsg x, nI a] [] = some (nI (subZ a (szMsg x)), []) := by
  refine ev1 0 rfl ?_
  rw [e25]
  unfold okMsg at ok
  unfold szMsg
  have ok0 := ok
  have w0 : IntKind.i64.wrap (a - zN x.Text.size) = a - (x.Text.size : Int) := wrapS (by simp only [zN]; omega) (by simp only [zN]; omega)
  try rw [w0]
  by_cases c0 : (x.Text.size : Int) ≤ a
  case neg => exact bt' (decide_eq_true (by omega)) (resI (by unfold subZ; rw [if_neg (by omega)]))
  refine bf' (decide_eq_false (by omega)) ?_
  exact resI (by unfold subZ; rw [if_pos (by omega)] <;> omega)
theorem v7 (x : VCall) (a : Int) (ok : okCall x) (h0 : 0 ≤ a) (h1 : a ≤ 1048576) : E 7 [slCall x, nI a] [] = some (nI (subZ a (szCall x)), []) := by
  refine ev1 0 rfl ?_
  rw [e7]
  unfold okCall at ok
  unfold szCall
  obtain ⟨ok0, ok1, ok2⟩ := ok
  have w0 : IntKind.i64.wrap (a - zN x.Name.size) = a - (x.Name.size : Int) := wrapS (by simp only [zN]; omega) (by simp only [zN]; omega)
  try rw [w0]
  by_cases c0 : (x.Name.size : Int) ≤ a
  case neg => exact bt' (decide_eq_true (by omega)) (resI (by unfold subZ; rw [if_neg (by omega)]))
  refine bf' (decide_eq_false (by omega)) ?_
  have q1 := v25 x.Msg (a - (x.Name.size : Int)) ok1 (by omega) (by omega)
  by_cases c1 : ((szMsg x.Msg) : Int) ≤ a - (x.Name.size : Int)
  case neg =>
    rw [subZ_gt c1] at q1
    exact obind' q1 (bt' rfl (resI (by unfold subZ; rw [if_neg (by omega)])))
  rw [subZ_le c1] at q1
  refine obind' q1 (bf' (decide_eq_false (by show ¬ (a - (x.Name.size : Int) - ((szMsg x.Msg) : Int) < 0); omega)) ?_)
  have q2 := v26 x.Filter (a - (x.Name.size : Int) - ((szMsg x.Msg) : Int)) ok2 (by omega) (by omega)
  by_cases c2 : ((szTermS x.Filter) : Int) ≤ a - (x.Name.size : Int) - ((szMsg x.Msg) : Int)
  case neg =>
    rw [subZ_gt c2] at q2
    exact obind' q2 (bt' rfl (resI (by unfold subZ; rw [if_neg (by omega)])))
  rw [subZ_le c2] at q2
  refine obind' q2 (bf' (decide_eq_false (by show ¬ (a - (x.Name.size : Int) - ((szMsg x.Msg) : Int) - ((szTermS x.Filter) : Int) < 0); omega)) ?_)
  exact resI (by unfold subZ; rw [if_pos (by omega)]; show a - (x.Name.size : Int) - ((szMsg x.Msg) : Int) - ((szTermS x.Filter) : Int) = _; omega)
theorem l12 (x : (List VCall)) (ok : okCallS x) : ∀ (m i : Nat) (a : Int), i + m = x.length → 0 ≤ a → a ≤ 1048576 → i ≤ 1048576 →
    x.length ≤ 1048576 → HH 12 [] (m + 1) [true, true, true, false, true] (hdS [(0, slCallS x), (1, nI a), (5, nI (i : Int))] [] []) = some (nI (subZ a ((x.drop i).map szCall).sum), []) := by
  intro m
  induction m with
  | zero =>
    intro i a hi h0 h1 _ _
    rw [hstep, h12, bf (by simp [zN] <;> omega), List.drop_eq_nil_of_le (by omega)]
    exact resI (by unfold subZ; simp <;> omega)
  | succ m ih =>
    intro i a hi h0 h1 h2 h3
    rw [hstep, h12, bt (by simp [zN] <;> omega), bt (by simp [zN] <;> omega), wrapN (by omega)]
    simp only [Int.toNat_natCast]
    rw [drop_getD (d := zCall) (show i < x.length by omega), List.map_cons, List.sum_cons]
    have q := v7 (x.getD i zCall) a (ok.2 _ (getD_mem (by omega))) h0 h1
    by_cases c : (szCall (x.getD i zCall) : Int) ≤ a
    · rw [subZ_le c] at q
      refine obind' q (bf' (decide_eq_false (by show ¬ (a - szCall (x.getD i zCall) < 0); omega)) ?_)
      refine (ih (i + 1) (a - szCall (x.getD i zCall)) (by omega) (by omega) (by omega) (by omega) h3).trans (resI ?_)
      unfold subZ
      split <;> split <;> omega
    · rw [subZ_gt c] at q
      refine obind' q (bt' rfl (resI ?_))
      unfold subZ
      rw [if_neg (by omega)]
theorem v12 (x : (List VCall)) (a : Int) (ok : okCallS x) (h0 : 0 ≤ a) (h1 : a ≤ 1048576) : E 12 [slCallS x, nI a] [] = some (nI (subZ a (szCallS x)), []) := by
  have ok1 := ok.1
  have w1 : IntKind.i64.wrap (a - zN x.length) = a - zN x.length := wrapS (by simp only [zN]; omega) (by simp only [zN]; omega)
  refine ev1 (x.length + 1) rfl ?_
  rw [e12]
  change (bif decide (IntKind.i64.wrap (a - zN x.length) < 0) then _ else _) = _
  by_cases c : (x.length : Int) ≤ a
  · refine bf' (decide_eq_false (by rw [w1]; simp only [zN]; omega)) ?_
    show HH 12 [] (x.length + 1) _ (hdS [(0, slCallS x), (1, nI (IntKind.i64.wrap (a - zN x.length))), (5, nI ((0 : Nat) : Int))] [] []) = _
    rw [w1]
    refine (l12 x ok x.length 0 (a - zN x.length) (by omega) (by simp only [zN]; omega) (by simp only [zN]; omega) (by omega) (by omega)).trans (resI (subZ_add c))
  · exact bt' (decide_eq_true (by rw [w1]; simp only [zN]; omega)) (resI (subZ_big c).symm)
theorem v55 (x : VTerm) (hb : szTerm x ≤ 1048576) : E 55 [slTerm x] [] = some (owTerm x, []) := by
  refine ev1 0 rfl ?_
  rw [e55]
theorem set_TermS {os : List VTerm} {k : Nat} {v : VTerm} (h : k < os.length) : (fun i => lstG [nI (bif decide (i = k) then v.Op else (os.getD i zTerm).Op), nI (bif decide (i = k) then v.Num else (os.getD i zTerm).Num), AV.S (bif decide (i = k) then v.Text else (os.getD i zTerm).Text)]) = goTermS (os.set k v) := by
  funext i
  unfold goTermS gsTermS
  rw [getD_set h]
  by_cases hi : i = k
  · subst hi; simp only [decide_true, cond_true, if_true]; try rfl
  · simp only [hi, decide_false, cond_false, if_false]; try rfl
theorem l35 (x : (List VTerm)) (hb : szTermS x ≤ 1048576) : ∀ (m i : Nat) (os : (List VTerm)), i + m = x.length → os.length = x.length → (∀ j, j < i → os.getD j zTerm = x.getD j zTerm) →
    HH 35 [] (m + 1) [true, true, false, true] (hdS [(0, slTermS x), (3, .rf 290816), (4, nI (i : Int))] [(290816, ⟨os.length, 3, goTermS os⟩)] []) = some (owTermS x, []) := by
  have hlen : x.length ≤ 1048576 := sumL_len hb
  intro m
  induction m with
  | zero =>
    intro i os hi hl ho
    have : os = x := list_ext_getD (d := zTerm) hl fun j hj => ho j (by omega)
    subst this
    rw [hstep, h35, bf (by simp [zN] <;> omega)]
    exact bt (by simp [okT_eq, okU_eq, okV_eq, okW_eq])
  | succ m ih =>
    intro i os hi hl ho
    rw [hstep, h35, bt (by simp [zN] <;> omega), bt (by simp [zN] <;> omega), wrapN (by omega)]
    simp only [Int.toNat_natCast]
    refine obind' (v55 (x.getD i zTerm) (sumL_get hb (by omega))) (bt' (by simp [zN] <;> omega) ?_)
    refine (congrArg (fun G => HH 35 [] (m + 1) [true, true, false, true] (hdS [(0, slTermS x), (3, .rf 290816), (4, nI ((i + 1 : Nat) : Int))] [(290816, ⟨os.length, 3, G⟩)] [])) (set_TermS (os := os) (k := i) (v := x.getD i zTerm) (by omega))).trans ?_
    have := ih (i + 1) (os.set i (x.getD i zTerm)) (by omega) (by simpa using hl) (fun j hj => by
      rw [getD_set (by omega)]
      by_cases hji : j = i
      · subst hji; simp
      · rw [if_neg hji]; exact ho j (by omega))
    rw [List.length_set] at this
    exact this
theorem v35 (x : (List VTerm)) (hb : szTermS x ≤ 1048576) : E 35 [slTermS x] [] = some (owTermS x, []) := by
  have hlen : x.length ≤ 1048576 := sumL_len hb
  refine ev1 (x.length + 1) rfl ?_
  rw [e35, bt (by simp [zN] <;> omega)]
  have := l35 x hb x.length 0 (List.replicate x.length zTerm) (by omega) (by simp) (fun j hj => by omega)
  rw [List.length_replicate] at this
  refine Eq.trans ?_ this
  refine congrArg (fun G => HH 35 [] (x.length + 1) [true, true, false, true] (hdS [(0, slTermS x), (3, .rf 290816), (4, nI 0)] [(290816, ⟨x.length, 3, G⟩)] [])) ?_
  funext i
  simp only [goTermS, gsTermS, getD_rep]
  try rfl
theorem v34 (x : VMsg) (hb : szMsg x ≤ 1048576) : E 34 [slMsg x] [] = some (owMsg x, []) := by
  refine ev1 0 rfl ?_
  rw [e34]
theorem v9 (x : VCall) (hb : szCall x ≤ 1048576) : E 9 [slCall x] [] = some (owCall x, []) := by
  refine ev1 0 rfl ?_
  rw [e9]
  unfold szCall at hb
  refine obind' (v34 x.Msg (by omega)) ?_
  refine obind' (v35 x.Filter (by omega)) ?_
  exact bt (by simp [okT_eq, okU_eq, okV_eq, okW_eq])
theorem set_CallS {os : List VCall} {k : Nat} {v : VCall} (h : k < os.length) : (fun i => lstG [nI (bif decide (i = k) then v.Op else (os.getD i zCall).Op), nI (bif decide (i = k) then v.A else (os.getD i zCall).A), nI (bif decide (i = k) then v.B else (os.getD i zCall).B), nI (bif decide (i = k) then v.Tok else (os.getD i zCall).Tok), AV.S (bif decide (i = k) then v.Name else (os.getD i zCall).Name), nI (bif decide (i = k) then v.Msg.Kind else (os.getD i zCall).Msg.Kind), nI (bif decide (i = k) then v.Msg.Num else (os.getD i zCall).Msg.Num), AV.S (bif decide (i = k) then v.Msg.Text else (os.getD i zCall).Msg.Text), AV.own (bif decide (i = k) then (v.Filter).length else ((os.getD i zCall).Filter).length) 3 (fun j0 => lstG [nI (bif decide (i = k) then ((v.Filter).getD j0 zTerm).Op else (((os.getD i zCall).Filter).getD j0 zTerm).Op), nI (bif decide (i = k) then ((v.Filter).getD j0 zTerm).Num else (((os.getD i zCall).Filter).getD j0 zTerm).Num), AV.S (bif decide (i = k) then ((v.Filter).getD j0 zTerm).Text else (((os.getD i zCall).Filter).getD j0 zTerm).Text)])]) = goCallS (os.set k v) := by
  funext i
  unfold goCallS
  rw [getD_set h]
  by_cases hi : i = k
  · subst hi; simp only [decide_true, cond_true, if_true, gsTermS]; try rfl
  · simp only [hi, decide_false, cond_false, if_false, gsTermS]; try rfl
theorem l14 (x : (List VCall)) (hb : szCallS x ≤ 1048576) : ∀ (m i : Nat) (os : (List VCall)), i + m = x.length → os.length = x.length → (∀ j, j < i → os.getD j zCall = x.getD j zCall) →
    HH 14 [] (m + 1) [true, true, false, true] (hdS [(0, slCallS x), (3, .rf 290816), (4, nI (i : Int))] [(290816, ⟨os.length, 9, goCallS os⟩)] []) = some (owCallS x, []) := by
  have hlen : x.length ≤ 1048576 := sumL_len hb
  intro m
  induction m with
  | zero =>
    intro i os hi hl ho
    have : os = x := list_ext_getD (d := zCall) hl fun j hj => ho j (by omega)
    subst this
    rw [hstep, h14, bf (by simp [zN] <;> omega)]
    exact bt (by simp [okT_eq, okU_eq, okV_eq, okW_eq])
  | succ m ih =>
    intro i os hi hl ho
    rw [hstep, h14, bt (by simp [zN] <;> omega), bt (by simp [zN] <;> omega), wrapN (by omega)]
    simp only [Int.toNat_natCast]
    refine obind' (v9 (x.getD i zCall) (sumL_get hb (by omega))) (bt' (by simp [zN] <;> omega) ?_)
    refine (congrArg (fun G => HH 14 [] (m + 1) [true, true, false, true] (hdS [(0, slCallS x), (3, .rf 290816), (4, nI ((i + 1 : Nat) : Int))] [(290816, ⟨os.length, 9, G⟩)] [])) (set_CallS (os := os) (k := i) (v := x.getD i zCall) (by omega))).trans ?_
    have := ih (i + 1) (os.set i (x.getD i zCall)) (by omega) (by simpa using hl) (fun j hj => by
      rw [getD_set (by omega)]
      by_cases hji : j = i
      · subst hji; simp
      · rw [if_neg hji]; exact ho j (by omega))
    rw [List.length_set] at this
    exact this
theorem v14 (x : (List VCall)) (hb : szCallS x ≤ 1048576) : E 14 [slCallS x] [] = some (owCallS x, []) := by
  have hlen : x.length ≤ 1048576 := sumL_len hb
  refine ev1 (x.length + 1) rfl ?_
  rw [e14, bt (by simp [zN] <;> omega)]
  have := l14 x hb x.length 0 (List.replicate x.length zCall) (by omega) (by simp) (fun j hj => by omega)
  rw [List.length_replicate] at this
  refine Eq.trans ?_ this
  refine congrArg (fun G => HH 14 [] (x.length + 1) [true, true, false, true] (hdS [(0, slCallS x), (3, .rf 290816), (4, nI 0)] [(290816, ⟨x.length, 9, G⟩)] [])) ?_
  funext i
  simp only [goCallS, gsCallS, getD_rep]
  try rfl
theorem w69 (x : VTerm) (hb : szTerm x ≤ 1048576) : E 69 [slTerm x, slTerm x] [] = some (.B true, []) := by
  refine ev1 0 rfl ?_
  rw [e69]
  refine bf' (by simp) ?_
  refine bf' (by simp) ?_
  refine bf' (by simp) ?_
  rfl
theorem m40 (x : (List VTerm)) (hb : szTermS x ≤ 1048576) : ∀ (m i : Nat), i + m = x.length →
    HH 40 [] (m + 1) [true, true, false, true] (hdS [(0, slTermS x), (1, slTermS x), (5, nI (i : Int))] [] []) = some (.B true, []) := by
  have hlen : x.length ≤ 1048576 := sumL_len hb
  intro m
  induction m with
  | zero => intro i hi; rw [hstep, h40, bf (by simp [zN] <;> omega)]
  | succ m ih =>
    intro i hi
    rw [hstep, h40, bt (by simp [zN] <;> omega), bt (by simp [zN] <;> omega), bt (by simp [zN] <;> omega), wrapN (by omega)]
    simp only [Int.toNat_natCast]
    refine obind' (w69 (x.getD i zTerm) (sumL_get hb (by omega))) (bf' rfl ?_)
    exact ih (i + 1) (by omega)
theorem w40 (x : (List VTerm)) (hb : szTermS x ≤ 1048576) : E 40 [slTermS x, slTermS x] [] = some (.B true, []) := by
  refine ev1 (x.length + 1) rfl ?_
  rw [e40, bf (by simp)]
  exact m40 x hb x.length 0 (by omega)
theorem w39 (x : VMsg) (hb : szMsg x ≤ 1048576) : E 39 [slMsg x, slMsg x] [] = some (.B true, []) := by
  refine ev1 0 rfl ?_
  rw [e39]
  refine bf' (by simp) ?_
  refine bf' (by simp) ?_
  refine bf' (by simp) ?_
  rfl
theorem w11 (x : VCall) (hb : szCall x ≤ 1048576) : E 11 [slCall x, slCall x] [] = some (.B true, []) := by
  refine ev1 0 rfl ?_
  rw [e11]
  unfold szCall at hb
  refine bf' (by simp) ?_
  refine bf' (by simp) ?_
  refine bf' (by simp) ?_
  refine bf' (by simp) ?_
  refine bf' (by simp) ?_
  refine obind' (w39 x.Msg (by omega)) (bf' rfl ?_)
  refine obind' (w40 x.Filter (by omega)) (bf' rfl ?_)
  rfl
theorem m16 (x : (List VCall)) (hb : szCallS x ≤ 1048576) : ∀ (m i : Nat), i + m = x.length →
    HH 16 [] (m + 1) [true, true, false, true] (hdS [(0, slCallS x), (1, slCallS x), (5, nI (i : Int))] [] []) = some (.B true, []) := by
  have hlen : x.length ≤ 1048576 := sumL_len hb
  intro m
  induction m with
  | zero => intro i hi; rw [hstep, h16, bf (by simp [zN] <;> omega)]
  | succ m ih =>
    intro i hi
    rw [hstep, h16, bt (by simp [zN] <;> omega), bt (by simp [zN] <;> omega), bt (by simp [zN] <;> omega), wrapN (by omega)]
    simp only [Int.toNat_natCast]
    refine obind' (w11 (x.getD i zCall) (sumL_get hb (by omega))) (bf' rfl ?_)
    exact ih (i + 1) (by omega)
theorem w16 (x : (List VCall)) (hb : szCallS x ≤ 1048576) : E 16 [slCallS x, slCallS x] [] = some (.B true, []) := by
  refine ev1 (x.length + 1) rfl ?_
  rw [e16, bf (by simp)]
  exact m16 x hb x.length 0 (by omega)
theorem app_StrS {os : List ByteArray} {v : ByteArray} : (fun i => lstG [AV.S (bif decide (i < os.length) then (os.getD i ByteArray.empty) else bif decide (i - os.length = 0) then v else ByteArray.empty)]) = goStrS (os ++ [v]) := by
  funext i
  unfold goStrS gsStrS
  rw [getD_app]
  by_cases hi : i < os.length
  · simp only [hi, decide_true, cond_true, if_true]; try rfl
  · by_cases h2 : i = os.length
    · have h3 : i - os.length = 0 := by omega
      simp only [hi, h2, Nat.sub_self, Nat.lt_irrefl, decide_true, decide_false, cond_true, cond_false, if_true, if_false]; try rfl
    · have h3 : ¬ i - os.length = 0 := by omega
      simp only [hi, h2, h3, decide_false, cond_false, if_false]; try rfl
end Go.Fw
