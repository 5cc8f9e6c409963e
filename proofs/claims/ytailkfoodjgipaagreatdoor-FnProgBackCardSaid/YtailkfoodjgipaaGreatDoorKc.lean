/- Values of sizes, copies and comparisons. -/
import Derived.Test.YtailkfoodjgipaaGreatDoorKb
import Derived.Test.YtailkfoodjgipaaGreatDoorKa
import Derived.Laws.BitsLemmas
set_option linter.unusedVariables false
set_option linter.unusedSimpArgs false
namespace Go.Fw
open Go.Proofs
noncomputable abbrev E : Orc := ev Tryz.prog cfg
noncomputable abbrev HH (f : Nat) (exts : List AV) (n : Nat) : Hd := HF Tryz.prog cfg E f exts n
theorem ev1 {f : Nat} {args exts : List AV} {r : AV × List AV} (n : Nat) (hn : (cfg.nil f && isSl args || cfg.outF f) = false) (e : ent Tryz.prog cfg E f (HH f exts n) args exts = some r) : E f args exts = some r := ev_ent hn e
theorem hstep (f : Nat) (exts : List AV) (n : Nat) (q : List Bool) (st : St) : HH f exts (n + 1) q st = hed Tryz.prog cfg E f (HH f exts n) exts q st := rfl
theorem bt {α : Type} {c : Bool} {x y : α} (h : c = true) : (bif c then x else y) = x := by subst h; rfl
theorem bf {α : Type} {c : Bool} {x y : α} (h : c = false) : (bif c then x else y) = y := by subst h; rfl
theorem bt' {α : Type} {c : Bool} {x y r : α} (h : c = true) (h' : x = r) : (bif c then x else y) = r := by subst h; exact h'
theorem bf' {α : Type} {c : Bool} {x y r : α} (h : c = false) (h' : y = r) : (bif c then x else y) = r := by subst h; exact h'
theorem obind {α β : Type} {x : Option α} {a : α} {f : α → Option β} (h : x = some a) : Option.bind x f = f a := by subst h; rfl
theorem obind' {α β : Type} {x : Option α} {a : α} {f : α → Option β} {r : Option β} (h : x = some a) (h' : f a = r) : Option.bind x f = r := by subst h; exact h'
theorem and2_both {R : Type} {x y r : Option R} (h : x = r) (h' : y = r) : and2 x y = r := by subst h h'; simp [and2]
theorem wrapS {x : Int} (h1 : -9223372036854775808 ≤ x) (h2 : x ≤ 9223372036854775807) : IntKind.i64.wrap x = x := by rw [IntKind.wrap_i64]; omega
theorem wrapN {i : Nat} (h : i ≤ 4611686018427387904) : IntKind.i64.wrap ((i : Int) + 1) = ((i + 1 : Nat) : Int) := by rw [wrapS] <;> omega
theorem list_ext_getD {α : Type} {d : α} {xs ys : List α} (hl : xs.length = ys.length) (h : ∀ i, i < xs.length → xs.getD i d = ys.getD i d) : xs = ys := by
  apply List.ext_getElem?
  intro i
  by_cases hi : i < xs.length
  · have := h i hi
    simp [List.getD_eq_getElem?_getD, hi, hl ▸ hi] at this
    simp [hi, hl ▸ hi, this]
  · simp [List.getElem?_eq_none (Nat.le_of_not_lt hi), List.getElem?_eq_none (hl ▸ Nat.le_of_not_lt hi)]
theorem getD_set {α : Type} {d v : α} {xs : List α} {k i : Nat} (h : k < xs.length) : (xs.set k v).getD i d = if i = k then v else xs.getD i d := by
  by_cases hi : i = k
  · subst hi; simp [List.getD_eq_getElem?_getD, h]
  · simp [List.getD_eq_getElem?_getD, hi, Ne.symm hi]
theorem getD_app {α : Type} {d v : α} {xs : List α} {i : Nat} : (xs ++ [v]).getD i d = if i < xs.length then xs.getD i d else if i = xs.length then v else d := by
  by_cases h : i < xs.length
  · simp [List.getD_eq_getElem?_getD, h, List.getElem?_append_left h]
  · rw [if_neg h]
    by_cases h2 : i = xs.length
    · subst h2; simp [List.getD_eq_getElem?_getD]
    · rw [if_neg h2]
      have : (xs ++ [v])[i]? = none := List.getElem?_eq_none (by simp; omega)
      rw [List.getD_eq_getElem?_getD, this]; rfl
theorem getD_rep {α : Type} {d : α} {n i : Nat} : (List.replicate n d).getD i d = d := by
  simp [List.getD_eq_getElem?_getD, List.getElem?_replicate]; split <;> rfl
theorem drop_getD {α : Type} {d : α} {xs : List α} {i : Nat} (h : i < xs.length) : xs.drop i = xs.getD i d :: xs.drop (i + 1) := by
  rw [List.drop_eq_getElem_cons h]; simp [List.getD_eq_getElem?_getD, h]
theorem getD_mem {α : Type} {d : α} {xs : List α} {i : Nat} (h : i < xs.length) : xs.getD i d ∈ xs := by
  simp [List.getD_eq_getElem?_getD, h]
/-- What is left of 'a' behind 'n'; -1 where it is not enough. -/
def subZ (a : Int) (n : Nat) : Int := if (n : Int) ≤ a then a - n else -1
theorem subZ_le {a : Int} {n : Nat} (h : (n : Int) ≤ a) : subZ a n = a - n := if_pos h
theorem subZ_add {a : Int} {n s : Nat} (h : (n : Int) ≤ a) : subZ (a - (n : Int)) s = subZ a (n + s) := by
  unfold subZ
  by_cases h2 : (s : Int) ≤ a - n
  · rw [if_pos h2, if_pos (by omega)]; omega
  · rw [if_neg h2, if_neg (by omega)]
theorem subZ_big {a : Int} {n s : Nat} (h : ¬ (n : Int) ≤ a) : subZ a (n + s) = -1 := by unfold subZ; rw [if_neg (by omega)]
theorem subZ_gt {a : Int} {n : Nat} (h : ¬ (n : Int) ≤ a) : subZ a n = -1 := if_neg h
def sumL {α : Type} (f : α → Nat) (xs : List α) : Nat := xs.length + (xs.map f).sum
theorem sumL_len {α : Type} {f : α → Nat} {xs : List α} {b : Nat} (h : sumL f xs ≤ b) : xs.length ≤ b := by unfold sumL at h; omega
theorem sumL_get {α : Type} {f : α → Nat} {xs : List α} {b i : Nat} {d : α} (h : sumL f xs ≤ b) (hi : i < xs.length) : f (xs.getD i d) ≤ b := by
  have key : ∀ (ys : List α) (y : α), y ∈ ys → f y ≤ (ys.map f).sum := fun ys => by
    induction ys with
    | nil => intro y hy; simp at hy
    | cons a ys ih =>
      intro y hy
      simp only [List.map_cons, List.sum_cons]
      rcases List.mem_cons.1 hy with rfl | hy
      · omega
      · have := ih y hy; omega
  have := key xs _ (getD_mem (d := d) hi)
  unfold sumL at h; omega
theorem resI {x y : Int} (h : x = y) : (some (AV.I .i64 x, ([] : List AV)) : Option (AV × List AV)) = some (AV.I .i64 y, []) := by rw [h]
def szTerm (x : VTerm) : Nat := x.Text.size
def okTerm (x : VTerm) : Prop := x.Text.size ≤ 9223372036854775807
abbrev szTermS (xs : List VTerm) : Nat := sumL szTerm xs
def okTermS (xs : List VTerm) : Prop := xs.length ≤ 9223372036854775807 ∧ ∀ x ∈ xs, okTerm x
def szMsg (x : VMsg) : Nat := x.Text.size
def okMsg (x : VMsg) : Prop := x.Text.size ≤ 9223372036854775807
def szCall (x : VCall) : Nat := x.Name.size + (szMsg x.Msg) + (szTermS x.Filter)
def okCall (x : VCall) : Prop := x.Name.size ≤ 9223372036854775807 ∧ okMsg x.Msg ∧ okTermS x.Filter
abbrev szCallS (xs : List VCall) : Nat := sumL szCall xs
def okCallS (xs : List VCall) : Prop := xs.length ≤ 9223372036854775807 ∧ ∀ x ∈ xs, okCall x
theorem set_TermS {os : List VTerm} {k : Nat} {v : VTerm} (h : k < os.length) : (fun i => lstG [nI (bif decide (i = k) then v.Op else (os.getD i zTerm).Op), nI (bif decide (i = k) then v.Num else (os.getD i zTerm).Num), AV.S (bif decide (i = k) then v.Text else (os.getD i zTerm).Text)]) = goTermS (os.set k v) := by
  funext i
  unfold goTermS gsTermS
  rw [getD_set h]
  by_cases hi : i = k
  · subst hi; simp only [decide_true, cond_true, if_true]; try rfl
  · simp only [hi, decide_false, cond_false, if_false]; try rfl
theorem set_CallS {os : List VCall} {k : Nat} {v : VCall} (h : k < os.length) : (fun i => lstG [nI (bif decide (i = k) then v.Op else (os.getD i zCall).Op), nI (bif decide (i = k) then v.A else (os.getD i zCall).A), nI (bif decide (i = k) then v.B else (os.getD i zCall).B), nI (bif decide (i = k) then v.Tok else (os.getD i zCall).Tok), AV.S (bif decide (i = k) then v.Name else (os.getD i zCall).Name), nI (bif decide (i = k) then v.Msg.Kind else (os.getD i zCall).Msg.Kind), nI (bif decide (i = k) then v.Msg.Num else (os.getD i zCall).Msg.Num), AV.S (bif decide (i = k) then v.Msg.Text else (os.getD i zCall).Msg.Text), AV.own (bif decide (i = k) then (v.Filter).length else ((os.getD i zCall).Filter).length) 3 (fun j0 => lstG [nI (bif decide (i = k) then ((v.Filter).getD j0 zTerm).Op else (((os.getD i zCall).Filter).getD j0 zTerm).Op), nI (bif decide (i = k) then ((v.Filter).getD j0 zTerm).Num else (((os.getD i zCall).Filter).getD j0 zTerm).Num), AV.S (bif decide (i = k) then ((v.Filter).getD j0 zTerm).Text else (((os.getD i zCall).Filter).getD j0 zTerm).Text)])]) = goCallS (os.set k v) := by
  funext i
  unfold goCallS
  rw [getD_set h]
  by_cases hi : i = k
  · subst hi; simp only [decide_true, cond_true, if_true, gsTermS]; try rfl
  · simp only [hi, decide_false, cond_false, if_false, gsTermS]; try rfl
theorem app_StrS {os : List ByteArray} {v : ByteArray} : (fun i => lstG [AV.S (bif decide (i < os.length) then (os.getD i ByteArray.empty) else bif decide (i - os.length = 0) then v else ByteArray.empty)]) = goStrS (os ++ [v]) := by
  funext i
  unfold goStrS gsStrS
  rw [getD_app]
  by_cases hi : i < os.length
  · simp only [hi, decide_true, cond_true, if_true]; try rfl
  · by_cases h2 : i = os.length
    · have h3 : i - os.length = 0 := by omega
      simp only [hi, h2, Nat.sub_self, Nat.lt_irrefl, decide_true, decide_false, cond_true, cond_false, if_true, if_false]; try rfl
    · have h3 : ¬ i - os.length = 0 := by omega
      simp only [hi, h2, h3, decide_false, cond_false, if_false]; try rfl
end Go.Fw
