/- Values of sizes. -/
import Derived.Test.YtndmnbgcneaggaaGreatDoorKa
import Derived.Test.YtndmnbgcneaggaaGreatDoorFyD
import Derived.Laws.BitsLemmas
set_option linter.unusedVariables false
set_option linter.unusedSimpArgs false
namespace Go.Fw
open Go.Proofs
noncomputable abbrev E : Orc := ev Tryz.prog cfg
noncomputable abbrev HH (f : Nat) (exts : List AV) (n : Nat) : Hd := HF Tryz.prog cfg E f exts n
theorem ev1 {f : Nat} {args exts : List AV} {r : AV × List AV} (n : Nat) (hn : (cfg.nil f && isSl args || cfg.outF f) = false) (e : ent Tryz.prog cfg E f (HH f exts n) args exts = some r) : E f args exts = some r := ev_ent hn e
theorem hstep (f : Nat) (exts : List AV) (n : Nat) (q : List Bool) (st : St) : HH f exts (n + 1) q st = hed Tryz.prog cfg E f (HH f exts n) exts q st := rfl
theorem bt {α : Type} {c : Bool} {x y : α} (h : c = true) : (bif c then x else y) = x := by subst h; rfl
theorem bf {α : Type} {c : Bool} {x y : α} (h : c = false) : (bif c then x else y) = y := by subst h; rfl
theorem bt' {α : Type} {c : Bool} {x y r : α} (h : c = true) (h' : x = r) : (bif c then x else y) = r := by subst h; exact h'
theorem bf' {α : Type} {c : Bool} {x y r : α} (h : c = false) (h' : y = r) : (bif c then x else y) = r := by subst h; exact h'
theorem obind {α β : Type} {x : Option α} {a : α} {f : α → Option β} (h : x = some a) : Option.bind x f = f a := by subst h; rfl
theorem obind' {α β : Type} {x : Option α} {a : α} {f : α → Option β} {r : Option β} (h : x = some a) (h' : f a = r) : Option.bind x f = r := by subst h; exact h'
theorem wrapS {x : Int} (h1 : -9223372036854775808 ≤ x) (h2 : x ≤ 9223372036854775807) : IntKind.i64.wrap x = x := by rw [IntKind.wrap_i64]; omega
theorem wrapN {i : Nat} (h : i ≤ 4611686018427387904) : IntKind.i64.wrap ((i : Int) + 1) = ((i + 1 : Nat) : Int) := by rw [wrapS] <;> omega
theorem list_ext_getD {α : Type} {d : α} {xs ys : List α} (hl : xs.length = ys.length) (h : ∀ i, i < xs.length → xs.getD i d = ys.getD i d) : xs = ys := by
 apply List.ext_getElem?
 intro i
 by_cases hi : i < xs.length
 · have := h i hi
   simp [List.getD_eq_getElem?_getD, hi, hl ▸ hi] at this
   simp [hi, hl ▸ hi, this]
 · simp [List.getElem?_eq_none (Nat.le_of_not_lt hi), List.getElem?_eq_none (hl ▸ Nat.le_of_not_lt hi)]
theorem getD_set {α : Type} {d v : α} {xs : List α} {k i : Nat} (h : k < xs.length) : (xs.set k v).getD i d = if i = k then v else xs.getD i d := by
 by_cases hi : i = k
 · subst hi; simp [List.getD_eq_getElem?_getD, h]
 · simp [List.getD_eq_getElem?_getD, hi, Ne.symm hi]
theorem getD_app {α : Type} {d v : α} {xs : List α} {i : Nat} : (xs ++ [v]).getD i d = if i < xs.length then xs.getD i d else if i = xs.length then v else d := by
 by_cases h : i < xs.length
 · simp [List.getD_eq_getElem?_getD, h, List.getElem?_append_left h]
 · rw [if_neg h]
   by_cases h2 : i = xs.length
   · subst h2; simp [List.getD_eq_getElem?_getD]
   · rw [if_neg h2]
     have : (xs ++ [v])[i]? = none := List.getElem?_eq_none (by simp; omega)
     rw [List.getD_eq_getElem?_getD, this]; rfl
theorem getD_rep {α : Type} {d : α} {n i : Nat} : (List.replicate n d).getD i d = d := by
 simp [List.getD_eq_getElem?_getD, List.getElem?_replicate]; split <;> rfl
theorem drop_getD {α : Type} {d : α} {xs : List α} {i : Nat} (h : i < xs.length) : xs.drop i = xs.getD i d :: xs.drop (i + 1) := by
 rw [List.drop_eq_getElem_cons h]; simp [List.getD_eq_getElem?_getD, h]
theorem getD_mem {α : Type} {d : α} {xs : List α} {i : Nat} (h : i < xs.length) : xs.getD i d ∈ xs := by
 simp [List.getD_eq_getElem?_getD, h]
def subZ (a : Int) (n : Nat) : Int := if (n : Int) ≤ a then a - n else -1
theorem subZ_le {a : Int} {n : Nat} (h : (n : Int) ≤ a) : subZ a n = a - n := if_pos h
theorem subZ_add {a : Int} {n s : Nat} (h : (n : Int) ≤ a) : subZ (a - (n : Int)) s = subZ a (n + s) := by
 unfold subZ
 by_cases h2 : (s : Int) ≤ a - n
 · rw [if_pos h2, if_pos (by omega)]; omega
 · rw [if_neg h2, if_neg (by omega)]
theorem subZ_big {a : Int} {n s : Nat} (h : ¬ (n : Int) ≤ a) : subZ a (n + s) = -1 := by unfold subZ; rw [if_neg (by omega)]
theorem subZ_gt {a : Int} {n : Nat} (h : ¬ (n : Int) ≤ a) : subZ a n = -1 := if_neg h
def sumL {α : Type} (f : α → Nat) (xs : List α) : Nat := xs.length + (xs.map f).sum
theorem sumL_len {α : Type} {f : α → Nat} {xs : List α} {b : Nat} (h : sumL f xs ≤ b) : xs.length ≤ b := by unfold sumL at h; omega
theorem sumL_get {α : Type} {f : α → Nat} {xs : List α} {b i : Nat} {d : α} (h : sumL f xs ≤ b) (hi : i < xs.length) : f (xs.getD i d) ≤ b := by
 have key : ∀ (ys : List α) (y : α), y ∈ ys → f y ≤ (ys.map f).sum := fun ys => by
  induction ys with
  | nil => intro y hy; simp at hy
  | cons a ys ih =>
   intro y hy
   simp only [List.map_cons, List.sum_cons]
   rcases List.mem_cons.1 hy with rfl | hy
   · omega
   · have := ih y hy; omega
 have := key xs _ (getD_mem (d := d) hi)
 unfold sumL at h; omega
theorem resI {x y : Int} (h : x = y) : (some (AV.I .i64 x, ([] : List AV)) : Option (AV × List AV)) = some (AV.I .i64 y, []) := by rw [h]
noncomputable abbrev L (f : Nat) (exts : List AV) : Hd := HL Tryz.prog cfg E f exts
theorem evK {f : Nat} {args exts : List AV} {r : AV × List AV} (hn : (cfg.nil f && isSl args || cfg.outF f) = false) (e : ent Tryz.prog cfg E f (L f exts) args exts = some r) : E f args exts = some r := ev_entL hn e
theorem lstep {f : Nat} {exts : List AV} {q : List Bool} {st : St} {x : AV × List AV} (e : hed Tryz.prog cfg E f (L f exts) exts q st = some x) : L f exts q st = some x := HL_step e
abbrev szIntS (xs : List Int) : Nat := sumL (fun _ => 0) xs
def okIntS (xs : List Int) : Prop := xs.length ≤ 9223372036854775807 ∧ ∀ x ∈ xs, True
abbrev szBoolS (xs : List Bool) : Nat := sumL (fun _ => 0) xs
def okBoolS (xs : List Bool) : Prop := xs.length ≤ 9223372036854775807 ∧ ∀ x ∈ xs, True
def szTokens (x : VTokens) : Nat := (szIntS x.Parents) + (szBoolS x.Off)
def okTokens (x : VTokens) : Prop := okIntS x.Parents ∧ okBoolS x.Off
abbrev szTimerS (xs : List VTimer) : Nat := sumL (fun _ => 0) xs
def okTimerS (xs : List VTimer) : Prop := xs.length ≤ 9223372036854775807 ∧ ∀ x ∈ xs, True
def szClock (x : VClock) : Nat := (szTimerS x.Timers)
def okClock (x : VClock) : Prop := okTimerS x.Timers
abbrev szGrantS (xs : List VGrant) : Nat := sumL (fun _ => 0) xs
def okGrantS (xs : List VGrant) : Prop := xs.length ≤ 9223372036854775807 ∧ ∀ x ∈ xs, True
def szNotify (x : VNotify) : Nat := (szIntS x.Line) + (szGrantS x.Grants)
def okNotify (x : VNotify) : Prop := okIntS x.Line ∧ okGrantS x.Grants
abbrev szNotifyS (xs : List VNotify) : Nat := sumL szNotify xs
def okNotifyS (xs : List VNotify) : Prop := xs.length ≤ 9223372036854775807 ∧ ∀ x ∈ xs, okNotify x
def szEvent (x : VEvent) : Nat := (szIntS x.Line) + (szIntS x.Grants)
def okEvent (x : VEvent) : Prop := okIntS x.Line ∧ okIntS x.Grants
abbrev szEventS (xs : List VEvent) : Nat := sumL szEvent xs
def okEventS (xs : List VEvent) : Prop := xs.length ≤ 9223372036854775807 ∧ ∀ x ∈ xs, okEvent x
def szLatch (x : VLatch) : Nat := (szIntS x.Line) + (szIntS x.Grants)
def okLatch (x : VLatch) : Prop := okIntS x.Line ∧ okIntS x.Grants
abbrev szLatchS (xs : List VLatch) : Nat := sumL szLatch xs
def okLatchS (xs : List VLatch) : Prop := xs.length ≤ 9223372036854775807 ∧ ∀ x ∈ xs, okLatch x
def szMsg (x : VMsg) : Nat := x.Text.size
def okMsg (x : VMsg) : Prop := x.Text.size ≤ 9223372036854775807
abbrev szMsgS (xs : List VMsg) : Nat := sumL szMsg xs
def okMsgS (xs : List VMsg) : Prop := xs.length ≤ 9223372036854775807 ∧ ∀ x ∈ xs, okMsg x
def szCell (x : VCell) : Nat := (szMsg x.Val) + (szIntS x.Line) + (szIntS x.Grants)
def okCell (x : VCell) : Prop := okMsg x.Val ∧ okIntS x.Line ∧ okIntS x.Grants
abbrev szCellS (xs : List VCell) : Nat := sumL szCell xs
def okCellS (xs : List VCell) : Prop := xs.length ≤ 9223372036854775807 ∧ ∀ x ∈ xs, okCell x
def szTerm (x : VTerm) : Nat := x.Text.size
def okTerm (x : VTerm) : Prop := x.Text.size ≤ 9223372036854775807
abbrev szTermS (xs : List VTerm) : Nat := sumL szTerm xs
def okTermS (xs : List VTerm) : Prop := xs.length ≤ 9223372036854775807 ∧ ∀ x ∈ xs, okTerm x
def szSub (x : VSub) : Nat := (szTermS x.Filter)
def okSub (x : VSub) : Prop := okTermS x.Filter
abbrev szSubS (xs : List VSub) : Nat := sumL szSub xs
def okSubS (xs : List VSub) : Prop := xs.length ≤ 9223372036854775807 ∧ ∀ x ∈ xs, okSub x
def szRing (x : VRing) : Nat := (szMsgS x.Items) + (szSubS x.Subs) + (szIntS x.Line) + (szIntS x.Grants)
def okRing (x : VRing) : Prop := okMsgS x.Items ∧ okSubS x.Subs ∧ okIntS x.Line ∧ okIntS x.Grants
def szTopic (x : VTopic) : Nat := x.Name.size + (szRing x.Ring)
def okTopic (x : VTopic) : Prop := x.Name.size ≤ 9223372036854775807 ∧ okRing x.Ring
abbrev szTopicS (xs : List VTopic) : Nat := sumL szTopic xs
def okTopicS (xs : List VTopic) : Prop := xs.length ≤ 9223372036854775807 ∧ ∀ x ∈ xs, okTopic x
abbrev szLegS (xs : List VLeg) : Nat := sumL (fun _ => 0) xs
def okLegS (xs : List VLeg) : Prop := xs.length ≤ 9223372036854775807 ∧ ∀ x ∈ xs, True
def szMerge (x : VMerge) : Nat := (szLegS x.Legs)
def okMerge (x : VMerge) : Prop := okLegS x.Legs
abbrev szMergeS (xs : List VMerge) : Nat := sumL szMerge xs
def okMergeS (xs : List VMerge) : Prop := xs.length ≤ 9223372036854775807 ∧ ∀ x ∈ xs, okMerge x
abbrev szHitS (xs : List VHit) : Nat := sumL (fun _ => 0) xs
def okHitS (xs : List VHit) : Prop := xs.length ≤ 9223372036854775807 ∧ ∀ x ∈ xs, True
def szUser (x : VUser) : Nat := (szHitS x.Subs) + (szIntS x.Seen)
def okUser (x : VUser) : Prop := okHitS x.Subs ∧ okIntS x.Seen
abbrev szUserS (xs : List VUser) : Nat := sumL szUser xs
def okUserS (xs : List VUser) : Prop := xs.length ≤ 9223372036854775807 ∧ ∀ x ∈ xs, okUser x
def szHub (x : VHub) : Nat := (szTokens x.Tokens) + (szClock x.Clock) + (szNotifyS x.Notes) + (szEventS x.Events) + (szLatchS x.Latches) + (szCellS x.Cells) + (szTopicS x.Topics) + (szMergeS x.Merges) + (szUserS x.Users)
def okHub (x : VHub) : Prop := okTokens x.Tokens ∧ okClock x.Clock ∧ okNotifyS x.Notes ∧ okEventS x.Events ∧ okLatchS x.Latches ∧ okCellS x.Cells ∧ okTopicS x.Topics ∧ okMergeS x.Merges ∧ okUserS x.Users
def szCall (x : VCall) : Nat := x.Name.size + (szMsg x.Msg) + (szTermS x.Filter)
def okCall (x : VCall) : Prop := x.Name.size ≤ 9223372036854775807 ∧ okMsg x.Msg ∧ okTermS x.Filter
abbrev szCallS (xs : List VCall) : Nat := sumL szCall xs
def okCallS (xs : List VCall) : Prop := xs.length ≤ 9223372036854775807 ∧ ∀ x ∈ xs, okCall x
def szClient (x : VClient) : Nat := (szCallS x.Prog)
def okClient (x : VClient) : Prop := okCallS x.Prog
abbrev szClientS (xs : List VClient) : Nat := sumL szClient xs
def okClientS (xs : List VClient) : Prop := xs.length ≤ 9223372036854775807 ∧ ∀ x ∈ xs, okClient x
def szState (x : VState) : Nat := (szHub x.Hub) + (szClientS x.Clients)
def okState (x : VState) : Prop := okHub x.Hub ∧ okClientS x.Clients
theorem v108 (x : (List Int)) (a : Int) (ok : okIntS x) (h0 : 0 ≤ a) (h1 : a ≤ 1048576) : E 108 [slIntS x, nI a] [] = some (nI (subZ a (szIntS x)), []) := by
 obtain ⟨ok1, ok2⟩ := ok
 have w1 : IntKind.i64.wrap (a - zN x.length) = a - zN x.length := wrapS (by simp only [zN]; omega) (by simp only [zN]; omega)
 have hs : szIntS x = x.length := by
  have : ∀ ys : List Int, (ys.map (fun _ => (0:Nat))).sum = 0 := fun ys => by induction ys <;> simp_all
  simp [szIntS, sumL, this]
 refine ev1 0 rfl ?_
 rw [e108]; simp only [w1, hs]
 by_cases c : (x.length : Int) ≤ a
 · rw [subZ_le c]; exact bf (decide_eq_false (by simp only [zN]; omega))
 · rw [subZ_gt c]; exact bt (decide_eq_true (by simp only [zN]; omega))
theorem v109 (x : (List Bool)) (a : Int) (ok : okBoolS x) (h0 : 0 ≤ a) (h1 : a ≤ 1048576) : E 109 [slBoolS x, nI a] [] = some (nI (subZ a (szBoolS x)), []) := by
 obtain ⟨ok1, ok2⟩ := ok
 have w1 : IntKind.i64.wrap (a - zN x.length) = a - zN x.length := wrapS (by simp only [zN]; omega) (by simp only [zN]; omega)
 have hs : szBoolS x = x.length := by
  have : ∀ ys : List Bool, (ys.map (fun _ => (0:Nat))).sum = 0 := fun ys => by induction ys <;> simp_all
  simp [szBoolS, sumL, this]
 refine ev1 0 rfl ?_
 rw [e109]; simp only [w1, hs]
 by_cases c : (x.length : Int) ≤ a
 · rw [subZ_le c]; exact bf (decide_eq_false (by simp only [zN]; omega))
 · rw [subZ_gt c]; exact bt (decide_eq_true (by simp only [zN]; omega))
theorem v34 (x : VTokens) (a : Int) (ok : okTokens x) (h0 : 0 ≤ a) (h1 : a ≤ 1048576) : E 34 [slTokens x, nI a] [] = some (nI (subZ a (szTokens x)), []) := by
 refine ev1 0 rfl ?_
 rw [e34]
 unfold okTokens at ok
 unfold szTokens
 obtain ⟨ok0, ok1⟩ := ok
 have q0 := v108 x.Parents (a) ok0 (by omega) (by omega)
 by_cases c0 : ((szIntS x.Parents) : Int) ≤ a
 case neg =>
  rw [subZ_gt c0] at q0
  exact obind' q0 (bt' rfl (resI (by unfold subZ; rw [if_neg (by omega)])))
 rw [subZ_le c0] at q0
 refine obind' q0 (bf' (decide_eq_false (by show ¬ (a - ((szIntS x.Parents) : Int) < 0); omega)) ?_)
 have q1 := v109 x.Off (a - ((szIntS x.Parents) : Int)) ok1 (by omega) (by omega)
 by_cases c1 : ((szBoolS x.Off) : Int) ≤ a - ((szIntS x.Parents) : Int)
 case neg =>
  rw [subZ_gt c1] at q1
  exact obind' q1 (bt' rfl (resI (by unfold subZ; rw [if_neg (by omega)])))
 rw [subZ_le c1] at q1
 refine obind' q1 (bf' (decide_eq_false (by show ¬ (a - ((szIntS x.Parents) : Int) - ((szBoolS x.Off) : Int) < 0); omega)) ?_)
 exact resI (by unfold subZ; rw [if_pos (by omega)]; show a - ((szIntS x.Parents) : Int) - ((szBoolS x.Off) : Int) = _; omega)
theorem v110 (x : (List VTimer)) (a : Int) (ok : okTimerS x) (h0 : 0 ≤ a) (h1 : a ≤ 1048576) : E 110 [slTimerS x, nI a] [] = some (nI (subZ a (szTimerS x)), []) := by
 obtain ⟨ok1, ok2⟩ := ok
 have w1 : IntKind.i64.wrap (a - zN x.length) = a - zN x.length := wrapS (by simp only [zN]; omega) (by simp only [zN]; omega)
 have hs : szTimerS x = x.length := by
  have : ∀ ys : List VTimer, (ys.map (fun _ => (0:Nat))).sum = 0 := fun ys => by induction ys <;> simp_all
  simp [szTimerS, sumL, this]
 refine ev1 0 rfl ?_
 rw [e110]; simp only [w1, hs]
 by_cases c : (x.length : Int) ≤ a
 · rw [subZ_le c]; exact bf (decide_eq_false (by simp only [zN]; omega))
 · rw [subZ_gt c]; exact bt (decide_eq_true (by simp only [zN]; omega))
theorem v35 (x : VClock) (a : Int) (ok : okClock x) (h0 : 0 ≤ a) (h1 : a ≤ 1048576) : E 35 [slClock x, nI a] [] = some (nI (subZ a (szClock x)), []) := by
 refine ev1 0 rfl ?_
 rw [e35]
 unfold okClock at ok
 unfold szClock
 have ok0 := ok
 have q0 := v110 x.Timers (a) ok0 (by omega) (by omega)
 by_cases c0 : ((szTimerS x.Timers) : Int) ≤ a
 case neg =>
  rw [subZ_gt c0] at q0
  exact obind' q0 (bt' rfl (resI (by unfold subZ; rw [if_neg (by omega)])))
 rw [subZ_le c0] at q0
 refine obind' q0 (bf' (decide_eq_false (by show ¬ (a - ((szTimerS x.Timers) : Int) < 0); omega)) ?_)
 exact resI (by unfold subZ; rw [if_pos (by omega)]; show a - ((szTimerS x.Timers) : Int) = _; omega)
theorem v186 (x : (List VGrant)) (a : Int) (ok : okGrantS x) (h0 : 0 ≤ a) (h1 : a ≤ 1048576) : E 186 [slGrantS x, nI a] [] = some (nI (subZ a (szGrantS x)), []) := by
 obtain ⟨ok1, ok2⟩ := ok
 have w1 : IntKind.i64.wrap (a - zN x.length) = a - zN x.length := wrapS (by simp only [zN]; omega) (by simp only [zN]; omega)
 have hs : szGrantS x = x.length := by
  have : ∀ ys : List VGrant, (ys.map (fun _ => (0:Nat))).sum = 0 := fun ys => by induction ys <;> simp_all
  simp [szGrantS, sumL, this]
 refine ev1 0 rfl ?_
 rw [e186]; simp only [w1, hs]
 by_cases c : (x.length : Int) ≤ a
 · rw [subZ_le c]; exact bf (decide_eq_false (by simp only [zN]; omega))
 · rw [subZ_gt c]; exact bt (decide_eq_true (by simp only [zN]; omega))
theorem v111 (x : VNotify) (a : Int) (ok : okNotify x) (h0 : 0 ≤ a) (h1 : a ≤ 1048576) : E 111 [slNotify x, nI a] [] = some (nI (subZ a (szNotify x)), []) := by
 refine ev1 0 rfl ?_
 rw [e111]
 unfold okNotify at ok
 unfold szNotify
 obtain ⟨ok0, ok1⟩ := ok
 have q0 := v108 x.Line (a) ok0 (by omega) (by omega)
 by_cases c0 : ((szIntS x.Line) : Int) ≤ a
 case neg =>
  rw [subZ_gt c0] at q0
  exact obind' q0 (bt' rfl (resI (by unfold subZ; rw [if_neg (by omega)])))
 rw [subZ_le c0] at q0
 refine obind' q0 (bf' (decide_eq_false (by show ¬ (a - ((szIntS x.Line) : Int) < 0); omega)) ?_)
 have q1 := v186 x.Grants (a - ((szIntS x.Line) : Int)) ok1 (by omega) (by omega)
 by_cases c1 : ((szGrantS x.Grants) : Int) ≤ a - ((szIntS x.Line) : Int)
 case neg =>
  rw [subZ_gt c1] at q1
  exact obind' q1 (bt' rfl (resI (by unfold subZ; rw [if_neg (by omega)])))
 rw [subZ_le c1] at q1
 refine obind' q1 (bf' (decide_eq_false (by show ¬ (a - ((szIntS x.Line) : Int) - ((szGrantS x.Grants) : Int) < 0); omega)) ?_)
 exact resI (by unfold subZ; rw [if_pos (by omega)]; show a - ((szIntS x.Line) : Int) - ((szGrantS x.Grants) : Int) = _; omega)
theorem l36 (x : (List VNotify)) (ok : okNotifyS x) : ∀ (m i : Nat) (a : Int), i + m = x.length → 0 ≤ a → a ≤ 1048576 → i ≤ 1048576 →
  x.length ≤ 1048576 → HH 36 [] (m + 1) [true, true, true, false, true] (hdS [(0, slNotifyS x), (1, nI a), (5, nI (i : Int))] [] []) = some (nI (subZ a ((x.drop i).map szNotify).sum), []) := by
 intro m
 induction m with
 | zero =>
  intro i a hi h0 h1 _ _
  rw [hstep, h36, bf (by simp [zN] <;> omega), List.drop_eq_nil_of_le (by omega)]
  exact resI (by unfold subZ; simp <;> omega)
 | succ m ih =>
  intro i a hi h0 h1 h2 h3
  rw [hstep, h36, bt (by simp [zN] <;> omega), bt (by simp [zN] <;> omega), wrapN (by omega)]
  simp only [Int.toNat_natCast]
  rw [drop_getD (d := zNotify) (show i < x.length by omega), List.map_cons, List.sum_cons]
  have q := v111 (x.getD i zNotify) a (ok.2 _ (getD_mem (by omega))) h0 h1
  by_cases c : (szNotify (x.getD i zNotify) : Int) ≤ a
  · rw [subZ_le c] at q
    refine obind' q (bf' (decide_eq_false (by show ¬ (a - szNotify (x.getD i zNotify) < 0); omega)) ?_)
    refine (ih (i + 1) (a - szNotify (x.getD i zNotify)) (by omega) (by omega) (by omega) (by omega) h3).trans (resI ?_)
    unfold subZ
    split <;> split <;> omega
  · rw [subZ_gt c] at q
    refine obind' q (bt' rfl (resI ?_))
    unfold subZ
    rw [if_neg (by omega)]
theorem v36 (x : (List VNotify)) (a : Int) (ok : okNotifyS x) (h0 : 0 ≤ a) (h1 : a ≤ 1048576) : E 36 [slNotifyS x, nI a] [] = some (nI (subZ a (szNotifyS x)), []) := by
 have ok1 := ok.1
 have w1 : IntKind.i64.wrap (a - zN x.length) = a - zN x.length := wrapS (by simp only [zN]; omega) (by simp only [zN]; omega)
 refine ev1 (x.length + 1) rfl ?_
 rw [e36]
 change (bif decide (IntKind.i64.wrap (a - zN x.length) < 0) then _ else _) = _
 by_cases c : (x.length : Int) ≤ a
 · refine bf' (decide_eq_false (by rw [w1]; simp only [zN]; omega)) ?_
   show HH 36 [] (x.length + 1) _ (hdS [(0, slNotifyS x), (1, nI (IntKind.i64.wrap (a - zN x.length))), (5, nI ((0 : Nat) : Int))] [] []) = _
   rw [w1]
   refine (l36 x ok x.length 0 (a - zN x.length) (by omega) (by simp only [zN]; omega) (by simp only [zN]; omega) (by omega) (by omega)).trans (resI (subZ_add c))
 · exact bt' (decide_eq_true (by rw [w1]; simp only [zN]; omega)) (resI (subZ_big c).symm)
theorem v112 (x : VEvent) (a : Int) (ok : okEvent x) (h0 : 0 ≤ a) (h1 : a ≤ 1048576) : E 112 [slEvent x, nI a] [] = some (nI (subZ a (szEvent x)), []) := by
 refine ev1 0 rfl ?_
 rw [e112]
 unfold okEvent at ok
 unfold szEvent
 obtain ⟨ok0, ok1⟩ := ok
 have q0 := v108 x.Line (a) ok0 (by omega) (by omega)
 by_cases c0 : ((szIntS x.Line) : Int) ≤ a
 case neg =>
  rw [subZ_gt c0] at q0
  exact obind' q0 (bt' rfl (resI (by unfold subZ; rw [if_neg (by omega)])))
 rw [subZ_le c0] at q0
 refine obind' q0 (bf' (decide_eq_false (by show ¬ (a - ((szIntS x.Line) : Int) < 0); omega)) ?_)
 have q1 := v108 x.Grants (a - ((szIntS x.Line) : Int)) ok1 (by omega) (by omega)
 by_cases c1 : ((szIntS x.Grants) : Int) ≤ a - ((szIntS x.Line) : Int)
 case neg =>
  rw [subZ_gt c1] at q1
  exact obind' q1 (bt' rfl (resI (by unfold subZ; rw [if_neg (by omega)])))
 rw [subZ_le c1] at q1
 refine obind' q1 (bf' (decide_eq_false (by show ¬ (a - ((szIntS x.Line) : Int) - ((szIntS x.Grants) : Int) < 0); omega)) ?_)
 exact resI (by unfold subZ; rw [if_pos (by omega)]; show a - ((szIntS x.Line) : Int) - ((szIntS x.Grants) : Int) = _; omega)
theorem l37 (x : (List VEvent)) (ok : okEventS x) : ∀ (m i : Nat) (a : Int), i + m = x.length → 0 ≤ a → a ≤ 1048576 → i ≤ 1048576 →
  x.length ≤ 1048576 → HH 37 [] (m + 1) [true, true, true, false, true] (hdS [(0, slEventS x), (1, nI a), (5, nI (i : Int))] [] []) = some (nI (subZ a ((x.drop i).map szEvent).sum), []) := by
 intro m
 induction m with
 | zero =>
  intro i a hi h0 h1 _ _
  rw [hstep, h37, bf (by simp [zN] <;> omega), List.drop_eq_nil_of_le (by omega)]
  exact resI (by unfold subZ; simp <;> omega)
 | succ m ih =>
  intro i a hi h0 h1 h2 h3
  rw [hstep, h37, bt (by simp [zN] <;> omega), bt (by simp [zN] <;> omega), wrapN (by omega)]
  simp only [Int.toNat_natCast]
  rw [drop_getD (d := zEvent) (show i < x.length by omega), List.map_cons, List.sum_cons]
  have q := v112 (x.getD i zEvent) a (ok.2 _ (getD_mem (by omega))) h0 h1
  by_cases c : (szEvent (x.getD i zEvent) : Int) ≤ a
  · rw [subZ_le c] at q
    refine obind' q (bf' (decide_eq_false (by show ¬ (a - szEvent (x.getD i zEvent) < 0); omega)) ?_)
    refine (ih (i + 1) (a - szEvent (x.getD i zEvent)) (by omega) (by omega) (by omega) (by omega) h3).trans (resI ?_)
    unfold subZ
    split <;> split <;> omega
  · rw [subZ_gt c] at q
    refine obind' q (bt' rfl (resI ?_))
    unfold subZ
    rw [if_neg (by omega)]
theorem v37 (x : (List VEvent)) (a : Int) (ok : okEventS x) (h0 : 0 ≤ a) (h1 : a ≤ 1048576) : E 37 [slEventS x, nI a] [] = some (nI (subZ a (szEventS x)), []) := by
 have ok1 := ok.1
 have w1 : IntKind.i64.wrap (a - zN x.length) = a - zN x.length := wrapS (by simp only [zN]; omega) (by simp only [zN]; omega)
 refine ev1 (x.length + 1) rfl ?_
 rw [e37]
 change (bif decide (IntKind.i64.wrap (a - zN x.length) < 0) then _ else _) = _
 by_cases c : (x.length : Int) ≤ a
 · refine bf' (decide_eq_false (by rw [w1]; simp only [zN]; omega)) ?_
   show HH 37 [] (x.length + 1) _ (hdS [(0, slEventS x), (1, nI (IntKind.i64.wrap (a - zN x.length))), (5, nI ((0 : Nat) : Int))] [] []) = _
   rw [w1]
   refine (l37 x ok x.length 0 (a - zN x.length) (by omega) (by simp only [zN]; omega) (by simp only [zN]; omega) (by omega) (by omega)).trans (resI (subZ_add c))
 · exact bt' (decide_eq_true (by rw [w1]; simp only [zN]; omega)) (resI (subZ_big c).symm)
theorem v113 (x : VLatch) (a : Int) (ok : okLatch x) (h0 : 0 ≤ a) (h1 : a ≤ 1048576) : E 113 [slLatch x, nI a] [] = some (nI (subZ a (szLatch x)), []) := by
 refine ev1 0 rfl ?_
 rw [e113]
 unfold okLatch at ok
 unfold szLatch
 obtain ⟨ok0, ok1⟩ := ok
 have q0 := v108 x.Line (a) ok0 (by omega) (by omega)
 by_cases c0 : ((szIntS x.Line) : Int) ≤ a
 case neg =>
  rw [subZ_gt c0] at q0
  exact obind' q0 (bt' rfl (resI (by unfold subZ; rw [if_neg (by omega)])))
 rw [subZ_le c0] at q0
 refine obind' q0 (bf' (decide_eq_false (by show ¬ (a - ((szIntS x.Line) : Int) < 0); omega)) ?_)
 have q1 := v108 x.Grants (a - ((szIntS x.Line) : Int)) ok1 (by omega) (by omega)
 by_cases c1 : ((szIntS x.Grants) : Int) ≤ a - ((szIntS x.Line) : Int)
 case neg =>
  rw [subZ_gt c1] at q1
  exact obind' q1 (bt' rfl (resI (by unfold subZ; rw [if_neg (by omega)])))
 rw [subZ_le c1] at q1
 refine obind' q1 (bf' (decide_eq_false (by show ¬ (a - ((szIntS x.Line) : Int) - ((szIntS x.Grants) : Int) < 0); omega)) ?_)
 exact resI (by unfold subZ; rw [if_pos (by omega)]; show a - ((szIntS x.Line) : Int) - ((szIntS x.Grants) : Int) = _; omega)
theorem l38 (x : (List VLatch)) (ok : okLatchS x) : ∀ (m i : Nat) (a : Int), i + m = x.length → 0 ≤ a → a ≤ 1048576 → i ≤ 1048576 →
  x.length ≤ 1048576 → HH 38 [] (m + 1) [true, true, true, false, true] (hdS [(0, slLatchS x), (1, nI a), (5, nI (i : Int))] [] []) = some (nI (subZ a ((x.drop i).map szLatch).sum), []) := by
 intro m
 induction m with
 | zero =>
  intro i a hi h0 h1 _ _
  rw [hstep, h38, bf (by simp [zN] <;> omega), List.drop_eq_nil_of_le (by omega)]
  exact resI (by unfold subZ; simp <;> omega)
 | succ m ih =>
  intro i a hi h0 h1 h2 h3
  rw [hstep, h38, bt (by simp [zN] <;> omega), bt (by simp [zN] <;> omega), wrapN (by omega)]
  simp only [Int.toNat_natCast]
  rw [drop_getD (d := zLatch) (show i < x.length by omega), List.map_cons, List.sum_cons]
  have q := v113 (x.getD i zLatch) a (ok.2 _ (getD_mem (by omega))) h0 h1
  by_cases c : (szLatch (x.getD i zLatch) : Int) ≤ a
  · rw [subZ_le c] at q
    refine obind' q (bf' (decide_eq_false (by show ¬ (a - szLatch (x.getD i zLatch) < 0); omega)) ?_)
    refine (ih (i + 1) (a - szLatch (x.getD i zLatch)) (by omega) (by omega) (by omega) (by omega) h3).trans (resI ?_)
    unfold subZ
    split <;> split <;> omega
  · rw [subZ_gt c] at q
    refine obind' q (bt' rfl (resI ?_))
    unfold subZ
    rw [if_neg (by omega)]
theorem v38 (x : (List VLatch)) (a : Int) (ok : okLatchS x) (h0 : 0 ≤ a) (h1 : a ≤ 1048576) : E 38 [slLatchS x, nI a] [] = some (nI (subZ a (szLatchS x)), []) := by
 have ok1 := ok.1
 have w1 : IntKind.i64.wrap (a - zN x.length) = a - zN x.length := wrapS (by simp only [zN]; omega) (by simp only [zN]; omega)
 refine ev1 (x.length + 1) rfl ?_
 rw [e38]
 change (bif decide (IntKind.i64.wrap (a - zN x.length) < 0) then _ else _) = _
 by_cases c : (x.length : Int) ≤ a
 · refine bf' (decide_eq_false (by rw [w1]; simp only [zN]; omega)) ?_
   show HH 38 [] (x.length + 1) _ (hdS [(0, slLatchS x), (1, nI (IntKind.i64.wrap (a - zN x.length))), (5, nI ((0 : Nat) : Int))] [] []) = _
   rw [w1]
   refine (l38 x ok x.length 0 (a - zN x.length) (by omega) (by simp only [zN]; omega) (by simp only [zN]; omega) (by omega) (by omega)).trans (resI (subZ_add c))
 · exact bt' (decide_eq_true (by rw [w1]; simp only [zN]; omega)) (resI (subZ_big c).symm)
theorem v187 (x : VMsg) (a : Int) (ok : okMsg x) (h0 : 0 ≤ a) (h1 : a ≤ 1048576) : E 187 [slMsg x, nI a] [] = some (nI (subZ a (szMsg x)), []) := by
 refine ev1 0 rfl ?_
 rw [e187]
 unfold okMsg at ok
 unfold szMsg
 have ok0 := ok
 have w0 : IntKind.i64.wrap (a - zN x.Text.size) = a - (x.Text.size : Int) := wrapS (by simp only [zN]; omega) (by simp only [zN]; omega)
 try rw [w0]
 by_cases c0 : (x.Text.size : Int) ≤ a
 case neg => exact bt' (decide_eq_true (by omega)) (resI (by unfold subZ; rw [if_neg (by omega)]))
 refine bf' (decide_eq_false (by omega)) ?_
 exact resI (by unfold subZ; rw [if_pos (by omega)] <;> omega)
theorem l245 (x : (List VMsg)) (ok : okMsgS x) : ∀ (m i : Nat) (a : Int), i + m = x.length → 0 ≤ a → a ≤ 1048576 → i ≤ 1048576 →
  x.length ≤ 1048576 → HH 245 [] (m + 1) [true, true, true, false, true] (hdS [(0, slMsgS x), (1, nI a), (5, nI (i : Int))] [] []) = some (nI (subZ a ((x.drop i).map szMsg).sum), []) := by
 intro m
 induction m with
 | zero =>
  intro i a hi h0 h1 _ _
  rw [hstep, h245, bf (by simp [zN] <;> omega), List.drop_eq_nil_of_le (by omega)]
  exact resI (by unfold subZ; simp <;> omega)
 | succ m ih =>
  intro i a hi h0 h1 h2 h3
  rw [hstep, h245, bt (by simp [zN] <;> omega), bt (by simp [zN] <;> omega), wrapN (by omega)]
  simp only [Int.toNat_natCast]
  rw [drop_getD (d := zMsg) (show i < x.length by omega), List.map_cons, List.sum_cons]
  have q := v187 (x.getD i zMsg) a (ok.2 _ (getD_mem (by omega))) h0 h1
  by_cases c : (szMsg (x.getD i zMsg) : Int) ≤ a
  · rw [subZ_le c] at q
    refine obind' q (bf' (decide_eq_false (by show ¬ (a - szMsg (x.getD i zMsg) < 0); omega)) ?_)
    refine (ih (i + 1) (a - szMsg (x.getD i zMsg)) (by omega) (by omega) (by omega) (by omega) h3).trans (resI ?_)
    unfold subZ
    split <;> split <;> omega
  · rw [subZ_gt c] at q
    refine obind' q (bt' rfl (resI ?_))
    unfold subZ
    rw [if_neg (by omega)]
theorem v245 (x : (List VMsg)) (a : Int) (ok : okMsgS x) (h0 : 0 ≤ a) (h1 : a ≤ 1048576) : E 245 [slMsgS x, nI a] [] = some (nI (subZ a (szMsgS x)), []) := by
 have ok1 := ok.1
 have w1 : IntKind.i64.wrap (a - zN x.length) = a - zN x.length := wrapS (by simp only [zN]; omega) (by simp only [zN]; omega)
 refine ev1 (x.length + 1) rfl ?_
 rw [e245]
 change (bif decide (IntKind.i64.wrap (a - zN x.length) < 0) then _ else _) = _
 by_cases c : (x.length : Int) ≤ a
 · refine bf' (decide_eq_false (by rw [w1]; simp only [zN]; omega)) ?_
   show HH 245 [] (x.length + 1) _ (hdS [(0, slMsgS x), (1, nI (IntKind.i64.wrap (a - zN x.length))), (5, nI ((0 : Nat) : Int))] [] []) = _
   rw [w1]
   refine (l245 x ok x.length 0 (a - zN x.length) (by omega) (by simp only [zN]; omega) (by simp only [zN]; omega) (by omega) (by omega)).trans (resI (subZ_add c))
 · exact bt' (decide_eq_true (by rw [w1]; simp only [zN]; omega)) (resI (subZ_big c).symm)
theorem v114 (x : VCell) (a : Int) (ok : okCell x) (h0 : 0 ≤ a) (h1 : a ≤ 1048576) : E 114 [slCell x, nI a] [] = some (nI (subZ a (szCell x)), []) := by
 refine ev1 0 rfl ?_
 rw [e114]
 unfold okCell at ok
 unfold szCell
 obtain ⟨ok0, ok1, ok2⟩ := ok
 have q0 := v187 x.Val (a) ok0 (by omega) (by omega)
 by_cases c0 : ((szMsg x.Val) : Int) ≤ a
 case neg =>
  rw [subZ_gt c0] at q0
  exact obind' q0 (bt' rfl (resI (by unfold subZ; rw [if_neg (by omega)])))
 rw [subZ_le c0] at q0
 refine obind' q0 (bf' (decide_eq_false (by show ¬ (a - ((szMsg x.Val) : Int) < 0); omega)) ?_)
 have q1 := v108 x.Line (a - ((szMsg x.Val) : Int)) ok1 (by omega) (by omega)
 by_cases c1 : ((szIntS x.Line) : Int) ≤ a - ((szMsg x.Val) : Int)
 case neg =>
  rw [subZ_gt c1] at q1
  exact obind' q1 (bt' rfl (resI (by unfold subZ; rw [if_neg (by omega)])))
 rw [subZ_le c1] at q1
 refine obind' q1 (bf' (decide_eq_false (by show ¬ (a - ((szMsg x.Val) : Int) - ((szIntS x.Line) : Int) < 0); omega)) ?_)
 have q2 := v108 x.Grants (a - ((szMsg x.Val) : Int) - ((szIntS x.Line) : Int)) ok2 (by omega) (by omega)
 by_cases c2 : ((szIntS x.Grants) : Int) ≤ a - ((szMsg x.Val) : Int) - ((szIntS x.Line) : Int)
 case neg =>
  rw [subZ_gt c2] at q2
  exact obind' q2 (bt' rfl (resI (by unfold subZ; rw [if_neg (by omega)])))
 rw [subZ_le c2] at q2
 refine obind' q2 (bf' (decide_eq_false (by show ¬ (a - ((szMsg x.Val) : Int) - ((szIntS x.Line) : Int) - ((szIntS x.Grants) : Int) < 0); omega)) ?_)
 exact resI (by unfold subZ; rw [if_pos (by omega)]; show a - ((szMsg x.Val) : Int) - ((szIntS x.Line) : Int) - ((szIntS x.Grants) : Int) = _; omega)
theorem l39 (x : (List VCell)) (ok : okCellS x) : ∀ (m i : Nat) (a : Int), i + m = x.length → 0 ≤ a → a ≤ 1048576 → i ≤ 1048576 →
  x.length ≤ 1048576 → HH 39 [] (m + 1) [true, true, true, false, true] (hdS [(0, slCellS x), (1, nI a), (5, nI (i : Int))] [] []) = some (nI (subZ a ((x.drop i).map szCell).sum), []) := by
 intro m
 induction m with
 | zero =>
  intro i a hi h0 h1 _ _
  rw [hstep, h39, bf (by simp [zN] <;> omega), List.drop_eq_nil_of_le (by omega)]
  exact resI (by unfold subZ; simp <;> omega)
 | succ m ih =>
  intro i a hi h0 h1 h2 h3
  rw [hstep, h39, bt (by simp [zN] <;> omega), bt (by simp [zN] <;> omega), wrapN (by omega)]
  simp only [Int.toNat_natCast]
  rw [drop_getD (d := zCell) (show i < x.length by omega), List.map_cons, List.sum_cons]
  have q := v114 (x.getD i zCell) a (ok.2 _ (getD_mem (by omega))) h0 h1
  by_cases c : (szCell (x.getD i zCell) : Int) ≤ a
  · rw [subZ_le c] at q
    refine obind' q (bf' (decide_eq_false (by show ¬ (a - szCell (x.getD i zCell) < 0); omega)) ?_)
    refine (ih (i + 1) (a - szCell (x.getD i zCell)) (by omega) (by omega) (by omega) (by omega) h3).trans (resI ?_)
    unfold subZ
    split <;> split <;> omega
  · rw [subZ_gt c] at q
    refine obind' q (bt' rfl (resI ?_))
    unfold subZ
    rw [if_neg (by omega)]
theorem v39 (x : (List VCell)) (a : Int) (ok : okCellS x) (h0 : 0 ≤ a) (h1 : a ≤ 1048576) : E 39 [slCellS x, nI a] [] = some (nI (subZ a (szCellS x)), []) := by
 have ok1 := ok.1
 have w1 : IntKind.i64.wrap (a - zN x.length) = a - zN x.length := wrapS (by simp only [zN]; omega) (by simp only [zN]; omega)
 refine ev1 (x.length + 1) rfl ?_
 rw [e39]
 change (bif decide (IntKind.i64.wrap (a - zN x.length) < 0) then _ else _) = _
 by_cases c : (x.length : Int) ≤ a
 · refine bf' (decide_eq_false (by rw [w1]; simp only [zN]; omega)) ?_
   show HH 39 [] (x.length + 1) _ (hdS [(0, slCellS x), (1, nI (IntKind.i64.wrap (a - zN x.length))), (5, nI ((0 : Nat) : Int))] [] []) = _
   rw [w1]
   refine (l39 x ok x.length 0 (a - zN x.length) (by omega) (by simp only [zN]; omega) (by simp only [zN]; omega) (by omega) (by omega)).trans (resI (subZ_add c))
 · exact bt' (decide_eq_true (by rw [w1]; simp only [zN]; omega)) (resI (subZ_big c).symm)
theorem v271 (x : VTerm) (a : Int) (ok : okTerm x) (h0 : 0 ≤ a) (h1 : a ≤ 1048576) : E 271 [slTerm x, nI a] [] = some (nI (subZ a (szTerm x)), []) := by
 refine ev1 0 rfl ?_
 rw [e271]
 unfold okTerm at ok
 unfold szTerm
 have ok0 := ok
 have w0 : IntKind.i64.wrap (a - zN x.Text.size) = a - (x.Text.size : Int) := wrapS (by simp only [zN]; omega) (by simp only [zN]; omega)
 try rw [w0]
 by_cases c0 : (x.Text.size : Int) ≤ a
 case neg => exact bt' (decide_eq_true (by omega)) (resI (by unfold subZ; rw [if_neg (by omega)]))
 refine bf' (decide_eq_false (by omega)) ?_
 exact resI (by unfold subZ; rw [if_pos (by omega)] <;> omega)
theorem l247 (x : (List VTerm)) (ok : okTermS x) : ∀ (m i : Nat) (a : Int), i + m = x.length → 0 ≤ a → a ≤ 1048576 → i ≤ 1048576 →
  x.length ≤ 1048576 → HH 247 [] (m + 1) [true, true, true, false, true] (hdS [(0, slTermS x), (1, nI a), (5, nI (i : Int))] [] []) = some (nI (subZ a ((x.drop i).map szTerm).sum), []) := by
 intro m
 induction m with
 | zero =>
  intro i a hi h0 h1 _ _
  rw [hstep, h247, bf (by simp [zN] <;> omega), List.drop_eq_nil_of_le (by omega)]
  exact resI (by unfold subZ; simp <;> omega)
 | succ m ih =>
  intro i a hi h0 h1 h2 h3
  rw [hstep, h247, bt (by simp [zN] <;> omega), bt (by simp [zN] <;> omega), wrapN (by omega)]
  simp only [Int.toNat_natCast]
  rw [drop_getD (d := zTerm) (show i < x.length by omega), List.map_cons, List.sum_cons]
  have q := v271 (x.getD i zTerm) a (ok.2 _ (getD_mem (by omega))) h0 h1
  by_cases c : (szTerm (x.getD i zTerm) : Int) ≤ a
  · rw [subZ_le c] at q
    refine obind' q (bf' (decide_eq_false (by show ¬ (a - szTerm (x.getD i zTerm) < 0); omega)) ?_)
    refine (ih (i + 1) (a - szTerm (x.getD i zTerm)) (by omega) (by omega) (by omega) (by omega) h3).trans (resI ?_)
    unfold subZ
    split <;> split <;> omega
  · rw [subZ_gt c] at q
    refine obind' q (bt' rfl (resI ?_))
    unfold subZ
    rw [if_neg (by omega)]
theorem v247 (x : (List VTerm)) (a : Int) (ok : okTermS x) (h0 : 0 ≤ a) (h1 : a ≤ 1048576) : E 247 [slTermS x, nI a] [] = some (nI (subZ a (szTermS x)), []) := by
 have ok1 := ok.1
 have w1 : IntKind.i64.wrap (a - zN x.length) = a - zN x.length := wrapS (by simp only [zN]; omega) (by simp only [zN]; omega)
 refine ev1 (x.length + 1) rfl ?_
 rw [e247]
 change (bif decide (IntKind.i64.wrap (a - zN x.length) < 0) then _ else _) = _
 by_cases c : (x.length : Int) ≤ a
 · refine bf' (decide_eq_false (by rw [w1]; simp only [zN]; omega)) ?_
   show HH 247 [] (x.length + 1) _ (hdS [(0, slTermS x), (1, nI (IntKind.i64.wrap (a - zN x.length))), (5, nI ((0 : Nat) : Int))] [] []) = _
   rw [w1]
   refine (l247 x ok x.length 0 (a - zN x.length) (by omega) (by simp only [zN]; omega) (by simp only [zN]; omega) (by omega) (by omega)).trans (resI (subZ_add c))
 · exact bt' (decide_eq_true (by rw [w1]; simp only [zN]; omega)) (resI (subZ_big c).symm)
theorem v270 (x : VSub) (a : Int) (ok : okSub x) (h0 : 0 ≤ a) (h1 : a ≤ 1048576) : E 270 [slSub x, nI a] [] = some (nI (subZ a (szSub x)), []) := by
 refine ev1 0 rfl ?_
 rw [e270]
 unfold okSub at ok
 unfold szSub
 have ok0 := ok
 have q0 := v247 x.Filter (a) ok0 (by omega) (by omega)
 by_cases c0 : ((szTermS x.Filter) : Int) ≤ a
 case neg =>
  rw [subZ_gt c0] at q0
  exact obind' q0 (bt' rfl (resI (by unfold subZ; rw [if_neg (by omega)])))
 rw [subZ_le c0] at q0
 refine obind' q0 (bf' (decide_eq_false (by show ¬ (a - ((szTermS x.Filter) : Int) < 0); omega)) ?_)
 exact resI (by unfold subZ; rw [if_pos (by omega)]; show a - ((szTermS x.Filter) : Int) = _; omega)
theorem l246 (x : (List VSub)) (ok : okSubS x) : ∀ (m i : Nat) (a : Int), i + m = x.length → 0 ≤ a → a ≤ 1048576 → i ≤ 1048576 →
  x.length ≤ 1048576 → HH 246 [] (m + 1) [true, true, true, false, true] (hdS [(0, slSubS x), (1, nI a), (5, nI (i : Int))] [] []) = some (nI (subZ a ((x.drop i).map szSub).sum), []) := by
 intro m
 induction m with
 | zero =>
  intro i a hi h0 h1 _ _
  rw [hstep, h246, bf (by simp [zN] <;> omega), List.drop_eq_nil_of_le (by omega)]
  exact resI (by unfold subZ; simp <;> omega)
 | succ m ih =>
  intro i a hi h0 h1 h2 h3
  rw [hstep, h246, bt (by simp [zN] <;> omega), bt (by simp [zN] <;> omega), wrapN (by omega)]
  simp only [Int.toNat_natCast]
  rw [drop_getD (d := zSub) (show i < x.length by omega), List.map_cons, List.sum_cons]
  have q := v270 (x.getD i zSub) a (ok.2 _ (getD_mem (by omega))) h0 h1
  by_cases c : (szSub (x.getD i zSub) : Int) ≤ a
  · rw [subZ_le c] at q
    refine obind' q (bf' (decide_eq_false (by show ¬ (a - szSub (x.getD i zSub) < 0); omega)) ?_)
    refine (ih (i + 1) (a - szSub (x.getD i zSub)) (by omega) (by omega) (by omega) (by omega) h3).trans (resI ?_)
    unfold subZ
    split <;> split <;> omega
  · rw [subZ_gt c] at q
    refine obind' q (bt' rfl (resI ?_))
    unfold subZ
    rw [if_neg (by omega)]
theorem v246 (x : (List VSub)) (a : Int) (ok : okSubS x) (h0 : 0 ≤ a) (h1 : a ≤ 1048576) : E 246 [slSubS x, nI a] [] = some (nI (subZ a (szSubS x)), []) := by
 have ok1 := ok.1
 have w1 : IntKind.i64.wrap (a - zN x.length) = a - zN x.length := wrapS (by simp only [zN]; omega) (by simp only [zN]; omega)
 refine ev1 (x.length + 1) rfl ?_
 rw [e246]
 change (bif decide (IntKind.i64.wrap (a - zN x.length) < 0) then _ else _) = _
 by_cases c : (x.length : Int) ≤ a
 · refine bf' (decide_eq_false (by rw [w1]; simp only [zN]; omega)) ?_
   show HH 246 [] (x.length + 1) _ (hdS [(0, slSubS x), (1, nI (IntKind.i64.wrap (a - zN x.length))), (5, nI ((0 : Nat) : Int))] [] []) = _
   rw [w1]
   refine (l246 x ok x.length 0 (a - zN x.length) (by omega) (by simp only [zN]; omega) (by simp only [zN]; omega) (by omega) (by omega)).trans (resI (subZ_add c))
 · exact bt' (decide_eq_true (by rw [w1]; simp only [zN]; omega)) (resI (subZ_big c).symm)
theorem v188 (x : VRing) (a : Int) (ok : okRing x) (h0 : 0 ≤ a) (h1 : a ≤ 1048576) : E 188 [slRing x, nI a] [] = some (nI (subZ a (szRing x)), []) := by
 refine ev1 0 rfl ?_
 rw [e188]
 unfold okRing at ok
 unfold szRing
 obtain ⟨ok0, ok1, ok2, ok3⟩ := ok
 have q0 := v245 x.Items (a) ok0 (by omega) (by omega)
 by_cases c0 : ((szMsgS x.Items) : Int) ≤ a
 case neg =>
  rw [subZ_gt c0] at q0
  exact obind' q0 (bt' rfl (resI (by unfold subZ; rw [if_neg (by omega)])))
 rw [subZ_le c0] at q0
 refine obind' q0 (bf' (decide_eq_false (by show ¬ (a - ((szMsgS x.Items) : Int) < 0); omega)) ?_)
 have q1 := v246 x.Subs (a - ((szMsgS x.Items) : Int)) ok1 (by omega) (by omega)
 by_cases c1 : ((szSubS x.Subs) : Int) ≤ a - ((szMsgS x.Items) : Int)
 case neg =>
  rw [subZ_gt c1] at q1
  exact obind' q1 (bt' rfl (resI (by unfold subZ; rw [if_neg (by omega)])))
 rw [subZ_le c1] at q1
 refine obind' q1 (bf' (decide_eq_false (by show ¬ (a - ((szMsgS x.Items) : Int) - ((szSubS x.Subs) : Int) < 0); omega)) ?_)
 have q2 := v108 x.Line (a - ((szMsgS x.Items) : Int) - ((szSubS x.Subs) : Int)) ok2 (by omega) (by omega)
 by_cases c2 : ((szIntS x.Line) : Int) ≤ a - ((szMsgS x.Items) : Int) - ((szSubS x.Subs) : Int)
 case neg =>
  rw [subZ_gt c2] at q2
  exact obind' q2 (bt' rfl (resI (by unfold subZ; rw [if_neg (by omega)])))
 rw [subZ_le c2] at q2
 refine obind' q2 (bf' (decide_eq_false (by show ¬ (a - ((szMsgS x.Items) : Int) - ((szSubS x.Subs) : Int) - ((szIntS x.Line) : Int) < 0); omega)) ?_)
 have q3 := v108 x.Grants (a - ((szMsgS x.Items) : Int) - ((szSubS x.Subs) : Int) - ((szIntS x.Line) : Int)) ok3 (by omega) (by omega)
 by_cases c3 : ((szIntS x.Grants) : Int) ≤ a - ((szMsgS x.Items) : Int) - ((szSubS x.Subs) : Int) - ((szIntS x.Line) : Int)
 case neg =>
  rw [subZ_gt c3] at q3
  exact obind' q3 (bt' rfl (resI (by unfold subZ; rw [if_neg (by omega)])))
 rw [subZ_le c3] at q3
 refine obind' q3 (bf' (decide_eq_false (by show ¬ (a - ((szMsgS x.Items) : Int) - ((szSubS x.Subs) : Int) - ((szIntS x.Line) : Int) - ((szIntS x.Grants) : Int) < 0); omega)) ?_)
 exact resI (by unfold subZ; rw [if_pos (by omega)]; show a - ((szMsgS x.Items) : Int) - ((szSubS x.Subs) : Int) - ((szIntS x.Line) : Int) - ((szIntS x.Grants) : Int) = _; omega)
theorem v115 (x : VTopic) (a : Int) (ok : okTopic x) (h0 : 0 ≤ a) (h1 : a ≤ 1048576) : E 115 [slTopic x, nI a] [] = some (nI (subZ a (szTopic x)), []) := by
 refine ev1 0 rfl ?_
 rw [e115]
 unfold okTopic at ok
 unfold szTopic
 obtain ⟨ok0, ok1⟩ := ok
 have w0 : IntKind.i64.wrap (a - zN x.Name.size) = a - (x.Name.size : Int) := wrapS (by simp only [zN]; omega) (by simp only [zN]; omega)
 try rw [w0]
 by_cases c0 : (x.Name.size : Int) ≤ a
 case neg => exact bt' (decide_eq_true (by omega)) (resI (by unfold subZ; rw [if_neg (by omega)]))
 refine bf' (decide_eq_false (by omega)) ?_
 have q1 := v188 x.Ring (a - (x.Name.size : Int)) ok1 (by omega) (by omega)
 by_cases c1 : ((szRing x.Ring) : Int) ≤ a - (x.Name.size : Int)
 case neg =>
  rw [subZ_gt c1] at q1
  exact obind' q1 (bt' rfl (resI (by unfold subZ; rw [if_neg (by omega)])))
 rw [subZ_le c1] at q1
 refine obind' q1 (bf' (decide_eq_false (by show ¬ (a - (x.Name.size : Int) - ((szRing x.Ring) : Int) < 0); omega)) ?_)
 exact resI (by unfold subZ; rw [if_pos (by omega)]; show a - (x.Name.size : Int) - ((szRing x.Ring) : Int) = _; omega)
theorem l40 (x : (List VTopic)) (ok : okTopicS x) : ∀ (m i : Nat) (a : Int), i + m = x.length → 0 ≤ a → a ≤ 1048576 → i ≤ 1048576 →
  x.length ≤ 1048576 → HH 40 [] (m + 1) [true, true, true, false, true] (hdS [(0, slTopicS x), (1, nI a), (5, nI (i : Int))] [] []) = some (nI (subZ a ((x.drop i).map szTopic).sum), []) := by
 intro m
 induction m with
 | zero =>
  intro i a hi h0 h1 _ _
  rw [hstep, h40, bf (by simp [zN] <;> omega), List.drop_eq_nil_of_le (by omega)]
  exact resI (by unfold subZ; simp <;> omega)
 | succ m ih =>
  intro i a hi h0 h1 h2 h3
  rw [hstep, h40, bt (by simp [zN] <;> omega), bt (by simp [zN] <;> omega), wrapN (by omega)]
  simp only [Int.toNat_natCast]
  rw [drop_getD (d := zTopic) (show i < x.length by omega), List.map_cons, List.sum_cons]
  have q := v115 (x.getD i zTopic) a (ok.2 _ (getD_mem (by omega))) h0 h1
  by_cases c : (szTopic (x.getD i zTopic) : Int) ≤ a
  · rw [subZ_le c] at q
    refine obind' q (bf' (decide_eq_false (by show ¬ (a - szTopic (x.getD i zTopic) < 0); omega)) ?_)
    refine (ih (i + 1) (a - szTopic (x.getD i zTopic)) (by omega) (by omega) (by omega) (by omega) h3).trans (resI ?_)
    unfold subZ
    split <;> split <;> omega
  · rw [subZ_gt c] at q
    refine obind' q (bt' rfl (resI ?_))
    unfold subZ
    rw [if_neg (by omega)]
theorem v40 (x : (List VTopic)) (a : Int) (ok : okTopicS x) (h0 : 0 ≤ a) (h1 : a ≤ 1048576) : E 40 [slTopicS x, nI a] [] = some (nI (subZ a (szTopicS x)), []) := by
 have ok1 := ok.1
 have w1 : IntKind.i64.wrap (a - zN x.length) = a - zN x.length := wrapS (by simp only [zN]; omega) (by simp only [zN]; omega)
 refine ev1 (x.length + 1) rfl ?_
 rw [e40]
 change (bif decide (IntKind.i64.wrap (a - zN x.length) < 0) then _ else _) = _
 by_cases c : (x.length : Int) ≤ a
 · refine bf' (decide_eq_false (by rw [w1]; simp only [zN]; omega)) ?_
   show HH 40 [] (x.length + 1) _ (hdS [(0, slTopicS x), (1, nI (IntKind.i64.wrap (a - zN x.length))), (5, nI ((0 : Nat) : Int))] [] []) = _
   rw [w1]
   refine (l40 x ok x.length 0 (a - zN x.length) (by omega) (by simp only [zN]; omega) (by simp only [zN]; omega) (by omega) (by omega)).trans (resI (subZ_add c))
 · exact bt' (decide_eq_true (by rw [w1]; simp only [zN]; omega)) (resI (subZ_big c).symm)
theorem v189 (x : (List VLeg)) (a : Int) (ok : okLegS x) (h0 : 0 ≤ a) (h1 : a ≤ 1048576) : E 189 [slLegS x, nI a] [] = some (nI (subZ a (szLegS x)), []) := by
 obtain ⟨ok1, ok2⟩ := ok
 have w1 : IntKind.i64.wrap (a - zN x.length) = a - zN x.length := wrapS (by simp only [zN]; omega) (by simp only [zN]; omega)
 have hs : szLegS x = x.length := by
  have : ∀ ys : List VLeg, (ys.map (fun _ => (0:Nat))).sum = 0 := fun ys => by induction ys <;> simp_all
  simp [szLegS, sumL, this]
 refine ev1 0 rfl ?_
 rw [e189]; simp only [w1, hs]
 by_cases c : (x.length : Int) ≤ a
 · rw [subZ_le c]; exact bf (decide_eq_false (by simp only [zN]; omega))
 · rw [subZ_gt c]; exact bt (decide_eq_true (by simp only [zN]; omega))
theorem v116 (x : VMerge) (a : Int) (ok : okMerge x) (h0 : 0 ≤ a) (h1 : a ≤ 1048576) : E 116 [slMerge x, nI a] [] = some (nI (subZ a (szMerge x)), []) := by
 refine ev1 0 rfl ?_
 rw [e116]
 unfold okMerge at ok
 unfold szMerge
 have ok0 := ok
 have q0 := v189 x.Legs (a) ok0 (by omega) (by omega)
 by_cases c0 : ((szLegS x.Legs) : Int) ≤ a
 case neg =>
  rw [subZ_gt c0] at q0
  exact obind' q0 (bt' rfl (resI (by unfold subZ; rw [if_neg (by omega)])))
 rw [subZ_le c0] at q0
 refine obind' q0 (bf' (decide_eq_false (by show ¬ (a - ((szLegS x.Legs) : Int) < 0); omega)) ?_)
 exact resI (by unfold subZ; rw [if_pos (by omega)]; show a - ((szLegS x.Legs) : Int) = _; omega)
theorem l41 (x : (List VMerge)) (ok : okMergeS x) : ∀ (m i : Nat) (a : Int), i + m = x.length → 0 ≤ a → a ≤ 1048576 → i ≤ 1048576 →
  x.length ≤ 1048576 → HH 41 [] (m + 1) [true, true, true, false, true] (hdS [(0, slMergeS x), (1, nI a), (5, nI (i : Int))] [] []) = some (nI (subZ a ((x.drop i).map szMerge).sum), []) := by
 intro m
 induction m with
 | zero =>
  intro i a hi h0 h1 _ _
  rw [hstep, h41, bf (by simp [zN] <;> omega), List.drop_eq_nil_of_le (by omega)]
  exact resI (by unfold subZ; simp <;> omega)
 | succ m ih =>
  intro i a hi h0 h1 h2 h3
  rw [hstep, h41, bt (by simp [zN] <;> omega), bt (by simp [zN] <;> omega), wrapN (by omega)]
  simp only [Int.toNat_natCast]
  rw [drop_getD (d := zMerge) (show i < x.length by omega), List.map_cons, List.sum_cons]
  have q := v116 (x.getD i zMerge) a (ok.2 _ (getD_mem (by omega))) h0 h1
  by_cases c : (szMerge (x.getD i zMerge) : Int) ≤ a
  · rw [subZ_le c] at q
    refine obind' q (bf' (decide_eq_false (by show ¬ (a - szMerge (x.getD i zMerge) < 0); omega)) ?_)
    refine (ih (i + 1) (a - szMerge (x.getD i zMerge)) (by omega) (by omega) (by omega) (by omega) h3).trans (resI ?_)
    unfold subZ
    split <;> split <;> omega
  · rw [subZ_gt c] at q
    refine obind' q (bt' rfl (resI ?_))
    unfold subZ
    rw [if_neg (by omega)]
theorem v41 (x : (List VMerge)) (a : Int) (ok : okMergeS x) (h0 : 0 ≤ a) (h1 : a ≤ 1048576) : E 41 [slMergeS x, nI a] [] = some (nI (subZ a (szMergeS x)), []) := by
 have ok1 := ok.1
 have w1 : IntKind.i64.wrap (a - zN x.length) = a - zN x.length := wrapS (by simp only [zN]; omega) (by simp only [zN]; omega)
 refine ev1 (x.length + 1) rfl ?_
 rw [e41]
 change (bif decide (IntKind.i64.wrap (a - zN x.length) < 0) then _ else _) = _
 by_cases c : (x.length : Int) ≤ a
 · refine bf' (decide_eq_false (by rw [w1]; simp only [zN]; omega)) ?_
   show HH 41 [] (x.length + 1) _ (hdS [(0, slMergeS x), (1, nI (IntKind.i64.wrap (a - zN x.length))), (5, nI ((0 : Nat) : Int))] [] []) = _
   rw [w1]
   refine (l41 x ok x.length 0 (a - zN x.length) (by omega) (by simp only [zN]; omega) (by simp only [zN]; omega) (by omega) (by omega)).trans (resI (subZ_add c))
 · exact bt' (decide_eq_true (by rw [w1]; simp only [zN]; omega)) (resI (subZ_big c).symm)
theorem v190 (x : (List VHit)) (a : Int) (ok : okHitS x) (h0 : 0 ≤ a) (h1 : a ≤ 1048576) : E 190 [slHitS x, nI a] [] = some (nI (subZ a (szHitS x)), []) := by
 obtain ⟨ok1, ok2⟩ := ok
 have w1 : IntKind.i64.wrap (a - zN x.length) = a - zN x.length := wrapS (by simp only [zN]; omega) (by simp only [zN]; omega)
 have hs : szHitS x = x.length := by
  have : ∀ ys : List VHit, (ys.map (fun _ => (0:Nat))).sum = 0 := fun ys => by induction ys <;> simp_all
  simp [szHitS, sumL, this]
 refine ev1 0 rfl ?_
 rw [e190]; simp only [w1, hs]
 by_cases c : (x.length : Int) ≤ a
 · rw [subZ_le c]; exact bf (decide_eq_false (by simp only [zN]; omega))
 · rw [subZ_gt c]; exact bt (decide_eq_true (by simp only [zN]; omega))
theorem v117 (x : VUser) (a : Int) (ok : okUser x) (h0 : 0 ≤ a) (h1 : a ≤ 1048576) : E 117 [slUser x, nI a] [] = some (nI (subZ a (szUser x)), []) := by
 refine ev1 0 rfl ?_
 rw [e117]
 unfold okUser at ok
 unfold szUser
 obtain ⟨ok0, ok1⟩ := ok
 have q0 := v190 x.Subs (a) ok0 (by omega) (by omega)
 by_cases c0 : ((szHitS x.Subs) : Int) ≤ a
 case neg =>
  rw [subZ_gt c0] at q0
  exact obind' q0 (bt' rfl (resI (by unfold subZ; rw [if_neg (by omega)])))
 rw [subZ_le c0] at q0
 refine obind' q0 (bf' (decide_eq_false (by show ¬ (a - ((szHitS x.Subs) : Int) < 0); omega)) ?_)
 have q1 := v108 x.Seen (a - ((szHitS x.Subs) : Int)) ok1 (by omega) (by omega)
 by_cases c1 : ((szIntS x.Seen) : Int) ≤ a - ((szHitS x.Subs) : Int)
 case neg =>
  rw [subZ_gt c1] at q1
  exact obind' q1 (bt' rfl (resI (by unfold subZ; rw [if_neg (by omega)])))
 rw [subZ_le c1] at q1
 refine obind' q1 (bf' (decide_eq_false (by show ¬ (a - ((szHitS x.Subs) : Int) - ((szIntS x.Seen) : Int) < 0); omega)) ?_)
 exact resI (by unfold subZ; rw [if_pos (by omega)]; show a - ((szHitS x.Subs) : Int) - ((szIntS x.Seen) : Int) = _; omega)
theorem l42 (x : (List VUser)) (ok : okUserS x) : ∀ (m i : Nat) (a : Int), i + m = x.length → 0 ≤ a → a ≤ 1048576 → i ≤ 1048576 →
  x.length ≤ 1048576 → HH 42 [] (m + 1) [true, true, true, false, true] (hdS [(0, slUserS x), (1, nI a), (5, nI (i : Int))] [] []) = some (nI (subZ a ((x.drop i).map szUser).sum), []) := by
 intro m
 induction m with
 | zero =>
  intro i a hi h0 h1 _ _
  rw [hstep, h42, bf (by simp [zN] <;> omega), List.drop_eq_nil_of_le (by omega)]
  exact resI (by unfold subZ; simp <;> omega)
 | succ m ih =>
  intro i a hi h0 h1 h2 h3
  rw [hstep, h42, bt (by simp [zN] <;> omega), bt (by simp [zN] <;> omega), wrapN (by omega)]
  simp only [Int.toNat_natCast]
  rw [drop_getD (d := zUser) (show i < x.length by omega), List.map_cons, List.sum_cons]
  have q := v117 (x.getD i zUser) a (ok.2 _ (getD_mem (by omega))) h0 h1
  by_cases c : (szUser (x.getD i zUser) : Int) ≤ a
  · rw [subZ_le c] at q
    refine obind' q (bf' (decide_eq_false (by show ¬ (a - szUser (x.getD i zUser) < 0); omega)) ?_)
    refine (ih (i + 1) (a - szUser (x.getD i zUser)) (by omega) (by omega) (by omega) (by omega) h3).trans (resI ?_)
    unfold subZ
    split <;> split <;> omega
  · rw [subZ_gt c] at q
    refine obind' q (bt' rfl (resI ?_))
    unfold subZ
    rw [if_neg (by omega)]
theorem v42 (x : (List VUser)) (a : Int) (ok : okUserS x) (h0 : 0 ≤ a) (h1 : a ≤ 1048576) : E 42 [slUserS x, nI a] [] = some (nI (subZ a (szUserS x)), []) := by
 have ok1 := ok.1
 have w1 : IntKind.i64.wrap (a - zN x.length) = a - zN x.length := wrapS (by simp only [zN]; omega) (by simp only [zN]; omega)
 refine ev1 (x.length + 1) rfl ?_
 rw [e42]
 change (bif decide (IntKind.i64.wrap (a - zN x.length) < 0) then _ else _) = _
 by_cases c : (x.length : Int) ≤ a
 · refine bf' (decide_eq_false (by rw [w1]; simp only [zN]; omega)) ?_
   show HH 42 [] (x.length + 1) _ (hdS [(0, slUserS x), (1, nI (IntKind.i64.wrap (a - zN x.length))), (5, nI ((0 : Nat) : Int))] [] []) = _
   rw [w1]
   refine (l42 x ok x.length 0 (a - zN x.length) (by omega) (by simp only [zN]; omega) (by simp only [zN]; omega) (by omega) (by omega)).trans (resI (subZ_add c))
 · exact bt' (decide_eq_true (by rw [w1]; simp only [zN]; omega)) (resI (subZ_big c).symm)
theorem v19 (x : VHub) (a : Int) (ok : okHub x) (h0 : 0 ≤ a) (h1 : a ≤ 1048576) : E 19 [slHub x, nI a] [] = some (nI (subZ a (szHub x)), []) := by
 refine ev1 0 rfl ?_
 rw [e19]
 unfold okHub at ok
 unfold szHub
 obtain ⟨ok0, ok1, ok2, ok3, ok4, ok5, ok6, ok7, ok8⟩ := ok
 have q0 := v34 x.Tokens (a) ok0 (by omega) (by omega)
 by_cases c0 : ((szTokens x.Tokens) : Int) ≤ a
 case neg =>
  rw [subZ_gt c0] at q0
  exact obind' q0 (bt' rfl (resI (by unfold subZ; rw [if_neg (by omega)])))
 rw [subZ_le c0] at q0
 refine obind' q0 (bf' (decide_eq_false (by show ¬ (a - ((szTokens x.Tokens) : Int) < 0); omega)) ?_)
 have q1 := v35 x.Clock (a - ((szTokens x.Tokens) : Int)) ok1 (by omega) (by omega)
 by_cases c1 : ((szClock x.Clock) : Int) ≤ a - ((szTokens x.Tokens) : Int)
 case neg =>
  rw [subZ_gt c1] at q1
  exact obind' q1 (bt' rfl (resI (by unfold subZ; rw [if_neg (by omega)])))
 rw [subZ_le c1] at q1
 refine obind' q1 (bf' (decide_eq_false (by show ¬ (a - ((szTokens x.Tokens) : Int) - ((szClock x.Clock) : Int) < 0); omega)) ?_)
 have q2 := v36 x.Notes (a - ((szTokens x.Tokens) : Int) - ((szClock x.Clock) : Int)) ok2 (by omega) (by omega)
 by_cases c2 : ((szNotifyS x.Notes) : Int) ≤ a - ((szTokens x.Tokens) : Int) - ((szClock x.Clock) : Int)
 case neg =>
  rw [subZ_gt c2] at q2
  exact obind' q2 (bt' rfl (resI (by unfold subZ; rw [if_neg (by omega)])))
 rw [subZ_le c2] at q2
 refine obind' q2 (bf' (decide_eq_false (by show ¬ (a - ((szTokens x.Tokens) : Int) - ((szClock x.Clock) : Int) - ((szNotifyS x.Notes) : Int) < 0); omega)) ?_)
 have q3 := v37 x.Events (a - ((szTokens x.Tokens) : Int) - ((szClock x.Clock) : Int) - ((szNotifyS x.Notes) : Int)) ok3 (by omega) (by omega)
 by_cases c3 : ((szEventS x.Events) : Int) ≤ a - ((szTokens x.Tokens) : Int) - ((szClock x.Clock) : Int) - ((szNotifyS x.Notes) : Int)
 case neg =>
  rw [subZ_gt c3] at q3
  exact obind' q3 (bt' rfl (resI (by unfold subZ; rw [if_neg (by omega)])))
 rw [subZ_le c3] at q3
 refine obind' q3 (bf' (decide_eq_false (by show ¬ (a - ((szTokens x.Tokens) : Int) - ((szClock x.Clock) : Int) - ((szNotifyS x.Notes) : Int) - ((szEventS x.Events) : Int) < 0); omega)) ?_)
 have q4 := v38 x.Latches (a - ((szTokens x.Tokens) : Int) - ((szClock x.Clock) : Int) - ((szNotifyS x.Notes) : Int) - ((szEventS x.Events) : Int)) ok4 (by omega) (by omega)
 by_cases c4 : ((szLatchS x.Latches) : Int) ≤ a - ((szTokens x.Tokens) : Int) - ((szClock x.Clock) : Int) - ((szNotifyS x.Notes) : Int) - ((szEventS x.Events) : Int)
 case neg =>
  rw [subZ_gt c4] at q4
  exact obind' q4 (bt' rfl (resI (by unfold subZ; rw [if_neg (by omega)])))
 rw [subZ_le c4] at q4
 refine obind' q4 (bf' (decide_eq_false (by show ¬ (a - ((szTokens x.Tokens) : Int) - ((szClock x.Clock) : Int) - ((szNotifyS x.Notes) : Int) - ((szEventS x.Events) : Int) - ((szLatchS x.Latches) : Int) < 0); omega)) ?_)
 have q5 := v39 x.Cells (a - ((szTokens x.Tokens) : Int) - ((szClock x.Clock) : Int) - ((szNotifyS x.Notes) : Int) - ((szEventS x.Events) : Int) - ((szLatchS x.Latches) : Int)) ok5 (by omega) (by omega)
 by_cases c5 : ((szCellS x.Cells) : Int) ≤ a - ((szTokens x.Tokens) : Int) - ((szClock x.Clock) : Int) - ((szNotifyS x.Notes) : Int) - ((szEventS x.Events) : Int) - ((szLatchS x.Latches) : Int)
 case neg =>
  rw [subZ_gt c5] at q5
  exact obind' q5 (bt' rfl (resI (by unfold subZ; rw [if_neg (by omega)])))
 rw [subZ_le c5] at q5
 refine obind' q5 (bf' (decide_eq_false (by show ¬ (a - ((szTokens x.Tokens) : Int) - ((szClock x.Clock) : Int) - ((szNotifyS x.Notes) : Int) - ((szEventS x.Events) : Int) - ((szLatchS x.Latches) : Int) - ((szCellS x.Cells) : Int) < 0); omega)) ?_)
 have q6 := v40 x.Topics (a - ((szTokens x.Tokens) : Int) - ((szClock x.Clock) : Int) - ((szNotifyS x.Notes) : Int) - ((szEventS x.Events) : Int) - ((szLatchS x.Latches) : Int) - ((szCellS x.Cells) : Int)) ok6 (by omega) (by omega)
 by_cases c6 : ((szTopicS x.Topics) : Int) ≤ a - ((szTokens x.Tokens) : Int) - ((szClock x.Clock) : Int) - ((szNotifyS x.Notes) : Int) - ((szEventS x.Events) : Int) - ((szLatchS x.Latches) : Int) - ((szCellS x.Cells) : Int)
 case neg =>
  rw [subZ_gt c6] at q6
  exact obind' q6 (bt' rfl (resI (by unfold subZ; rw [if_neg (by omega)])))
 rw [subZ_le c6] at q6
 refine obind' q6 (bf' (decide_eq_false (by show ¬ (a - ((szTokens x.Tokens) : Int) - ((szClock x.Clock) : Int) - ((szNotifyS x.Notes) : Int) - ((szEventS x.Events) : Int) - ((szLatchS x.Latches) : Int) - ((szCellS x.Cells) : Int) - ((szTopicS x.Topics) : Int) < 0); omega)) ?_)
 have q7 := v41 x.Merges (a - ((szTokens x.Tokens) : Int) - ((szClock x.Clock) : Int) - ((szNotifyS x.Notes) : Int) - ((szEventS x.Events) : Int) - ((szLatchS x.Latches) : Int) - ((szCellS x.Cells) : Int) - ((szTopicS x.Topics) : Int)) ok7 (by omega) (by omega)
 by_cases c7 : ((szMergeS x.Merges) : Int) ≤ a - ((szTokens x.Tokens) : Int) - ((szClock x.Clock) : Int) - ((szNotifyS x.Notes) : Int) - ((szEventS x.Events) : Int) - ((szLatchS x.Latches) : Int) - ((szCellS x.Cells) : Int) - ((szTopicS x.Topics) : Int)
 case neg =>
  rw [subZ_gt c7] at q7
  exact obind' q7 (bt' rfl (resI (by unfold subZ; rw [if_neg (by omega)])))
 rw [subZ_le c7] at q7
 refine obind' q7 (bf' (decide_eq_false (by show ¬ (a - ((szTokens x.Tokens) : Int) - ((szClock x.Clock) : Int) - ((szNotifyS x.Notes) : Int) - ((szEventS x.Events) : Int) - ((szLatchS x.Latches) : Int) - ((szCellS x.Cells) : Int) - ((szTopicS x.Topics) : Int) - ((szMergeS x.Merges) : Int) < 0); omega)) ?_)
 have q8 := v42 x.Users (a - ((szTokens x.Tokens) : Int) - ((szClock x.Clock) : Int) - ((szNotifyS x.Notes) : Int) - ((szEventS x.Events) : Int) - ((szLatchS x.Latches) : Int) - ((szCellS x.Cells) : Int) - ((szTopicS x.Topics) : Int) - ((szMergeS x.Merges) : Int)) ok8 (by omega) (by omega)
 by_cases c8 : ((szUserS x.Users) : Int) ≤ a - ((szTokens x.Tokens) : Int) - ((szClock x.Clock) : Int) - ((szNotifyS x.Notes) : Int) - ((szEventS x.Events) : Int) - ((szLatchS x.Latches) : Int) - ((szCellS x.Cells) : Int) - ((szTopicS x.Topics) : Int) - ((szMergeS x.Merges) : Int)
 case neg =>
  rw [subZ_gt c8] at q8
  exact obind' q8 (bt' rfl (resI (by unfold subZ; rw [if_neg (by omega)])))
 rw [subZ_le c8] at q8
 refine obind' q8 (bf' (decide_eq_false (by show ¬ (a - ((szTokens x.Tokens) : Int) - ((szClock x.Clock) : Int) - ((szNotifyS x.Notes) : Int) - ((szEventS x.Events) : Int) - ((szLatchS x.Latches) : Int) - ((szCellS x.Cells) : Int) - ((szTopicS x.Topics) : Int) - ((szMergeS x.Merges) : Int) - ((szUserS x.Users) : Int) < 0); omega)) ?_)
 exact resI (by unfold subZ; rw [if_pos (by omega)]; show a - ((szTokens x.Tokens) : Int) - ((szClock x.Clock) : Int) - ((szNotifyS x.Notes) : Int) - ((szEventS x.Events) : Int) - ((szLatchS x.Latches) : Int) - ((szCellS x.Cells) : Int) - ((szTopicS x.Topics) : Int) - ((szMergeS x.Merges) : Int) - ((szUserS x.Users) : Int) = _; omega)
theorem v191 (x : VCall) (a : Int) (ok : okCall x) (h0 : 0 ≤ a) (h1 : a ≤ 1048576) : E 191 [slCall x, nI a] [] = some (nI (subZ a (szCall x)), []) := by
 refine ev1 0 rfl ?_
 rw [e191]
 unfold okCall at ok
 unfold szCall
 obtain ⟨ok0, ok1, ok2⟩ := ok
 have w0 : IntKind.i64.wrap (a - zN x.Name.size) = a - (x.Name.size : Int) := wrapS (by simp only [zN]; omega) (by simp only [zN]; omega)
 try rw [w0]
 by_cases c0 : (x.Name.size : Int) ≤ a
 case neg => exact bt' (decide_eq_true (by omega)) (resI (by unfold subZ; rw [if_neg (by omega)]))
 refine bf' (decide_eq_false (by omega)) ?_
 have q1 := v187 x.Msg (a - (x.Name.size : Int)) ok1 (by omega) (by omega)
 by_cases c1 : ((szMsg x.Msg) : Int) ≤ a - (x.Name.size : Int)
 case neg =>
  rw [subZ_gt c1] at q1
  exact obind' q1 (bt' rfl (resI (by unfold subZ; rw [if_neg (by omega)])))
 rw [subZ_le c1] at q1
 refine obind' q1 (bf' (decide_eq_false (by show ¬ (a - (x.Name.size : Int) - ((szMsg x.Msg) : Int) < 0); omega)) ?_)
 have q2 := v247 x.Filter (a - (x.Name.size : Int) - ((szMsg x.Msg) : Int)) ok2 (by omega) (by omega)
 by_cases c2 : ((szTermS x.Filter) : Int) ≤ a - (x.Name.size : Int) - ((szMsg x.Msg) : Int)
 case neg =>
  rw [subZ_gt c2] at q2
  exact obind' q2 (bt' rfl (resI (by unfold subZ; rw [if_neg (by omega)])))
 rw [subZ_le c2] at q2
 refine obind' q2 (bf' (decide_eq_false (by show ¬ (a - (x.Name.size : Int) - ((szMsg x.Msg) : Int) - ((szTermS x.Filter) : Int) < 0); omega)) ?_)
 exact resI (by unfold subZ; rw [if_pos (by omega)]; show a - (x.Name.size : Int) - ((szMsg x.Msg) : Int) - ((szTermS x.Filter) : Int) = _; omega)
theorem l118 (x : (List VCall)) (ok : okCallS x) : ∀ (m i : Nat) (a : Int), i + m = x.length → 0 ≤ a → a ≤ 1048576 → i ≤ 1048576 →
  x.length ≤ 1048576 → HH 118 [] (m + 1) [true, true, true, false, true] (hdS [(0, slCallS x), (1, nI a), (5, nI (i : Int))] [] []) = some (nI (subZ a ((x.drop i).map szCall).sum), []) := by
 intro m
 induction m with
 | zero =>
  intro i a hi h0 h1 _ _
  rw [hstep, h118, bf (by simp [zN] <;> omega), List.drop_eq_nil_of_le (by omega)]
  exact resI (by unfold subZ; simp <;> omega)
 | succ m ih =>
  intro i a hi h0 h1 h2 h3
  rw [hstep, h118, bt (by simp [zN] <;> omega), bt (by simp [zN] <;> omega), wrapN (by omega)]
  simp only [Int.toNat_natCast]
  rw [drop_getD (d := zCall) (show i < x.length by omega), List.map_cons, List.sum_cons]
  have q := v191 (x.getD i zCall) a (ok.2 _ (getD_mem (by omega))) h0 h1
  by_cases c : (szCall (x.getD i zCall) : Int) ≤ a
  · rw [subZ_le c] at q
    refine obind' q (bf' (decide_eq_false (by show ¬ (a - szCall (x.getD i zCall) < 0); omega)) ?_)
    refine (ih (i + 1) (a - szCall (x.getD i zCall)) (by omega) (by omega) (by omega) (by omega) h3).trans (resI ?_)
    unfold subZ
    split <;> split <;> omega
  · rw [subZ_gt c] at q
    refine obind' q (bt' rfl (resI ?_))
    unfold subZ
    rw [if_neg (by omega)]
theorem v118 (x : (List VCall)) (a : Int) (ok : okCallS x) (h0 : 0 ≤ a) (h1 : a ≤ 1048576) : E 118 [slCallS x, nI a] [] = some (nI (subZ a (szCallS x)), []) := by
 have ok1 := ok.1
 have w1 : IntKind.i64.wrap (a - zN x.length) = a - zN x.length := wrapS (by simp only [zN]; omega) (by simp only [zN]; omega)
 refine ev1 (x.length + 1) rfl ?_
 rw [e118]
 change (bif decide (IntKind.i64.wrap (a - zN x.length) < 0) then _ else _) = _
 by_cases c : (x.length : Int) ≤ a
 · refine bf' (decide_eq_false (by rw [w1]; simp only [zN]; omega)) ?_
   show HH 118 [] (x.length + 1) _ (hdS [(0, slCallS x), (1, nI (IntKind.i64.wrap (a - zN x.length))), (5, nI ((0 : Nat) : Int))] [] []) = _
   rw [w1]
   refine (l118 x ok x.length 0 (a - zN x.length) (by omega) (by simp only [zN]; omega) (by simp only [zN]; omega) (by omega) (by omega)).trans (resI (subZ_add c))
 · exact bt' (decide_eq_true (by rw [w1]; simp only [zN]; omega)) (resI (subZ_big c).symm)
theorem v43 (x : VClient) (a : Int) (ok : okClient x) (h0 : 0 ≤ a) (h1 : a ≤ 1048576) : E 43 [slClient x, nI a] [] = some (nI (subZ a (szClient x)), []) := by
 refine ev1 0 rfl ?_
 rw [e43]
 unfold okClient at ok
 unfold szClient
 have ok0 := ok
 have q0 := v118 x.Prog (a) ok0 (by omega) (by omega)
 by_cases c0 : ((szCallS x.Prog) : Int) ≤ a
 case neg =>
  rw [subZ_gt c0] at q0
  exact obind' q0 (bt' rfl (resI (by unfold subZ; rw [if_neg (by omega)])))
 rw [subZ_le c0] at q0
 refine obind' q0 (bf' (decide_eq_false (by show ¬ (a - ((szCallS x.Prog) : Int) < 0); omega)) ?_)
 exact resI (by unfold subZ; rw [if_pos (by omega)]; show a - ((szCallS x.Prog) : Int) = _; omega)
theorem l20 (x : (List VClient)) (ok : okClientS x) : ∀ (m i : Nat) (a : Int), i + m = x.length → 0 ≤ a → a ≤ 1048576 → i ≤ 1048576 →
  x.length ≤ 1048576 → HH 20 [] (m + 1) [true, true, true, false, true] (hdS [(0, slClientS x), (1, nI a), (5, nI (i : Int))] [] []) = some (nI (subZ a ((x.drop i).map szClient).sum), []) := by
 intro m
 induction m with
 | zero =>
  intro i a hi h0 h1 _ _
  rw [hstep, h20, bf (by simp [zN] <;> omega), List.drop_eq_nil_of_le (by omega)]
  exact resI (by unfold subZ; simp <;> omega)
 | succ m ih =>
  intro i a hi h0 h1 h2 h3
  rw [hstep, h20, bt (by simp [zN] <;> omega), bt (by simp [zN] <;> omega), wrapN (by omega)]
  simp only [Int.toNat_natCast]
  rw [drop_getD (d := zClient) (show i < x.length by omega), List.map_cons, List.sum_cons]
  have q := v43 (x.getD i zClient) a (ok.2 _ (getD_mem (by omega))) h0 h1
  by_cases c : (szClient (x.getD i zClient) : Int) ≤ a
  · rw [subZ_le c] at q
    refine obind' q (bf' (decide_eq_false (by show ¬ (a - szClient (x.getD i zClient) < 0); omega)) ?_)
    refine (ih (i + 1) (a - szClient (x.getD i zClient)) (by omega) (by omega) (by omega) (by omega) h3).trans (resI ?_)
    unfold subZ
    split <;> split <;> omega
  · rw [subZ_gt c] at q
    refine obind' q (bt' rfl (resI ?_))
    unfold subZ
    rw [if_neg (by omega)]
theorem v20 (x : (List VClient)) (a : Int) (ok : okClientS x) (h0 : 0 ≤ a) (h1 : a ≤ 1048576) : E 20 [slClientS x, nI a] [] = some (nI (subZ a (szClientS x)), []) := by
 have ok1 := ok.1
 have w1 : IntKind.i64.wrap (a - zN x.length) = a - zN x.length := wrapS (by simp only [zN]; omega) (by simp only [zN]; omega)
 refine ev1 (x.length + 1) rfl ?_
 rw [e20]
 change (bif decide (IntKind.i64.wrap (a - zN x.length) < 0) then _ else _) = _
 by_cases c : (x.length : Int) ≤ a
 · refine bf' (decide_eq_false (by rw [w1]; simp only [zN]; omega)) ?_
   show HH 20 [] (x.length + 1) _ (hdS [(0, slClientS x), (1, nI (IntKind.i64.wrap (a - zN x.length))), (5, nI ((0 : Nat) : Int))] [] []) = _
   rw [w1]
   refine (l20 x ok x.length 0 (a - zN x.length) (by omega) (by simp only [zN]; omega) (by simp only [zN]; omega) (by omega) (by omega)).trans (resI (subZ_add c))
 · exact bt' (decide_eq_true (by rw [w1]; simp only [zN]; omega)) (resI (subZ_big c).symm)
theorem v6 (x : VState) (a : Int) (ok : okState x) (h0 : 0 ≤ a) (h1 : a ≤ 1048576) : E 6 [slState x, nI a] [] = some (nI (subZ a (szState x)), []) := by
 refine ev1 0 rfl ?_
 rw [e6]
 unfold okState at ok
 unfold szState
 obtain ⟨ok0, ok1⟩ := ok
 have q0 := v19 x.Hub (a) ok0 (by omega) (by omega)
 by_cases c0 : ((szHub x.Hub) : Int) ≤ a
 case neg =>
  rw [subZ_gt c0] at q0
  exact obind' q0 (bt' rfl (resI (by unfold subZ; rw [if_neg (by omega)])))
 rw [subZ_le c0] at q0
 refine obind' q0 (bf' (decide_eq_false (by show ¬ (a - ((szHub x.Hub) : Int) < 0); omega)) ?_)
 have q1 := v20 x.Clients (a - ((szHub x.Hub) : Int)) ok1 (by omega) (by omega)
 by_cases c1 : ((szClientS x.Clients) : Int) ≤ a - ((szHub x.Hub) : Int)
 case neg =>
  rw [subZ_gt c1] at q1
  exact obind' q1 (bt' rfl (resI (by unfold subZ; rw [if_neg (by omega)])))
 rw [subZ_le c1] at q1
 refine obind' q1 (bf' (decide_eq_false (by show ¬ (a - ((szHub x.Hub) : Int) - ((szClientS x.Clients) : Int) < 0); omega)) ?_)
 exact resI (by unfold subZ; rw [if_pos (by omega)]; show a - ((szHub x.Hub) : Int) - ((szClientS x.Clients) : Int) = _; omega)
end Go.Fw
