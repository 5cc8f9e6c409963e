/- Values: tokens, clocks, names, things. -/
import Derived.Test.YtndmnbgcneaggaaGreatDoorS4
import Derived.Test.YtndmnbgcneaggaaGreatDoorKu
set_option linter.unusedVariables false
set_option linter.unusedSimpArgs false
namespace Go.Fw
open Go.Proofs
theorem wrapP {i : Nat} (h : i ≤ 4611686018427387904) : IntKind.i64.wrap ((i : Int) - 1) = (i : Int) - 1 := wrapS (by omega) (by omega)
theorem fst1_eq (P : Nat → Bool) : ∀ (k b i : Nat), b ≤ i → i < b + k → P i = true → (fst1 P k b = (i : Int) ↔ ∀ j, b ≤ j → j < i → P j = false) := by
 intro k
 induction k with
 | zero => intro b i h1 h2; omega
 | succ k ih =>
  intro b i h1 h2 hp
  show (bif P b then (b : Int) else fst1 P k (b + 1)) = (i : Int) ↔ _
  cases hb : P b with
  | true =>
   simp only [cond_true]
   constructor
   · intro e j h3 h4; omega
   · intro h
     by_cases e : b = i
     · rw [e]
     · have := h b (by omega) (by omega)
       rw [hb] at this; simp at this
  | false =>
   simp only [cond_false]
   have hne : b ≠ i := fun e => by rw [e, hp] at hb; simp at hb
   rw [ih (b + 1) i (by omega) (by omega) hp]
   exact ⟨fun h j h3 h4 => by
    by_cases e : j = b
    · rw [e]; exact hb
    · exact h j (by omega) h4, fun h j h3 h4 => h j (by omega) h4⟩
theorem fst1_eq0 {P : Nat → Bool} {n i : Nat} (hi : i < n) (hp : P i = true) : fst1 P n 0 = (i : Int) ↔ ∀ j, j < i → P j = false := by
 rw [fst1_eq P n 0 i (by omega) (by omega) hp]
 exact ⟨fun h j hj => h j (by omega) hj, fun h j _ hj => h j hj⟩
theorem not_take {xs : List Int} {i : Nat} (a : Int) (hi : i ≤ xs.length) : a ∉ xs.take i ↔ ∀ j, j < i → ¬ xs.getD j 0 = a := by
 constructor
 · intro h j hj e
   refine h ?_
   rw [← e]
   have : (xs.take i).getD j 0 = xs.getD j 0 := by simp [List.getD_eq_getElem?_getD, List.getElem?_take, hj]
   rw [← this]
   exact getD_mem (by rw [List.length_take]; omega)
 · intro h hm
   obtain ⟨j, hj, e⟩ := List.getElem_of_mem hm
   rw [List.length_take] at hj
   refine h j (by omega) ?_
   rw [List.getElem_take] at e
   rw [List.getD_eq_getElem?_getD, List.getElem?_eq_getElem (by omega)]
   exact e
def tokI (x : VTokens) (i : Nat) : Bool := inR (x.Parents.getD i 0) (-1) ((i : Int) - 1) && !(decide (0 ≤ x.Parents.getD i 0) && (x.Off.getD (x.Parents.getD i 0).toNat false && !x.Off.getD i false))
def tokB (x : VTokens) : Bool := decide (x.Parents.length = x.Off.length) && (decide (x.Parents.length ≤ 24) && allR (tokI x) x.Parents.length 0)
theorem tok_leaf {x : VTokens} {i : Nat} {c : Bool} {N : Option (AV × List AV)} (hi : i < x.Off.length) (hN : N = RB c) :
  (bif !inR (x.Parents.getD i 0) (-1) ((i : Int) - 1) then some (AV.B false, []) else
   bif decide (0 ≤ x.Parents.getD i 0) then
    (bif bif decide (0 ≤ x.Parents.getD i 0) then decide (x.Parents.getD i 0 < zN x.Off.length) else false then
     (bif x.Off.getD (x.Parents.getD i 0).toNat false then
      (bif bif decide (0 ≤ (i : Int)) then decide ((i : Int) < zN x.Off.length) else false then
       (bif !x.Off.getD i false then some (AV.B false, []) else N) else none)
     else N)
    else none)
   else N) = RB (tokI x i && c) := by
 subst hN
 unfold tokI
 cases hq : inR (x.Parents.getD i 0) (-1) ((i : Int) - 1) with
 | false => rfl
 | true =>
  have hq := inR_iff.1 hq
  by_cases h0 : 0 ≤ x.Parents.getD i 0
  · rw [decide_eq_true h0, show decide (x.Parents.getD i 0 < zN x.Off.length) = true from decide_eq_true (by simp only [zN]; omega)]
    simp only [Bool.not_true, cond_false, cond_true, Bool.true_and, bndL' hi]
    cases x.Off.getD (x.Parents.getD i 0).toNat false <;> cases x.Off.getD i false <;> rfl
  · rw [decide_eq_false h0]; rfl
theorem v44 (x : VTokens) (hb : szTokens x ≤ 1048576) : E 44 [slTokens x] [] = RB (tokB x) := by
 unfold szTokens at hb
 have hlen : x.Parents.length ≤ 1048576 := sumL_len (f := fun _ => 0) (show szIntS x.Parents ≤ 1048576 by omega)
 refine evK rfl ((e44 ..).trans ?_)
 unfold tokB
 by_cases hl : x.Parents.length = x.Off.length
 · rw [decide_eq_true (show zN x.Parents.length = zN x.Off.length by rw [hl]), decide_eq_true hl]
   refine val (sN (sF (u_all (S := fun i : Nat => S44 x i) (n := x.Parents.length) (kb := true) (P := tokI x) ?_ (fun i c hi hc => ?_)))) ?_
   · exact lstep ((h44 ..).trans (bf' (decide_eq_false (by simp only [zN]; omega)) rfl))
   · refine lstep ((h44 ..).trans (bt' (decide_eq_true (by simp only [zN]; omega)) (bt' (bndL' hi) ?_)))
     rw [wrapN (by omega), wrapP (by omega)]
     simp only [Int.toNat_natCast]
     exact obind' (v22 ..) (tok_leaf (by omega) hc)
   · rw [Bool.and_true, Bool.true_and, Bool.true_and]
     congr 1
     simp only [zN]
     by_cases h : x.Parents.length ≤ 24
     · rw [decide_eq_true h, decide_eq_false (by omega)]; rfl
     · rw [decide_eq_false h, decide_eq_true (by omega)]; rfl
 · rw [decide_eq_false (show ¬ zN x.Parents.length = zN x.Off.length by simp only [zN]; omega), decide_eq_false hl]; rfl
theorem v66 (x : VTokens) (hb : szTokens x ≤ 1048576) : E 66 [slTokens x] [] = RB (tokB x) := by
 unfold szTokens at hb
 have hlen : x.Parents.length ≤ 1048576 := sumL_len (f := fun _ => 0) (show szIntS x.Parents ≤ 1048576 by omega)
 refine evK rfl ((e66 ..).trans ?_)
 unfold tokB
 by_cases hl : x.Parents.length = x.Off.length
 · rw [decide_eq_true (show zN x.Parents.length = zN x.Off.length by rw [hl]), decide_eq_true hl]
   refine val (sN (sF (u_all (S := fun i : Nat => S66 x x.Parents (zN x.Parents.length) i) (n := x.Parents.length) (kb := true) (P := tokI x) ?_ (fun i c hi hc => ?_)))) ?_
   · exact lstep ((h66 ..).trans (bf' (decide_eq_false (by simp only [zN]; omega)) rfl))
   · refine lstep ((h66 ..).trans (bt' (decide_eq_true (by simp only [zN]; omega)) (bt' (bndL' hi) ?_)))
     rw [wrapN (by omega), wrapP (by omega)]
     simp only [Int.toNat_natCast]
     exact obind' (v86 ..) (tok_leaf (by omega) hc)
   · rw [Bool.and_true, Bool.true_and, Bool.true_and]
     congr 1
     simp only [zN]
     by_cases h : x.Parents.length ≤ 24
     · rw [decide_eq_true h, decide_eq_false (by omega)]; rfl
     · rw [decide_eq_false h, decide_eq_true (by omega)]; rfl
 · rw [decide_eq_false (show ¬ zN x.Parents.length = zN x.Off.length by simp only [zN]; omega), decide_eq_false hl]; rfl
def clkI (x : VClock) (i : Nat) : Bool := !decide ((x.Timers.getD i zTimer).At ≤ x.Now) && (!decide (1000000000 < (x.Timers.getD i zTimer).At) && (inR (x.Timers.getD i zTimer).Token 0 23 && !(decide (0 < i) && decide ((x.Timers.getD i zTimer).At < (x.Timers.getD (i - 1) zTimer).At))))
def clkB (x : VClock) : Bool := inR x.Now 0 1000000000 && (decide (x.Timers.length ≤ 40) && allR (clkI x) x.Timers.length 0)
theorem prev_leaf {n i : Nat} {q : Nat → Bool} {c : Bool} {N : Option (AV × List AV)} (hi : i < n) (hn : n ≤ 4294967296) (hN : N = RB c) :
  (bif decide (0 < (i : Int)) then
   (bif bif decide (0 ≤ IntKind.i64.wrap ((i : Int) - 1)) then decide (IntKind.i64.wrap ((i : Int) - 1) < zN n) else false then
    (bif q (IntKind.i64.wrap ((i : Int) - 1)).toNat then some (AV.B false, []) else N) else none)
   else N) = RB (!(decide (0 < i) && q (i - 1)) && c) := by
 subst hN
 by_cases h : 0 < i
 · have e : IntKind.i64.wrap ((i : Int) - 1) = ((i - 1 : Nat) : Int) := by rw [wrapP (by omega)]; omega
   rw [e, decide_eq_true (show (0 : Int) < (i : Int) by omega), decide_eq_true h, bndL' (show i - 1 < n by omega), Int.toNat_natCast]
   cases q (i - 1) <;> rfl
 · rw [decide_eq_false (show ¬ (0 : Int) < (i : Int) by omega), decide_eq_false h]; rfl
theorem gt_len {α : Type} {xs : List α} (k : Nat) : (!decide ((k : Int) < zN xs.length)) = decide (xs.length ≤ k) := by
 simp only [zN]
 by_cases h : xs.length ≤ k
 · rw [decide_eq_true h, decide_eq_false (by omega)]; rfl
 · rw [decide_eq_false h, decide_eq_true (by omega)]; rfl
theorem le_len {α : Type} {xs : List α} (k : Nat) : decide (zN xs.length ≤ (k : Int)) = decide (xs.length ≤ k) := by
 simp only [zN]
 by_cases h : xs.length ≤ k
 · rw [decide_eq_true h, decide_eq_true (by omega)]
 · rw [decide_eq_false h, decide_eq_false (by omega)]
theorem v45 (x : VClock) (hb : szClock x ≤ 1048576) : E 45 [slClock x] [] = RB (clkB x) := by
 unfold szClock at hb
 have hlen : x.Timers.length ≤ 1048576 := sumL_len hb
 refine val (evK rfl ((e45 ..).trans (obind' (v22 ..) (sN (sF (u_all (S := fun i : Nat => S45 x i) (n := x.Timers.length) (kb := true) (P := clkI x) ?_ (fun i c hi hc => ?_))))))) ?_
 · exact lstep ((h45 ..).trans (bf' (decide_eq_false (by simp only [zN]; omega)) rfl))
 · refine lstep ((h45 ..).trans (bt' (decide_eq_true (by simp only [zN]; omega)) (bt' (bndL' hi) ?_)))
   rw [wrapN (by omega)]
   simp only [Int.toNat_natCast, and2_self]
   refine val (sF (sF (obind' (v22 ..) (sN (prev_leaf (q := fun k => decide ((x.Timers.getD i zTimer).At < (x.Timers.getD k zTimer).At)) hi (by omega) hc))))) ?_
   simp only [asB, clkI, Bool.and_assoc]
 · unfold clkB
   rw [← gt_len 40, Bool.and_true]; rfl
theorem v67 (x : VClock) (hb : szClock x ≤ 1048576) : E 67 [slClock x] [] = RB (clkB x) := by
 unfold szClock at hb
 have hlen : x.Timers.length ≤ 1048576 := sumL_len hb
 refine val (evK rfl ((e67 ..).trans (u_all (S := fun i : Nat => S67 x x.Timers (zN x.Timers.length) i) (n := x.Timers.length) (P := clkI x) (lstep ((h67 ..).trans (bf' (decide_eq_false (by simp only [zN]; omega)) (obind' (v86 ..) (sP rfl))))) (fun i c hi hc => ?_)))) ?_
 · refine lstep ((h67 ..).trans (bt' (decide_eq_true (by simp only [zN]; omega)) (bt' (bndL' hi) ?_)))
   rw [wrapN (by omega)]
   simp only [Int.toNat_natCast, and2_self]
   refine val (sF (sF (obind' (v86 ..) (sN (prev_leaf (q := fun k => decide ((x.Timers.getD i zTimer).At < (x.Timers.getD k zTimer).At)) hi (by omega) hc))))) ?_
   simp only [asB, clkI, Bool.and_assoc]
 · unfold clkB
   rw [← le_len 40]
   simp only [asB]
   cases inR x.Now 0 1000000000 <;> simp [Bool.and_comm]
end Go.Fw
