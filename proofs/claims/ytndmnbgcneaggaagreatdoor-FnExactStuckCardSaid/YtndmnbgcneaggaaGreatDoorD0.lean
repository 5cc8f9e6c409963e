/- Truths as flags; steps of a walk through conditions; loops that ask all, or look for the first. -/
import Derived.Test.YtndmnbgcneaggaaGreatDoorV0
set_option linter.unusedVariables false
set_option linter.unusedSimpArgs false
namespace Go.Fw
open Go.Proofs
open Classical in
noncomputable def dB (p : Prop) : Bool := decide p
theorem dB_iff {p : Prop} : dB p = true ↔ p := by unfold dB; simp
theorem dB_eq {b : Bool} {p : Prop} (h : b = true ↔ p) : b = dB p := by rw [Bool.eq_iff_iff, dB_iff]; exact h
abbrev RB (b : Bool) : Option (AV × List AV) := some (AV.B b, [])
theorem val {t : Option (AV × List AV)} {b b' : Bool} (h : t = RB b) (e : b = b') : t = RB b' := by rw [h, e]
theorem sF {c w : Bool} {t : Option (AV × List AV)} (h : t = RB w) : (bif c then some (AV.B false, []) else t) = RB (!c && w) := by subst h; cases c <;> rfl
theorem sN {c w : Bool} {t : Option (AV × List AV)} (h : t = RB w) : (bif !c then some (AV.B false, []) else t) = RB (c && w) := by subst h; cases c <;> rfl
theorem sP {c w : Bool} {t : Option (AV × List AV)} (h : t = RB w) : (bif c then t else some (AV.B false, [])) = RB (c && w) := by subst h; cases c <;> rfl
theorem sI {c w v : Bool} {t u : Option (AV × List AV)} (h : t = RB w) (h' : u = RB v) : (bif c then t else u) = RB (bif c then w else v) := by subst h h'; cases c <;> rfl
theorem bndL' {n i : Nat} (h : i < n) : (bif decide (0 ≤ (i : Int)) then decide ((i : Int) < zN n) else false) = true := by simp [zN]; omega
def allR (P : Nat → Bool) : Nat → Nat → Bool
 | 0, _ => true
 | k + 1, i => P i && allR P k (i + 1)
theorem allR_iff (P : Nat → Bool) : ∀ k i, allR P k i = true ↔ ∀ j, i ≤ j → j < i + k → P j = true := by
 intro k
 induction k with
 | zero => intro i; exact ⟨fun _ j h1 h2 => by omega, fun _ => rfl⟩
 | succ k ih =>
  intro i
  show (P i && allR P k (i + 1)) = true ↔ _
  rw [Bool.and_eq_true, ih]
  exact ⟨fun ⟨h1, h2⟩ j h3 h4 => by
   by_cases e : j = i
   · rw [e]; exact h1
   · exact h2 j (by omega) (by omega), fun h => ⟨h i (by omega) (by omega), fun j h1 h2 => h j (by omega) (by omega)⟩⟩
theorem allR0 (P : Nat → Bool) (n : Nat) : allR P n 0 = true ↔ ∀ j, j < n → P j = true := by
 rw [allR_iff]; exact ⟨fun h j hj => h j (by omega) (by omega), fun h j _ hj => h j (by omega)⟩
theorem allR_congr {P Q : Nat → Bool} {n : Nat} (h : ∀ j, j < n → P j = Q j) : allR P n 0 = allR Q n 0 := by
 rw [Bool.eq_iff_iff, allR0, allR0]
 exact ⟨fun k j hj => by rw [← h j hj]; exact k j hj, fun k j hj => by rw [h j hj]; exact k j hj⟩
def fst1 (P : Nat → Bool) : Nat → Nat → Int
 | 0, _ => -1
 | k + 1, i => bif P i then (i : Int) else fst1 P k (i + 1)
theorem fst1_nn (P : Nat → Bool) : ∀ k i, decide (0 ≤ fst1 P k i) = !allR (fun j => !P j) k i := by
 intro k
 induction k with
 | zero => intro i; rfl
 | succ k ih =>
  intro i
  show decide (0 ≤ (bif P i then (i : Int) else fst1 P k (i + 1))) = !(!P i && allR (fun j => !P j) k (i + 1))
  cases P i with
  | true => simp
  | false => simp only [cond_false]; rw [ih]; simp
theorem fst1_rng (P : Nat → Bool) : ∀ k i, fst1 P k i = -1 ∨ ∃ j : Nat, fst1 P k i = j ∧ i ≤ j ∧ j < i + k ∧ P j = true ∧ ∀ m, i ≤ m → m < j → P m = false := by
 intro k
 induction k with
 | zero => intro i; exact .inl rfl
 | succ k ih =>
  intro i
  cases hp : P i with
  | true => exact .inr ⟨i, by simp [fst1, hp], by omega, by omega, hp, fun m h1 h2 => by omega⟩
  | false =>
   have e : fst1 P (k + 1) i = fst1 P k (i + 1) := by simp [fst1, hp]
   rw [e]
   rcases ih (i + 1) with h | ⟨j, h1, h2, h3, h4, h5⟩
   · exact .inl h
   · exact .inr ⟨j, h1, by omega, by omega, h4, fun m h6 h7 => by
      by_cases e : m = i
      · rw [e]; exact hp
      · exact h5 m (by omega) h7⟩
theorem u_all {f : Nat} {exts : List AV} {p : List Bool} {S : Nat → St} {n : Nat} {P : Nat → Bool} {kb : Bool} (hend : L f exts p (S n) = RB kb)
  (hstep : ∀ i c, i < n → L f exts p (S (i + 1)) = RB c → L f exts p (S i) = RB (P i && c)) : L f exts p (S 0) = RB (allR P n 0 && kb) := by
 have key : ∀ (m i : Nat), i + m = n → L f exts p (S i) = RB (allR P m i && kb) := by
  intro m
  induction m with
  | zero =>
   intro i hi
   have e : i = n := by omega
   subst e
   rw [hend]; rfl
  | succ m ih =>
   intro i hi
   rw [hstep i _ (by omega) (ih (i + 1) (by omega))]
   show RB (P i && (allR P m (i + 1) && kb)) = RB ((P i && allR P m (i + 1)) && kb)
   rw [Bool.and_assoc]
 exact key n 0 (by omega)
theorem u_fst {f : Nat} {exts : List AV} {p : List Bool} {S : Nat → St} {n : Nat} {P : Nat → Bool} (hend : L f exts p (S n) = some (nI (-1), exts))
  (hstep : ∀ i x, i < n → L f exts p (S (i + 1)) = some (nI x, exts) → L f exts p (S i) = some (nI (bif P i then (i : Int) else x), exts)) : L f exts p (S 0) = some (nI (fst1 P n 0), exts) := by
 have key : ∀ (m i : Nat), i + m = n → L f exts p (S i) = some (nI (fst1 P m i), exts) := by
  intro m
  induction m with
  | zero =>
   intro i hi
   have e : i = n := by omega
   subst e
   exact hend
  | succ m ih =>
   intro i hi
   exact hstep i _ (by omega) (ih (i + 1) (by omega))
 exact key n 0 (by omega)
theorem u_any {f : Nat} {exts : List AV} {p : List Bool} {S : Nat → St} {n : Nat} {P : Nat → Bool} (hend : L f exts p (S n) = RB false)
  (hstep : ∀ i x, i < n → L f exts p (S (i + 1)) = RB x → L f exts p (S i) = RB (bif P i then true else x)) : L f exts p (S 0) = RB (!allR (fun j => !P j) n 0) := by
 have key : ∀ (m i : Nat), i + m = n → L f exts p (S i) = RB (!allR (fun j => !P j) m i) := by
  intro m
  induction m with
  | zero =>
   intro i hi
   have e : i = n := by omega
   subst e
   exact hend
  | succ m ih =>
   intro i hi
   rw [hstep i _ (by omega) (ih (i + 1) (by omega))]
   show RB _ = RB (!(!P i && allR (fun j => !P j) m (i + 1)))
   cases P i <;> simp
 exact key n 0 (by omega)
end Go.Fw
