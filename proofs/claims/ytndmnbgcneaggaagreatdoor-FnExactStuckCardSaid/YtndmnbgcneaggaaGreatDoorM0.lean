/- Marking a row: what comes back is a number and a row as long. -/
import Derived.Test.YtndmnbgcneaggaaGreatDoorV0
set_option linter.unusedVariables false
set_option linter.unusedSimpArgs false
namespace Go.Fw
open Go.Proofs
theorem sumL_drop {α : Type} {g : α → Nat} {d : α} {x : List α} {i : Nat} (h : i < x.length) : sumL g (x.drop i) = 1 + g (x.getD i d) + sumL g (x.drop (i + 1)) := by
 rw [drop_getD (d := d) h]
 simp only [sumL, List.length_cons, List.map_cons, List.sum_cons]; omega
theorem u_mark {α : Type} {f : Nat} {exts : List AV} {p : List Bool} {S : List α → Int → Nat → St} {ow : List α → AV} {g : α → Nat} {d : α} {x : List α}
  (hend : ∀ (y : List α) (k : Int), y.length = x.length → L f exts p (S y k x.length) = some (nI k, [ow y]))
  (hstep : ∀ (y : List α) (k : Int) (i : Nat), i < x.length → y.length = x.length → y.getD i d = x.getD i d → 0 ≤ k → k + 64 * (1 + g (x.getD i d) : Nat) ≤ 1125899906842624 →
   ∃ (v : α) (k' : Int), k ≤ k' ∧ k' ≤ k + 64 * (1 + g (x.getD i d) : Nat) ∧ ∀ r, L f exts p (S (y.set i v) k' (i + 1)) = some r → L f exts p (S y k i) = some r)
  (k : Int) (h0 : 0 ≤ k) (h1 : k + 64 * (sumL g x : Nat) ≤ 1125899906842624) :
  ∃ (k' : Int) (z : List α), L f exts p (S x k 0) = some (nI k', [ow z]) ∧ z.length = x.length ∧ k ≤ k' ∧ k' ≤ k + 64 * (sumL g x : Nat) := by
 have key : ∀ (m i : Nat) (y : List α) (k : Int), i + m = x.length → y.length = x.length → (∀ j, i ≤ j → y.getD j d = x.getD j d) → 0 ≤ k → k + 64 * (sumL g (x.drop i) : Nat) ≤ 1125899906842624 →
   ∃ (k' : Int) (z : List α), L f exts p (S y k i) = some (nI k', [ow z]) ∧ z.length = x.length ∧ k ≤ k' ∧ k' ≤ k + 64 * (sumL g (x.drop i) : Nat) := by
  intro m
  induction m with
  | zero =>
   intro i y k hi hy hd h0 h1
   obtain rfl : i = x.length := by omega
   exact ⟨k, y, hend y k hy, hy, Int.le_refl _, by omega⟩
  | succ m ih =>
   intro i y k hi hy hd h0 h1
   have hi2 : i < x.length := by omega
   rw [sumL_drop (d := d) hi2] at h1 ⊢
   obtain ⟨v, k1, a1, a2, a3⟩ := hstep y k i hi2 hy (hd i (Nat.le_refl _)) h0 (by omega)
   obtain ⟨k2, z, b1, b2, b3, b4⟩ := ih (i + 1) (y.set i v) k1 (by omega) (by rw [List.length_set]; exact hy) (fun j hj => by
    rw [← hd j (by omega)]
    simp only [List.getD_eq_getElem?_getD]
    rw [List.getElem?_set_ne (by omega)]) (by omega) (by omega)
   exact ⟨k2, z, a3 _ b1, b2, by omega, by omega⟩
 have := key x.length 0 x k (by omega) rfl (fun _ _ => rfl) h0 (by simpa using h1)
 simpa using this
end Go.Fw
