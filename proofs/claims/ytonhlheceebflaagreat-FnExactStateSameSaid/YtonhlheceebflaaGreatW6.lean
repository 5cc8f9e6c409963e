/- Values: what the program writes of messages, filters, and of lists. -/
import Derived.Test.YtonhlheceebflaaGreatW3
set_option linter.unusedVariables false
set_option linter.unusedSimpArgs false
namespace Go.Fw
open Go.Proofs
theorem fa {α : Type} {p : α → Prop} {a : α} {l : List α} (h : p a) (t : ∀ x ∈ l, p x) : ∀ x ∈ a :: l, p x := List.forall_mem_cons.2 ⟨h, t⟩
theorem fa0 {α : Type} {p : α → Prop} : ∀ x ∈ ([] : List α), p x := fun _ h => by cases h
theorem bN_r (b : Bool) : i64R (bN b) := by cases b <;> exact ⟨by decide, by decide⟩
theorem zr {n : Nat} (h : n ≤ 4294967296) : i64R (zN n) := ⟨by simp only [zN]; omega, by simp only [zN]; omega⟩
theorem row3 (a b c : Int) : (fun i : Nat => lstG [nI (bif decide (i = 0) then a else bif decide (i - 1 = 0) then b else bif decide (i - 1 - 1 = 0) then c else 0)]) = gsIntS [a, b, c] := by
  funext i
  match i with
  | 0 => rfl
  | 1 => rfl
  | 2 => rfl
  | n + 3 => rfl
theorem row4 (a b c d : Int) : (fun i : Nat => lstG [nI (bif decide (i = 0) then a else bif decide (i - 1 = 0) then b else bif decide (i - 1 - 1 = 0) then c else bif decide (i - 1 - 1 - 1 = 0) then d else 0)]) = gsIntS [a, b, c, d] := by
  funext i
  match i with
  | 0 => rfl
  | 1 => rfl
  | 2 => rfl
  | 3 => rfl
  | n + 4 => rfl
theorem row5 (a b c d e : Int) : (fun i : Nat => lstG [nI (bif decide (i = 0) then a else bif decide (i - 1 = 0) then b else bif decide (i - 1 - 1 = 0) then c else bif decide (i - 1 - 1 - 1 = 0) then d else bif decide (i - 1 - 1 - 1 - 1 = 0) then e else 0)]) = gsIntS [a, b, c, d, e] := by
  funext i
  match i with
  | 0 => rfl
  | 1 => rfl
  | 2 => rfl
  | 3 => rfl
  | 4 => rfl
  | n + 5 => rfl
theorem row6 (a b c d e f : Int) : (fun i : Nat => lstG [nI (bif decide (i = 0) then a else bif decide (i - 1 = 0) then b else bif decide (i - 1 - 1 = 0) then c else bif decide (i - 1 - 1 - 1 = 0) then d else bif decide (i - 1 - 1 - 1 - 1 = 0) then e else bif decide (i - 1 - 1 - 1 - 1 - 1 = 0) then f else 0)]) = gsIntS [a, b, c, d, e, f] := by
  funext i
  match i with
  | 0 => rfl
  | 1 => rfl
  | 2 => rfl
  | 3 => rfl
  | 4 => rfl
  | 5 => rfl
  | n + 6 => rfl
/-- A loop that writes a list, and what is behind it. -/
theorem u_list {α : Type} {f : Nat} {exts : List AV} {p : List Bool} (d : α) (wf : α → ByteArray) (hf : ∀ x, 1 ≤ (wf x).size) (xs : List α) (S : Int → ByteArray → St) (T : ByteArray) (R : ByteArray → RES)
    (hR : ∀ w, ∃ r, R w = some r)
    (step : ∀ (i : Nat) (w : ByteArray) (r : AV × List AV), i < xs.length → xs.length ≤ 4294967296 → (w ++ wf (xs.getD i d)).size ≤ 4294967296 → L f exts p (S ((i + 1 : Nat) : Int) (w ++ wf (xs.getD i d))) = some r → L f exts p (S (i : Int) w) = some r)
    (fin : ∀ w, (w ++ T).size ≤ 4294967296 → L f exts p (S (xs.length : Int) w) = R (w ++ T)) :
    ∀ w, (w ++ (wL wf xs ++ T)).size ≤ 4294967296 → L f exts p (S ((0 : Nat) : Int) w) = R (w ++ (wL wf xs ++ T)) := by
  have key : ∀ (k i : Nat) (w : ByteArray), i + k = xs.length → xs.length ≤ 4294967296 → (w ++ (wL wf (xs.drop i) ++ T)).size ≤ 4294967296 → L f exts p (S (i : Int) w) = R (w ++ (wL wf (xs.drop i) ++ T)) := by
    intro k
    induction k with
    | zero =>
      intro i w h hl hs
      rw [List.drop_eq_nil_of_le (by omega)] at hs ⊢
      have e0 : wL wf [] ++ T = T := by show ByteArray.empty ++ T = _; simp
      rw [e0] at hs ⊢
      have : i = xs.length := by omega
      subst this
      exact fin w hs
    | succ k ih =>
      intro i w h hl hs
      have hi2 : i < xs.length := by omega
      rw [drop_getD (d := d) hi2] at hs ⊢
      have e0 : w ++ (wL wf (xs.getD i d :: xs.drop (i + 1)) ++ T) = w ++ wf (xs.getD i d) ++ (wL wf (xs.drop (i + 1)) ++ T) := by
        show w ++ (wf (xs.getD i d) ++ wL wf (xs.drop (i + 1)) ++ T) = _
        simp only [ByteArray.append_assoc]
      rw [e0] at hs ⊢
      have h1 := ih (i + 1) (w ++ wf (xs.getD i d)) (by omega) hl hs
      obtain ⟨r, hr⟩ := hR (w ++ wf (xs.getD i d) ++ (wL wf (xs.drop (i + 1)) ++ T))
      rw [hr] at h1 ⊢
      exact step i w r hi2 hl (by rw [ByteArray.size_append] at hs; omega) h1
  intro w hs
  have hl := wL_len hf xs
  have hs' := hs
  rw [ByteArray.size_append, ByteArray.size_append] at hs'
  exact key xs.length 0 w (by omega) (by omega) hs
theorem RW_some (w : ByteArray) : ∃ r, RW w = some r := ⟨_, rfl⟩
theorem v_msg (m : VMsg) (w : ByteArray) (ha : arMsg m) (hs : (w ++ wMsg m).size ≤ 4294967296) : E 53 [.pb 0 0, slMsg m] [NBw w] = RW (w ++ wMsg m) := by
  obtain ⟨h1, h2, _⟩ := ha
  have e0 : w ++ wMsg m = w ++ wN [m.Kind, m.Num] ++ wT m.Text := by unfold wMsg; simp only [ByteArray.append_assoc]
  rw [e0] at hs ⊢
  have hs' := hs
  rw [ByteArray.size_append] at hs'
  refine evK rfl ((e53 ..).trans (obind' (v_numsG [m.Kind, m.Num] (row2 ..) rfl w (fa h1 (fa h2 fa0)) (by omega)) (obind' (v_text m.Text _ hs) (bt' okTb rfl))))
theorem wTerm_pos (t : VTerm) : 1 ≤ (wTerm t).size := by unfold wTerm; have := wN_pos [t.Op, t.Num]; rw [ByteArray.size_append]; omega
theorem v_filter (ts : List VTerm) (w : ByteArray) (ha : arTermS ts) (hs : (w ++ wF ts).size ≤ 4294967296) : E 54 [.pb 0 0, slTermS ts] [NBw w] = RW (w ++ wF ts) := by
  have e0 : w ++ wF ts = w ++ wN [zN ts.length] ++ (wL wTerm ts ++ ByteArray.empty) := by unfold wF; simp only [ByteArray.append_assoc]; simp
  rw [e0] at hs ⊢
  have hl := wL_len wTerm_pos ts
  have hs' := hs
  simp only [ByteArray.size_append] at hs'
  refine evK rfl ((e54 ..).trans (obind' (v_numsG [zN ts.length] (row1 _) rfl w (fa (zr (by omega)) fa0) (by rw [ByteArray.size_append]; omega)) ?_))
  refine u_list (p := P54) zTerm wTerm wTerm_pos ts (fun i w' => S54 ts (zN ts.length) i w' w) ByteArray.empty RW RW_some (fun i w' r hi hl hs h => ?_) (fun w' hs => ?_) _ hs
  · obtain ⟨a1, a2, _⟩ := ha.2 _ (getD_mem (d := zTerm) hi)
    have e1 : w' ++ wTerm (ts.getD i zTerm) = w' ++ wN [(ts.getD i zTerm).Op, (ts.getD i zTerm).Num] ++ wT (ts.getD i zTerm).Text := by unfold wTerm; simp only [ByteArray.append_assoc]
    rw [e1] at hs h
    have hs' := hs
    rw [ByteArray.size_append] at hs'
    refine lstep ((h54 ..).trans (bt' (decide_eq_true (by simp only [zN]; omega)) (bt' (bndL hi) ?_)))
    rw [Int.toNat_natCast, wrapN (by omega)]
    exact obind' (v_numsG [(ts.getD i zTerm).Op, (ts.getD i zTerm).Num] (row2 ..) rfl w' (fa a1 (fa a2 fa0)) (by omega)) (obind' (v_text _ _ hs) h)
  · refine lstep ((h54 ..).trans (bf' (decide_eq_false (by simp only [zN]; omega)) (bt' okTb ?_)))
    rw [show w' ++ ByteArray.empty = w' by simp]
    rfl
end Go.Fw
