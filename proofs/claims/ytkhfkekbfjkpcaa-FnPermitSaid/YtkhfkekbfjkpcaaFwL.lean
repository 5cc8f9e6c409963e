/- The by-value interpreter: stores are what the model's are. -/
import Derived.Test.YtkhfkekbfjkpcaaFwK
set_option linter.unusedVariables false
set_option linter.unusedSectionVars false
set_option linter.unusedSimpArgs false
namespace Go.Fw
variable [Tok]

/-- Several cells set, one behind the other. -/
theorem setCells_spec (b : Nat) : ∀ (vs : List Value) (o : Nat) (w : World), (∀ j, j < vs.length → ∃ u, cellAt w b (o + j) = some u) →
    (∀ j v, vs[j]? = some v → cellAt (w.setCells b o vs) b (o + j) = some v) ∧ Chg w (w.setCells b o vs) (fun x y => x = b ∧ o ≤ y ∧ y < o + vs.length) ∧ (∀ x y, frozAt (w.setCells b o vs) x y = frozAt w x y) := by
  intro vs
  induction vs with
  | nil => intro o w _; exact ⟨fun j v h => by simp at h, Chg.refl w _, fun _ _ => rfl⟩
  | cons v vs ih =>
    intro o w hc
    have hw : w.setCells b o (v :: vs) = (w.setCell ⟨b, o, none⟩ v).setCells b (o + 1) vs := rfl
    rw [hw]
    obtain ⟨h1, h2, h3⟩ := ih (o + 1) (w.setCell ⟨b, o, none⟩ v) (fun j hj => by
      obtain ⟨u, hu⟩ := hc (j + 1) (by simp; omega)
      rw [cellAt_setCell, if_neg (by omega)]
      exact ⟨u, by rw [← hu]; congr 1; omega⟩)
    have hs := setCell_chg w b o v
    refine ⟨fun j x hj => ?_, ⟨Nat.le_trans hs.size h2.size, fun x y hx hd => ?_, fun x hx hd => ?_, hs.io.trans h2.io⟩, fun x y => (h3 x y).trans (frozAt_setCell ..)⟩
    · cases j with
      | zero =>
        simp at hj; subst hj
        have hsz := setCell_size w ⟨b, o, none⟩ v
        obtain ⟨u, hu⟩ := hc 0 (by simp)
        have hb : b < w.heap.size := by
          by_cases hb : b < w.heap.size
          · exact hb
          · unfold cellAt World.cell? at hu
            simp only [Array.getElem?_eq_none (Nat.le_of_not_lt hb)] at hu
            simp at hu
        have := (h2.cell b o (by rw [hsz]; exact hb) (by omega)).1
        show cellAt _ b o = _
        rw [this, cellAt_setCell, if_pos ⟨rfl, rfl⟩]
        rw [Nat.add_zero] at hu
        rw [hu]; rfl
      | succ j =>
        have := h1 j x (by simpa using hj)
        rw [← this]; congr 1; omega
    · have hd' : ¬ (x = b ∧ o ≤ y ∧ y < o + vs.length + 1) := by simpa [Nat.add_assoc] using hd
      have e1 := hs.cell x y hx (by omega)
      have e2 := h2.cell x y (Nat.lt_of_lt_of_le hx hs.size) (by omega)
      exact ⟨e2.1.trans e1.1, e2.2.trans e1.2⟩
    · have hne : x ≠ b := fun e => hd o ⟨e, by omega, by simp⟩
      have e1 := hs.blk x hx (fun y e => hne e.1)
      have e2 := h2.blk x (Nat.lt_of_lt_of_le hx hs.size) (fun y e => hne e.1)
      exact e2.trans e1

section
variable {c : Cx} {gh : Gh} {nt : Nat} {st : St} {a : Act} {w : World} {P : Program} {R : Type} {r : R}

theorem sure_oneCell {x : AV} {v : Value} (hI : Inv c gh nt st a w) (h : st.sure x = true) (hx : TR c.sh gh st.ar st.bx w x v) : v.oneCell' = true := by
  cases x with
  | rf id => obtain ⟨A, e⟩ := Option.isSome_iff_exists.1 h; rw [hx A e]; rfl
  | rs id p m => obtain ⟨A, e⟩ := Option.isSome_iff_exists.1 h; obtain ⟨_, A', rfl, _⟩ := hx A e; rfl
  | pb b o => obtain ⟨B, e⟩ := Option.isSome_iff_exists.1 h; rw [hx B e]; rfl
  | rn id p =>
    simp only [St.sure] at h
    split at h
    · rename_i n sz g he
      obtain ⟨A, e, he⟩ := Option.map_eq_some_iff.1 he
      have hp := hx A n sz g e he
      obtain ⟨F', hr, _⟩ := RO_path p (hI.mem.rows id A e) he hp
      obtain ⟨A', cap, rfl, _⟩ := hr
      rfl
    · simp at h
  | pe id p i j =>
    simp only [St.sure] at h
    cases p with
    | nil =>
      obtain ⟨A, e⟩ := Option.isSome_iff_exists.1 h
      obtain ⟨_, _, ad, _, rfl⟩ := hx A e; rfl
    | cons q r =>
      simp only at h
      split at h
      · rename_i n sz g he
        obtain ⟨A, e, he⟩ := Option.map_eq_some_iff.1 he
        obtain ⟨_, _, ad, _, _, rfl⟩ := hx A e n sz g he; rfl
      · simp at h
  | clo f n g => obtain ⟨vs, rfl, _⟩ := hx; rfl
  | I k n => exact RS_oneCell hx
  | B n => exact RS_oneCell hx
  | S n => exact RS_oneCell hx
  | nlp => exact RS_oneCell hx
  | nsl _ _ => exact RS_oneCell hx
  | sl _ _ _ => exact RS_oneCell hx
  | sln _ _ _ => exact RS_oneCell hx
  | sp _ _ => exact RS_oneCell hx
  | gv _ => exact RS_oneCell hx
  | _ => simp [St.sure] at h

end
end Go.Fw
