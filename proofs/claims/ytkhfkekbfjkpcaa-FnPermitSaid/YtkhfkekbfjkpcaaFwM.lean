/- The by-value interpreter: one cell of a row stored. -/
import Derived.Test.YtkhfkekbfjkpcaaFwL
set_option linter.unusedVariables false
set_option linter.unusedSectionVars false
set_option linter.unusedSimpArgs false
namespace Go.Fw
variable [Tok]

theorem cell_ne {i j i' j' sz : Nat} (hj : j < sz) (hj' : j' < sz) (h : ¬ (i = i' ∧ j = j')) : i * sz + j ≠ i' * sz + j' := by
  intro e
  apply h
  have h1 : (i * sz + j) / sz = i := by rw [Nat.mul_comm, Nat.mul_add_div (by omega)]; simp [Nat.div_eq_of_lt hj]
  have h2 : (i' * sz + j') / sz = i' := by rw [Nat.mul_comm, Nat.mul_add_div (by omega)]; simp [Nat.div_eq_of_lt hj']
  have hi : i = i' := by rw [← h1, ← h2, e]
  subst hi
  exact ⟨rfl, by omega⟩

/-- A path that still leads to a row after a cell has become no row: it leads there. -/
theorem pathV_store {w w' : World} {sh : AV → Value → Prop} {x : AV} (hx : x.notOwn = true) {q : Nat × Nat} {ad : Addr} : ∀ (p2 p : List (Nat × Nat)) {n sz : Nat} {g : Nat → Nat → AV} {A : Option Addr} {cap : Nat} {F : Cells} {v : Value} {n' sz' : Nat} {h' : Nat → Nat → AV},
    RO w sh (.own n sz g) (.slice A n cap) F → placeV w A n sz g p q.1 q.2 (.pointer (some ad)) → (p = [] ∨ ∃ n' sz' h, atP g p = .own n' sz' h) →
    (∀ b o, F b o → ¬ (b = ad.block ∧ o = ad.off) → cellAt w' b o = cellAt w b o ∧ frozAt w' b o = frozAt w b o) →
    pathV w A n sz g p2 v → atP (setP g (p ++ [q]) x) p2 = .own n' sz' h' → pathV w' A n sz (setP g (p ++ [q]) x) p2 v := by
  intro p2
  induction p2 with
  | nil => intro p n sz g A cap F v n' sz' h' _ _ _ _ hp _; exact hp.elim
  | cons ij p2 ih =>
    obtain ⟨i, j⟩ := ij
    intro p n sz g A cap F v n' sz' h' hr hpl hat hag hp2 hown
    obtain ⟨ad1, rfl, hi, hj⟩ : ∃ ad1, A = some ad1 ∧ i < n ∧ j < sz := by
      cases p2 with
      | nil => obtain ⟨hi, hj, ad1, rfl, _⟩ := hp2; exact ⟨_, rfl, hi, hj⟩
      | cons _ _ => obtain ⟨hi, hj, ad1, rfl, _⟩ := hp2; exact ⟨_, rfl, hi, hj⟩
    have hr' := hr
    obtain ⟨A1, cap1, e, h1, h2, h3⟩ := hr
    obtain ⟨rfl, rfl⟩ : some ad1 = A1 ∧ cap = cap1 := by simpa using e
    rcases h3 with h3 | ⟨y, ey, hs, hcs, Fs, hf1, hf2, hf3⟩
    · omega
    obtain rfl : ad1 = y := by simpa using ey
    have hcell := hcs _ (cell_lt hi hj h1)
    obtain ⟨u0, hu0, hro0⟩ := hf3 i hi j hj
    -- what changes: at this cell, or beneath one, or elsewhere
    have key : ¬ (ad1.block = ad.block ∧ ad1.off + (i * sz + j) = ad.off) ∧
        ((∃ p' n3 sz3 h3 A3 cap3, p = (i, j) :: p' ∧ g i j = .own n3 sz3 h3 ∧ u0 = .slice A3 n3 cap3 ∧ setP g (p ++ [q]) x i j = .own n3 sz3 (setP h3 (p' ++ [q]) x) ∧ placeV w A3 n3 sz3 h3 p' q.1 q.2 (.pointer (some ad)) ∧ (p' = [] ∨ ∃ n' sz' h, atP h3 p' = .own n' sz' h))
          ∨ (setP g (p ++ [q]) x i j = g i j ∧ ¬ Fs i j ad.block ad.off)) := by
      cases p with
      | nil =>
        obtain ⟨qi, qj, ad2, e2, e3⟩ := hpl
        obtain rfl : ad1 = ad2 := by simpa using e2
        obtain rfl : ad = _ := by simpa using e3
        have hne : ¬ (i = q.1 ∧ j = q.2) := by
          rintro ⟨rfl, rfl⟩
          cases p2 with
          | nil => simp only [List.nil_append, setP, atP, upd2_self] at hown; rw [hown] at hx; simp [AV.notOwn] at hx
          | cons a b => simp only [List.nil_append, setP, atP, upd2_self] at hown; cases x <;> simp [AV.notOwn] at hx <;> simp at hown
        refine ⟨fun e => ?_, .inr ⟨by simp only [List.nil_append, setP]; exact upd2_ne _ _ hne, fun hf => (hf1 i j _ _ hi hj hf).2 ⟨rfl, by simp only; omega, ?_⟩⟩⟩
        · have := e.2
          simp only at this
          exact cell_ne hj qj hne (by omega)
        · have := cell_lt qi qj h1
          simp only; omega
      | cons ij0 p' =>
        obtain ⟨i0, j0⟩ := ij0
        have hat0 : ∃ n' sz' h, atP g ((i0, j0) :: p') = .own n' sz' h := by rcases hat with hat | hat; exact absurd hat (by simp); exact hat
        obtain ⟨hi0, hj0, ad2, e2, n3, sz3, h3, A3, cap3, hg, hc, hpl', hat', _⟩ := place_down hpl hat0
        obtain rfl : ad1 = ad2 := by simpa using e2
        obtain ⟨u3, hu3, hro3⟩ := hf3 i0 hi0 j0 hj0
        rw [hc] at hu3
        obtain rfl : _ = u3 := by simpa using hu3
        rw [hg] at hro3
        obtain ⟨_, _, _, hin, _⟩ := place_cell p' hro3 hpl' hat'
        have hset : setP g ((i0, j0) :: p' ++ [q]) x = upd2 g i0 j0 (.own n3 sz3 (setP h3 (p' ++ [q]) x)) := by
          cases p' with
          | nil => simp [setP, hg]
          | cons a b => simp [setP, hg]
        refine ⟨fun e => (hf1 i0 j0 _ _ hi0 hj0 hin).2 ⟨e.1.symm, by omega, ?_⟩, ?_⟩
        · have := cell_lt hi hj h1; omega
        · by_cases he : i = i0 ∧ j = j0
          · obtain ⟨rfl, rfl⟩ := he
            rw [hc] at hu0
            obtain rfl : _ = u0 := by simpa using hu0
            exact .inl ⟨p', n3, sz3, h3, A3, cap3, rfl, hg, rfl, by rw [hset, upd2_self], hpl', hat'⟩
          · exact .inr ⟨by rw [hset]; exact upd2_ne _ _ he, hf2 i0 j0 i j _ _ hi0 hj0 hi hj (fun e => he ⟨e.1.symm, e.2.symm⟩) hin⟩
    have hkeep := hag _ _ hcell.1 key.1
    cases p2 with
    | nil =>
      obtain ⟨_, _, ad2, e2, hc⟩ := hp2
      obtain rfl : ad1 = ad2 := by simpa using e2
      exact ⟨hi, hj, ad1, rfl, by rw [hkeep.1]; exact hc⟩
    | cons q2 p2' =>
      obtain ⟨_, _, ad2, e2, u, hc, hm⟩ := hp2
      obtain rfl : ad1 = ad2 := by simpa using e2
      rw [hc] at hu0
      obtain rfl : u = u0 := by simpa using hu0
      refine ⟨hi, hj, ad1, rfl, u, by rw [hkeep.1]; exact hc, ?_⟩
      simp only [atP] at hown
      rcases key.2 with ⟨p', n3, sz3, h3, A3, cap3, rfl, hg, rfl, hset, hpl', hat'⟩ | ⟨hset, hnf⟩
      · rw [hset] at hown ⊢
        rw [hg] at hm hro0
        simp only at hown hm ⊢
        obtain ⟨A4, cap4, e4, hpv⟩ := hm
        obtain ⟨rfl, rfl⟩ : A3 = A4 ∧ cap3 = cap4 := by simpa using e4
        exact ⟨A3, cap3, rfl, ih p' hro0 hpl' hat' (fun b o hb hd => hag b o (hf1 i j b o hi hj hb).1 hd) hpv hown⟩
      · rw [hset] at hown ⊢
        cases hgij : g i j with
        | own n3 sz3 h3 =>
          rw [hgij] at hm hro0
          simp only at hm ⊢
          obtain ⟨A4, cap4, rfl, hpv⟩ := hm
          exact ⟨A4, cap4, rfl, pathV_congr _ hro0 (fun b o hb => hag b o (hf1 i j b o hi hj hb).1 (fun e => hnf (by obtain ⟨rfl, rfl⟩ := e; exact hb))) hpv⟩
        | _ => rw [hgij] at hown; simp at hown

end Go.Fw
