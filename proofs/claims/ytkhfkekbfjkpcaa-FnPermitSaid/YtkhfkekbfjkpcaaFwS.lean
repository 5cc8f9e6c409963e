/- The by-value interpreter: structs and slices that are built. -/
import Derived.Test.YtkhfkekbfjkpcaaFwR
set_option linter.unusedVariables false
set_option linter.unusedSectionVars false
set_option linter.unusedSimpArgs false
namespace Go.Fw
variable [Tok]

section
variable {c : Cx} {gh : Gh} {nt : Nat} {st : St} {a : Act} {w : World} {P : Program} {R : Type} {r : R}

theorem getD_of {xs ys : Array Value} {i j : Nat} (h : xs[i]? = ys[j]?) : xs.getD i undef = ys.getD j undef := by
  simp [Array.getD_eq_getD_getElem?, h]

theorem fill_TR {t : TypeId} {sz : Nat} {place : Nat → Option (Nat × Nat)} (hp : ∀ f off n ft, fieldOf P t f = some (off, n, ft) → place f = some (off, n)) (h : Inv c gh nt st a w) : ∀ (parts : List (Nat × Operand)) (g g' : Nat → AV) (cells : Array Value),
    cells.size = sz → (∀ j, j < sz → (cells.getD j undef).oneCell' = true ∧ TR c.sh gh st.ar st.bx w (g j) (cells.getD j undef)) → buildG P st t sz g parts = some g' →
    ∃ cells', Instr.fill place cells (parts.map fun ix => (ix.1, a.eval ix.2)) = some cells' ∧ cells'.size = sz ∧ ∀ j, j < sz → (cells'.getD j undef).oneCell' = true ∧ TR c.sh gh st.ar st.bx w (g' j) (cells'.getD j undef) := by
  intro parts
  induction parts with
  | nil =>
    intro g g' cells hs hc e
    simp only [buildG, Option.some.injEq] at e
    subst e
    exact ⟨cells, rfl, hs, hc⟩
  | cons ix l ih =>
    intro g g' cells hs hc e
    simp only [buildG] at e
    split at e
    · rename_i off n ft hf
      cases hk : (st.sureA (st.get P ft ix.2) && Nat.beq (st.get P ft ix.2).cellsN n && Nat.ble (off + n) sz) with
      | false => rw [hk] at e; simp at e
      | true =>
        rw [hk] at e
        simp only [cond_true] at e
        simp only [Bool.and_eq_true] at hk
        have hn : (st.get P ft ix.2).cellsN = n := beq_eq.1 hk.1.2
        have hle : off + n ≤ sz := Nat.le_of_ble_eq_true hk.2
        obtain ⟨hsz, hcs⟩ := cells_TR h hk.1.1 (get_TR h ft ix.2)
        obtain ⟨f1, f2⟩ := foldl_cells off (a.eval ix.2).cells cells
        have hnew : ∀ j, j < sz → (((a.eval ix.2).cells.zipIdx.foldl (fun cs (x : Value × Nat) => cs.setIfInBounds (off + x.2) x.1) cells).getD j undef).oneCell' = true ∧
            TR c.sh gh st.ar st.bx w ((fun j => bif Nat.ble off j && Nat.blt j (off + n) then (st.get P ft ix.2).cellsG (j - off) else g j) j) (((a.eval ix.2).cells.zipIdx.foldl (fun cs (x : Value × Nat) => cs.setIfInBounds (off + x.2) x.1) cells).getD j undef) := fun j hj => by
          simp only
          by_cases hin : off ≤ j ∧ j < off + n
          · have hb : (Nat.ble off j && Nat.blt j (off + n)) = true := by rw [Bool.and_eq_true]; exact ⟨Nat.ble_eq_true_of_le hin.1, Nat.ble_eq_true_of_le hin.2⟩
            have e1 := f2 j
            rw [if_pos ⟨hin.1, by omega, by omega⟩] at e1
            rw [getD_of e1, hb]
            exact hcs (j - off) (by omega)
          · have hb : (Nat.ble off j && Nat.blt j (off + n)) = false := by
              rw [Bool.eq_false_iff]; intro hb; rw [Bool.and_eq_true] at hb
              exact hin ⟨Nat.le_of_ble_eq_true hb.1, Nat.le_of_ble_eq_true hb.2⟩
            have e1 := f2 j
            rw [if_neg (by omega)] at e1
            rw [getD_of e1, hb]
            exact hc j hj
        obtain ⟨cells', h1, h2, h3⟩ := ih _ g' _ (f1.trans hs) hnew e
        refine ⟨cells', ?_, h2, h3⟩
        simp only [List.map_cons, Instr.fill, hp _ _ _ _ hf]
        rw [if_neg (by simp; omega)]
        exact h1
    · simp at e

theorem mapM_places : ∀ (fs : List Field), (∀ f, f ∈ fs → (P.info? f.type).isSome = true) → fs.mapM (fun f => (P.info? f.type).map fun i => (f.offset, i.size)) = some (fs.map fun f => (f.offset, P.cellsOf f.type))
  | [], _ => rfl
  | f :: fs, h => by
    obtain ⟨i, hi⟩ := Option.isSome_iff_exists.1 (h f (by simp))
    have := mapM_places fs (fun g hg => h g (by simp [hg]))
    simp [List.mapM_cons, hi, this, cellsOf_eq hi]

theorem build_sound {t : TypeId} {parts : Array (Nat × Operand)} {sz : Nat} {g0 g : Nat → AV} {fs : Array Field} (h : Inv c gh nt st a w) (hz : zBox P t = some (sz, g0)) (hu : P.underlying t = some (.struct fs))
    (hg : buildG P st t sz g0 parts.toList = some g) (hfs : fs.all (fun f => (P.info? f.type).isSome) = true) :
    ∃ cells, (Instr.build t (parts.map fun (i, x) => (i, a.eval x))).run P w = .ok (.agg cells) w ∧ TR c.sh gh st.ar st.bx w (.ag sz g) (.agg cells) := by
  have hz' := hz
  unfold zBox at hz'
  split at hz'
  · rename_i z hzz
    obtain ⟨i, hi, hzi⟩ := Option.bind_eq_some_iff.1 hzz
    have hpl := mapM_places (P := P) fs.toList (fun f hf => by
      have := Array.all_eq_true_iff_forall_mem.1 hfs f (by simpa using hf)
      simpa using this)
    cases hall : z.cells.all (fun v => v.oneCell') with
    | false => rw [hall] at hz'; simp at hz'
    | true =>
      rw [hall] at hz'
      simp only [cond_true, Option.some.injEq, Prod.mk.injEq] at hz'
      obtain ⟨hs, hg0⟩ := hz'
      obtain ⟨cells, h1, h2, h3⟩ := fill_TR (P := P) (t := t) (sz := sz) (place := fun x => (fs.toList.map fun f => (f.offset, P.cellsOf f.type)).toArray[x]?) (fun f off n ft hf => by
          unfold fieldOf at hf
          rw [hu] at hf
          simp only at hf
          split at hf
          · rename_i x hx
            simp only [Option.some.injEq, Prod.mk.injEq] at hf
            obtain ⟨rfl, rfl, rfl⟩ := hf
            simp [hx]
          · simp at hf) h parts.toList g0 g z.cells hs (fun j hj => by rw [← hg0]; exact ⟨all_oneCell hall j (by omega), cCell_TR⟩) hg
      refine ⟨cells, run_build w t _ cells ?_, _, rfl, h2, h3⟩
      unfold Program.built
      simp only [hi, hu, hzi, hpl]
      rw [← h1]
      simp
  · simp at hz'

/-! ### Slices that are built -/
structure TookRows (c : Cx) (gh gh' : Gh) (nt : Nat) (st st' : St) (a : Act) (w : World) (FL F : Cells) (sz : Nat) (l : List (List AV)) (vs : List Value) : Prop where
  took : TookL c gh gh' nt st st' a w FL F
  rows : ∃ Fs : Nat → Nat → Cells, (∀ i j b o, i < l.length → j < sz → Fs i j b o → F b o) ∧ (∀ i j i' j' b o, i < l.length → j < sz → i' < l.length → j' < sz → ¬ (i = i' ∧ j = j') → Fs i j b o → ¬ Fs i' j' b o) ∧
    ∀ i, i < l.length → ∀ j, j < sz → ((vs.getD i undef).cells.getD j undef).oneCell' = true ∧ RO w c.sh (lstG (l.getD i []) j) ((vs.getD i undef).cells.getD j undef) (Fs i j)

theorem rowsL_sound {e : TypeId} : ∀ (parts : List (Nat × Operand)) {gh : Gh} {st st' : St} {FL : Cells} {l : List (List AV)}, Inv c gh nt st a w → Free c gh st.ar st.bx w FL → rowsL P e st parts = some (l, st') →
    l.length = parts.length ∧ (∀ ix, ix ∈ parts → (a.eval ix.2).cells.size = P.cellsOf e) ∧ ∃ gh' F, TookRows c gh gh' nt st st' a w FL F (P.cellsOf e) l (parts.map fun ix => a.eval ix.2) := by
  intro parts
  induction parts with
  | nil =>
    intro gh st st' FL l h hFL e
    simp only [rowsL, Option.some.injEq, Prod.mk.injEq] at e
    obtain ⟨rfl, rfl⟩ := e
    exact ⟨rfl, by simp, gh, fun _ _ => False, ⟨⟨h, hFL.mono fun x y hx => hx.elim id False.elim, fun _ _ h => h.elim, .refl, rfl, rfl, rfl⟩,
      fun _ _ _ _ => False, fun _ _ _ _ hi => absurd hi (by simp), fun _ _ _ _ _ _ hi => absurd hi (by simp), fun _ hi => absurd hi (by simp)⟩⟩
  | cons ix ps ih =>
    intro gh st st' FL l h hFL e
    simp only [rowsL] at e
    cases hk : (st.sureA (st.get P ‹TypeId› ix.2) && Nat.beq (st.get P ‹TypeId› ix.2).cellsN (P.cellsOf ‹TypeId›)) with
    | false => rw [hk] at e; simp at e
    | true =>
      rw [hk] at e
      simp only [cond_true] at e
      rw [Bool.and_eq_true] at hk
      have hn := beq_eq.1 hk.2
      obtain ⟨hsz, hcs⟩ := cells_TR h hk.1 (get_TR h _ ix.2)
      split at e
      · rename_i x st1 htk
        split at e
        · rename_i xs st2 hr
          simp only [Option.some.injEq, Prod.mk.injEq] at e
          obtain ⟨rfl, rfl⟩ := e
          obtain ⟨hl, gh1, F1, hT, Fs1, a1, a2, a3⟩ := takeR_range (vs := fun j => (a.eval ix.2).cells.getD j undef) (P.cellsOf ‹TypeId›) h hFL (fun j hj => (hcs j (by omega)).2) htk
          obtain ⟨hl2, hall, gh2, F2, ⟨hT2, Fs2, b1, b2, b3⟩⟩ := ih hT.inv hT.free hr
          refine ⟨by simp [hl2], ?_, gh2, fun b o => F1 b o ∨ F2 b o, ⟨⟨hT2.inv, hT2.free.mono (fun x y hx => ?_), fun b o hb => ?_, hT.holds.trans hT2.holds, hT2.ba.trans hT.ba, hT2.bx.trans hT.bx, hT2.hd.trans hT.hd⟩,
            fun i j => match i with | 0 => Fs1 j | i + 1 => Fs2 i j, ?_, ?_, ?_⟩⟩
          · intro jx hj
            rcases List.mem_cons.1 hj with rfl | hj
            · omega
            · exact hall jx hj
          · rcases hx with hx | hx | hx
            · exact .inl (.inl hx)
            · exact .inl (.inr hx)
            · exact .inr hx
          · rcases hb with hb | hb
            · exact hT.apart b o hb
            · exact fun hf => hT2.apart b o hb (.inl hf)
          · intro i j b o hi hj hb
            cases i with
            | zero => exact .inl (a1 j b o hj hb)
            | succ i => exact .inr (b1 i j b o (by simpa using hi) hj hb)
          · intro i j i' j' b o hi hj hi' hj' hne hb hb'
            cases i with
            | zero =>
              cases i' with
              | zero => exact a2 j j' b o hj hj' (fun e => hne ⟨rfl, e⟩) hb hb'
              | succ i' => exact hT2.apart b o (b1 i' j' b o (by simpa using hi') hj' hb') (.inr (a1 j b o hj hb))
            | succ i =>
              cases i' with
              | zero => exact hT2.apart b o (b1 i j b o (by simpa using hi) hj hb) (.inr (a1 j' b o hj' hb'))
              | succ i' => exact b2 i j i' j' b o (by simpa using hi) hj (by simpa using hi') hj' (fun e => hne ⟨by rw [e.1], e.2⟩) hb hb'
          · intro i hi j hj
            cases i with
            | zero => exact ⟨(hcs j (by omega)).1, a3 j hj⟩
            | succ i => exact b3 i (by simpa using hi) j hj
        · simp at e
      · simp at e

end
end Go.Fw
