/- The by-value interpreter: loads, addresses, parts: as the model's. -/
import Derived.Test.YtkhfkekbfjkpcaaFwI
set_option linter.unusedVariables false
set_option linter.unusedSectionVars false
set_option linter.unusedSimpArgs false
namespace Go.Fw
variable [Tok]

section
variable {c : Cx} {gh : Gh} {nt : Nat} {st : St} {a : Act} {w : World} {P : Program} {R : Type} {r : R}

theorem wp_val {o : Oper} {Kc : Act → World → Prop} {Q : Exit → Act → World → Prop} {v : Value} {w' : World} (hr : (execOp a.eval o).run P w = .ok (.value v) w') (h : Kc (a.put o.dst v) w') : o.wp P a w Kc Q := by
  unfold Oper.wp; rw [hr]; exact h
theorem wp_skip' {o : Oper} {Kc : Act → World → Prop} {Q : Exit → Act → World → Prop} {w' : World} (hr : (execOp a.eval o).run P w = .ok .skip w') (h : Kc (a.put o.dst undef) w') : o.wp P a w Kc Q := by
  unfold Oper.wp; rw [hr]; exact h

theorem pickAV_TR {x : Bool} {y z : AV} {u v : Value} (hy : TR c.sh gh st.ar st.bx w y u) (hz : TR c.sh gh st.ar st.bx w z v) : TR c.sh gh st.ar st.bx w (pickAV x y z) (if x then u else v) := by
  unfold pickAV
  split
  · have h1 := TR_B hy; have h2 := TR_B hz; subst h1 h2
    cases x <;> rfl
  · have h1 := TR_B hy; subst h1
    cases x
    · trivial
    · rfl
  · have h2 := TR_B hz; subst h2
    cases x
    · rfl
    · trivial
  · trivial

theorem ptr_ext {x y : Addr} (h : x = y) : Value.pointer (some x) = .pointer (some y) := by rw [h]

theorem cellsOf_eq {t : TypeId} {i : TypeInfo} (h : P.info? t = some i) : P.cellsOf t = i.size := by simp [Program.cellsOf, h]

/-- A field's address. -/
theorem fieldAt_run {t : TypeId} {f off fs : Nat} {ft : TypeId} {ad : Addr} (hs : ad.spot = none) (hf : fieldOf P t f = some (off, fs, ft)) (h0 : 0 < fs) :
    (Instr.fieldAt t (.pointer (some ad)) f).run P w = .ok (.pointer (some ⟨ad.block, ad.off + off, none⟩)) w := by
  unfold fieldOf at hf
  split at hf
  · rename_i fss hu
    split at hf
    · rename_i x hx
      simp only [Option.some.injEq, Prod.mk.injEq] at hf
      obtain ⟨rfl, rfl, rfl⟩ := hf
      unfold Program.cellsOf at h0
      cases hi : P.info? x.type with
      | none => rw [hi] at h0; simp at h0
      | some i =>
        rw [hi] at h0
        simp only [Option.map_some, Option.getD_some] at h0
        have hne : ¬ i.size = 0 := by omega
        unfold Instr.fieldAt
        simp only [Sem.run_bind, run_underlying hu, Result.andThen_ok, hx]
        simp only [Instr.sureAddr, fieldPlace, sizeOf, typeInfo, Sem.run_bind, run_program, Result.andThen_ok, hi, Sem.run_pure, hne, if_false, add_eq hs]
    · simp at hf
  · simp at hf

theorem pb_spot {b : Nat} {sz : Nat} {g : Nat → AV} (h : Inv c gh nt st a w) (e : st.bx b = some (sz, g)) : (gh.ba b).spot = none := (h.mem.boxes b sz g e).1

/-- An aggregate or a cell, loaded. -/
theorem loadAt_run {t : TypeId} {ad : Addr} (hs : ad.spot = none) (f : Nat → Value) (hc : ∀ j, j < P.cellsOf t → cellAt w ad.block (ad.off + j) = some (f j)) (hsz : isAggT P t = false → 0 < P.cellsOf t)
    (hu : ∃ d, P.underlying t = some d) (hi : ∃ i, P.info? t = some i) :
    (Instr.loadAt t (.pointer (some ad))).run P w = .ok (if isAggT P t then .agg ((List.range (P.cellsOf t)).map f).toArray else f 0) w := by
  obtain ⟨d, hu⟩ := hu
  obtain ⟨i, hi⟩ := hi
  have hadd : ∀ j, ad.add j = ⟨ad.block, ad.off + j, none⟩ := fun j => add_eq hs j
  have hagg : (isAgg t).run P w = .ok (isAggT P t) w := by
    unfold isAgg isAggT
    rw [Sem.run_bind, run_underlying hu, Result.andThen_ok, hu]
    cases d <;> rfl
  unfold Instr.loadAt loadVar
  simp only [Instr.sureAddr, Sem.run_bind, Sem.run_pure, Result.andThen_ok, hagg, Sem.run_ite]
  cases ht : isAggT P t with
  | true =>
    simp only [if_true, Sem.run_bind, sizeOf, typeInfo, run_program, Result.andThen_ok, hi, Sem.run_pure]
    rw [run_loadCells w ad i.size f (fun j hj => by rw [hadd]; exact hc j (by rw [cellsOf_eq hi]; exact hj))]
    simp only [Result.andThen_ok, Sem.run_pure, cellsOf_eq hi]
  | false =>
    have h0 := hc 0 (hsz ht)
    have had : ad = ⟨ad.block, ad.off + 0, none⟩ := by cases ad; simp at hs; subst hs; rfl
    have : w.cell? ad = some (f 0) := by rw [had]; exact h0
    simp only [run_load, this, Bool.false_eq_true, if_false]

theorem valOf_TR {t : TypeId} {g : Nat → AV} {f : Nat → Value} {ar : ArT} {bx : BxT} (h : ∀ j, j < P.cellsOf t → (f j).oneCell' = true ∧ TR c.sh gh ar bx w (g j) (f j)) (hsz : isAggT P t = false → 0 < P.cellsOf t) :
    TR c.sh gh ar bx w (valOf P t g) (if isAggT P t then .agg ((List.range (P.cellsOf t)).map f).toArray else f 0) := by
  unfold valOf
  cases ht : isAggT P t with
  | true =>
    refine ⟨_, rfl, by simp, fun j hj => ?_⟩
    have : (((List.range (P.cellsOf t)).map f).toArray).getD j undef = f j := by simp [Array.getD_eq_getD_getElem?, hj]
    rw [this]; exact h j hj
  | false => exact (h 0 (hsz ht)).2

theorem RS_oneCell {w : World} {ok : Cells} {x : AV} {v : Value} (h : RS w ok x v) : v.oneCell' = true := by
  cases x with
  | sl n sz g => obtain ⟨A, cap, rfl, _⟩ := h; rfl
  | sln n sz g => obtain ⟨A, cap, rfl, _⟩ := h; rfl
  | sp sz g => obtain ⟨a, rfl, _⟩ := h; rfl
  | I k n => have h' : v = _ := h; subst h'; rfl
  | B n => have h' : v = _ := h; subst h'; rfl
  | S n => have h' : v = _ := h; subst h'; rfl
  | nlp => have h' : v = _ := h; subst h'; rfl
  | nsl _ _ => have h' : v = _ := h; subst h'; rfl
  | gv bs => obtain ⟨_, _, A, cap, e, _⟩ := h; rw [e]; rfl
  | bad => exact h
  | _ => exact h.elim
theorem RO_oneCell {w w0 : World} {ok : Cells} {x : AV} {v : Value} {F : Cells} (h : RO w (RS w0 ok) x v F) (hb : x ≠ .bad) : v.oneCell' = true := by
  cases x with
  | own n sz g => obtain ⟨A, cap, rfl, _⟩ := h; rfl
  | bad => exact absurd rfl hb
  | _ => exact RS_oneCell h

end
end Go.Fw
