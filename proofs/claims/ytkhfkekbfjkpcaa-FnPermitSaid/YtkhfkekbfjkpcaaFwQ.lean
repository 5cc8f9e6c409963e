/- The by-value interpreter: operators, fields, lengths, new variables: as the model's. -/
import Derived.Test.YtkhfkekbfjkpcaaFwP
set_option linter.unusedVariables false
set_option linter.unusedSectionVars false
set_option linter.unusedSimpArgs false
namespace Go.Fw
variable [Tok]

section
variable {c : Cx} {gh : Gh} {nt : Nat} {st : St} {a : Act} {w : World} {P : Program} {R : Type} {r : R}

theorem unAV_run {op : UnOp} {x : AV} {v : Value} (hk : (unAV op x).known = true) (hx : TR c.sh gh st.ar st.bx w x v) :
    ∃ z, (Op.unary op v).run P w = .ok z w ∧ TR c.sh gh st.ar st.bx w (unAV op x) z := by
  unfold unAV at hk ⊢
  split at hk
  · have := TR_B hx; subst this
    exact ⟨_, by simp [Op.unary], rfl⟩
  · have := TR_I hx; subst this
    exact ⟨_, by simp [Op.unary, Op.intArith]; rfl, by show _ = _; simp⟩
  · simp [AV.known] at hk

theorem convert_run {src dst : TypeId} {d : TypeDesc} {k k' : IntKind} {n : Int} (hs : P.underlying src = some d) (hd : P.underlying dst = some (.int k)) :
    (convert src dst (.int k' n)).run P w = .ok (.int k (k.wrap n)) w := by
  simp [convert, run_underlying hs, run_underlying hd, Conv.intToInt]

theorem field_run {t : TypeId} {f off fs : Nat} {ft : TypeId} {cs : Array Value} (hf : fieldOf P t f = some (off, fs, ft)) (hle : off + fs ≤ cs.size) (ht : tyOk P ft = true) :
    (Instr.field t (.agg cs) f).run P w = .ok (if isAggT P ft then .agg ((List.range (P.cellsOf ft)).map fun j => cs.getD (off + j) undef).toArray else cs.getD (off + 0) undef) w := by
  obtain ⟨⟨i, hi⟩, ⟨d, hd⟩, hpos⟩ := tyOk_iff ht
  unfold fieldOf at hf
  split at hf
  · rename_i fss hu
    split at hf
    · rename_i x hx
      simp only [Option.some.injEq, Prod.mk.injEq] at hf
      obtain ⟨rfl, rfl, rfl⟩ := hf
      have hag : (isAgg x.type).run P w = .ok (isAggT P x.type) w := by
        unfold isAgg isAggT
        rw [hd]
        simp only [Sem.run_bind, run_underlying hd, Result.andThen_ok]
        cases d <;> rfl
      unfold Instr.field
      simp only [Sem.run_bind, run_underlying hu, Result.andThen_ok, hx, part, asAgg, Sem.run_pure, hag]
      cases hb : isAggT P x.type with
      | true =>
        simp only [if_true, Sem.run_bind, sizeOf_run hi, Result.andThen_ok, Sem.run_pure]
        congr 2
        apply Array.ext
        · simp; omega
        · intro j h1 h2
          simp at h1 h2
          simp [Array.getD_eq_getD_getElem?, show x.offset + j < cs.size by omega]
      | false =>
        have : x.offset < cs.size := by omega
        simp [this, Array.getD_eq_getD_getElem?]
    · simp at hf
  · simp at hf

theorem rowsOf_len {x : AV} {v : Value} {A : Arr} (h : Inv c gh nt st a w) (e : st.rowsOf x = some A) (hx : TR c.sh gh st.ar st.bx w x v) : ∃ ad cap, v = .slice ad A.n cap := by
  cases x with
  | nsl sz g =>
    simp only [St.rowsOf, Option.some.injEq] at e; subst e
    have hx' : v = .slice none 0 0 := hx
    exact ⟨_, _, hx'⟩
  | sl n sz g =>
    simp only [St.rowsOf, Option.some.injEq] at e; subst e
    obtain ⟨A, cap, rfl, _⟩ := hx
    exact ⟨_, _, rfl⟩
  | sln n sz g =>
    simp only [St.rowsOf, Option.some.injEq] at e; subst e
    obtain ⟨A, cap, rfl, _⟩ := hx
    exact ⟨_, _, rfl⟩
  | gv bs =>
    simp only [St.rowsOf, Option.some.injEq] at e; subst e
    obtain ⟨_, _, A, cap, e, _⟩ := hx
    exact ⟨_, _, e⟩
  | rf id => exact ⟨_, _, hx A e⟩
  | rs id p m =>
    simp only [St.rowsOf, Option.map_eq_some_iff] at e
    obtain ⟨B, hB, rfl⟩ := e
    obtain ⟨_, A', rfl, _⟩ := hx B hB
    exact ⟨_, _, rfl⟩
  | rn id p =>
    simp only [St.rowsOf] at e
    split at e
    · rename_i n sz g hm
      obtain ⟨B, hB, hat⟩ := Option.map_eq_some_iff.1 hm
      simp only [Option.some.injEq] at e; subst e
      obtain ⟨F', hr, _⟩ := RO_path p (h.mem.rows id B hB) hat (hx B n sz g hB hat)
      obtain ⟨A', cap, rfl, _⟩ := hr
      exact ⟨_, _, rfl⟩
    · simp at e
  | _ => simp [St.rowsOf] at e

/-! ### A new variable -/
theorem alloc_heap (w : World) (o : Obj) : (w.alloc o).heap = w.heap.push o := rfl
theorem alloc_ext (w : World) (o : Obj) : Ext w (w.alloc o) := ⟨by rw [alloc_heap]; simp, fun b hb => by rw [alloc_heap, Array.getElem?_push, if_neg (by omega)], rfl, rfl, rfl⟩
theorem alloc_cell (w : World) (cs : Array Value) (t : TypeId) (o : Nat) : cellAt (w.alloc (.cells cs t)) w.heap.size o = cs[o]? := by
  simp [cellAt, World.cell?, alloc_heap]
theorem alloc_froz (w : World) (cs : Array Value) (t : TypeId) (o : Nat) : frozAt (w.alloc (.cells cs t)) w.heap.size o = false := by
  simp [frozAt, World.frozen?, alloc_heap]

/-- What is newly made touches nothing. -/
theorem new_free (h : Inv c gh nt st a w) {r : Nat ⊕ Nat} {x y : Nat} (hl : live st.ar st.bx r) (hf : fp gh st.bx r x y) : x < w.heap.size := (h.mem.mine r x y hl hf).1

theorem newVar_sound {cs : Array Value} {t : TypeId} {b sz : Nat} {g : Nat → AV} {o : Option Nat} (hlo : c.lim ≤ b) (h : Inv c gh nt st a w) (ho : ∀ k, o = some k → k < nt) (hsz : cs.size = sz)
    (hc : ∀ j, j < sz → (cs.getD j undef).oneCell' = true ∧ TR c.sh gh st.ar st.bx w (g j) (cs.getD j undef)) :
    ∃ gh', Inv c gh' nt ((st.newB b sz g).put o (.pb b 0)) (a.put o (.pointer (some ⟨w.heap.size, 0, none⟩))) (w.alloc (.cells cs t)) := by
  have hI := h.ext (alloc_ext w (.cells cs t))
  have hI' := hI.newB b sz g ⟨w.heap.size, 0, none⟩ rfl (fun j hj => by
      refine ⟨cs.getD j undef, ?_, alloc_froz .., (hc j hj).1, ?_⟩
      · rw [alloc_cell]; simp [Array.getD_eq_getD_getElem?, show j < cs.size by omega]
      · exact TR_congr h.mem.rows (fun id A eA b o hf => (alloc_ext w _).cell (h.mem.mine (.inl id) b o (by simp [live, eA]) hf).1 o) _ (hc j hj).2)
    (fun r x y _ hl hf hin => by
      have := new_free h hl hf
      have := hin.1
      simp only at this
      omega)
    (fun x y hin => by
      obtain ⟨rfl, _⟩ := hin
      exact ⟨by simp only [alloc_heap]; simp, fun hlt => absurd hlt (by have := h.mem.grow; simp only at *; omega)⟩) hlo
  refine ⟨_, hI'.put ho ?_⟩
  intro B hB
  simp [upd_self]

theorem newVar_run {cs : Array Value} {t : TypeId} {v : Value} (hv : v.cells = cs) : (newVar t v).run P w = .ok ⟨w.heap.size, 0, none⟩ (w.alloc (.cells cs t)) := by
  simp [newVar, newRow, hv]

theorem zBox_spec {t : TypeId} {sz : Nat} {g : Nat → AV} (e : zBox P t = some (sz, g)) : ∃ z, (zeroValue t).run P w = .ok z w ∧ z.cells.size = sz ∧ ∀ j, j < sz → (z.cells.getD j undef).oneCell' = true ∧ TR c.sh gh st.ar st.bx w (g j) (z.cells.getD j undef) := by
  unfold zBox at e
  split at e
  · rename_i z hz
    cases hall : z.cells.all (fun v => v.oneCell') with
    | false => rw [hall] at e; simp at e
    | true =>
      rw [hall] at e
      simp only [cond_true, Option.some.injEq, Prod.mk.injEq] at e
      obtain ⟨rfl, rfl⟩ := e
      obtain ⟨i, hi, hz⟩ := Option.bind_eq_some_iff.1 hz
      exact ⟨z, by simp [zeroValue, typeInfo, hi, hz], rfl, fun j hj => ⟨all_oneCell hall j hj, cCell_TR⟩⟩
  · simp at e

end
end Go.Fw
