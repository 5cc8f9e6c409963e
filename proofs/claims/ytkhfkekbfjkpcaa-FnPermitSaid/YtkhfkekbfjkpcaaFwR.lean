/- The by-value interpreter: new rows; what is appended. -/
import Derived.Test.YtkhfkekbfjkpcaaFwQ
import Derived.Great.BuildSlice
import Derived.Great.FillDense
import Derived.Deep.AppendSrc
import Derived.Deep.Upon
set_option linter.unusedVariables false
set_option linter.unusedSectionVars false
set_option linter.unusedSimpArgs false
namespace Go.Fw
variable [Tok]

section
variable {c : Cx} {gh : Gh} {nt : Nat} {st : St} {a : Act} {w : World} {P : Program} {R : Type} {r : R}

theorem Free.ext {W : World} {F : Cells} (h : Free c gh st.ar st.bx w F) (he : Ext w W) : Free c gh st.ar st.bx W F := fun x y hx => ⟨(h x y hx).1, Nat.lt_of_lt_of_le (h x y hx).2.1 he.1, (h x y hx).2.2⟩

/-- A new row. -/
theorem freshRow {W : World} {bl cap n sz : Nat} {g : Nat → Nat → AV} {Fs : Nat → Nat → Cells} {FB : Cells} (h : Inv c gh nt st a w) (he : Ext w W) (hbl : w.heap.size ≤ bl) (hbl' : bl < W.heap.size) (hn : n ≤ cap) (hsz : 0 < sz)
    (hcells : ∀ k, k < cap * sz → (∃ u, cellAt W bl k = some u ∧ u.oneCell' = true) ∧ frozAt W bl k = false)
    (hel : ∀ i, i < n → ∀ j, j < sz → ∃ u, cellAt W bl (i * sz + j) = some u ∧ RO w c.sh (g i j) u (Fs i j))
    (hFs : ∀ i j b o, i < n → j < sz → Fs i j b o → FB b o)
    (hdis : ∀ i j i' j' b o, i < n → j < sz → i' < n → j' < sz → ¬ (i = i' ∧ j = j') → Fs i j b o → ¬ Fs i' j' b o)
    (hfr : Free c gh st.ar st.bx w FB) :
    Inv c gh nt st a W ∧ Free c gh st.ar st.bx W (fun b o => b = bl ∨ FB b o) ∧ RO W c.sh (.own n sz g) (.slice (some ⟨bl, 0, none⟩) n cap) (fun b o => b = bl ∨ FB b o) := by
  refine ⟨h.ext he, fun x y hx => ?_, some ⟨bl, 0, none⟩, cap, rfl, hn, hsz, .inr ⟨_, rfl, rfl, fun k hk => ?_, Fs, fun i j b o hi hj hb => ?_, hdis, fun i hi j hj => ?_⟩⟩
  · rcases hx with rfl | hx
    · refine ⟨fun r hl hf => ?_, hbl', fun hlt => ?_⟩
      · have := new_free h hl hf; omega
      · have := h.mem.grow; omega
    · exact hfr.ext he x y hx
  · have := hcells k hk
    simp only [Nat.zero_add]
    exact ⟨.inl trivial, this.1, this.2⟩
  · refine ⟨.inr (hFs i j b o hi hj hb), fun hin => ?_⟩
    have := (hfr b o (hFs i j b o hi hj hb)).2.1
    have := hin.1
    simp only at this
    omega
  · obtain ⟨u, hu, hr⟩ := hel i hi j hj
    simp only [Nat.zero_add]
    exact ⟨u, hu, RO_congr _ (fun b o hb => he.cell (hfr b o (hFs i j b o hi hj hb)).2.1 o) hr⟩

theorem zFits_RO {x : AV} {v : Value} (h : zFits x v = true) : v.oneCell' = true ∧ RO w c.sh x v (fun _ _ => False) := by
  unfold zFits at h
  split at h
  · rw [Bool.and_eq_true] at h
    obtain ⟨h1, h2⟩ := h
    have := eq_of_beq h1
    have h2 := of_decide_eq_true h2
    subst this h2
    exact ⟨rfl, rfl⟩
  · have := eq_of_beq h; subst this; exact ⟨rfl, rfl⟩
  · rename_i x y
    rw [Bool.and_eq_true] at h
    have h1 := beq_eq.1 h.1
    have h2 := beq_eq.1 h.2
    have : x = y := by
      apply ByteArray.ext
      have e1 : x.data = #[] := Array.eq_empty_of_size_eq_zero h1
      have e2 : y.data = #[] := Array.eq_empty_of_size_eq_zero h2
      rw [e1, e2]
    subst this
    exact ⟨rfl, rfl⟩
  · exact ⟨rfl, rfl⟩
  · exact ⟨rfl, none, 0, rfl, Nat.le_refl _, Nat.le_of_ble_eq_true h, .inl rfl⟩
  · simp at h

theorem zOk_spec {e : TypeId} (h : zOk P e = true) : ∃ i z, P.info? e = some i ∧ i.zero = some z ∧ z.cells.size = P.cellsOf e ∧ i.size = P.cellsOf e ∧ ∀ j, j < P.cellsOf e → zFits (zc P 12 e j) (z.cells.getD j undef) = true := by
  unfold zOk at h
  split at h
  · rename_i z hz
    obtain ⟨i, hi, hz⟩ := Option.bind_eq_some_iff.1 hz
    rw [Bool.and_eq_true] at h
    exact ⟨i, z, hi, hz, beq_eq.1 h.1, (cellsOf_eq hi).symm, fun j hj => by
      have := List.all_eq_true.1 h.2 j (by simpa using hj)
      exact this⟩
  · simp at h

/-- Zero cells, side by side. -/
theorem zero_cell {z : Array Value} {s i j : Nat} (hs : z.size = s) (hj : j < s) : z[(i * s + j) % z.size]! = z.getD j undef := by
  have : (i * s + j) % s = j := by rw [Nat.mul_comm, Nat.mul_add_mod, Nat.mod_eq_of_lt hj]
  rw [hs, this]
  simp [Array.getD_eq_getD_getElem?, hs, hj]

theorem div_lt {k n s : Nat} (hs : 0 < s) (h : k < n * s) : k / s < n ∧ k % s < s ∧ k / s * s + k % s = k :=
  ⟨(Nat.div_lt_iff_lt_mul hs).2 h, Nat.mod_lt _ hs, by rw [Nat.mul_comm]; exact Nat.div_add_mod k s⟩

/-! ### A struct is built -/
theorem foldl_cells (off : Nat) (vs : Array Value) (cells : Array Value) : (vs.zipIdx.foldl (fun cs (x : Value × Nat) => cs.setIfInBounds (off + x.2) x.1) cells).size = cells.size ∧
    ∀ k, (vs.zipIdx.foldl (fun cs (x : Value × Nat) => cs.setIfInBounds (off + x.2) x.1) cells)[k]? = if off ≤ k ∧ k < off + vs.size ∧ k < cells.size then vs[k - off]? else cells[k]? := by
  obtain ⟨g1, g2⟩ := Great.foldl_set off vs.toList 0 cells
  have e : vs.zipIdx.foldl (fun cs (x : Value × Nat) => cs.setIfInBounds (off + x.2) x.1) cells = (vs.toList.zipIdx 0).foldl (fun cs (x : Value × Nat) => cs.setIfInBounds (off + x.2) x.1) cells := by
    rw [← Array.foldl_toList, Array.toList_zipIdx]
  rw [e]
  refine ⟨g1, fun k => ?_⟩
  have := g2 k
  simpa using this

end
end Go.Fw
