/- The by-value interpreter: slices that are made, and that grow. -/
import Derived.Test.YtkhfkekbfjkpcaaFwS
set_option linter.unusedVariables false
set_option linter.unusedSectionVars false
set_option linter.unusedSimpArgs false
namespace Go.Fw
variable [Tok]

section
variable {c : Cx} {gh : Gh} {nt : Nat} {st : St} {a : Act} {w : World} {P : Program} {R : Type} {r : R}

theorem zip_parts (ρ : Operand → Value) : ∀ (l : List (Nat × Operand)) (i0 : Nat), l.map (·.1) = (List.range l.length).map (i0 + ·) → l.map (fun ix => (ix.1, ρ ix.2)) = ((l.map fun ix => ρ ix.2).zipIdx i0).map fun x => (x.2, x.1)
  | [], _, _ => rfl
  | ix :: l, i0, h => by
    simp only [List.map_cons, List.length_cons, List.range_succ_eq_map, List.map_map] at h
    have h1 := List.cons.inj h
    simp only [Nat.add_zero] at h1
    simp only [List.map_cons, List.zipIdx_cons]
    rw [zip_parts ρ l (i0 + 1) (by
      rw [h1.2]
      apply List.map_congr_left
      intro k _
      simp only [Function.comp_apply]
      omega), h1.1]

theorem rowsG_lt {d : List AV} : ∀ {l : List (List AV)} {i j : Nat}, i < l.length → rowsG d l i j = lstG (l.getD i []) j := by
  intro l
  induction l with
  | nil => intro i j h; simp at h
  | cons x l ih =>
    intro i j h
    cases i with
    | zero => simp [rowsG, mrg_true]
    | succ i => simp only [rowsG, Nat.add_sub_cancel]; rw [show decide (i + 1 = 0) = false by simp, mrg_false, ih (by simpa using h)]; simp

theorem buildSlice_zero {t e : TypeId} {i : TypeInfo} (hu : P.underlying t = some (.slice e)) (hi : P.info? e = some i) :
    (Instr.buildSlice t 0 #[]).run P w = .ok (.slice (some ⟨w.heap.size, 0, none⟩) 0 0) (w.alloc (.cells #[] e)) := by
  simp [Instr.buildSlice, run_underlying hu, sizeOf, typeInfo, hi, newRow, Instr.fill, Array.range_zero']

theorem buildSlice_none {t e : TypeId} {l : List (List AV)} {st' : St} (h : Inv c gh nt st a w) (hu : P.underlying t = some (.slice e)) (hk : zOk P e = true) (hsz : 0 < P.cellsOf e) (hr : rowsL P e st [] = some (l, st')) :
    ∃ gh' W F v, (Instr.buildSlice t 0 #[]).run P w = .ok v W ∧ Inv c gh' nt st' a W ∧ Free c gh' st'.ar st'.bx W F ∧
      RO W c.sh (.own 0 (P.cellsOf e) (fun i j => lstG (l.getD i []) j)) v F := by
  obtain ⟨i, z, hi, _⟩ := zOk_spec hk
  simp only [rowsL, Option.some.injEq, Prod.mk.injEq] at hr
  obtain ⟨rfl, rfl⟩ := hr
  exact ⟨gh, _, fun _ _ => False, _, buildSlice_zero hu hi, h.ext (alloc_ext w _), .none, some ⟨w.heap.size, 0, none⟩, 0, rfl, Nat.le_refl _, hsz, .inl rfl⟩

theorem buildSlice_sound {t e : TypeId} {len : Nat} {parts : Array (Nat × Operand)} {l : List (List AV)} {st' : St} (h : Inv c gh nt st a w) (hu : P.underlying t = some (.slice e))
    (hk : (Nat.beq parts.size len && Nat.blt 0 (P.cellsOf e) && Nat.ble (len * P.cellsOf e) 16777216 && (parts.toList.map (·.1) == List.range len) && zOk P e) = true) (hr : rowsL P e st parts.toList = some (l, st')) :
    ∃ gh' W F v, (Instr.buildSlice t len (parts.map fun (i, x) => (i, a.eval x))).run P w = .ok v W ∧ Inv c gh' nt st' a W ∧ Free c gh' st'.ar st'.bx W F ∧
      RO W c.sh (.own len (P.cellsOf e) (rowsG ((List.range (P.cellsOf e)).map (zc P 12 e)) l)) v F := by
  simp only [Bool.and_eq_true] at hk
  obtain ⟨⟨⟨⟨hk1, hk3⟩, hk4⟩, hk5⟩, hk6⟩ := hk
  have hlen : parts.size = len := beq_eq.1 hk1
  rcases Nat.eq_zero_or_pos len with h0 | hpos
  · subst h0
    have hp : parts = #[] := Array.eq_empty_of_size_eq_zero hlen
    subst hp
    obtain ⟨gh', W, F, v, h1, h2, h3, A, cap, rfl, h4, h5, h6⟩ := buildSlice_none h hu hk6 (Nat.le_of_ble_eq_true hk3) hr
    refine ⟨gh', W, F, _, by simpa using h1, h2, h3, A, cap, rfl, h4, h5, ?_⟩
    rcases h6 with h6 | ⟨a, e1, hs, hc, Fs, f1, f2, f3⟩
    · exact .inl h6
    · exact .inr ⟨a, e1, hs, hc, Fs, f1, f2, fun i hi => absurd hi (by omega)⟩
  have hsz : 0 < P.cellsOf e := Nat.le_of_ble_eq_true hk3
  have hsmall : len * P.cellsOf e ≤ 16777216 := Nat.le_of_ble_eq_true hk4
  have hidx : parts.toList.map (·.1) = List.range len := eq_of_beq hk5
  obtain ⟨i, z, hi, hz, hzs, his, hzf⟩ := zOk_spec hk6
  obtain ⟨hl, hall, gh', F, ⟨hT, Fs, h1, h2, h3⟩⟩ := rowsL_sound (FL := fun _ _ => False) parts.toList h .none hr
  have hln : l.length = len := by rw [hl]; simp [hlen]
  have hzip := zip_parts a.eval parts.toList 0 (by rw [hidx]; simp [hlen])
  have hm : 0 < len * P.cellsOf e := Nat.mul_pos hpos hsz
  obtain ⟨cells, hf, hcs, hc⟩ := Great.fill_dense hsz (parts.toList.map fun ix => a.eval ix.2) 0 ((Array.range (len * P.cellsOf e)).map (z.cells[· % z.cells.size]!)) (fun v hv => by
      obtain ⟨ix, hx, rfl⟩ := List.mem_map.1 hv
      exact hall ix hx) (by simp [hlen])
  have hrun := run_buildSlice (P := P) w t e len (parts.map fun (i, x) => (i, a.eval x)) cells i z hu hi hz (by rw [his]; omega) (by rw [his]; omega) (by
    rw [his, ← hf]
    congr 1
    rw [← hzip]
    simp)
  have hcell : ∀ k, k < len * P.cellsOf e → cells.getD k undef = ((parts.toList.map fun ix => a.eval ix.2).getD (k / P.cellsOf e) undef).cells.getD (k % P.cellsOf e) undef := fun k hk => by
    obtain ⟨d1, d2, d3⟩ := div_lt hsz hk
    have := hc k
    rw [if_pos ⟨by omega, by simp [hlen]; exact hk⟩] at this
    simp only [Nat.sub_zero] at this
    have hd : k / P.cellsOf e < (parts.toList.map fun ix => a.eval ix.2).length := by simp [hlen]; exact d1
    rw [List.getElem?_eq_getElem hd] at this
    simp only [Option.bind_some] at this
    rw [Array.getD_eq_getD_getElem?, this, Array.getD_eq_getD_getElem?, List.getD_eq_getElem?_getD, List.getElem?_eq_getElem hd]
    rfl
  have hsize : cells.size = len * P.cellsOf e := by rw [hcs]; simp
  have hget : ∀ k, k < len * P.cellsOf e → cells[k]? = some (cells.getD k undef) := fun k hk => by simp [Array.getD_eq_getD_getElem?, hsize, hk]
  have helt : ∀ i, i < len → ∀ j, j < P.cellsOf e → cells.getD (i * P.cellsOf e + j) undef = ((parts.toList.map fun ix => a.eval ix.2).getD i undef).cells.getD j undef := fun i hi j hj => by
    rw [hcell _ (cell_lt hi hj (Nat.le_refl _))]
    have e1 : (i * P.cellsOf e + j) / P.cellsOf e = i := by rw [Nat.mul_comm, Nat.mul_add_div hsz, Nat.div_eq_of_lt hj, Nat.add_zero]
    have e2 : (i * P.cellsOf e + j) % P.cellsOf e = j := by rw [Nat.mul_comm, Nat.mul_add_mod, Nat.mod_eq_of_lt hj]
    rw [e1, e2]
  have hgd : ∀ i j, i < len → rowsG ((List.range (P.cellsOf e)).map (zc P 12 e)) l i j = lstG (l.getD i []) j := fun i j hi => rowsG_lt (by omega)
  have hne : (alloc_ext w (.cells cells e)).1 = (alloc_ext w (.cells cells e)).1 := rfl
  obtain ⟨q1, q2, q3⟩ := freshRow (W := w.alloc (.cells cells e)) (bl := w.heap.size) (cap := len) (n := len) (sz := P.cellsOf e) (g := rowsG ((List.range (P.cellsOf e)).map (zc P 12 e)) l) (Fs := Fs) (FB := F) hT.inv (alloc_ext w _) (Nat.le_refl _) (by rw [alloc_heap]; simp) (Nat.le_refl _) hsz
    (fun k hk => ⟨⟨cells.getD k undef, by rw [alloc_cell]; exact hget k hk, by
      obtain ⟨d1, d2, d3⟩ := div_lt hsz hk
      have := (h3 (k / P.cellsOf e) (by omega) (k % P.cellsOf e) d2).1
      rw [hcell k hk]; exact this⟩, alloc_froz ..⟩)
    (fun i hi j hj => ⟨_, by rw [alloc_cell]; exact hget _ (cell_lt hi hj (Nat.le_refl _)), by rw [helt i hi j hj, hgd i j hi]; exact (h3 i (by omega) j hj).2⟩)
    (fun i j b o hi hj hb => h1 i j b o (by omega) hj hb) (fun i j i' j' b o hi hj hi' hj' => h2 i j i' j' b o (by omega) hj (by omega) hj') (hT.free.mono fun x y hx => .inr hx)
  exact ⟨gh', _, _, _, hrun, q1, q2, q3⟩

theorem makeSlice_sound {t e : TypeId} {n m : Int} {k k' : IntKind} (h : Inv c gh nt st a w) (hu : P.underlying t = some (.slice e))
    (hk : (decide (0 ≤ n) && decide (m ≤ LIM) && decide (n ≤ m) && Nat.blt 0 (P.cellsOf e) && Nat.ble (((P.info? e).map (·.bytes)).getD LIM) 4096 && zOk P e) = true) :
    ∃ W F v, (Instr.makeSlice t (.int k n) (.int k' m)).run P w = .ok v W ∧ Inv c gh nt st a W ∧ Free c gh st.ar st.bx W F ∧ RO W c.sh (.own n.toNat (P.cellsOf e) (zg P e)) v F := by
  simp only [Bool.and_eq_true, decide_eq_true_eq] at hk
  obtain ⟨⟨⟨⟨⟨hk1, hk2⟩, hk3⟩, hk4⟩, hk5⟩, hk6⟩ := hk
  have hsz : 0 < P.cellsOf e := Nat.le_of_ble_eq_true hk4
  obtain ⟨i, z, hi, hz, hzs, his, hzf⟩ := zOk_spec hk6
  have hby : i.bytes ≤ 4096 := by
    have := Nat.le_of_ble_eq_true hk5
    simpa [hi] using this
  have hm : m ≤ 4294967296 := hk2
  have hbytes : (i.bytes : Int) * m ≤ 281474976710656 := by
    have h1 : (i.bytes : Int) * m ≤ 4096 * m := Int.mul_le_mul_of_nonneg_right (by omega) (by omega)
    omega
  have hrun := run_make (P := P) w t e i z hu hi hz k k' n m hk1 hk3 hbytes (by omega)
  rw [his] at hrun
  have hsize : (madeCells z.cells (m.toNat * P.cellsOf e)).size = m.toNat * P.cellsOf e := size_madeCells _ _
  have hget : ∀ x, x < m.toNat * P.cellsOf e → (madeCells z.cells (m.toNat * P.cellsOf e))[x]? = some (z.cells.getD (x % P.cellsOf e) undef) := fun x hx => by
    obtain ⟨d1, d2, d3⟩ := div_lt hsz hx
    have := zero_cell (i := x / P.cellsOf e) hzs d2
    rw [d3] at this
    simp only [madeCells, Array.getElem?_map, Array.getElem?_range, hx]
    simpa using this
  obtain ⟨q1, q2, q3⟩ := freshRow (W := w.alloc (.cells (madeCells z.cells (m.toNat * P.cellsOf e)) e)) (bl := w.heap.size) (cap := m.toNat) (n := n.toNat) (sz := P.cellsOf e) (g := zg P e) (Fs := fun _ _ _ _ => False) (FB := fun _ _ => False) h (alloc_ext w _) (Nat.le_refl _) (by rw [alloc_heap]; simp) (by omega) hsz
    (fun x hx => by
      obtain ⟨d1, d2, d3⟩ := div_lt hsz hx
      exact ⟨⟨_, by rw [alloc_cell]; exact hget x hx, (zFits_RO (w := w) (c := c) (hzf _ d2)).1⟩, alloc_froz ..⟩)
    (fun i hi j hj => by
      have := hget _ (cell_lt hi hj (show n.toNat ≤ m.toNat by omega))
      have e2 : (i * P.cellsOf e + j) % P.cellsOf e = j := by rw [Nat.mul_comm, Nat.mul_add_mod, Nat.mod_eq_of_lt hj]
      rw [e2] at this
      exact ⟨_, by rw [alloc_cell]; exact this, (zFits_RO (hzf j hj)).2⟩)
    (fun _ _ _ _ _ _ h => h) (fun _ _ _ _ _ _ _ _ _ _ _ h => h.elim) .none
  exact ⟨_, _, _, hrun, q1, q2, q3⟩

end
end Go.Fw
