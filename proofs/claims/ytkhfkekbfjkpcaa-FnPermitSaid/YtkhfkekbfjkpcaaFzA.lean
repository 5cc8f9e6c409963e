/- The by-value interpreter: a row's elements set, all at once. -/
import Derived.Test.YtkhfkekbfjkpcaaFxA
set_option linter.unusedVariables false
set_option linter.unusedSectionVars false
set_option linter.unusedSimpArgs false
namespace Go.Fw
variable [Tok]

section
variable {c : Cx} {gh : Gh} {nt : Nat} {st : St} {a : Act} {w W : World} {P : Program}

theorem rowSet {id : Nat} {A : Arr} {g' : Nat → Nat → AV} {D : Cells} (h : Inv c gh nt st a w) (e : st.ar id = some A) (hC : Chg w W D) (hD : ∀ b o, D b o → gh.fa id b o)
    (hr : RO W c.sh (.own A.n A.sz g') (.slice (gh.hd id).1 A.n (gh.hd id).2) (gh.fa id)) : ∃ gh', Inv c gh' nt ((st.map (AV.killN id)).setA id (some ⟨A.n, A.sz, g'⟩)) a W := by
  have T := takeRow (FL := fun _ _ => False) h .none e (h.mem.rows id A e)
  obtain ⟨hI, hF⟩ := T.inv.chgFree hC (FL := fun b o => False ∨ gh.fa id b o) (fun b o hd => .inr (hD b o hd)) T.free
  have hl : live st.ar st.bx (.inl id) := by simp [live, e]
  have told : ToldS c gh st w true gh (st.setA id none) a W := by
    refine ⟨fun t => h.temps t, fun b sz g eb o ho v hv => .inl ?_⟩
    obtain ⟨v0, h1, _, _, h2⟩ := (h.mem.boxes b sz g eb).2 o ho
    have hf : fp gh st.bx (.inr b) (gh.ba b).block ((gh.ba b).off + o) := ⟨(sz, g), eb, rfl, by omega, by simp only; omega⟩
    have hlv : live st.ar st.bx (.inr b) := by simp [live, show st.bx b = some (sz, g) from eb]
    have := (hC.cell _ _ (h.mem.mine (.inr b) _ _ hlv hf).1 (fun hd => h.mem.disj (.inr b) (.inl id) _ _ (by simp) hlv hl hf (hD _ _ hd))).1
    rw [this, h1] at hv
    obtain rfl := Option.some.inj hv
    exact h2
  obtain ⟨gh2, _, hI2, _, _⟩ := hI.backA (gh0 := gh) (st0 := st) (w0 := w) (FL := fun _ _ => False) h.fix told e rfl rfl hr hF (fun _ _ _ h => h)
  refine ⟨gh2, ?_⟩
  have : ((St.map (AV.killN id) (st.setA id none)).setA id (some ⟨A.n, A.sz, g'⟩)) = (st.map (AV.killN id)).setA id (some ⟨A.n, A.sz, g'⟩) := setA_setA (st.map (AV.killN id)) id none _
  rw [← this]; exact hI2

def AV.lits : AV → Bool | .I _ _ | .B _ | .S _ | .nlp | .bad => true | _ => false

theorem setRange {id : Nat} {A : Arr} {i0 m : Nat} {hn : Nat → Nat → AV} {vs : List Value} (h : Inv c gh nt st a w) (e : st.ar id = some A) (hm : 0 < m) (hle : i0 + m ≤ A.n) (hl : vs.length = m * A.sz)
    (hone : ∀ k, k < vs.length → (vs.getD k undef).oneCell' = true) (hro : ∀ i, i < m → ∀ j, j < A.sz → ∀ W : World, RO W c.sh (hn i j) (vs.getD (i * A.sz + j) undef) (fun _ _ => False)) :
    ∃ ad : Addr, (gh.hd id).1 = some ad ∧ ad.spot = none ∧ A.n ≤ (gh.hd id).2 ∧ 0 < A.sz ∧ (∀ k, k < vs.length → (∃ u, cellAt w ad.block (ad.off + i0 * A.sz + k) = some u) ∧ frozAt w ad.block (ad.off + i0 * A.sz + k) = false) ∧
      ∃ gh', Inv c gh' nt ((st.map (AV.killN id)).setA id (some ⟨A.n, A.sz, rngG A.g i0 m hn⟩)) a (w.setCells ad.block (ad.off + i0 * A.sz) vs) := by
  obtain ⟨A1, cap, e1, q1, q2, q3⟩ := h.mem.rows id A e
  obtain ⟨hA1, hcap⟩ : (gh.hd id).1 = A1 ∧ (gh.hd id).2 = cap := by simpa using e1
  have hlive : live st.ar st.bx (.inl id) := by simp [live, e]
  rcases q3 with q3 | ⟨ad, ea, hs, hc, F1, f1, f2, f3⟩
  · omega
  have hin : ∀ k, k < vs.length → i0 * A.sz + k < cap * A.sz := fun k hk => by
    have : (i0 + m) * A.sz ≤ cap * A.sz := Nat.mul_le_mul_right _ (by omega)
    rw [Nat.add_mul] at this; omega
  refine ⟨ad, by rw [hA1, ea], hs, by omega, q2, fun k hk => ?_, ?_⟩
  · obtain ⟨_, ⟨u, hu, _⟩, hf⟩ := hc (i0 * A.sz + k) (hin k hk)
    exact ⟨⟨u, by rw [Nat.add_assoc]; exact hu⟩, by rw [Nat.add_assoc]; exact hf⟩
  obtain ⟨c1, c2, c3⟩ := setCells_spec ad.block vs (ad.off + i0 * A.sz) w (fun j hj => by
    obtain ⟨_, ⟨u, hu, _⟩, _⟩ := hc (i0 * A.sz + j) (hin j hj)
    exact ⟨u, by rw [Nat.add_assoc]; exact hu⟩)
  have hDF : ∀ b o, (b = ad.block ∧ ad.off + i0 * A.sz ≤ o ∧ o < ad.off + i0 * A.sz + vs.length) → gh.fa id b o := by
    rintro b o ⟨rfl, h5, h6⟩
    have := (hc (o - ad.off) (by have := hin (o - ad.off - i0 * A.sz) (by omega); omega)).1
    rw [show ad.off + (o - ad.off) = o by omega] at this
    exact this
  refine rowSet h e c2 hDF ?_
  have hblk : ad.block < w.heap.size := by
    have := h.mem.mine (.inl id) _ _ hlive (hDF ad.block (ad.off + i0 * A.sz) ⟨rfl, by omega, by rw [hl]; have := Nat.mul_pos hm q2; omega⟩)
    exact this.1
  rw [hA1, hcap, ea]
  refine ⟨some ad, cap, rfl, by omega, q2, .inr ⟨ad, rfl, hs, fun k hk => ?_, fun i j b o => ¬ (i0 ≤ i ∧ i < i0 + m) ∧ F1 i j b o, fun i j b o hi hj hb => f1 i j b o hi hj hb.2, fun i j i' j' b o hi hj hi' hj' hne hb hb' => f2 i j i' j' b o hi hj hi' hj' hne hb.2 hb'.2, fun i hi j hj => ?_⟩⟩
  · obtain ⟨r1, ⟨u, r2, r3⟩, r4⟩ := hc k hk
    refine ⟨r1, ?_, by rw [c3]; exact r4⟩
    by_cases hr : i0 * A.sz ≤ k ∧ k < i0 * A.sz + vs.length
    · have hlt : k - i0 * A.sz < vs.length := by omega
      have := c1 (k - i0 * A.sz) (vs.getD (k - i0 * A.sz) undef) (by simp [List.getD_eq_getElem?_getD, hlt])
      rw [show ad.off + i0 * A.sz + (k - i0 * A.sz) = ad.off + k by omega] at this
      exact ⟨_, this, hone _ hlt⟩
    · have := (c2.cell ad.block (ad.off + k) hblk (by rintro ⟨_, _, _⟩; omega)).1
      exact ⟨u, this.trans r2, r3⟩
  · have hjl : i * A.sz + j < (i + 1) * A.sz := by rw [Nat.add_mul]; omega
    by_cases hir : i0 ≤ i ∧ i < i0 + m
    · have hi2 : i - i0 < m := by omega
      have hlt : (i - i0) * A.sz + j < vs.length := by rw [hl]; exact cell_lt hi2 hj (Nat.le_refl _)
      have := c1 ((i - i0) * A.sz + j) (vs.getD ((i - i0) * A.sz + j) undef) (by simp [List.getD_eq_getElem?_getD, hlt])
      refine ⟨_, by rw [← this]; congr 1; have h7 : i * A.sz = i0 * A.sz + (i - i0) * A.sz := by rw [← Nat.add_mul]; congr 1; omega
                    omega, ?_⟩
      have e2 : rngG A.g i0 m hn i j = hn (i - i0) j := by
        unfold rngG
        rw [decide_eq_true hir.1, decide_eq_true hir.2]; exact mrg_true _ _
      rw [e2]
      exact RO_mono _ (fun b o hb => hb.elim) (hro (i - i0) hi2 j hj _)
    · obtain ⟨u, hu, hr⟩ := f3 i hi j hj
      have hne : ¬ (ad.off + i0 * A.sz ≤ ad.off + (i * A.sz + j) ∧ ad.off + (i * A.sz + j) < ad.off + i0 * A.sz + vs.length) := by
        rintro ⟨h5, h6⟩
        rw [hl] at h6
        apply hir
        constructor
        · by_cases h8 : i0 ≤ i
          · exact h8
          · have : (i + 1) * A.sz ≤ i0 * A.sz := Nat.mul_le_mul_right _ (by omega)
            omega
        · by_cases h8 : i < i0 + m
          · exact h8
          · have : (i0 + m) * A.sz ≤ i * A.sz := Nat.mul_le_mul_right _ (by omega)
            rw [Nat.add_mul] at this; omega
      refine ⟨u, ((c2.cell ad.block (ad.off + (i * A.sz + j)) hblk (by rintro ⟨_, h5, h6⟩; exact hne ⟨h5, h6⟩)).1).trans hu, ?_⟩
      have e2 : rngG A.g i0 m hn i j = A.g i j := by
        unfold rngG
        have : (decide (i0 ≤ i) && decide (i < i0 + m)) = false := by
          cases h9 : decide (i0 ≤ i) with
          | false => rfl
          | true => simp only [Bool.true_and, decide_eq_false_iff_not]; intro h10; exact hir ⟨of_decide_eq_true h9, h10⟩
        rw [this]; exact mrg_false _ _
      rw [e2]
      have hmine : ∀ b o, F1 i j b o → b < w.heap.size := fun b o hb => (h.mem.mine (.inl id) b o hlive (f1 i j b o hi hj hb).1).1
      refine RO_mono _ (fun b o hb => ⟨hir, hb⟩) (RO_congr _ (fun b o hb => c2.cell b o (hmine b o hb) ?_) hr)
      rintro ⟨rfl, h5, h6⟩
      exact (f1 i j _ _ hi hj hb).2 ⟨rfl, by omega, by have := hin (o - ad.off - i0 * A.sz) (by omega); omega⟩
end
end Go.Fw
