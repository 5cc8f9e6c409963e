/- The by-value interpreter: elements that are cleared; what is appended within a row. -/
import Derived.Test.YtkhfkekbfjkpcaaFzA
set_option linter.unusedVariables false
set_option linter.unusedSectionVars false
set_option linter.unusedSimpArgs false
namespace Go.Fw
variable [Tok]

section
variable {c : Cx} {gh : Gh} {nt : Nat} {st : St} {a : Act} {w W : World} {P : Program}

theorem zc_get {z : Array Value} {sz m : Nat} (hz : z.size = sz) {k : Nat} (hk : k < m * sz) : (Builtin.zeroCells z m).toList.getD k undef = z.getD (k % sz) undef := by
  have hsz : 0 < sz := by
    rcases Nat.eq_zero_or_pos sz with h | h
    · subst h; simp at hk
    · exact h
  have hlt : k % sz < z.size := by rw [hz]; exact Nat.mod_lt _ hsz
  simp [Builtin.zeroCells, List.getD_eq_getElem?_getD, hz, hk, Array.getD_eq_getD_getElem?]
  rw [getElem!_pos z (k % sz) hlt, Array.getElem?_eq_getElem hlt]
  rfl
theorem zc_len {z : Array Value} {m : Nat} : (Builtin.zeroCells z m).toList.length = m * z.size := by simp [Builtin.zeroCells]

theorem clear_run {t e ty : TypeId} {i : TypeInfo} {z : Value} (hu : P.underlying t = some (.slice e)) (hi : P.info? e = some i) (hz : i.zero = some z) {ad : Addr} (hs : ad.spot = none) {m cap : Nat} (hm : 0 < m)
    (hc : ∀ k, k < m * z.cells.size → (∃ u, cellAt w ad.block (ad.off + k) = some u) ∧ frozAt w ad.block (ad.off + k) = false) (hone : ∀ k, k < m * z.cells.size → ((Builtin.zeroCells z.cells m).toList.getD k undef).oneCell' = true) :
    (Builtin.clear_ #[t] ty #[.slice (some ad) m cap]).run P w = .ok (.tuple #[]) (w.setCells ad.block ad.off (Builtin.zeroCells z.cells m).toList) := by
  have had : ad = ⟨ad.block, ad.off, none⟩ := by cases ad; simp at hs; subst hs; rfl
  have hst := run_storeCells_cells (P := P) ad.block ad.off (Builtin.zeroCells z.cells m).toList 0 w (fun j hj => by
      rw [zc_len] at hj
      exact Option.isSome_iff_exists.2 (hc j hj).1) (fun j hj => by rw [zc_len] at hj; exact (hc j hj).2) (fun v hv => by
      obtain ⟨k, hk, e⟩ := List.mem_iff_getElem.1 hv
      have := hone k (by rw [← zc_len]; exact hk)
      rw [List.getD_eq_getElem?_getD, List.getElem?_eq_getElem hk, e] at this
      exact this)
  simp only [Nat.add_zero] at hst
  rw [← had] at hst
  obtain ⟨m, rfl⟩ : ∃ k, m = k + 1 := ⟨m - 1, by omega⟩
  simp [Builtin.clear_, run_underlying hu, zeroValue, typeInfo, hi, hz, hst]

theorem killN_inv (id : Nat) (h : Inv c gh nt st a w) : Inv c gh nt (st.map (AV.killN id)) a w := h.map _ fun x v t => TR_killN id x t

/-- A part of a row is cleared. -/
theorem clear_sound {t e ty : TypeId} {id p m : Nat} {A : Arr} {v : Value} (h : Inv c gh nt st a w) (hA : st.ar id = some A) (hu : P.underlying t = some (.slice e)) (hz : zOk P e = true) (hsz : A.sz = P.cellsOf e) (hx : TR c.sh gh st.ar st.bx w (.rs id p m) v) :
    ∃ gh' W, (Builtin.clear_ #[t] ty #[v]).run P w = .ok (.tuple #[]) W ∧ Inv c gh' nt ((st.map (AV.killN id)).setA id (some ⟨A.n, A.sz, rngG A.g p m (fun _ j => zc P 12 e j)⟩)) a W := by
  obtain ⟨hle, A', rfl, hA'⟩ := hx A hA
  obtain ⟨i, z, hi, hzz, hzs, his, hzf⟩ := zOk_spec hz
  rcases Nat.eq_zero_or_pos m with hm | hm
  · subst hm
    have hg : rngG A.g p 0 (fun _ j => zc P 12 e j) = A.g := by
      funext i j
      unfold rngG
      have : (decide (p ≤ i) && decide (i < p + 0)) = false := by
        cases h9 : decide (p ≤ i) with
        | false => rfl
        | true => simp only [Bool.true_and, decide_eq_false_iff_not]; have := of_decide_eq_true h9; omega
      rw [this]; exact mrg_false _ _
    refine ⟨gh, w, by cases A' <;> simp [Builtin.clear_, run_underlying hu], ?_⟩
    rw [hg]
    have hs : (st.map (AV.killN id)).setA id (some ⟨A.n, A.sz, A.g⟩) = st.map (AV.killN id) := by
      unfold St.setA
      congr 1
      funext k
      by_cases ek : k = id
      · subst ek; rw [upd_self]; exact hA.symm
      · rw [upd_ne _ _ ek]; rfl
    rw [hs]; exact killN_inv id h
  · have hzl : (Builtin.zeroCells z.cells m).toList.length = m * A.sz := by rw [zc_len, hzs, hsz]
    obtain ⟨ad, had, hs, hcap, hpos, hcells, gh', hI⟩ := setRange (hn := fun _ j => zc P 12 e j) (vs := (Builtin.zeroCells z.cells m).toList) h hA hm hle hzl (fun k hk => by
        rw [zc_get hzs (by rw [hzl, hsz] at hk; exact hk)]
        have hp : 0 < P.cellsOf e := by
          rcases Nat.eq_zero_or_pos (P.cellsOf e) with h0 | h0
          · rw [hzl, hsz, h0] at hk; simp at hk
          · exact h0
        exact (zFits_RO (w := w) (c := c) (hzf _ (Nat.mod_lt _ hp))).1) (fun i hi j hj W => by
        rw [zc_get hzs (by rw [← hsz]; exact cell_lt hi hj (Nat.le_refl _))]
        have e1 : (i * A.sz + j) % P.cellsOf e = j := by rw [← hsz, Nat.mul_comm, Nat.mul_add_mod, Nat.mod_eq_of_lt hj]
        rw [e1]
        exact (zFits_RO (w := W) (c := c) (hzf j (by rw [← hsz]; exact hj))).2)
    have hne : ¬ (gh.hd id).2 - p = 0 := by omega
    rcases hA' with h0 | ⟨ad', had', rfl⟩
    · exact absurd h0 hne
    · rw [had] at had'
      obtain rfl := Option.some.inj had'
      refine ⟨gh', _, clear_run (ad := ⟨ad.block, ad.off + p * A.sz, none⟩) hu hi hzz rfl hm (fun k hk => hcells k (by rw [hzl, hsz, ← hzs]; exact hk)) (fun k hk => ?_), hI⟩
      rw [hzs] at hk
      rw [zc_get hzs hk]
      have hp : 0 < P.cellsOf e := by
        rcases Nat.eq_zero_or_pos (P.cellsOf e) with h0 | h0
        · rw [h0] at hk; simp at hk
        · exact h0
      exact (zFits_RO (w := w) (c := c) (hzf _ (Nat.mod_lt _ hp))).1

theorem RO_lit {sh : AV → Value → Prop} {x : AV} {v : Value} {F F' : Cells} (h : RO w sh x.noOwn v F) : RO W sh x.noOwn v F' := by
  cases x <;> exact h

/-- What is appended to a part of a row, within it. -/
theorem appIn_sound {t tx e e' ty : TypeId} {id p m : Nat} {A B : Arr} {y : AV} {u v : Value} (h : Inv c gh nt st a w) (hA : st.ar id = some A) (hu : P.underlying t = some (.slice e)) (hu' : P.underlying tx = some (.slice e')) (hi' : ∃ i, P.info? e = some i ∧ i.size = P.cellsOf e) (hsz : A.sz = P.cellsOf e)
    (hB : st.rowsOf y = some B) (hszB : A.sz = B.sz) (hle : p + m + B.n ≤ A.n) (hx : TR c.sh gh st.ar st.bx w (.rs id p m) u) (hy : TR c.sh gh st.ar st.bx w y v) :
    ∃ W val, (Builtin.append_ #[t, tx] ty #[u, v]).run P w = .ok val W ∧ TR c.sh gh st.ar st.bx w (.rs id p (m + B.n)) val ∧
      ∀ {st1 : St} {a1 : Act}, Inv c gh nt st1 a1 w → st1.ar = st.ar → ∃ gh', Inv c gh' nt ((st1.map (AV.killN id)).setA id (some ⟨A.n, A.sz, rngG A.g (p + m) B.n (fun i j => (B.g i j).noOwn)⟩)) a1 W := by
  obtain ⟨i, hi, his⟩ := hi'
  obtain ⟨_, A', rfl, hA'⟩ := hx A hA
  obtain ⟨A1, cap, e1, q1, q2, q3⟩ := h.mem.rows id A hA
  obtain ⟨hA1, hcap⟩ : (gh.hd id).1 = A1 ∧ (gh.hd id).2 = cap := by simpa using e1
  have hsrc := rows_src h hB hy
  obtain ⟨news, hS, hnl, hnr, hno⟩ := hsrc.src (P := P) hu' (by show 0 < B.sz; omega)
  have hS' : Src P i.size tx v B.n news w := by rw [his, ← hsz, hszB]; exact hS
  have hmc : m ≤ (gh.hd id).2 - p := by omega
  rcases Nat.eq_zero_or_pos B.n with hb0 | hbp
  · rw [hb0] at hS'
    have hnil : news = [] := by
      have : news.length = 0 := by rw [hnl]; show B.n * B.sz = 0; rw [hb0]; simp
      exact List.length_eq_zero_iff.1 this
    subst hnil
    refine ⟨w, _, run_append_nothing (P := P) w t tx ty e i hu hi A' m _ hmc v hS', ?_, fun {st1 a1} h1 har => ?_⟩
    · rw [hb0]; exact hx
    · have hg : rngG A.g (p + m) B.n (fun i j => (B.g i j).noOwn) = A.g := by
        funext i j
        unfold rngG
        rw [hb0]
        have : (decide (p + m ≤ i) && decide (i < p + m + 0)) = false := by
          cases h9 : decide (p + m ≤ i) with
          | false => rfl
          | true => simp only [Bool.true_and, decide_eq_false_iff_not]; have := of_decide_eq_true h9; omega
        rw [this]; exact mrg_false _ _
      have hs : (st1.map (AV.killN id)).setA id (some ⟨A.n, A.sz, A.g⟩) = st1.map (AV.killN id) := by
        unfold St.setA
        congr 1
        funext k
        by_cases ek : k = id
        · subst ek; rw [upd_self]; show some _ = st1.ar k; rw [har]; exact hA.symm
        · rw [upd_ne _ _ ek]; rfl
      rw [hg, hs]
      exact ⟨gh, killN_inv id h1⟩
  · have hne : ¬ (gh.hd id).2 - p = 0 := by omega
    rcases hA' with h0 | ⟨ad, had, rfl⟩
    · exact absurd h0 hne
    have hnl' : news.length = B.n * A.sz := by rw [hnl, hszB]
    have key : ∀ {st1 : St} {a1 : Act}, Inv c gh nt st1 a1 w → st1.ar = st.ar → _ := fun {st1 a1} h1 har =>
      setRange (i0 := p + m) (m := B.n) (hn := fun i j => (B.g i j).noOwn) (vs := news) h1 (by rw [har]; exact hA) hbp (by omega) hnl' hno (fun i hi j hj W => RO_lit (w := w) (F := fun _ _ => False) (by have := hnr i hi j (by show j < B.sz; omega); rw [hszB]; exact this))
    obtain ⟨ad', had', hs, _, _, hcells, _⟩ := key h rfl
    rw [had] at had'
    obtain rfl := Option.some.inj had'
    have hoff : ad.off + p * A.sz + m * i.size = ad.off + (p + m) * A.sz := by rw [his, ← hsz, Nat.add_mul]; omega
    have hrun := run_append_room_src (P := P) w t tx ty e i hu hi ad.block (ad.off + p * A.sz) m ((gh.hd id).2 - p) v B.n news hS' (by omega) (fun j hj => by
        rw [hoff]; exact Option.isSome_iff_exists.2 (hcells j hj).1) (fun j hj => by rw [hoff]; exact (hcells j hj).2)
    rw [hoff] at hrun
    refine ⟨_, _, hrun, fun A2 hA2 => ?_, fun {st1 a1} h1 har => ?_⟩
    · rw [hA] at hA2
      obtain rfl := Option.some.inj hA2
      exact ⟨by omega, _, rfl, .inr ⟨ad, had, rfl⟩⟩
    · obtain ⟨ad', had', _, _, _, _, gh', hI⟩ := key h1 har
      rw [had] at had'
      obtain rfl := Option.some.inj had'
      exact ⟨gh', hI⟩
theorem slice3_run {t e : TypeId} {A : Option Addr} {n cap : Nat} {lo hi : Option Value} {l : Option Int} {hh m : Int} {kn : IntKind} (hu : P.underlying t = some (.slice e)) (hi' : ∃ x, P.info? e = some x) (hl : IvR lo l) (hh' : IvR hi (some hh))
    (h0 : 0 ≤ l.getD 0) (h1 : l.getD 0 ≤ hh) (h2 : hh ≤ m) (h3 : m ≤ (cap : Int)) :
    ∃ z, (Instr.sliceAt t (.slice A n cap) lo hi (some (.int kn m))).run P w = .ok z w := by
  obtain ⟨x, hx⟩ := hi'
  cases hi with
  | none => exact hh'.elim
  | some _ =>
    obtain ⟨k', rfl⟩ := hh'
    have h4 : 0 ≤ hh := by omega
    have h5 : 0 ≤ m := by omega
    have e : (m.toNat : Int) = m := Int.toNat_of_nonneg h5
    have e2 : (hh.toNat : Int) = hh := Int.toNat_of_nonneg h4
    cases l with
    | none =>
      cases lo with
      | some _ => exact hl.elim
      | none => exact ⟨_, by simp [Instr.sliceAt, Instr.slice, run_underlying hu, Instr.sliceBounds, run_sliceBound, h3, h4, h5, e, h2, sizeOf_run hx]; rfl⟩
    | some l =>
      cases lo with
      | none => exact hl.elim
      | some _ =>
        obtain ⟨k, rfl⟩ := hl
        simp only [Option.getD_some] at h0 h1
        exact ⟨_, by simp [Instr.sliceAt, Instr.slice, run_underlying hu, Instr.sliceBounds, run_sliceBound, h3, h4, h5, e, e2, h2, h0, h1, sizeOf_run hx]; rfl⟩
end
end Go.Fw
