/- The by-value interpreter: addresses, slices, indices: as the model's. -/
import Derived.Test.YtkhfkekbfjkpcaaFwO
set_option linter.unusedVariables false
set_option linter.unusedSectionVars false
set_option linter.unusedSimpArgs false
namespace Go.Fw
variable [Tok]

section
variable {c : Cx} {gh : Gh} {nt : Nat} {st : St} {a : Act} {w : World} {P : Program} {R : Type} {r : R}

theorem inB_iff {i : Int} {n : Nat} : inB i n = true ↔ 0 ≤ i ∧ i < (n : Int) := by simp [inB]
theorem szOk_iff {e : TypeId} {sz : Nat} (h : szOk P e sz = true) : (∃ i, P.info? e = some i) ∧ sz = P.cellsOf e := by
  unfold szOk at h
  rw [Bool.and_eq_true] at h
  exact ⟨Option.isSome_iff_exists.1 h.1, beq_eq.1 h.2⟩

theorem sizeOf_run {e : TypeId} {i : TypeInfo} (h : P.info? e = some i) : (sizeOf e).run P w = .ok (P.cellsOf e) w := by
  simp [sizeOf, typeInfo, h, cellsOf_eq h]

theorem indexAt_run {t e : TypeId} {ad : Addr} {n cap : Nat} {k : IntKind} {i : Int} (hu : P.underlying t = some (.slice e)) (hi : ∃ x, P.info? e = some x) (h0 : 0 ≤ i) (h1 : i < (n : Int)) :
    (Instr.indexAt t (.slice (some ad) n cap) (.int k i)).run P w = .ok (.pointer (some (ad.add (i.toNat * P.cellsOf e)))) w := by
  obtain ⟨x, hx⟩ := hi
  simp [Instr.indexAt, asIntOf, run_underlying hu, h0, h1, sizeOf_run hx]

omit [Tok] in
theorem and3 {a b c : Bool} (h : a = true) (h' : (b && c) = true) : (a && b && c) = true := by
  subst h; simpa using h'

theorem indexAddrK_sound {t : TypeId} {x : AV} {u v : Value} {i : Int} {k : IntKind} {K : AV → Option R} (h : Inv c gh nt st a w) (e : indexAddrK P st t x i K = some r) (hx : TR c.sh gh st.ar st.bx w x u) (hv : v = .int k i) :
    ∃ y z, K y = some r ∧ (Instr.indexAt t u v).run P w = .ok z w ∧ TR c.sh gh st.ar st.bx w y z := by
  subst hv
  unfold indexAddrK at e
  split at e
  · rename_i el hu
    have shared : ∀ {n sz : Nat} {g : Nat → Nat → AV} {A : Option Addr} {cap : Nat}, (inB i n && szOk P el sz && Nat.blt 0 sz) = true → (n = 0 ∨ ∃ a, A = some a ∧ a.spot = none ∧
        ∀ i, i < n → ∀ j, j < sz → c.ok a.block (a.off + (i * sz + j)) ∧ ∃ u, cellAt c.w0 a.block (a.off + (i * sz + j)) = some u ∧ RS c.w0 c.ok (g i j) u) →
        ∃ z, (Instr.indexAt t (.slice A n cap) (.int k i)).run P w = .ok z w ∧ TR c.sh gh st.ar st.bx w (.sp sz (g i.toNat)) z := by
      intro n sz g A cap hk h2
      simp only [Bool.and_eq_true] at hk
      obtain ⟨h0, h1⟩ := inB_iff.1 hk.1.1
      obtain ⟨hi, hsz⟩ := szOk_iff hk.1.2
      rcases h2 with h2 | ⟨ad, rfl, hs, hc⟩
      · omega
      · refine ⟨_, indexAt_run hu hi h0 h1, _, rfl, by rw [add_eq hs], fun j hj => ?_⟩
        rw [add_eq hs, ← hsz]
        simp only [Nat.add_assoc]
        exact hc i.toNat (by omega) j hj
    cases x with
    | sl n sz g =>
      simp only at e
      obtain ⟨hk1, e⟩ := K2_some e
      obtain ⟨hk2, e⟩ := K2_some e
      have hk := and3 hk2 hk1
      obtain ⟨A, cap, rfl, h1, h2⟩ := hx
      obtain ⟨z, hz, ht⟩ := shared (cap := cap) hk h2
      exact ⟨_, z, e, hz, ht⟩
    | sln n sz g =>
      simp only at e
      obtain ⟨hk1, e⟩ := K2_some e
      obtain ⟨hk2, e⟩ := K2_some e
      have hk := and3 hk2 hk1
      obtain ⟨A, cap, rfl, h1, h2⟩ := hx
      obtain ⟨z, hz, ht⟩ := shared (cap := cap) hk h2
      exact ⟨_, z, e, hz, ht⟩
    | gv bs =>
      simp only at e
      obtain ⟨hk1, e⟩ := K2_some e
      obtain ⟨hk2, e⟩ := K2_some e
      obtain ⟨A, cap, rfl, h1, h2⟩ := RS_gv hx
      obtain ⟨z, hz, ht⟩ := shared (n := bs.length) (sz := 1) (g := gvG bs) (cap := cap) (by rw [hk1, hk2]; rfl) h2
      exact ⟨_, z, e, hz, ht⟩
    | rf id =>
      simp only at e
      split at e
      · rename_i A hA
        obtain ⟨hk1, e⟩ := K2_some e
        obtain ⟨hk2, e⟩ := K2_some e
        have hk := and3 hk2 hk1
        simp only [Bool.and_eq_true] at hk
        obtain ⟨h0, h1⟩ := inB_iff.1 hk.1.1
        obtain ⟨hi, hsz⟩ := szOk_iff hk.1.2
        have hpos : 0 < A.sz := Nat.le_of_ble_eq_true hk.2
        obtain ⟨A1, cap, e1, hn, _, h3⟩ := h.mem.rows id A hA
        obtain ⟨hA1, hcap⟩ : (gh.hd id).1 = A1 ∧ (gh.hd id).2 = cap := by simpa using e1
        rcases h3 with h3 | ⟨ad, ea, hs, _⟩
        · omega
        · rw [hx A hA, hA1, ea]
          refine ⟨_, _, e, indexAt_run hu hi h0 h1, fun A' hA' => ?_⟩
          rw [hA] at hA'
          obtain rfl := Option.some.inj hA'
          exact ⟨by omega, hpos, ad, by rw [hA1, ea], by rw [add_eq hs, ← hsz]; simp⟩
      · simp at e
    | rs id p m =>
      simp only at e
      split at e
      · rename_i A hA
        obtain ⟨hk1, e⟩ := K2_some e
        obtain ⟨hk2, e⟩ := K2_some e
        have hk := and3 hk2 hk1
        simp only [Bool.and_eq_true] at hk
        obtain ⟨h0, h1⟩ := inB_iff.1 hk.1.1
        obtain ⟨hi, hsz⟩ := szOk_iff hk.1.2
        have hpos : 0 < A.sz := Nat.le_of_ble_eq_true hk.2
        obtain ⟨hle, A', rfl, h2⟩ := hx A hA
        obtain ⟨A1, cap, e1, hn, _, h3⟩ := h.mem.rows id A hA
        obtain ⟨hA1, hcap⟩ : (gh.hd id).1 = A1 ∧ (gh.hd id).2 = cap := by simpa using e1
        rcases h2 with h2 | ⟨ad, ea, rfl⟩
        · omega
        · refine ⟨_, _, e, indexAt_run hu hi h0 h1, fun A' hA' => ?_⟩
          rw [hA] at hA'
          obtain rfl := Option.some.inj hA'
          refine ⟨by omega, hpos, ad, ea, ?_⟩
          rw [add_eq rfl, ← hsz, Nat.add_mul]
          simp only [Nat.add_assoc, Nat.add_zero]
      · simp at e
    | rn id p =>
      simp only at e
      split at e
      · rename_i A hA
        split at e
        · rename_i n sz g hat
          obtain ⟨hk1, e⟩ := K2_some e
          obtain ⟨hk2, e⟩ := K2_some e
          have hk := and3 hk2 hk1
          simp only [Bool.and_eq_true] at hk
          obtain ⟨h0, h1⟩ := inB_iff.1 hk.1.1
          obtain ⟨hi, hsz⟩ := szOk_iff hk.1.2
          have hpos : 0 < sz := Nat.le_of_ble_eq_true hk.2
          have hp := hx A n sz g hA hat
          obtain ⟨F', hr, _⟩ := RO_path p (h.mem.rows id A hA) hat hp
          obtain ⟨A1, cap, rfl, hn, _, h3⟩ := hr
          rcases h3 with h3 | ⟨ad, rfl, hs, _⟩
          · omega
          · refine ⟨_, _, e, indexAt_run hu hi h0 h1, fun A' hA' => ?_⟩
            rw [hA] at hA'
            obtain rfl := Option.some.inj hA'
            cases p with
            | nil => exact hp.elim
            | cons q p =>
              intro n' sz' h' e'
              rw [hat] at e'
              obtain ⟨rfl, rfl, rfl⟩ : n = n' ∧ sz = sz' ∧ g = h' := by simpa using e'
              exact ⟨by omega, hpos, ad, cap, hp, by rw [add_eq hs, ← hsz]; simp⟩
        · simp at e
      · simp at e
    | _ => simp at e
  · simp at e

/-! ### Slices -/
def IvR : Option Value → Option Int → Prop
  | none, none => True
  | some v, some n => ∃ k, v = .int k n
  | _, _ => False

theorem sliceBounds_run {b : Bool} {len cap : Nat} {lo hi : Option Value} {l h : Option Int} (hl : IvR lo l) (hh : IvR hi h) (h0 : 0 ≤ l.getD 0) (h1 : l.getD 0 ≤ h.getD len) (h2 : h.getD len ≤ (cap : Int)) :
    (Instr.sliceBounds b len cap lo hi none).run P w = .ok ((l.getD 0).toNat, (h.getD len).toNat, cap) w := by
  cases l with
  | none =>
    cases lo with
    | some _ => exact hl.elim
    | none =>
      cases h with
      | none =>
        cases hi with
        | some _ => exact hh.elim
        | none => simp [Instr.sliceBounds]
      | some h =>
        cases hi with
        | none => exact hh.elim
        | some _ =>
          obtain ⟨k, rfl⟩ := hh
          simp only [Option.getD_none, Option.getD_some] at h0 h1 h2
          simp [Instr.sliceBounds, run_sliceBound, h1, h2]
  | some l =>
    cases lo with
    | none => exact hl.elim
    | some _ =>
      obtain ⟨k, rfl⟩ := hl
      simp only [Option.getD_some] at h0 h1
      cases h with
      | none =>
        cases hi with
        | some _ => exact hh.elim
        | none =>
          simp only [Option.getD_none] at h1 h2
          simp [Instr.sliceBounds, run_sliceBound, h0, h1]
      | some h =>
        cases hi with
        | none => exact hh.elim
        | some _ =>
          obtain ⟨k', rfl⟩ := hh
          simp only [Option.getD_some] at h1 h2
          have h3 : 0 ≤ h := by omega
          have e : (h.toNat : Int) = h := Int.toNat_of_nonneg h3
          simp [Instr.sliceBounds, run_sliceBound, h0, h1, h2, h3, e]

theorem bndK_some {lo hi : Int} {n : Nat} {x : Option R} (e : bndK lo hi n x = some r) : (0 ≤ lo ∧ lo ≤ hi ∧ hi ≤ (n : Int)) ∧ x = some r := by
  obtain ⟨hk, e⟩ := K2_some e
  simp only [Bool.and_eq_true, decide_eq_true_eq] at hk
  exact ⟨⟨hk.1.1, hk.1.2, hk.2⟩, e⟩

theorem sliceAt_run {t e : TypeId} {A : Option Addr} {n cap : Nat} {lo hi : Option Value} {l h : Option Int} (hu : P.underlying t = some (.slice e)) (hi' : ∃ x, P.info? e = some x) (hl : IvR lo l) (hh : IvR hi h)
    (h0 : 0 ≤ l.getD 0) (h1 : l.getD 0 ≤ h.getD n) (h2 : h.getD n ≤ (cap : Int)) :
    (Instr.sliceAt t (.slice A n cap) lo hi none).run P w = .ok (.slice (if cap = (l.getD 0).toNat then A else A.map (·.add ((l.getD 0).toNat * P.cellsOf e))) ((h.getD n).toNat - (l.getD 0).toNat) (cap - (l.getD 0).toNat)) w := by
  obtain ⟨x, hx⟩ := hi'
  simp [Instr.sliceAt, Instr.slice, run_underlying hu, sliceBounds_run hl hh h0 h1 h2, sizeOf_run hx]

theorem sliceK_sound {t : TypeId} {x : AV} {u : Value} {l h : Option Int} {lo hi : Option Value} {K : AV → Option R} (hI : Inv c gh nt st a w) (e : sliceK P st t x l h K = some r) (hx : TR c.sh gh st.ar st.bx w x u) (hl : IvR lo l) (hh : IvR hi h) :
    ∃ y z, K y = some r ∧ (Instr.sliceAt t u lo hi none).run P w = .ok z w ∧ TR c.sh gh st.ar st.bx w y z := by
  unfold sliceK at e
  split at e
  · rename_i hu
    cases x with
    | S s =>
      simp only at e
      obtain ⟨⟨h0, h1, h2⟩, e⟩ := bndK_some e
      have := TR_S hx
      subst this
      refine ⟨_, _, e, ?_, rfl⟩
      simp [Instr.sliceAt, Instr.slice, run_underlying hu, sliceBounds_run hl hh h0 h1 h2]
    | _ => simp at e
  · rename_i el hu
    cases x with
    | sl n sz g =>
      simp only at e
      obtain ⟨hk, e⟩ := K2_some e
      obtain ⟨hi', hsz⟩ := szOk_iff hk
      obtain ⟨A, cap, rfl, ⟨hn, hnl⟩, h2⟩ := hx
      have main : ∀ {g' : Nat → Nat → AV}, 0 ≤ l.getD 0 → l.getD 0 ≤ h.getD n → h.getD n ≤ (n : Int) → (∀ i j, i < (h.getD n).toNat - (l.getD 0).toNat → g' i j = g ((l.getD 0).toNat + i) j) →
          TR c.sh gh st.ar st.bx w (.sl ((h.getD n).toNat - (l.getD 0).toNat) sz g') (.slice (if cap = (l.getD 0).toNat then A else A.map (·.add ((l.getD 0).toNat * P.cellsOf el))) ((h.getD n).toNat - (l.getD 0).toNat) (cap - (l.getD 0).toNat)) := by
        intro g' h0 h1 h3 hg
        refine ⟨_, _, rfl, ⟨by omega, fun hA => ?_⟩, ?_⟩
        · split at hA
          · omega
          · have := hnl (by simpa using hA)
            omega
        by_cases hz : (h.getD n).toNat - (l.getD 0).toNat = 0
        · exact .inl hz
        · right
          rcases h2 with h2 | ⟨ad, rfl, hs, hc⟩
          · omega
          · have hne : ¬ cap = (l.getD 0).toNat := by omega
            rw [if_neg hne]
            refine ⟨_, rfl, by simp only; rw [add_eq hs], fun i hi j hj => ?_⟩
            have := hc ((l.getD 0).toNat + i) (by omega) j hj
            simp only
            rw [add_eq hs, hg i j hi, ← hsz]
            simp only [Nat.add_mul, Nat.add_assoc] at this ⊢
            exact this
      cases h with
      | none =>
        simp only at e
        obtain ⟨⟨h0, h1, h3⟩, e⟩ := bndK_some e
        refine ⟨_, _, e, sliceAt_run hu hi' hl hh h0 (by simpa using h1) (by simp; omega), ?_⟩
        exact main h0 (by simpa using h1) (by simp) (fun i j _ => rfl)
      | some h =>
        simp only at e
        obtain ⟨⟨h0, h1, h3⟩, e⟩ := bndK_some e
        refine ⟨_, _, e, sliceAt_run hu hi' hl hh h0 (by simpa using h1) (by simp; omega), ?_⟩
        exact main h0 (by simpa using h1) (by simpa using h3) (fun i j hi => by
          have : i < h.toNat - (l.getD 0).toNat := hi
          simp [this, mrg_true])
    | rf id =>
      simp only at e
      split at e
      · rename_i A hA
        obtain ⟨hk, e⟩ := K2_some e
        obtain ⟨hi', hsz⟩ := szOk_iff hk
        obtain ⟨⟨h0, h1, h3⟩, e⟩ := bndK_some e
        obtain ⟨A1, cap, e1, hn, _, h4⟩ := hI.mem.rows id A hA
        obtain ⟨hA1, hcap⟩ : (gh.hd id).1 = A1 ∧ (gh.hd id).2 = cap := by simpa using e1
        rw [hx A hA]
        refine ⟨_, _, e, sliceAt_run hu hi' hl hh h0 h1 (by omega), fun A' hA' => ?_⟩
        rw [hA] at hA'
        obtain rfl := Option.some.inj hA'
        refine ⟨by omega, _, rfl, ?_⟩
        by_cases hz : (gh.hd id).2 - (l.getD 0).toNat = 0
        · exact .inl hz
        · right
          rcases h4 with h4 | ⟨ad, ea, hs, _⟩
          · omega
          · rw [if_neg (by omega), hA1, ea]
            exact ⟨ad, rfl, by simp only [Option.map_some]; rw [add_eq hs, hsz]⟩
      · simp at e
    | rs id p m =>
      simp only at e
      split at e
      · rename_i A hA
        obtain ⟨hk, e⟩ := K2_some e
        obtain ⟨hi', hsz⟩ := szOk_iff hk
        obtain ⟨⟨h0, h1, h3⟩, e⟩ := bndK_some e
        obtain ⟨hle, A', rfl, h2⟩ := hx A hA
        obtain ⟨A1, cap, e1, hn, _, h4⟩ := hI.mem.rows id A hA
        obtain ⟨hA1, hcap⟩ : (gh.hd id).1 = A1 ∧ (gh.hd id).2 = cap := by simpa using e1
        refine ⟨_, _, e, sliceAt_run hu hi' hl hh h0 h1 (by omega), fun A'' hA' => ?_⟩
        rw [hA] at hA'
        obtain rfl := Option.some.inj hA'
        refine ⟨by omega, _, by rw [Nat.sub_sub], ?_⟩
        by_cases hz : (gh.hd id).2 - (p + (l.getD 0).toNat) = 0
        · exact .inl hz
        · right
          rcases h2 with h2 | ⟨ad, ea, rfl⟩
          · omega
          · rw [if_neg (by omega)]
            refine ⟨ad, ea, ?_⟩
            simp only [Option.map_some]
            rw [add_eq rfl, hsz, Nat.add_mul]
            simp only [Nat.add_assoc]
      · simp at e
    | _ => simp at e
  · simp at e

end
end Go.Fw
