/- The by-value interpreter: loads and stores are what the model's are. -/
import Derived.Test.YtkhfkekbfjkpcaaFwJ
set_option linter.unusedVariables false
set_option linter.unusedSectionVars false
set_option linter.unusedSimpArgs false
namespace Go.Fw
variable [Tok]

section
variable {c : Cx} {gh : Gh} {nt : Nat} {st : St} {a : Act} {w : World} {P : Program} {R : Type} {r : R}

theorem tyOk_iff {t : TypeId} (h : tyOk P t = true) : (∃ i, P.info? t = some i) ∧ (∃ d, P.underlying t = some d) ∧ 0 < P.cellsOf t := by
  unfold tyOk at h
  simp only [Bool.and_eq_true] at h
  exact ⟨Option.isSome_iff_exists.1 h.1.1, Option.isSome_iff_exists.1 h.1.2, Nat.le_of_ble_eq_true h.2⟩

/-- The size of a place's elements. -/
theorem szAt_own {A : Arr} {p : List (Nat × Nat)} {j : Nat} (h : j < A.szAt p) : p = [] ∨ ∃ n' sz' h', atP A.g p = .own n' sz' h' ∧ sz' = A.szAt p := by
  unfold Arr.szAt at h ⊢
  cases p with
  | nil => exact .inl rfl
  | cons q r =>
    simp only at h ⊢
    cases he : atP A.g (q :: r) with
    | own n sz g => exact .inr ⟨_, _, _, rfl, rfl⟩
    | _ => rw [he] at h; simp at h

theorem atP_snoc {q : Nat × Nat} : ∀ (p : List (Nat × Nat)) {g : Nat → Nat → AV} {n sz : Nat} {h : Nat → Nat → AV}, atP g p = .own n sz h → atP g (p ++ [q]) = h q.1 q.2 := by
  intro p
  induction p with
  | nil => intro g n sz h e; simp [atP] at e
  | cons ij p ih =>
    obtain ⟨i, j⟩ := ij
    intro g n sz h e
    cases p with
    | nil => simp only [atP] at e; simp [atP, e]
    | cons a b =>
      simp only [atP] at e
      cases hg : g i j with
      | own n1 sz1 h1 => rw [hg] at e; simp only at e; simp only [List.cons_append, atP, hg]; exact ih e
      | _ => rw [hg] at e; simp at e

/-- The cell at a place: what lies there, and how it is reached. -/
theorem place_cell {w : World} {sh : AV → Value → Prop} : ∀ (p : List (Nat × Nat)) {n sz : Nat} {g : Nat → Nat → AV} {A : Option Addr} {cap : Nat} {F : Cells} {i j : Nat} {ad : Addr},
    RO w sh (.own n sz g) (.slice A n cap) F → placeV w A n sz g p i j (.pointer (some ad)) → (p = [] ∨ ∃ n' sz' h, atP g p = .own n' sz' h) →
    ∃ v F', cellAt w ad.block ad.off = some v ∧ F ad.block ad.off ∧ frozAt w ad.block ad.off = false ∧ RO w sh (atP g (p ++ [(i, j)])) v F' ∧ (∀ b o, F' b o → F b o) ∧ pathV w A n sz g (p ++ [(i, j)]) v ∧ ad.spot = none ∧
      (∀ k, j + k < (Arr.mk n sz g).szAt p → placeV w A n sz g p i (j + k) (.pointer (some ⟨ad.block, ad.off + k, none⟩))) := by
  intro p
  induction p with
  | nil =>
    intro n sz g A cap F i j ad hr hp _
    obtain ⟨hi, hj, ad', rfl, e⟩ := hp
    obtain rfl : ad = _ := by simpa using e
    obtain ⟨A1, cap1, e, h1, h2, h3⟩ := hr
    obtain ⟨rfl, rfl⟩ : some ad' = A1 ∧ cap = cap1 := by simpa using e
    rcases h3 with h3 | ⟨y, ey, hs, hcs, Fs, hf1, hf2, hf3⟩
    · omega
    obtain rfl : ad' = y := by simpa using ey
    obtain ⟨v, hv, hro⟩ := hf3 i hi j hj
    have hc := hcs _ (cell_lt hi hj h1)
    refine ⟨v, Fs i j, hv, hc.1, hc.2.2, by simpa [atP] using hro, fun b o hb => (hf1 i j b o hi hj hb).1, ⟨hi, hj, ad', rfl, hv⟩, rfl, fun k hk => ⟨hi, hk, ad', rfl, ?_⟩⟩
    simp only [Nat.add_assoc]
  | cons ij p ih =>
    obtain ⟨i0, j0⟩ := ij
    intro n sz g A cap F i j ad hr hp hat
    have hat : ∃ n' sz' h, atP g ((i0, j0) :: p) = .own n' sz' h := by rcases hat with hat | hat; exact absurd hat (by simp); exact hat
    obtain ⟨hi, hj, ad1, rfl, n3, sz3, h3', A3, cap3, hg, hc, hpl', hat', hatc, hatn⟩ := place_down hp hat
    obtain ⟨A1, cap1, e, h1, h2, h3⟩ := hr
    obtain ⟨rfl, rfl⟩ : some ad1 = A1 ∧ cap = cap1 := by simpa using e
    rcases h3 with h3 | ⟨y, ey, hs, hcs, Fs, hf1, hf2, hf3⟩
    · omega
    obtain rfl : ad1 = y := by simpa using ey
    obtain ⟨u0, hu0, hro0⟩ := hf3 i0 hi j0 hj
    rw [hc] at hu0
    obtain rfl : _ = u0 := by simpa using hu0
    rw [hg] at hro0
    obtain ⟨v, F', hv, hF, hfz, hro, hsub, hpv, hsp, hmore⟩ := ih hro0 hpl' hat'
    have hatq : atP g ((i0, j0) :: p ++ [(i, j)]) = atP h3' (p ++ [(i, j)]) := by
      cases p with
      | nil => simp [atP, hg]
      | cons a b => simp [atP, hg]
    refine ⟨v, F', hv, (hf1 _ _ _ _ hi hj hF).1, hfz, by rw [hatq]; exact hro, fun b o hb => (hf1 _ _ b o hi hj (hsub b o hb)).1, ?_, hsp, fun k hk => place_up hg hi hj hc (hmore k ?_)⟩
    · obtain ⟨q1, q2, hq⟩ : ∃ q1 q2, p ++ [(i, j)] = q1 :: q2 := by cases p with
        | nil => exact ⟨_, _, rfl⟩
        | cons a b => exact ⟨_, _, rfl⟩
      show pathV w (some ad1) n sz g ((i0, j0) :: (p ++ [(i, j)])) v
      rw [hq] at hpv ⊢
      exact ⟨hi, hj, ad1, rfl, _, hc, by rw [hg]; exact ⟨_, _, rfl, hpv⟩⟩
    · cases p with
      | nil => simpa [Arr.szAt, atP, hg] using hk
      | cons a b => simpa [Arr.szAt, atP, hg] using hk

/-- What is loaded of a row's cell. -/
theorem ldc_TR {id : Nat} {A : Arr} {p : List (Nat × Nat)} {v : Value} {F : Cells} (e : st.ar id = some A) (hr : RO w c.sh (atP A.g p) v F) (hp : pathV w (gh.hd id).1 A.n A.sz A.g p v) :
    TR c.sh gh st.ar st.bx w (ldc id p (atP A.g p)) v := by
  cases hx : atP A.g p with
  | own n sz g =>
    intro A' n' sz' g' e' _
    rw [e] at e'
    obtain rfl := Option.some.inj e'
    exact hp
  | I k n => rw [hx] at hr; exact hr
  | B k => rw [hx] at hr; exact hr
  | S k => rw [hx] at hr; exact hr
  | sl n sz g => rw [hx] at hr; exact hr
  | nlp => rw [hx] at hr; exact hr
  | _ => trivial

theorem loadK_sound {t : TypeId} {x : AV} {u : Value} {K : AV → Option R} (h : Inv c gh nt st a w) (e : loadK P st t x K = some r) (hx : TR c.sh gh st.ar st.bx w x u) :
    ∃ y v, K y = some r ∧ (Instr.loadAt t u).run P w = .ok v w ∧ TR c.sh gh st.ar st.bx w y v := by
  unfold loadK at e
  split at e
  · rename_i b o
    split at e
    · rename_i sz g hB
      obtain ⟨hk, e⟩ := K2_some e
      simp only [Bool.and_eq_true] at hk
      obtain ⟨hi, hu, hpos⟩ := tyOk_iff hk.1
      have hle : o + P.cellsOf t ≤ sz := Nat.le_of_ble_eq_true hk.2
      obtain ⟨hsp, hbx⟩ := h.mem.boxes b sz g hB
      have hv := hx (sz, g) hB
      subst hv
      let f : Nat → Value := fun j => (cellAt w (gh.ba b).block ((gh.ba b).off + (o + j))).getD undef
      have hf : ∀ j, j < P.cellsOf t → cellAt w (gh.ba b).block ((gh.ba b).off + o + j) = some (f j) ∧ (f j).oneCell' = true ∧ TR c.sh gh st.ar st.bx w (g (o + j)) (f j) := fun j hj => by
        obtain ⟨v, h1, h2, h3, h4⟩ := hbx (o + j) (by omega)
        have : f j = v := by simp only [f, h1]; rfl
        rw [this, Nat.add_assoc]; exact ⟨h1, h3, h4⟩
      refine ⟨_, _, e, loadAt_run rfl f (fun j hj => (hf j hj).1) (fun _ => hpos) hu hi, valOf_TR (fun j hj => ⟨(hf j hj).2.1, (hf j hj).2.2⟩) (fun _ => hpos)⟩
    · simp at e
  · rename_i id p i j
    split at e
    · rename_i A hA
      obtain ⟨hk, e⟩ := K2_some e
      simp only [Bool.and_eq_true, List.all_eq_true, List.mem_range] at hk
      obtain ⟨hi, hu, hpos⟩ := tyOk_iff hk.1.1
      have hle : j + P.cellsOf t ≤ A.szAt p := Nat.le_of_ble_eq_true hk.1.2
      have hat := szAt_own (A := A) (p := p) (j := j) (by omega)
      have hat' : p = [] ∨ ∃ n' sz' h, atP A.g p = .own n' sz' h := hat.imp (fun h => h) fun ⟨n', sz', h', e, _⟩ => ⟨n', sz', h', e⟩
      have hpl := hx A hA
      obtain ⟨ad, rfl⟩ : ∃ ad, u = .pointer (some ad) := by
        cases p with
        | nil => obtain ⟨_, _, ad, _, rfl⟩ := hpl; exact ⟨_, rfl⟩
        | cons q r =>
          rcases hat' with hat' | ⟨n', sz', h', e'⟩
          · simp at hat'
          · obtain ⟨_, _, ad, _, _, rfl⟩ := hpl n' sz' h' e'; exact ⟨_, rfl⟩
      have hrow := h.mem.rows id A hA
      obtain ⟨_, _, _, _, _, _, _, _, hsp, hmore⟩ := place_cell p hrow hpl hat'
      have hcell : ∀ k, k < P.cellsOf t → ∃ v F', cellAt w ad.block (ad.off + k) = some v ∧ RO w c.sh (atP A.g (p ++ [(i, j + k)])) v F' ∧ pathV w (gh.hd id).1 A.n A.sz A.g (p ++ [(i, j + k)]) v := fun k hk' => by
        obtain ⟨v, F', h1, _, _, h2, _, h3, _⟩ := place_cell p hrow (hmore k (by show j + k < A.szAt p; omega)) hat'
        exact ⟨v, F', h1, h2, h3⟩
      let f : Nat → Value := fun k => (cellAt w ad.block (ad.off + k)).getD undef
      have hf : ∀ k, k < P.cellsOf t → cellAt w ad.block (ad.off + k) = some (f k) ∧ (f k).oneCell' = true ∧ TR c.sh gh st.ar st.bx w (ldc id (p ++ [(i, j + k)]) (atP A.g (p ++ [(i, j + k)]))) (f k) := fun k hk' => by
        obtain ⟨v, F', h1, h2, h3⟩ := hcell k hk'
        have : f k = v := by simp only [f, h1]; rfl
        rw [this]
        refine ⟨h1, RO_oneCell h2 ?_, ldc_TR hA h2 h3⟩
        have := hk.2 k hk'
        intro e0; rw [e0] at this; simp [AV.known] at this
      exact ⟨_, _, e, loadAt_run hsp f (fun k hk' => (hf k hk').1) (fun _ => hpos) hu hi, valOf_TR (fun k hk' => ⟨(hf k hk').2.1, (hf k hk').2.2⟩) (fun _ => hpos)⟩
    · simp at e
  · rename_i sz g
    obtain ⟨hk, e⟩ := K2_some e
    simp only [Bool.and_eq_true] at hk
    obtain ⟨hi, hu, hpos⟩ := tyOk_iff hk.1
    have hle : P.cellsOf t ≤ sz := Nat.le_of_ble_eq_true hk.2
    obtain ⟨ad, rfl, hsp, hcs⟩ := hx
    let f : Nat → Value := fun k => (cellAt w ad.block (ad.off + k)).getD undef
    have hf : ∀ k, k < P.cellsOf t → cellAt w ad.block (ad.off + k) = some (f k) ∧ (f k).oneCell' = true ∧ TR c.sh gh st.ar st.bx w (g k) (f k) := fun k hk' => by
      obtain ⟨hok, v, h1, h2⟩ := hcs k (by omega)
      have h1' : cellAt w ad.block (ad.off + k) = some v := by rw [(h.mem.keep _ _ hok.1 hok.2).1]; exact h1
      have : f k = v := by simp only [f, h1']; rfl
      rw [this]
      refine ⟨h1', RS_oneCell h2, ?_⟩
      cases hg : g k <;> rw [hg] at h2 <;> first | exact h2 | exact h2.elim | trivial
    exact ⟨_, _, e, loadAt_run hsp f (fun k hk' => (hf k hk').1) (fun _ => hpos) hu hi, valOf_TR (fun k hk' => ⟨(hf k hk').2.1, (hf k hk').2.2⟩) (fun _ => hpos)⟩
  · simp at e

end
end Go.Fw
