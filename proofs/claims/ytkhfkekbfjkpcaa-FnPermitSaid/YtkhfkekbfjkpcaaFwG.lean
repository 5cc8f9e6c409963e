/- The by-value interpreter's invariant: whole values taken out of the table, and laid into it. -/
import Derived.Test.YtkhfkekbfjkpcaaFwF
set_option linter.unusedVariables false
set_option linter.unusedSectionVars false
namespace Go.Fw
variable [Tok]

/-- Some values, each one's own, apart from one another. -/
def Par (w : World) (sh : AV → Value → Prop) (n : Nat) (g : Nat → AV) (vs : Nat → Value) (F : Cells) : Prop :=
  ∃ Fs : Nat → Cells, (∀ j b o, j < n → Fs j b o → F b o) ∧ (∀ j k b o, j < n → k < n → j ≠ k → Fs j b o → ¬ Fs k b o) ∧ ∀ j, j < n → RO w sh (g j) (vs j) (Fs j)

theorem Par.mono {w : World} {sh : AV → Value → Prop} {n : Nat} {g : Nat → AV} {vs : Nat → Value} {F G : Cells} (h : Par w sh n g vs F) (hg : ∀ b o, F b o → G b o) : Par w sh n g vs G := by
  obtain ⟨Fs, h1, h2, h3⟩ := h
  exact ⟨Fs, fun j b o hj hb => hg b o (h1 j b o hj hb), h2, h3⟩
theorem Par.congr {w w' : World} {sh : AV → Value → Prop} {n : Nat} {g : Nat → AV} {vs : Nat → Value} {F : Cells} (h : Par w sh n g vs F) (ha : Agree w w' F) : Par w' sh n g vs F := by
  obtain ⟨Fs, h1, h2, h3⟩ := h
  exact ⟨Fs, h1, h2, fun j hj => RO_congr _ (ha.mono fun b o hb => h1 j b o hj hb) (h3 j hj)⟩
theorem Par.ext {w : World} {sh : AV → Value → Prop} {n : Nat} {g g' : Nat → AV} {vs vs' : Nat → Value} {F : Cells} (h : Par w sh n g vs F) (hg : ∀ j, j < n → g' j = g j) (hv : ∀ j, j < n → vs' j = vs j) : Par w sh n g' vs' F := by
  obtain ⟨Fs, h1, h2, h3⟩ := h
  exact ⟨Fs, h1, h2, fun j hj => by rw [hg j hj, hv j hj]; exact h3 j hj⟩

structure TookL (c : Cx) (gh gh' : Gh) (nt : Nat) (st st' : St) (a : Act) (w : World) (FL F : Cells) : Prop where
  inv : Inv c gh' nt st' a w
  free : Free c gh' st'.ar st'.bx w (fun b o => FL b o ∨ F b o)
  apart : ∀ b o, F b o → ¬ FL b o
  holds : Holds c gh gh' st st' w
  ba : gh'.ba = gh.ba
  bx : st'.bx = st.bx
  hd : gh'.hd = gh.hd

theorem lstG_nil (j : Nat) : lstG [] j = .bad := by simp [lstG]
omit [Tok] in
theorem lstG_zero (x : AV) (l : List AV) : lstG (x :: l) 0 = x := by simp [lstG]
omit [Tok] in
theorem lstG_succ (x : AV) (l : List AV) (j : Nat) : lstG (x :: l) (j + 1) = lstG l j := by simp [lstG]

theorem takeL_sound {c : Cx} {nt : Nat} {a : Act} {w : World} {g : Nat → AV} {vs : Nat → Value} : ∀ (js : List Nat) {gh : Gh} {st st' : St} {FL : Cells} {l : List AV},
    Inv c gh nt st a w → Free c gh st.ar st.bx w FL → (∀ j, j ∈ js → TR c.sh gh st.ar st.bx w (g j) (vs j)) → st.takeL g js = some (l, st') →
    l.length = js.length ∧ ∃ gh' F, TookL c gh gh' nt st st' a w FL F ∧ Par w c.sh l.length (lstG l) (fun k => vs (js.getD k 0)) F := by
  intro js
  induction js with
  | nil =>
    intro gh st st' FL l h hFL hv e
    simp only [St.takeL, Option.some.injEq, Prod.mk.injEq] at e
    obtain ⟨rfl, rfl⟩ := e
    exact ⟨rfl, gh, fun _ _ => False, ⟨h, hFL.mono fun x y hx => hx.elim id False.elim, fun _ _ h => h.elim, .refl, rfl, rfl, rfl⟩,
      fun _ _ _ => False, fun _ _ _ hj _ => absurd hj (by simp), fun _ _ _ _ hj => absurd hj (by simp), fun _ hj => absurd hj (by simp)⟩
  | cons j js ih =>
    intro gh st st' FL l h hFL hv e
    simp only [St.takeL] at e
    cases e1 : st.takeC (g j) with
    | none => rw [e1] at e; simp at e
    | some r =>
      obtain ⟨y, st1⟩ := r
      rw [e1] at e
      simp only at e
      cases e2 : St.takeL st1 g js with
      | none => rw [e2] at e; simp at e
      | some r2 =>
        obtain ⟨ys, st2⟩ := r2
        rw [e2] at e
        simp only [Option.some.injEq, Prod.mk.injEq] at e
        obtain ⟨rfl, rfl⟩ := e
        obtain ⟨gh1, F1, t1⟩ := takeC_sound h hFL (hv j (by simp)) e1
        obtain ⟨hlen, gh2, F2, t2, Fs, hs1, hs2, hs3⟩ := ih t1.inv t1.free (fun k hk => t1.holds _ _ (hv k (by simp [hk]))) e2
        refine ⟨by simp [hlen], gh2, fun b o => F1 b o ∨ F2 b o, ⟨t2.inv, t2.free.mono fun x y hx => ?_, fun b o hb => ?_, t1.holds.trans t2.holds, t2.ba.trans t1.ba, t2.bx.trans t1.bx, t2.hd.trans t1.hd⟩, ?_⟩
        · rcases hx with hx | hx | hx
          · exact .inl (.inl hx)
          · exact .inl (.inr hx)
          · exact .inr hx
        · rcases hb with hb | hb
          · exact t1.apart b o hb
          · exact fun hfl => t2.apart b o hb (.inl hfl)
        · refine ⟨fun k => match k with | 0 => F1 | k + 1 => Fs k, fun k b o hk hb => ?_, fun k m b o hk hm hn hb hb' => ?_, fun k hk => ?_⟩
          · cases k with
            | zero => exact .inl hb
            | succ k => exact .inr (hs1 k b o (by simpa using hk) hb)
          · cases k with
            | zero =>
              cases m with
              | zero => exact hn rfl
              | succ m => exact t2.apart b o (hs1 m b o (by simpa using hm) hb') (.inr hb)
            | succ k =>
              cases m with
              | zero => exact t2.apart b o (hs1 k b o (by simpa using hk) hb) (.inr hb')
              | succ m => exact hs2 k m b o (by simpa using hk) (by simpa using hm) (by omega) hb hb'
          · cases k with
            | zero => simp only [lstG_zero]; simpa using t1.own
            | succ k => simp only [lstG_succ]; simpa using hs3 k (by simpa using hk)

/-- Of the cells from the first on. -/
theorem takeR_range {c : Cx} {nt : Nat} {a : Act} {w : World} {g : Nat → AV} {vs : Nat → Value} (n : Nat) {gh : Gh} {st st' : St} {FL : Cells} {l : List AV}
    (h : Inv c gh nt st a w) (hFL : Free c gh st.ar st.bx w FL) (hv : ∀ j, j < n → TR c.sh gh st.ar st.bx w (g j) (vs j)) (e : st.takeL g (List.range n) = some (l, st')) :
    l.length = n ∧ ∃ gh' F, TookL c gh gh' nt st st' a w FL F ∧ Par w c.sh n (lstG l) vs F := by
  obtain ⟨hl, gh', F, t, hp⟩ := takeL_sound (List.range n) h hFL (fun j hj => hv j (by simpa using hj)) e
  have hl' : l.length = n := by simpa using hl
  refine ⟨hl', gh', F, t, ?_⟩
  rw [hl'] at hp
  exact hp.ext (fun _ _ => rfl) (fun j hj => by simp [List.getD_eq_getElem?_getD, hj])

/-! ### Whole values -/
/-- A value of one's own: a cell, an aggregate, a new box. -/
def RV (w : World) (sh : AV → Value → Prop) (x : AV) (v : Value) (F : Cells) : Prop :=
  match x with
  | .ag sz g => ∃ vs, v = .agg vs ∧ vs.size = sz ∧ (∀ j, j < sz → (vs.getD j undef).oneCell' = true) ∧ Par w sh sz g (fun j => vs.getD j undef) F
  | .nbx sz g => ∃ ad : Addr, v = .pointer (some ad) ∧ ad.spot = none ∧ (∀ b o, In ad sz b o → F b o) ∧
      ∃ vs : Nat → Value, (∀ j, j < sz → cellAt w ad.block (ad.off + j) = some (vs j) ∧ frozAt w ad.block (ad.off + j) = false ∧ (vs j).oneCell' = true) ∧ Par w sh sz g vs (fun b o => F b o ∧ ¬ In ad sz b o)
  | x => RO w sh x v F
/-- What a call gives. -/
def RR (w : World) (sh : AV → Value → Prop) (x : AV) (v : Value) (F : Cells) : Prop :=
  match x with
  | .tup n g => ∃ vs, v = .tuple vs ∧ vs.size = n ∧ ∃ Fs : Nat → Cells, (∀ j b o, j < n → Fs j b o → F b o) ∧ (∀ j k b o, j < n → k < n → j ≠ k → Fs j b o → ¬ Fs k b o) ∧
      ∀ j, j < n → RV w sh (g j) (vs.getD j undef) (Fs j)
  | x => RV w sh x v F

theorem RV.of_RO {w : World} {sh : AV → Value → Prop} {x : AV} {v : Value} {F : Cells} (h : RO w sh x v F) (h1 : ∀ sz g, x ≠ .ag sz g) (h2 : ∀ sz g, x ≠ .nbx sz g) : RV w sh x v F := by
  cases x <;> first | exact h | exact absurd rfl (h1 _ _) | exact absurd rfl (h2 _ _)

structure TookV (c : Cx) (gh gh' : Gh) (nt : Nat) (st st' : St) (a : Act) (w : World) (FL F : Cells) : Prop where
  inv : Inv c gh' nt st' a w
  free : Free c gh' st'.ar st'.bx w (fun b o => FL b o ∨ F b o)
  apart : ∀ b o, F b o → ¬ FL b o
  holds : Holds c gh gh' st st' w
  ba : gh'.ba = gh.ba
  hd : gh'.hd = gh.hd
theorem TookL.v {c : Cx} {gh gh' : Gh} {nt : Nat} {st st' : St} {a : Act} {w : World} {FL F : Cells} (h : TookL c gh gh' nt st st' a w FL F) : TookV c gh gh' nt st st' a w FL F := ⟨h.inv, h.free, h.apart, h.holds, h.ba, h.hd⟩

theorem Inv.setB_none {c : Cx} {gh : Gh} {nt : Nat} {st : St} {a : Act} {w : World} (b : Nat) (h : Inv c gh nt st a w) : Inv c gh nt (st.setB b none) a w :=
  h.drop (fun _ _ e => e) (fun k A e => by
    by_cases ek : k = b
    · subst ek; rw [upd_self] at e; simp at e
    · rw [upd_ne _ _ ek] at e; exact ⟨A.2, e, fun _ _ => rfl⟩)
theorem holds_noneB {c : Cx} {gh : Gh} {st : St} {w : World} (b : Nat) : Holds c gh gh st (st.setB b none) w := fun x v t =>
  TR_weaken (fun _ _ e => e) (fun k B e => by
    by_cases ek : k = b
    · subst ek; have e' : upd st.bx k none k = some B := e; rw [upd_self] at e'; simp at e'
    · have e' : upd st.bx b none k = some B := e; rw [upd_ne _ _ ek] at e'; exact ⟨B, e'⟩) x t
theorem live_noneB {st : St} {gh : Gh} {b : Nat} {r : Nat ⊕ Nat} {x y : Nat} (h : live (st.setB b none).ar (st.setB b none).bx r) (hf : fp gh (st.setB b none).bx r x y) : live st.ar st.bx r ∧ r ≠ .inr b ∧ fp gh st.bx r x y := by
  rcases r with k | k
  · exact ⟨h, by simp, hf⟩
  · obtain ⟨B, e, hin⟩ := hf
    have e' : upd st.bx b none k = some B := e
    by_cases ek : k = b
    · subst ek; rw [upd_self] at e'; simp at e'
    · rw [upd_ne _ _ ek] at e'
      exact ⟨by simp [live, e'], fun e2 => ek (by simpa using e2), B, e', hin⟩

theorem takeA_sound {c : Cx} {gh : Gh} {nt : Nat} {st st' : St} {a : Act} {w : World} {FL : Cells} {x y : AV} {v : Value} (h : Inv c gh nt st a w) (hFL : Free c gh st.ar st.bx w FL)
    (hx : TR c.sh gh st.ar st.bx w x v) (e : st.takeA x = some (y, st')) : ∃ gh' F, TookV c gh gh' nt st st' a w FL F ∧ RV w c.sh y v F := by
  have base : ∀ {x y : AV} {st' : St}, TR c.sh gh st.ar st.bx w x v → st.takeC x = some (y, st') → (∀ sz g, y ≠ .ag sz g) → (∀ sz g, y ≠ .nbx sz g) → ∃ gh' F, TookV c gh gh' nt st st' a w FL F ∧ RV w c.sh y v F := by
    intro x y st' hx e h1 h2
    obtain ⟨gh', F, t⟩ := takeC_sound h hFL hx e
    exact ⟨gh', F, ⟨t.inv, t.free, t.apart, t.holds, t.ba, t.hd⟩, .of_RO t.own h1 h2⟩
  have hcell : ∀ {x y : AV} {st' : St}, st.takeC x = some (y, st') → (∀ sz g, y ≠ .ag sz g) ∧ (∀ sz g, y ≠ .nbx sz g) := by
    intro x y st' e
    cases x <;> simp only [St.takeC] at e
    case rf id => simp only [Option.map_eq_some_iff, Prod.mk.injEq] at e; obtain ⟨A, _, rfl, _⟩ := e; simp
    case rs id a m => simp only [Option.map_eq_some_iff, Prod.mk.injEq] at e; obtain ⟨A, _, rfl, _⟩ := e; simp
    case rn id p =>
      split at e
      · split at e
        · simp only [Option.some.injEq, Prod.mk.injEq] at e; obtain ⟨rfl, _⟩ := e; simp
        · simp at e
      · simp at e
    case nsl sz g => cases hs : Nat.blt 0 sz <;> rw [hs] at e <;> simp at e; obtain ⟨rfl, _⟩ := e; simp
    all_goals first | (simp at e; done) | (simp only [Option.some.injEq, Prod.mk.injEq] at e; obtain ⟨rfl, _⟩ := e; simp)
  cases x with
  | ag sz g =>
    simp only [St.takeA, Option.map_eq_some_iff, Prod.mk.injEq] at e
    obtain ⟨⟨l, st1⟩, e1, rfl, rfl⟩ := e
    obtain ⟨vs, rfl, hs, hv⟩ := hx
    obtain ⟨hl, gh', F, t, hp⟩ := takeR_range (vs := fun j => vs.getD j undef) sz h hFL (fun j hj => (hv j hj).2) e1
    exact ⟨gh', F, t.v, vs, rfl, hs, fun j hj => (hv j hj).1, hp⟩
  | pb b o =>
    cases o with
    | zero =>
      simp only [St.takeA] at e
      cases hB : st.bx b with
      | none => rw [hB] at e; simp at e
      | some B =>
        obtain ⟨sz, g⟩ := B
        rw [hB] at e
        simp only [Option.map_eq_some_iff, Prod.mk.injEq] at e
        obtain ⟨⟨l, st1⟩, e1, rfl, rfl⟩ := e
        obtain ⟨hsp, hbx⟩ := h.mem.boxes b sz g hB
        have hv : v = .pointer (some ⟨(gh.ba b).block, (gh.ba b).off, none⟩) := hx (sz, g) hB
        let vs : Nat → Value := fun o => (cellAt w (gh.ba b).block ((gh.ba b).off + o)).getD undef
        have hvs : ∀ o, o < sz → cellAt w (gh.ba b).block ((gh.ba b).off + o) = some (vs o) ∧ frozAt w (gh.ba b).block ((gh.ba b).off + o) = false ∧ (vs o).oneCell' = true ∧ TR c.sh gh st.ar st.bx w (g o) (vs o) := fun o ho => by
          obtain ⟨v, h1, h2, h4, h3⟩ := hbx o ho
          have : vs o = v := by simp only [vs, h1]; rfl
          rw [this]; exact ⟨h1, h2, h4, h3⟩
        obtain ⟨hl, gh', F, t, hp⟩ := takeR_range sz h hFL (fun j hj => (hvs j hj).2.2.2) e1
        have hB1 : st1.bx b = some (sz, g) := by rw [t.bx]; exact hB
        have hlv : live st1.ar st1.bx (.inr b) := by simp [live, hB1]
        have hin : ∀ x y, In (gh.ba b) sz x y → fp gh' st1.bx (.inr b) x y := fun x y hxy => ⟨(sz, g), hB1, by rw [t.ba]; exact hxy⟩
        have hdis : ∀ x y, F x y → ¬ In (gh.ba b) sz x y := fun x y hF hi => (t.free x y (.inr hF)).1 _ hlv (hin x y hi)
        refine ⟨gh', fun x y => F x y ∨ In (gh.ba b) sz x y, ⟨t.inv.setB_none b, fun x y hx => ?_, fun x y hx hfl => ?_, t.holds.trans (holds_noneB b), t.ba, t.hd⟩, ?_⟩
        · rcases hx with hx | hx | hx
          · exact ⟨fun r hr hf => (t.free x y (.inl hx)).1 r (live_noneB hr hf).1 (live_noneB hr hf).2.2, (t.free x y (.inl hx)).2⟩
          · exact ⟨fun r hr hf => (t.free x y (.inr hx)).1 r (live_noneB hr hf).1 (live_noneB hr hf).2.2, (t.free x y (.inr hx)).2⟩
          · exact ⟨fun r hr hf => t.inv.mem.disj _ _ x y (live_noneB hr hf).2.1 (live_noneB hr hf).1 hlv (live_noneB hr hf).2.2 (hin x y hx), t.inv.mem.mine _ x y hlv (hin x y hx)⟩
        · rcases hx with hx | hx
          · exact t.apart x y hx hfl
          · exact (t.free x y (.inl hfl)).1 _ hlv (hin x y hx)
        · refine ⟨⟨(gh.ba b).block, (gh.ba b).off, none⟩, hv, rfl, fun x y hx => .inr hx, vs, fun j hj => ⟨(hvs j hj).1, (hvs j hj).2.1, (hvs j hj).2.2.1⟩, hp.mono fun x y hx => ⟨.inl hx, hdis x y hx⟩⟩
    | succ o => simp [St.takeA, St.takeC] at e
  | _ => simp only [St.takeA] at e; exact base hx e (hcell e).1 (hcell e).2

theorem takeT_sound {c : Cx} {nt : Nat} {a : Act} {w : World} {g : Nat → AV} {vs : Nat → Value} : ∀ (js : List Nat) {gh : Gh} {st st' : St} {FL : Cells} {l : List AV},
    Inv c gh nt st a w → Free c gh st.ar st.bx w FL → (∀ j, j ∈ js → TR c.sh gh st.ar st.bx w (g j) (vs j)) → st.takeT g js = some (l, st') →
    l.length = js.length ∧ ∃ gh' F, TookV c gh gh' nt st st' a w FL F ∧
      ∃ Fs : Nat → Cells, (∀ j b o, j < l.length → Fs j b o → F b o) ∧ (∀ j k b o, j < l.length → k < l.length → j ≠ k → Fs j b o → ¬ Fs k b o) ∧ ∀ j, j < l.length → RV w c.sh (lstG l j) (vs (js.getD j 0)) (Fs j) := by
  intro js
  induction js with
  | nil =>
    intro gh st st' FL l h hFL hv e
    simp only [St.takeT, Option.some.injEq, Prod.mk.injEq] at e
    obtain ⟨rfl, rfl⟩ := e
    exact ⟨rfl, gh, fun _ _ => False, ⟨h, hFL.mono fun x y hx => hx.elim id False.elim, fun _ _ h => h.elim, .refl, rfl, rfl⟩,
      fun _ _ _ => False, fun _ _ _ hj _ => absurd hj (by simp), fun _ _ _ _ hj => absurd hj (by simp), fun _ hj => absurd hj (by simp)⟩
  | cons j js ih =>
    intro gh st st' FL l h hFL hv e
    simp only [St.takeT] at e
    cases e1 : st.takeA (g j) with
    | none => rw [e1] at e; simp at e
    | some r =>
      obtain ⟨y, st1⟩ := r
      rw [e1] at e
      simp only at e
      cases e2 : St.takeT st1 g js with
      | none => rw [e2] at e; simp at e
      | some r2 =>
        obtain ⟨ys, st2⟩ := r2
        rw [e2] at e
        simp only [Option.some.injEq, Prod.mk.injEq] at e
        obtain ⟨rfl, rfl⟩ := e
        obtain ⟨gh1, F1, t1, hy⟩ := takeA_sound h hFL (hv j (by simp)) e1
        obtain ⟨hlen, gh2, F2, t2, Fs, hs1, hs2, hs3⟩ := ih t1.inv t1.free (fun k hk => t1.holds _ _ (hv k (by simp [hk]))) e2
        refine ⟨by simp [hlen], gh2, fun b o => F1 b o ∨ F2 b o, ⟨t2.inv, t2.free.mono fun x y hx => ?_, fun b o hb => ?_, t1.holds.trans t2.holds, t2.ba.trans t1.ba, t2.hd.trans t1.hd⟩, ?_⟩
        · rcases hx with hx | hx | hx
          · exact .inl (.inl hx)
          · exact .inl (.inr hx)
          · exact .inr hx
        · rcases hb with hb | hb
          · exact t1.apart b o hb
          · exact fun hfl => t2.apart b o hb (.inl hfl)
        · refine ⟨fun k => match k with | 0 => F1 | k + 1 => Fs k, fun k b o hk hb => ?_, fun k m b o hk hm hn hb hb' => ?_, fun k hk => ?_⟩
          · cases k with
            | zero => exact .inl hb
            | succ k => exact .inr (hs1 k b o (by simpa using hk) hb)
          · cases k with
            | zero =>
              cases m with
              | zero => exact hn rfl
              | succ m => exact t2.apart b o (hs1 m b o (by simpa using hm) hb') (.inr hb)
            | succ k =>
              cases m with
              | zero => exact t2.apart b o (hs1 k b o (by simpa using hk) hb) (.inr hb')
              | succ m => exact hs2 k m b o (by simpa using hk) (by simpa using hm) (by omega) hb hb'
          · cases k with
            | zero => simp only [lstG_zero]; simpa using hy
            | succ k => simp only [lstG_succ]; simpa using hs3 k (by simpa using hk)

theorem takeR_sound {c : Cx} {gh : Gh} {nt : Nat} {st st' : St} {a : Act} {w : World} {FL : Cells} {x y : AV} {v : Value} (h : Inv c gh nt st a w) (hFL : Free c gh st.ar st.bx w FL)
    (hx : TR c.sh gh st.ar st.bx w x v) (e : st.takeR x = some (y, st')) : ∃ gh' F, TookV c gh gh' nt st st' a w FL F ∧ RR w c.sh y v F := by
  have base : ∀ {x y : AV} {st' : St}, TR c.sh gh st.ar st.bx w x v → st.takeA x = some (y, st') → (∀ n g, x ≠ .tup n g) → ∃ gh' F, TookV c gh gh' nt st st' a w FL F ∧ RR w c.sh y v F := by
    intro x y st' hx e hne
    obtain ⟨gh', F, t, hy⟩ := takeA_sound h hFL hx e
    refine ⟨gh', F, t, ?_⟩
    cases y with
    | tup n g => exact hy.elim
    | _ => exact hy
  cases x with
  | tup n g =>
    simp only [St.takeR, Option.map_eq_some_iff, Prod.mk.injEq] at e
    obtain ⟨⟨l, st1⟩, e1, rfl, rfl⟩ := e
    obtain ⟨vs, rfl, hs, hv⟩ := hx
    obtain ⟨hl, gh', F, t, Fs, h1, h2, h3⟩ := takeT_sound (vs := fun j => vs.getD j undef) (List.range n) h hFL (fun j hj => hv j (by simpa using hj)) e1
    have hl' : l.length = n := by simpa using hl
    rw [hl'] at h1 h2 h3
    refine ⟨gh', F, t, vs, rfl, hs, Fs, h1, h2, fun j hj => ?_⟩
    have := h3 j hj
    simpa [List.getD_eq_getElem?_getD, hj] using this
  | _ => simp only [St.takeR] at e; exact base hx e (by simp)

/-! ### Laying -/
theorem refd_TR {c : Cx} {gh : Gh} {ar : ArT} {bx : BxT} {w : World} {base : Nat} {y : AV} {v : Value} {F : Cells} (h : RO w c.sh y v F) (hn : y.notOwn = true) : TR c.sh gh ar bx w (y.refd base) v := by
  cases y with
  | own n sz g => simp [AV.notOwn] at hn
  | bad => trivial
  | rf _ => exact h.elim
  | rs _ _ _ => exact h.elim
  | rn _ _ => exact h.elim
  | pb _ _ => exact h.elim
  | pe _ _ _ _ => exact h.elim
  | ag _ _ => exact h.elim
  | nbx _ _ => exact h.elim
  | tup _ _ => exact h.elim
  | clo _ _ _ => exact h.elim
  | _ => exact h

structure Laid (c : Cx) (gh gh' : Gh) (nt : Nat) (st st' : St) (a : Act) (w : World) (FL : Cells) (ids : Nat → Prop) : Prop where
  inv : Inv c gh' nt st' a w
  free : Free c gh' st'.ar st'.bx w FL
  holds : ∀ (x : AV) (v : Value), (∀ id, ids id → x.noA id) → TR c.sh gh st.ar st.bx w x v → TR c.sh gh' st'.ar st'.bx w x v
  ba : gh'.ba = gh.ba
  bxs : ∀ b, (st'.bx b).map (·.1) = (st.bx b).map (·.1)

theorem layC_sound {c : Cx} {gh : Gh} {nt : Nat} {st : St} {a : Act} {w : World} {FL F : Cells} {y : AV} {v : Value} {base : Nat} (hlo : c.lim * 4096 ≤ base) (h : Inv c gh nt st a w)
    (hy : RO w c.sh y v F) (hF : Free c gh st.ar st.bx w (fun b o => FL b o ∨ F b o)) (hap : ∀ b o, F b o → ¬ FL b o) :
    ∃ gh', Laid c gh gh' nt st (st.layC base y) a w FL (· = base) ∧ TR c.sh gh' (st.layC base y).ar (st.layC base y).bx w (y.refd base) v := by
  cases hn : y.notOwn with
  | true =>
    have : st.layC base y = st := by cases y <;> first | rfl | (simp [AV.notOwn] at hn)
    rw [this]
    exact ⟨gh, ⟨h, hF.mono fun x y hx => .inl hx, fun x v _ ht => ht, rfl, fun _ => rfl⟩, refd_TR hy hn⟩
  | false =>
    cases y with
    | own n sz g =>
      obtain ⟨A, cap, rfl, hrest⟩ := hy
      have hro : RO w c.sh (.own n sz g) (.slice A n cap) F := ⟨A, cap, rfl, hrest⟩
      have hinv := h.newA base ⟨n, sz, g⟩ (A, cap) F hro (fun r x y hr hl hf hFx => (hF x y (.inr hFx)).1 r hl hf) (fun x y hx => (hF x y (.inr hx)).2) hlo
      refine ⟨_, ⟨hinv, fun x y hx => ⟨fun r hl hf => ?_, (hF x y (.inl hx)).2⟩, fun x v hk ht => ?_, rfl, fun b => ?_⟩, ?_⟩
      · by_cases er : r = .inl base
        · subst er
          have hf' : upd gh.fa base F base x y := hf
          rw [upd_self] at hf'
          exact hap x y hf' hx
        · have h1 : live st.ar st.bx r := by
            rcases r with k | b
            · have ek : k ≠ base := fun e => er (by rw [e])
              have hl' : (upd st.ar base (some ⟨n, sz, g⟩) k).isSome := hl
              rw [upd_ne _ _ ek] at hl'; exact hl'
            · exact (live_map (ar := st.ar) _ (.inr b)).1 hl
          have h2 : fp gh st.bx r x y := by
            rcases r with k | b
            · have ek : k ≠ base := fun e => er (by rw [e])
              have hf' : upd gh.fa base F k x y := hf
              rw [upd_ne _ _ ek] at hf'; exact hf'
            · have := fp_map (gh := gh) (bx := st.bx) (AV.killA base) (.inr b)
              rw [← this]; exact hf
          exact (hF x y (.inl hx)).1 r h1 h2
      · have := TR_newA (id := base) (A, cap) F (some ⟨n, sz, g⟩) x (TR_weaken (bx' := (st.map (AV.killA base)).bx) (fun _ _ e => e) (fun b B e => map_ex e) x ht)
        exact TR_unkillA x (hk base rfl) this
      · show ((st.bx b).map _).map _ = _
        cases st.bx b <;> rfl
      · intro A' e
        have e' : upd st.ar base (some ⟨n, sz, g⟩) base = some A' := e
        rw [upd_self] at e'
        obtain rfl := Option.some.inj e'
        show _ = Value.slice (upd gh.hd base (A, cap) base).1 n (upd gh.hd base (A, cap) base).2
        rw [upd_self]
    | _ => simp [AV.notOwn] at hn

theorem refd_noA {y : AV} {base id : Nat} (h : base ≠ id) {w : World} {c : Cx} {v : Value} {F : Cells} (hy : RO w c.sh y v F) : (y.refd base).noA id := by
  cases y <;> first | trivial | (exact hy.elim) | exact h

theorem layL_sound {c : Cx} {nt : Nat} {a : Act} {w : World} {g : Nat → AV} {vs : Nat → Value} {base : Nat} (hlo : c.lim * 4096 ≤ base) : ∀ (js : List Nat) {gh : Gh} {st : St} {FL : Cells} {Fs : Nat → Cells},
    js.Nodup → Inv c gh nt st a w → (∀ j, j ∈ js → RO w c.sh (g j) (vs j) (Fs j)) → Free c gh st.ar st.bx w (fun b o => FL b o ∨ ∃ j, j ∈ js ∧ Fs j b o) →
    (∀ j b o, j ∈ js → Fs j b o → ¬ FL b o) → (∀ j k b o, j ∈ js → k ∈ js → j ≠ k → Fs j b o → ¬ Fs k b o) →
    ∃ gh', Laid c gh gh' nt st (st.layL base g js) a w FL (fun id => ∃ j, j ∈ js ∧ id = base + j) ∧ ∀ j, j ∈ js → TR c.sh gh' (st.layL base g js).ar (st.layL base g js).bx w ((g j).refd (base + j)) (vs j) := by
  intro js
  induction js with
  | nil => intro gh st FL Fs _ h _ hF _ _; exact ⟨gh, ⟨h, hF.mono fun _ _ h => .inl h, fun x v _ ht => ht, rfl, fun _ => rfl⟩, fun j hj => absurd hj (by simp)⟩
  | cons j js ih =>
    intro gh st FL Fs hnd h hro hF hap hdj
    obtain ⟨hj, hnd⟩ := List.nodup_cons.1 hnd
    obtain ⟨gh1, l1, t1⟩ := layC_sound (base := base + j) (FL := fun b o => FL b o ∨ ∃ k, k ∈ js ∧ Fs k b o) (by omega) h (hro j (by simp))
      (hF.mono fun x y hx => by
        rcases hx with (hx | ⟨k, hk, hx⟩) | hx
        · exact .inl hx
        · exact .inr ⟨k, by simp [hk], hx⟩
        · exact .inr ⟨j, by simp, hx⟩)
      (fun b o hb hfl => by
        rcases hfl with hfl | ⟨k, hk, hfl⟩
        · exact hap j b o (by simp) hb hfl
        · exact hdj j k b o (by simp) (by simp [hk]) (fun e => hj (e ▸ hk)) hb hfl)
    obtain ⟨gh2, l2, t2⟩ := ih hnd l1.inv (fun k hk => hro k (by simp [hk])) l1.free (fun k b o hk => hap k b o (by simp [hk])) (fun k m b o hk hm => hdj k m b o (by simp [hk]) (by simp [hm]))
    refine ⟨gh2, ⟨l2.inv, l2.free, fun x v hk ht => l2.holds x v (fun id ⟨k, hk', e⟩ => hk id ⟨k, by simp [hk'], e⟩) (l1.holds x v (fun id e => hk id ⟨j, by simp, e⟩) ht), l2.ba.trans l1.ba, fun b => (l2.bxs b).trans (l1.bxs b)⟩, fun k hk => ?_⟩
    rcases List.mem_cons.1 hk with rfl | hk
    · exact l2.holds _ _ (fun id ⟨m, hm, e⟩ => refd_noA (fun e' => hj (by rw [show k = m by omega]; exact hm)) (hro k (by simp))) t1
    · exact t2 k hk

end Go.Fw
