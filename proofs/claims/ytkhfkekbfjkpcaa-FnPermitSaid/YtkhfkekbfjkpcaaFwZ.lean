/- The by-value interpreter: what comes back from a call: all of it. -/
import Derived.Test.YtkhfkekbfjkpcaaFwY
set_option linter.unusedVariables false
set_option linter.unusedSectionVars false
set_option linter.unusedSimpArgs false
namespace Go.Fw
variable [Tok]

section
variable {c : Cx} {gh gh0 : Gh} {nt : Nat} {st st0 : St} {a : Act} {w w0 : World} {P : Program}

/-- Cells of the parts that are still to come. -/
def Rest (n : Nat) (Fe : Nat → Cells) : Cells := fun b o => ∃ k, k < n ∧ Fe k b o

theorem backA_sound {wb : World} (hI0 : Fix c gh0 st0.ar st0.bx) : ∀ (xs : List AV) (ks : List Back) {gh : Gh} {st : St} {hv : Nat → Value} {Fe : Nat → Cells} {FL : Cells}, ks.length = xs.length → (ks.any Back.isInn) = false →
    (∀ i x bk, xs[i]? = some x → ks[i]? = some bk → RV w c.sh x (hv i) (Fe i) ∧ BackOk wb gh0 st0 (hv i) x bk) →
    (∀ i m b o, i < xs.length → m < xs.length → i ≠ m → Fe i b o → ¬ Fe m b o) → (∀ i b o, i < xs.length → Fe i b o → ¬ FL b o) →
    Inv c gh nt st a w → ToldS c gh0 st0 w0 true gh st a w → Free c gh st.ar st.bx w (fun b o => FL b o ∨ Rest xs.length Fe b o) →
    ∃ gh', Inv c gh' nt (backA st xs ks) a w ∧ ToldS c gh0 st0 w0 true gh' (backA st xs ks) a w ∧
      Free c gh' (backA st xs ks).ar (backA st xs ks).bx w (fun b o => FL b o ∨ ∃ i bb sz, ks[i]? = some (.box bb sz) ∧ Fe i b o) := by
  intro xs
  induction xs with
  | nil =>
    intro ks gh st hv Fe FL hl _ _ _ _ h ht hF
    have : ks = [] := by simpa using hl
    subst this
    exact ⟨gh, h, ht, hF.mono fun x y hx => by rcases hx with hx | ⟨i, _, _, hi, _⟩; exact .inl hx; simp at hi⟩
  | cons x xs ih =>
    intro ks gh st hv Fe FL hl hni hrel hdis hap h ht hF
    cases ks with
    | nil => simp at hl
    | cons bk ks =>
      have hl' : ks.length = xs.length := by simpa using hl
      obtain ⟨hrv, hbk⟩ := hrel 0 x bk (by simp) (by simp)
      have hrel' : ∀ i x bk, xs[i]? = some x → ks[i]? = some bk → RV w c.sh x (hv (i + 1)) (Fe (i + 1)) ∧ BackOk wb gh0 st0 (hv (i + 1)) x bk := fun i x bk h1 h2 => hrel (i + 1) x bk (by simpa using h1) (by simpa using h2)
      have hdis' : ∀ i m b o, i < xs.length → m < xs.length → i ≠ m → Fe (i + 1) b o → ¬ Fe (m + 1) b o := fun i m b o hi hm hn => hdis (i + 1) (m + 1) b o (by simp; omega) (by simp; omega) (by omega)
      have hni' : ks.any Back.isInn = false := by simp only [List.any_cons, Bool.or_eq_false_iff] at hni; exact hni.2
      cases bk with
      | inn id p n sz => simp [Back.isInn] at hni
      | arr id n sz =>
        obtain ⟨⟨A, hA, hn, hs⟩, hv0, g, rfl⟩ := hbk
        rw [hv0] at hrv
        obtain ⟨gh1, _, h1, f1, t1⟩ := h.backA (FL := fun b o => FL b o ∨ Rest xs.length (fun k => Fe (k + 1)) b o) hI0 ht hA hn hs hrv (hF.mono fun b o hb => by
            rcases hb with (hb | ⟨k, hk, hb⟩) | hb
            · exact .inl hb
            · exact .inr ⟨k + 1, by simp; omega, hb⟩
            · exact .inr ⟨0, by simp, hb⟩) (fun b o hb hfl => by
            rcases hfl with hfl | ⟨k, hk, hfl⟩
            · exact hap 0 b o (by simp) hb hfl
            · exact hdis 0 (k + 1) b o (by simp) (by simp; omega) (by omega) hb hfl)
        obtain ⟨gh2, h2, t2, f2⟩ := ih ks (hv := fun i => hv (i + 1)) (Fe := fun i => Fe (i + 1)) (FL := FL) hl' hni' hrel' hdis' (fun i b o hi => hap (i + 1) b o (by simp; omega)) h1 t1 f1
        refine ⟨gh2, h2, t2, f2.mono fun b o hb => hb.imp (fun h => h) fun ⟨i, bb, sz', h1, h2⟩ => ?_⟩
        cases i with
        | zero => simp at h1
        | succ i => exact ⟨i, bb, sz', by simpa using h1, h2⟩
      | box bb sz =>
        obtain ⟨gh2, h2, t2, f2⟩ := ih ks (hv := fun i => hv (i + 1)) (Fe := fun i => Fe (i + 1)) (FL := fun b o => FL b o ∨ Fe 0 b o) hl' hni' hrel' hdis' (fun i b o hi hb hfl => by
            rcases hfl with hfl | hfl
            · exact hap (i + 1) b o (by simp; omega) hb hfl
            · exact hdis (i + 1) 0 b o (by simp; omega) (by simp) (by omega) hb hfl) h ht (hF.mono fun b o hb => by
            rcases hb with (hb | hb) | ⟨k, hk, hb⟩
            · exact .inl hb
            · exact .inr ⟨0, by simp, hb⟩
            · exact .inr ⟨k + 1, by simp; omega, hb⟩)
        refine ⟨gh2, h2, t2, f2.mono fun b o hb => ?_⟩
        rcases hb with hb | ⟨i, bb', sz', h1, h2⟩
        · exact .inl (.inl hb)
        · cases i with
          | zero => exact .inl (.inr h2)
          | succ i => exact .inr ⟨i, bb', sz', by simpa using h1, h2⟩

/-! ### Boxes -/
theorem layL_keepsT {base : Nat} {g : Nat → AV} (Q : AV → Prop) (hQ : ∀ x id, Q x → Q (x.killA id)) {t : Nat} : ∀ (js : List Nat) {st : St}, Q (st.t t) → Q ((st.layL base g js).t t) := by
  intro js
  induction js with
  | nil => intro st h; exact h
  | cons j js ih =>
    intro st h
    refine ih ?_
    unfold St.layC
    split
    · exact hQ _ _ h
    · exact h
theorem layL_keepsB {base : Nat} {g : Nat → AV} (Q : AV → Prop) (hQ : ∀ x id, Q x → Q (x.killA id)) {b : Nat} {B : Nat × (Nat → AV)} : ∀ (js : List Nat) {st : St}, (st.layL base g js).bx b = some B → ∃ B0, st.bx b = some B0 ∧ B.1 = B0.1 ∧ ∀ o, Q (B0.2 o) → Q (B.2 o) := by
  intro js
  induction js with
  | nil => intro st h; exact ⟨B, h, rfl, fun _ h => h⟩
  | cons j js ih =>
    intro st h
    obtain ⟨B1, e1, h1, q1⟩ := ih h
    unfold St.layC at e1
    split at e1
    · obtain ⟨g', e', hg⟩ := map_some (bx := st.bx) (sz := B1.1) (g := B1.2) e1
      exact ⟨_, e', h1, fun o hq => q1 o (by rw [hg]; exact hQ _ _ hq)⟩
    · exact ⟨B1, e1, h1, q1⟩

theorem noB_killA {b id : Nat} (x : AV) : x.noB b → (x.killA id).noB b := by
  induction x with
  | rf k => intro _; simp only [AV.killA]; cases Nat.beq k id <;> trivial
  | rs k _ _ => intro _; simp only [AV.killA]; cases Nat.beq k id <;> trivial
  | rn k _ => intro _; simp only [AV.killA]; cases Nat.beq k id <;> trivial
  | pe k _ _ _ => intro _; simp only [AV.killA]; cases Nat.beq k id <;> trivial
  | ag sz g ih => intro h j hj; exact ih j (h j hj)
  | tup sz g ih => intro h j hj; exact ih j (h j hj)
  | clo f sz g ih => intro h j hj; exact ih j (h j hj)
  | _ => intro h; exact h

/-- A box comes back. -/
theorem Inv.backB {b sz base : Nat} {g : Nat → AV} {v : Value} {F FL : Cells} {g0 : Nat → AV} (hlo : c.lim * 4096 ≤ base) (h : Inv c gh nt st a w) (hI0 : Fix c gh0 st0.ar st0.bx) (ht : ToldS c gh0 st0 w0 false gh st a w) (e0 : st0.bx b = some (sz, g0))
    (hv : v = .pointer (some ⟨(gh0.ba b).block, (gh0.ba b).off + 0, none⟩)) (hsp0 : (gh0.ba b).spot = none)
    (hr : RV w c.sh (.nbx sz g) v F) (hF : Free c gh st.ar st.bx w (fun b o => FL b o ∨ F b o)) (hap : ∀ b o, F b o → ¬ FL b o) :
    ∃ gh', Inv c gh' nt ((st.layL base g (List.range sz)).setB b (some (sz, fun j => (g j).refd (base + j)))) a w ∧
      Free c gh' ((st.layL base g (List.range sz)).setB b (some (sz, fun j => (g j).refd (base + j)))).ar ((st.layL base g (List.range sz)).setB b (some (sz, fun j => (g j).refd (base + j)))).bx w FL ∧
      ToldS c gh0 st0 w0 false gh' ((st.layL base g (List.range sz)).setB b (some (sz, fun j => (g j).refd (base + j)))) a w := by
  subst hv
  obtain ⟨ad, e, hsp, hin, vs, hc, Fs, h1, h2, h3⟩ := hr
  have had : ad = gh0.ba b := by
    have : (⟨(gh0.ba b).block, (gh0.ba b).off + 0, none⟩ : Addr) = ad := by simpa using e
    rw [← this]; cases hb : gh0.ba b; rw [hb] at hsp0; simp at hsp0; simp [hsp0]
  obtain ⟨gh1, l, tj⟩ := layL_sound (vs := vs) (base := base) (g := g) (FL := fun b o => FL b o ∨ In ad sz b o) (Fs := Fs) hlo (List.range sz) List.nodup_range h (fun j hj => h3 j (by simpa using hj))
    (hF.mono fun x y hx => by
      rcases hx with (hx | hx) | ⟨j, hj, hx⟩
      · exact .inl hx
      · exact .inr (hin x y hx)
      · exact .inr (h1 j x y (by simpa using hj) hx).1)
    (fun j b o hj hb hfl => by
      rcases hfl with hfl | hfl
      · exact hap b o (h1 j b o (by simpa using hj) hb).1 hfl
      · exact (h1 j b o (by simpa using hj) hb).2 hfl)
    (fun j k b o hj hk hn => h2 j k b o (by simpa using hj) (by simpa using hk) hn)
  -- what is told holds on
  have htT : ∀ t, TR c.sh gh0 st0.ar st0.bx w0 ((st.layL base g (List.range sz)).t t) (a.tmps.getD t undef) := fun t =>
    layL_keepsT (fun x => TR c.sh gh0 st0.ar st0.bx w0 x (a.tmps.getD t undef)) (fun x id hx => TR_killA id x hx) _ (ht.t t)
  have htB : ∀ k B, (st.layL base g (List.range sz)).bx k = some B → ∀ o, o < B.1 → ∀ v, cellAt w (gh1.ba k).block ((gh1.ba k).off + o) = some v → TR c.sh gh0 st0.ar st0.bx w0 (B.2 o) v ∨ ((false : Bool) = false ∧ ∀ b, (B.2 o).noB b) := fun k B e o ho v hv => by
    obtain ⟨B0, e0, hs0, hq⟩ := layL_keepsB (fun x => TR c.sh gh0 st0.ar st0.bx w0 x v ∨ ((false : Bool) = false ∧ ∀ b, x.noB b)) (fun x id hx => hx.imp (TR_killA id x) (fun h => ⟨rfl, fun b => noB_killA x (h.2 b)⟩)) _ e
    rw [l.ba] at hv
    exact hq o (ht.b k B0.1 B0.2 e0 o (by omega) v hv)
  let gh' : Gh := ⟨gh1.hd, gh1.fa, upd gh1.ba b (gh0.ba b)⟩
  let st' : St := (st.layL base g (List.range sz)).setB b (some (sz, fun j => (g j).refd (base + j)))
  have hT : ∀ x v, TR c.sh gh1 (st.layL base g (List.range sz)).ar (st.layL base g (List.range sz)).bx w x v → (TR c.sh gh0 st0.ar st0.bx w0 x v ∨ ∀ b, x.noB b) → TR c.sh gh' st'.ar st'.bx w x v := fun x v q1 q2 =>
    TR_backB (gh0 := gh0) (w0 := w0) (ar0 := st0.ar) e0 x q1 q2
  have hlv : ∀ r, r ≠ .inr b → live st'.ar st'.bx r → live (st.layL base g (List.range sz)).ar (st.layL base g (List.range sz)).bx r := by
    rintro (k | k) hr hl
    · exact hl
    · have : k ≠ b := fun e => hr (by rw [e])
      have hl' : (upd (st.layL base g (List.range sz)).bx b (some (sz, fun j => (g j).refd (base + j))) k).isSome := hl
      rw [upd_ne _ _ this] at hl'; exact hl'
  have hfp : ∀ r x y, r ≠ .inr b → fp gh' st'.bx r x y → fp gh1 (st.layL base g (List.range sz)).bx r x y := by
    rintro (k | k) x y hr hf
    · exact hf
    · have : k ≠ b := fun e => hr (by rw [e])
      obtain ⟨B, eB, hi⟩ := hf
      have eB' : upd (st.layL base g (List.range sz)).bx b (some (sz, fun j => (g j).refd (base + j))) k = some B := eB
      rw [upd_ne _ _ this] at eB'
      have hi' : In (upd gh1.ba b (gh0.ba b) k) B.1 x y := hi
      rw [upd_ne _ _ this] at hi'
      exact ⟨B, eB', hi'⟩
  have hfs : ∀ x y, fp gh' st'.bx (.inr b) x y → In ad sz x y := by
    rintro x y ⟨B, eB, hi⟩
    have eB' : upd (st.layL base g (List.range sz)).bx b (some (sz, fun j => (g j).refd (base + j))) b = some B := eB
    rw [upd_self] at eB'
    obtain rfl := Option.some.inj eB'
    have hi' : In (upd gh1.ba b (gh0.ba b) b) sz x y := hi
    rw [upd_self, ← had] at hi'
    exact hi'
  refine ⟨gh', ⟨l.inv.defers, l.inv.size, fun t => hT _ _ (l.inv.temps t) (.inl (htT t)), ?_, ?_⟩, fun x y hx => ⟨fun r hl hf => ?_, (l.free x y (.inl hx)).2⟩, ⟨htT, fun k sz' g' e o ho v hv => ?_⟩⟩
  · refine l.inv.mem.gen (D := fun _ _ => False) (G := In ad sz) (· = .inr b) (Chg.refl w _) (fun _ _ h => h.elim) (fun x y hx => ⟨fun r _ hl => (l.free x y (.inr hx)).1 r hl, (l.free x y (.inr hx)).2⟩) ?_ ?_ ?_ ?_ ?_ ?_
    · intro id A _ e; exact ⟨e, rfl, rfl⟩
    · intro k sz' g' hk e
      have ek : k ≠ b := fun e => hk (by rw [e])
      have e' : upd (st.layL base g (List.range sz)).bx b (some (sz, fun j => (g j).refd (base + j))) k = some (sz', g') := e
      rw [upd_ne _ _ ek] at e'
      exact ⟨g', e', upd_ne _ _ ek, fun o ho v hv t => hT _ _ t ((htB k _ e' o ho v hv).imp (fun h => h) (fun h => h.2))⟩
    · intro id A hk; simp at hk
    · intro k sz' g' hk e
      obtain rfl : k = b := by simpa using hk
      have e' : upd (st.layL base g (List.range sz)).bx k (some (sz, fun j => (g j).refd (base + j))) k = some (sz', g') := e
      rw [upd_self] at e'
      obtain ⟨rfl, rfl⟩ : sz = sz' ∧ (fun j => (g j).refd (base + j)) = g' := by simpa using e'
      simp only [gh', upd_self]
      refine ⟨hsp0, fun o ho => ?_⟩
      obtain ⟨c1, c2, c3⟩ := hc o ho
      rw [had] at c1 c2
      exact ⟨vs o, c1, c2, c3, hT _ _ (tj o (by simpa using ho)) (.inr fun b => refd_noB (h3 o ho))⟩
    · rintro r x y rfl hlr hf; exact .inr (hfs x y hf)
    · rintro r r' x y rfl rfl hn; exact absurd rfl hn
  · refine ⟨l.inv.fix.hd, fun k hk => ?_, l.inv.fix.n, fun k B hk e => ?_⟩
    · by_cases ek : k = b
      · subst ek; simp only [gh', upd_self]; exact hI0.ba k hk
      · simp only [gh', upd_ne _ _ ek]; exact l.inv.fix.ba k hk
    · have e' : upd (st.layL base g (List.range sz)).bx b (some (sz, fun j => (g j).refd (base + j))) k = some B := e
      by_cases ek : k = b
      · subst ek
        rw [upd_self] at e'
        obtain rfl := Option.some.inj e'
        exact hI0.z k (sz, g0) hk e0
      · rw [upd_ne _ _ ek] at e'; exact l.inv.fix.z k B hk e'
  · by_cases er : r = .inr b
    · subst er
      exact hap x y (hin x y (hfs x y hf)) hx
    · exact (l.free x y (.inl hx)).1 r (hlv r er hl) (hfp r x y er hf)
  · have e' : upd (st.layL base g (List.range sz)).bx b (some (sz, fun j => (g j).refd (base + j))) k = some (sz', g') := e
    by_cases ek : k = b
    · subst ek
      rw [upd_self] at e'
      obtain ⟨rfl, rfl⟩ : sz = sz' ∧ (fun j => (g j).refd (base + j)) = g' := by simpa using e'
      exact .inr ⟨rfl, fun b => refd_noB (h3 o ho)⟩
    · rw [upd_ne _ _ ek] at e'
      have hv' : cellAt w (upd gh1.ba b (gh0.ba b) k).block ((upd gh1.ba b (gh0.ba b) k).off + o) = some v := hv
      rw [upd_ne _ _ ek] at hv'
      exact htB k _ e' o ho v hv'

theorem backB_sound {wb : World} (hI0 : Fix c gh0 st0.ar st0.bx) (hsp : ∀ b B, st0.bx b = some B → (gh0.ba b).spot = none) : ∀ (xs : List AV) (ks : List Back) {gh : Gh} {st : St} {hv : Nat → Value} {Fe : Nat → Cells} {FL : Cells} {base : Nat}, c.lim * 4096 ≤ base → ks.length = xs.length → (ks.any Back.isInn) = false →
    (∀ i x bk, xs[i]? = some x → ks[i]? = some bk → RV w c.sh x (hv i) (Fe i) ∧ BackOk wb gh0 st0 (hv i) x bk) →
    (∀ i m b o, i < xs.length → m < xs.length → i ≠ m → Fe i b o → ¬ Fe m b o) → (∀ i b o, i < xs.length → Fe i b o → ¬ FL b o) →
    Inv c gh nt st a w → ToldS c gh0 st0 w0 false gh st a w → Free c gh st.ar st.bx w (fun b o => FL b o ∨ ∃ i bb sz, ks[i]? = some (.box bb sz) ∧ Fe i b o) →
    ∃ gh', Inv c gh' nt (backB st base xs ks) a w ∧ Free c gh' (backB st base xs ks).ar (backB st base xs ks).bx w FL := by
  intro xs
  induction xs with
  | nil =>
    intro ks gh st hv Fe FL base hlo hl _ _ _ _ h ht hF
    have : ks = [] := by simpa using hl
    subst this
    exact ⟨gh, h, hF.mono fun x y hx => .inl hx⟩
  | cons x xs ih =>
    intro ks gh st hv Fe FL base hlo hl hni hrel hdis hap h ht hF
    cases ks with
    | nil => simp at hl
    | cons bk ks =>
      have hl' : ks.length = xs.length := by simpa using hl
      obtain ⟨hrv, hbk⟩ := hrel 0 x bk (by simp) (by simp)
      have hrel' : ∀ i x bk, xs[i]? = some x → ks[i]? = some bk → RV w c.sh x (hv (i + 1)) (Fe (i + 1)) ∧ BackOk wb gh0 st0 (hv (i + 1)) x bk := fun i x bk h1 h2 => hrel (i + 1) x bk (by simpa using h1) (by simpa using h2)
      have hdis' : ∀ i m b o, i < xs.length → m < xs.length → i ≠ m → Fe (i + 1) b o → ¬ Fe (m + 1) b o := fun i m b o hi hm hn => hdis (i + 1) (m + 1) b o (by simp; omega) (by simp; omega) (by omega)
      have hks : ∀ i bb sz, ks[i]? = some (.box bb sz) → i < xs.length := fun i bb sz h => by
        have := (List.getElem?_eq_some_iff.1 h).1; omega
      have hni' : ks.any Back.isInn = false := by simp only [List.any_cons, Bool.or_eq_false_iff] at hni; exact hni.2
      cases bk with
      | inn id p n sz => simp [Back.isInn] at hni
      | arr id n sz =>
        exact ih ks (hv := fun i => hv (i + 1)) (Fe := fun i => Fe (i + 1)) (FL := FL) (base := base + 64) (by omega) hl' hni' hrel' hdis' (fun i b o hi => hap (i + 1) b o (by simp; omega)) h ht (hF.mono fun b o hb => hb.imp (fun h => h) fun ⟨i, bb, sz', h1, h2⟩ => ⟨i + 1, bb, sz', by simpa using h1, h2⟩)
      | box bb sz =>
        obtain ⟨⟨g0, e0⟩, hv0, g, rfl⟩ := hbk
        obtain ⟨gh1, h1, f1, t1⟩ := h.backB (FL := fun b o => FL b o ∨ ∃ i bb sz, ks[i]? = some (.box bb sz) ∧ Fe (i + 1) b o) hlo hI0 ht e0 hv0 (hsp _ _ e0) hrv (hF.mono fun b o hb => by
            rcases hb with (hb | ⟨k, bb', sz', hk, hb⟩) | hb
            · exact .inl hb
            · exact .inr ⟨k + 1, bb', sz', by simpa using hk, hb⟩
            · exact .inr ⟨0, bb, sz, by simp, hb⟩) (fun b o hb hfl => by
            rcases hfl with hfl | ⟨k, bb', sz', hk, hfl⟩
            · exact hap 0 b o (by simp) hb hfl
            · exact hdis 0 (k + 1) b o (by simp) (by have := hks k bb' sz' hk; simp; omega) (by omega) hb hfl)
        exact ih ks (hv := fun i => hv (i + 1)) (Fe := fun i => Fe (i + 1)) (FL := FL) (base := base + 64) (by omega) hl' hni' hrel' hdis' (fun i b o hi => hap (i + 1) b o (by simp; omega)) h1 t1 f1

end
end Go.Fw
