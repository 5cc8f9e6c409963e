/- The by-value interpreter: what comes back from a call. -/
import Derived.Test.YtkhfkekbfjkpcaaFwX
set_option linter.unusedVariables false
set_option linter.unusedSectionVars false
set_option linter.unusedSimpArgs false
namespace Go.Fw
variable [Tok]

section
variable {c : Cx} {gh gh0 : Gh} {nt : Nat} {st st0 : St} {a : Act} {w w0 : World} {P : Program}

theorem TR_backA {sh : AV → Value → Prop} {ar ar0 : ArT} {bx bx0 : BxT} {id n sz : Nat} {g : Nat → Nat → AV} {fa : Nat → Cells} {A : Arr} (e0 : ar0 id = some A) (hn : A.n = n) (hs : A.sz = sz) (x : AV) :
    ∀ {v : Value}, TR sh gh ar bx w x v → TR sh gh0 ar0 bx0 w0 x v → TR sh ⟨upd gh.hd id (gh0.hd id), fa, gh.ba⟩ (upd ar id (some ⟨n, sz, g⟩)) bx w (x.killN id) v := by
  have key : ∀ k B, upd ar id (some ⟨n, sz, g⟩) k = some B → (k = id ∧ B = ⟨n, sz, g⟩) ∨ (k ≠ id ∧ ar k = some B) := fun k B hk => by
    by_cases ek : k = id
    · subst ek; rw [upd_self] at hk; exact .inl ⟨rfl, by simpa using hk.symm⟩
    · rw [upd_ne _ _ ek] at hk; exact .inr ⟨ek, hk⟩
  subst hn hs
  induction x with
  | rf k =>
    intro v h h0 B hB
    rcases key k B hB with ⟨rfl, rfl⟩ | ⟨ek, hB⟩
    · simp only [upd_self]; exact h0 A e0
    · simp only [upd_ne _ _ ek]; exact h B hB
  | rs k a m =>
    intro v h h0 B hB
    rcases key k B hB with ⟨rfl, rfl⟩ | ⟨ek, hB⟩
    · simp only [upd_self]; exact h0 A e0
    · simp only [upd_ne _ _ ek]; exact h B hB
  | rn k p =>
    intro v h h0
    simp only [AV.killN]
    by_cases ek : k = id
    · subst ek; simp only [Nat.beq_refl, cond_true]; trivial
    · rw [beq_ne ek]
      intro B n' sz' g' hB hown
      rcases key k B hB with ⟨e, _⟩ | ⟨_, hB⟩
      · exact absurd e ek
      · simp only [upd_ne _ _ ek]; exact h B n' sz' g' hB hown
  | pe k p i j =>
    intro v h h0
    simp only [AV.killN]
    by_cases ek : k = id
    · subst ek
      cases p with
      | nil =>
        simp only [Nat.beq_refl, List.isEmpty_nil, Bool.not_true, Bool.and_false, cond_false]
        intro B hB
        rcases key k B hB with ⟨_, rfl⟩ | ⟨e, _⟩
        · simp only [upd_self]; exact h0 A e0
        · exact absurd rfl e
      | cons q p => simp only [Nat.beq_refl, List.isEmpty_cons, Bool.not_false, Bool.and_true, cond_true]; trivial
    · rw [beq_ne ek]
      simp only [Bool.false_and, cond_false]
      intro B hB
      rcases key k B hB with ⟨e, _⟩ | ⟨_, hB⟩
      · exact absurd e ek
      · simp only [upd_ne _ _ ek]; exact h B hB
  | ag sz g ih =>
    rintro v ⟨vs, rfl, hs, hv⟩ ⟨vs', e', _, hv'⟩
    obtain rfl : vs = vs' := by simpa using e'
    exact ⟨vs, rfl, hs, fun j hj => ⟨(hv j hj).1, ih j (hv j hj).2 (hv' j hj).2⟩⟩
  | tup sz g ih =>
    rintro v ⟨vs, rfl, hs, hv⟩ ⟨vs', e', _, hv'⟩
    obtain rfl : vs = vs' := by simpa using e'
    exact ⟨vs, rfl, hs, fun j hj => ih j (hv j hj) (hv' j hj)⟩
  | clo f sz g ih =>
    rintro v ⟨vs, rfl, hs, hv⟩ ⟨vs', e', _, hv'⟩
    obtain rfl : vs = vs' := by simpa using e'
    exact ⟨vs, rfl, hs, fun j hj => ih j (hv j hj) (hv' j hj)⟩
  | pb b o => intro v h h0; exact h
  | _ => intro v h h0; exact h

theorem TR_backB {sh : AV → Value → Prop} {ar ar0 : ArT} {bx bx0 : BxT} {b : Nat} {B0 : Nat × (Nat → AV)} {B : Nat × (Nat → AV)} (e0 : bx0 b = some B0) (x : AV) :
    ∀ {v : Value}, TR sh gh ar bx w x v → (TR sh gh0 ar0 bx0 w0 x v ∨ ∀ b, x.noB b) → TR sh ⟨gh.hd, gh.fa, upd gh.ba b (gh0.ba b)⟩ ar (upd bx b (some B)) w x v := by
  induction x with
  | pb k o =>
    intro v h h0 B' hB
    by_cases ek : k = b
    · subst ek
      rcases h0 with h0 | h0
      · simp only [upd_self]; exact h0 B0 e0
      · exact absurd rfl (h0 k)
    · rw [upd_ne _ _ ek] at hB
      simp only [upd_ne _ _ ek]; exact h B' hB
  | ag sz g ih =>
    rintro v ⟨vs, rfl, hs, hv⟩ h0
    refine ⟨vs, rfl, hs, fun j hj => ⟨(hv j hj).1, ih j (hv j hj).2 ?_⟩⟩
    rcases h0 with ⟨vs', e', _, hv'⟩ | h0
    · obtain rfl : vs = vs' := by simpa using e'
      exact .inl (hv' j hj).2
    · exact .inr fun b => h0 b j hj
  | tup sz g ih =>
    rintro v ⟨vs, rfl, hs, hv⟩ h0
    refine ⟨vs, rfl, hs, fun j hj => ih j (hv j hj) ?_⟩
    rcases h0 with ⟨vs', e', _, hv'⟩ | h0
    · obtain rfl : vs = vs' := by simpa using e'
      exact .inl (hv' j hj)
    · exact .inr fun b => h0 b j hj
  | clo f sz g ih =>
    rintro v ⟨vs, rfl, hs, hv⟩ h0
    refine ⟨vs, rfl, hs, fun j hj => ih j (hv j hj) ?_⟩
    rcases h0 with ⟨vs', e', _, hv'⟩ | h0
    · obtain rfl : vs = vs' := by simpa using e'
      exact .inl (hv' j hj)
    · exact .inr fun b => h0 b j hj
  | _ => intro v h h0; exact h

/-- What is still known of temporaries and boxes, by what they led to before the call. -/
def Told (c : Cx) (gh0 : Gh) (st0 : St) (w0 : World) (x : AV) (v : Value) : Prop := TR c.sh gh0 st0.ar st0.bx w0 x v ∨ ∀ b, x.noB b
structure ToldS (c : Cx) (gh0 : Gh) (st0 : St) (w0 : World) (strict : Bool) (gh : Gh) (st : St) (a : Act) (w : World) : Prop where
  t : ∀ t, TR c.sh gh0 st0.ar st0.bx w0 (st.t t) (a.tmps.getD t undef)
  b : ∀ b sz g, st.bx b = some (sz, g) → ∀ o, o < sz → ∀ v, cellAt w (gh.ba b).block ((gh.ba b).off + o) = some v → TR c.sh gh0 st0.ar st0.bx w0 (g o) v ∨ (strict = false ∧ ∀ b, (g o).noB b)

/-- A row comes back. -/
theorem Inv.backA {id n sz : Nat} {g : Nat → Nat → AV} {F FL : Cells} {A : Arr} (h : Inv c gh nt st a w) (hI0 : Fix c gh0 st0.ar st0.bx) (ht : ToldS c gh0 st0 w0 true gh st a w) (e0 : st0.ar id = some A) (hn : A.n = n) (hs : A.sz = sz)
    (hr : RO w c.sh (.own n sz g) (.slice (gh0.hd id).1 n (gh0.hd id).2) F) (hF : Free c gh st.ar st.bx w (fun b o => FL b o ∨ F b o)) (hap : ∀ b o, F b o → ¬ FL b o) :
    ∃ gh', gh'.ba = gh.ba ∧ Inv c gh' nt ((st.map (AV.killN id)).setA id (some ⟨n, sz, g⟩)) a w ∧ Free c gh' ((st.map (AV.killN id)).setA id (some ⟨n, sz, g⟩)).ar ((st.map (AV.killN id)).setA id (some ⟨n, sz, g⟩)).bx w FL ∧
      ToldS c gh0 st0 w0 true gh' ((st.map (AV.killN id)).setA id (some ⟨n, sz, g⟩)) a w := by
  let gh' : Gh := ⟨upd gh.hd id (gh0.hd id), upd gh.fa id F, gh.ba⟩
  let st' : St := (st.map (AV.killN id)).setA id (some ⟨n, sz, g⟩)
  have hT : ∀ x v, TR c.sh gh st.ar st.bx w x v → TR c.sh gh0 st0.ar st0.bx w0 x v → TR c.sh gh' st'.ar st'.bx w (x.killN id) v := fun x v h1 h2 =>
    TR_weaken (bx := st.bx) (fun _ _ e => e) (fun b B e => map_ex (st := st) (f := AV.killN id) e) _ (TR_backA (gh0 := gh0) (fa := upd gh.fa id F) e0 hn hs x h1 h2)
  have hlv : ∀ r, r ≠ .inl id → live st'.ar st'.bx r → live st.ar st.bx r := by
    rintro (k | b) hr hl
    · have : k ≠ id := fun e => hr (by rw [e])
      have hl' : (upd st.ar id (some ⟨n, sz, g⟩) k).isSome := hl
      rw [upd_ne _ _ this] at hl'; exact hl'
    · exact (live_map (ar := st.ar) _ (.inr b)).1 hl
  have hfp : ∀ r, r ≠ .inl id → fp gh' st'.bx r = fp gh st.bx r := by
    rintro (k | b) hr
    · have : k ≠ id := fun e => hr (by rw [e])
      exact upd_ne _ _ this
    · exact fp_map (gh := gh) _ (.inr b)
  have hfs : fp gh' st'.bx (.inl id) = F := upd_self _ _ _
  refine ⟨gh', rfl, ⟨h.defers, h.size, fun t => hT _ _ (h.temps t) (ht.t t), ?_, ?_⟩, fun x y hx => ⟨fun r hl hf => ?_, (hF x y (.inl hx)).2⟩, ⟨fun t => TR_killN id _ (ht.t t), fun b sz' g' e o ho v hv => ?_⟩⟩
  · refine h.mem.gen (D := fun _ _ => False) (G := F) (· = .inl id) (Chg.refl w _) (fun _ _ h => h.elim) (fun x y hx => ⟨fun r _ hl => (hF x y (.inr hx)).1 r hl, (hF x y (.inr hx)).2⟩) ?_ ?_ ?_ ?_ ?_ ?_
    · intro k B hk e
      have ek : k ≠ id := fun e => hk (by rw [e])
      have e' : upd st.ar id (some ⟨n, sz, g⟩) k = some B := e
      rw [upd_ne _ _ ek] at e'
      exact ⟨e', upd_ne _ _ ek, upd_ne _ _ ek⟩
    · intro b sz' g' _ e
      obtain ⟨g'', e', rfl⟩ := map_some (bx := st.bx) e
      refine ⟨g'', e', rfl, fun o ho v hv t => hT _ _ t ?_⟩
      rcases ht.b b sz' g'' e' o ho v hv with h1 | h1
      · exact h1
      · simp at h1
    · intro k B hk e
      obtain rfl : k = id := by simpa using hk
      have e' : upd st.ar k (some ⟨n, sz, g⟩) k = some B := e
      rw [upd_self] at e'
      obtain rfl := Option.some.inj e'
      simp only [gh', upd_self]; exact hr
    · intro b sz g hk; simp at hk
    · rintro r x y rfl hlr hf
      rw [hfs] at hf; exact .inr hf
    · rintro r r' x y rfl rfl hn; exact absurd rfl hn
  · refine ⟨fun k hk => ?_, h.fix.ba, fun k B hk e => ?_, fun b B hb e => ?_⟩
    · by_cases ek : k = id
      · subst ek; simp only [gh', upd_self]; exact hI0.hd k hk
      · simp only [gh', upd_ne _ _ ek]; exact h.fix.hd k hk
    · have e' : upd st.ar id (some ⟨n, sz, g⟩) k = some B := e
      by_cases ek : k = id
      · subst ek
        rw [upd_self] at e'
        obtain rfl := Option.some.inj e'
        have := hI0.n k A hk e0
        exact ⟨by rw [← this.1]; exact hn.symm, by rw [← this.2]; exact hs.symm⟩
      · rw [upd_ne _ _ ek] at e'; exact h.fix.n k B hk e'
    · obtain ⟨g'', e', hg⟩ := map_some (bx := st.bx) (sz := B.1) (g := B.2) e
      exact h.fix.z b (B.1, g'') hb e'
  · by_cases er : r = .inl id
    · subst er
      rw [hfs] at hf
      exact hap x y hf hx
    · rw [hfp r er] at hf
      exact (hF x y (.inl hx)).1 r (hlv r er hl) hf
  · obtain ⟨g'', e', rfl⟩ := map_some (bx := st.bx) e
    rcases ht.b b sz' g'' e' o ho v hv with h1 | h1
    · exact .inl (TR_killN id _ h1)
    · simp at h1

end
end Go.Fw
