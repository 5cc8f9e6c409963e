/- The by-value interpreter: what is given back of what was handed in. -/
import Derived.Test.YtkhfkekbfjkpcaaFxD
set_option linter.unusedVariables false
set_option linter.unusedSectionVars false
set_option linter.unusedSimpArgs false
namespace Go.Fw
variable [Tok]

section
variable {c : Cx} {gh : Gh} {nt : Nat} {st : St} {a : Act} {w : World} {P : Program} {R : Type} {r : R}

/-- What an extern's name and address are, below the bound. -/
def NameOk (c : Cx) (hv : Nat → Value) (k : Nat) : AV → Prop
  | .own n sz _ => hv k = .slice (c.hd0 (k * 4096)).1 n (c.hd0 (k * 4096)).2 ∧ c.n0 (k * 4096) = n ∧ c.s0 (k * 4096) = sz
  | .nbx sz _ => hv k = .pointer (some ⟨(c.ba0 k).block, (c.ba0 k).off + 0, none⟩)
  | _ => False

theorem exOut_sound {hv : Nat → Value} : ∀ (exts : List AV) {k : Nat} {gh : Gh} {st : St} {FL : Cells} {out : List AV}, k + exts.length ≤ c.lim → Inv c gh nt st a w → Free c gh st.ar st.bx w FL → exOut st k exts = some out →
    (∀ i x, exts[i]? = some x → NameOk c hv (k + i) x) →
    out.length = exts.length ∧ ∃ Fe : Nat → Cells, (∀ i x, (likeL exts (out.map AV.ow))[i]? = some x → RV w c.sh x (hv (k + i)) (Fe i)) ∧ (∀ i m b o, i < out.length → m < out.length → i ≠ m → Fe i b o → ¬ Fe m b o) ∧
      (∀ i b o, i < out.length → Fe i b o → ¬ FL b o) ∧ ∀ i b o, i < out.length → Fe i b o → b < w.heap.size ∧ (b < c.w0.heap.size → c.M b o) := by
  intro exts
  induction exts with
  | nil =>
    intro k gh st FL out _ h hFL e _
    simp only [exOut, Option.some.injEq] at e
    subst e
    exact ⟨rfl, fun _ _ _ => False, by simp [likeL], fun _ _ _ _ hi => absurd hi (by simp), fun _ _ _ hi => absurd hi (by simp), fun _ _ _ hi => absurd hi (by simp)⟩
  | cons x exts ih =>
    intro k gh st FL out hk h hFL e hn
    have hn0 := hn 0 x (by simp)
    simp only [Nat.add_zero] at hn0
    have hklt : k < c.lim := by simp at hk; omega
    have step : ∀ {y z : AV} {st' : St} {out' : List AV} {p : AV}, st.takeA p = some (y, st') → TR c.sh gh st.ar st.bx w p (hv k) → exOut st' (k + 1) exts = some out' →
        (∀ F, RV w c.sh y (hv k) F → RV w c.sh (x.likeE z.ow) (hv k) F) → out = z :: out' →
        out.length = (x :: exts).length ∧ ∃ Fe : Nat → Cells, (∀ i x', (likeL (x :: exts) (out.map AV.ow))[i]? = some x' → RV w c.sh x' (hv (k + i)) (Fe i)) ∧ (∀ i m b o, i < out.length → m < out.length → i ≠ m → Fe i b o → ¬ Fe m b o) ∧
          (∀ i b o, i < out.length → Fe i b o → ¬ FL b o) ∧ ∀ i b o, i < out.length → Fe i b o → b < w.heap.size ∧ (b < c.w0.heap.size → c.M b o) := by
      intro y z st' out' p ht hp he hz hout
      subst hout
      obtain ⟨gh1, F, hT, hrv⟩ := takeA_sound h hFL hp ht
      obtain ⟨q1, Fe, q4, q5, q6, q7⟩ := ih (by simp at hk; omega) hT.inv hT.free he (fun i x hi => by
        have := hn (i + 1) x (by simpa using hi)
        rwa [show k + (i + 1) = k + 1 + i by omega] at this)
      refine ⟨by simp [q1], fun i => match i with | 0 => F | i + 1 => Fe i, ?_, ?_, ?_, ?_⟩
      · intro i x' hi
        cases i with
        | zero => simp [likeL] at hi; subst hi; exact hz F hrv
        | succ i =>
          have := q4 i x' (by simpa [likeL] using hi)
          rwa [show k + 1 + i = k + (i + 1) by omega] at this
      · intro i m b o hi hm hne hb hb'
        cases i with
        | zero =>
          cases m with
          | zero => exact hne rfl
          | succ m => exact q6 m b o (by simpa using hm) hb' (.inr hb)
        | succ i =>
          cases m with
          | zero => exact q6 i b o (by simpa using hi) hb (.inr hb')
          | succ m => exact q5 i m b o (by simpa using hi) (by simpa using hm) (by omega) hb hb'
      · intro i b o hi hb
        cases i with
        | zero => exact hT.apart b o hb
        | succ i => exact fun hf => q6 i b o (by simpa using hi) hb (.inl hf)
      · intro i b o hi hb
        cases i with
        | zero => exact (hT.free b o (.inr hb)).2
        | succ i => exact q7 i b o (by simpa using hi) hb
    cases x with
    | own n sz g0 =>
      obtain ⟨hv0, hn1, hs1⟩ := hn0
      simp only [exOut] at e
      split at e
      · rename_i n' sz' g st' ht
        cases hfit : (AV.own n sz g0).fit (.own n' sz' g) with
        | false => rw [hfit] at e; simp at e
        | true =>
        rw [hfit] at e
        simp only [cond_true] at e
        split at e
        · rename_i out' he
          simp only [Option.some.injEq] at e
          have hA : ∃ A, st.ar (k * 4096) = some A ∧ A.n = n' ∧ A.sz = sz' ∧ A.g = g := by
            simp only [St.takeA, St.takeC, Option.map_eq_some_iff, Prod.mk.injEq, AV.own.injEq] at ht
            obtain ⟨A, hA, ⟨h1, h2, h3⟩, _⟩ := ht
            exact ⟨A, hA, h1, h2, h3⟩
          obtain ⟨A, hA, hAn, hAs, hAg⟩ := hA
          have hfx := h.fix.n (k * 4096) A (by omega) hA
          have hnn : n' = n := by omega
          have hss : sz' = sz := by omega
          subst hnn hss
          refine step (p := .rf (k * 4096)) (z := .own n' sz' g) ht ?_ he (fun F hrv => like_RO c.tok (.own n' sz' g0) hfit hrv) e.symm
          intro B hB
          rw [hA] at hB
          obtain rfl := Option.some.inj hB
          rw [hv0, h.fix.hd (k * 4096) (by omega), hAn]
        · simp at e
      · simp at e
    | nbx sz g0 =>
      have hv0 := hn0
      simp only [exOut] at e
      split at e
      · rename_i sz' h0 st' ht
        cases hk2 : (Nat.beq sz sz' && (List.range sz).all (fun j => (g0 j).fit (h0 j))) with
        | false => rw [hk2] at e; simp at e
        | true =>
          rw [hk2] at e
          simp only [cond_true] at e
          rw [Bool.and_eq_true] at hk2
          have hss := beq_eq.1 hk2.1
          subst hss
          split at e
          · rename_i out' he
            simp only [Option.some.injEq] at e
            refine step (p := .pb k 0) (z := .nbx sz h0) ht ?_ he (fun F hrv => ?_) e.symm
            · intro B hB
              have hv0' : hv k = .pointer (some ⟨(c.ba0 k).block, (c.ba0 k).off + 0, none⟩) := hv0
              rw [hv0', h.fix.ba k hklt]
            · obtain ⟨ad, e', hsp, hin, vs, hc, Fs, f1, f2, f3⟩ := hrv
              exact ⟨ad, e', hsp, hin, vs, hc, Fs, f1, f2, fun j hj => by rw [tabG_lt hj]; simp only [AV.ow, asA, tabG_lt hj]; exact like_RO c.tok _ (List.all_eq_true.1 hk2.2 j (by simpa using hj)) (f3 j hj)⟩
          · simp at e
      · simp at e
    | _ => exact hn0.elim

end
end Go.Fw
