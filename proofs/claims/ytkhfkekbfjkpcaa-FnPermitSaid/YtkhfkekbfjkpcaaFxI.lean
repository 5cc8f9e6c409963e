/- The by-value interpreter goes along with its continuation and its oracle: code. -/
import Derived.Test.YtkhfkekbfjkpcaaFxH
set_option linter.unusedVariables false
set_option linter.unusedSectionVars false
set_option linter.unusedSimpArgs false
namespace Go.Fw

section
variable {P : Program} {R R' : Type} {r : R} {r' : R'}

theorem opCall_lim {C : Cfg} {Γ : Orc} {Γ' : Nat → Orc} {o : Oper} {c : Call} {st : St} {K : St → Option R} {K' : Nat → St → Option R'} (hΓ : LimO Γ Γ') (hK : LimK K K' r r') (e : opCall P C Γ o c st K = some r) : Ev fun k => opCall P C (Γ' k) o c st (K' k) = some r' := by
  unfold opCall at e ⊢
  simp only at e ⊢
  split at e
  · refine K2_lim e fun e => ?_
    split at e
    · split at e
      · exact hK _ e
      · simp at e
    · split at e
      · exact hK _ e
      · simp at e
    · simp at e
  · split at e
    · refine K2_lim e fun e => ?_
      split at e
      · rename_i id p m A B _
        cases hc : decide (p + m + B.n ≤ A.n) with
        | true => rw [hc] at e; exact hK _ e
        | false => rw [hc] at e; simp only [cond_false] at e ⊢; exact appendK_lim (fun y st e => hK _ e) e
      · exact appendK_lim (fun y st e => hK _ e) e
    · simp at e
  · refine K2_lim e fun e => ?_
    split at e
    · exact hK _ e
    · simp at e
  · split at e
    · exact callK_lim hΓ (fun y st e => hK _ e) e
    · simp at e
  · simp at e

theorem evOp_lim {C : Cfg} {Γ : Orc} {Γ' : Nat → Orc} {o : Oper} {st : St} {K : St → Option R} {K' : Nat → St → Option R'} (hΓ : LimO Γ Γ') (hK : LimK K K' r r') (e : evOp P C Γ o st K = some r) : Ev fun k => evOp P C (Γ' k) o st (K' k) = some r' := by
  cases hop : o.op with
  | move x => simp only [evOp, hop] at e ⊢; exact hK _ e
  | assign x => simp only [evOp, hop] at e ⊢; exact hK _ e
  | pick c x y =>
    simp only [evOp, hop] at e ⊢
    split at e
    · exact hK _ e
    · simp at e
  | alloc t =>
    simp only [evOp, hop] at e ⊢
    split at e
    · exact hK _ e
    · simp at e
  | box t x =>
    simp only [evOp, hop] at e ⊢
    split at e
    · exact K2_lim e (hK _)
    · simp at e
  | load t x => simp only [evOp, hop] at e ⊢; exact loadK_lim (fun y e => hK _ e) e
  | store t p x => simp only [evOp, hop] at e ⊢; exact storeK_lim (fun y e => hK _ e) e
  | nilCheck x =>
    simp only [evOp, hop] at e ⊢
    split at e
    · exact K2_lim e (hK _)
    · exact K2_lim e (hK _)
    · exact hK _ e
    · simp at e
  | binOp op t x y yt => simp only [evOp, hop] at e ⊢; exact binK_lim (fun y e => hK _ e) e
  | unOp op t x => simp only [evOp, hop] at e ⊢; exact K2_lim e (hK _)
  | convert src dst x =>
    simp only [evOp, hop] at e ⊢
    split at e
    · exact hK _ e
    · split at e
      · exact K2_lim e (hK _)
      · simp at e
    · simp at e
  | fieldAddr t x f =>
    simp only [evOp, hop] at e ⊢
    split at e
    · refine K2_lim e fun e => ?_
      split at e
      · exact K2_lim e (hK _)
      · exact K2_lim e (hK _)
      · exact K2_lim e (hK _)
      · simp at e
    · simp at e
  | field t x f =>
    simp only [evOp, hop] at e ⊢
    split at e
    · exact K2_lim e (hK _)
    · simp at e
  | indexAddr t x i =>
    simp only [evOp, hop] at e ⊢
    split at e
    · exact indexAddrK_lim (fun y e => hK _ e) e
    · simp at e
  | slice t x lo hi mx =>
    simp only [evOp, hop] at e ⊢
    cases mx with
    | none =>
      simp only at e ⊢
      split at e
      · exact sliceK_lim (fun y e => hK _ e) e
      · simp at e
    | some y =>
      simp only at e ⊢
      split at e
      · unfold slice3K at e ⊢
        split at e
        · split at e
          · exact K2_lim e fun e => K2_lim e (hK _)
          · simp at e
        · simp at e
      · simp at e
  | index t x i =>
    simp only [evOp, hop] at e ⊢
    split at e
    · exact K2_lim e (hK _)
    · simp at e
  | extract x k =>
    simp only [evOp, hop] at e ⊢
    split at e
    · exact K2_lim e (hK _)
    · simp at e
  | makeFunc fn first caps =>
    simp only [evOp, hop] at e ⊢
    split at e
    · exact K2_lim e (hK _)
    · simp at e
  | build t parts =>
    simp only [evOp, hop] at e ⊢
    split at e
    · split at e
      · split at e
        · exact K2_lim e (hK _)
        · simp at e
      · simp at e
    · simp at e
  | buildSlice t len parts =>
    simp only [evOp, hop] at e ⊢
    split at e
    · refine K2_lim e fun e => ?_
      split at e
      · exact hK _ e
      · simp at e
    · simp at e
  | makeSlice t l c =>
    simp only [evOp, hop] at e ⊢
    split at e
    · exact K2_lim e (hK _)
    · simp at e
  | call c => simp only [evOp, hop] at e ⊢; exact opCall_lim hΓ hK e
  | _ => simp [evOp, hop] at e

theorem evOps_lim {C : Cfg} {Γ : Orc} {Γ' : Nat → Orc} {ops : Array Oper} (hΓ : LimO Γ Γ') : ∀ (l : List Nat) {st : St} {K : St → Option R} {K' : Nat → St → Option R'}, LimK K K' r r' → evOps P C Γ ops l st K = some r → Ev fun k => evOps P C (Γ' k) ops l st (K' k) = some r' := by
  intro l
  induction l with
  | nil => intro st K K' hK e; exact hK _ e
  | cons i rest ih =>
    intro st K K' hK e
    unfold evOps at e ⊢
    split at e
    · exact ih hK e
    · split at e
      · exact evOp_lim hΓ (fun st' e' => ih hK e') e
      · rename_i j want hg
        split at e
        · split at e
          · rename_i x _
            cases x with
            | true =>
              cases want with
              | true => simp only [cond_true, cond_false] at e ⊢; exact evOp_lim hΓ (fun st' e' => ih hK e') e
              | false => exact ih hK e
            | false =>
              cases want with
              | true => exact ih hK e
              | false => simp only [cond_true, cond_false] at e ⊢; exact evOp_lim hΓ (fun st' e' => ih hK e') e
          · exact ih hK e
          · simp at e
        · simp at e

theorem allOf_lim {F : Nat → Option R} {F' : Nat → Nat → Option R'} : ∀ (l : List Nat), (∀ i, F i = some r → Ev fun k => F' k i = some r') → allOf F l = some r → Ev fun k => allOf (F' k) l = some r' := by
  intro l
  induction l with
  | nil => intro _ e; simp [allOf] at e
  | cons i l ih =>
    intro h e
    cases l with
    | nil => exact h i e
    | cons j l =>
      simp only [allOf, and2] at e ⊢
      by_cases hx : F i = allOf F (j :: l)
      · simp only [hx, decide_true, cond_true] at e
        refine ((h i (hx.trans e)).and (ih h e)).mono fun k ⟨h1, h2⟩ => ?_
        rw [h1, h2]; simp
      · simp [hx] at e

theorem evDraw_lim {C : Cfg} {Γ : Orc} {Γ' : Nat → Orc} {ops : Array Oper} {K : St → Option R} {K' : Nat → St → Option R'} (hΓ : LimO Γ Γ') (hK : LimK K K' r r') : ∀ (n : Nat) (listed : Array Bool) (st : St), evDraw P C Γ ops K n listed st = some r →
    Ev fun k => evDraw P C (Γ' k) ops (K' k) n listed st = some r' := by
  intro n
  induction n with
  | zero =>
    intro listed st e
    simp only [evDraw] at e ⊢
    split at e
    · exact hK _ e
    · simp at e
  | succ n ih =>
    intro listed st e
    simp only [evDraw] at e ⊢
    split at e
    · exact hK _ e
    · split at e
      · exact evOps_lim hΓ _ (fun st' e' => ih _ st' e') e
      · exact allOf_lim _ (fun i e' => evOps_lim hΓ _ (fun st' e'' => ih _ st' e'') e') e

def LimE (K : Ex → St → Option R) (K' : Nat → Ex → St → Option R') (r : R) (r' : R') : Prop := ∀ ex st, K ex st = some r → Ev fun k => K' k ex st = some r'

theorem evL_lim {F : Foc} {body : (Ex → St → Option R) → St → Option R} {body' : Nat → (Ex → St → Option R') → St → Option R'} {K : Ex → St → Option R} {K' : Nat → Ex → St → Option R'}
    (hb : ∀ (K1 : Ex → St → Option R) (K2 : Nat → Ex → St → Option R') (st : St), LimE K1 K2 r r' → body K1 st = some r → Ev fun k => body' k (K2 k) st = some r') (hK : LimE K K' r r') : ∀ (n : Nat) (M : Nat → Nat) {st : St}, (Ev fun k => n ≤ M k) → evL F body K n st = some r → Ev fun k => evL F (body' k) (K' k) (M k) st = some r' := by
  intro n
  induction n with
  | zero => intro M st _ e; simp [evL] at e
  | succ n ih =>
    intro M st hM e
    simp only [evL] at e
    split at e
    · rename_i st1 hf
      have h1 := hb _ (fun k e st'' => match e with
          | .normal => evL F (body' k) (K' k) (M k - 1) st''
          | e => K' k e st'') _ (fun ex st' e' => by
        cases ex with
        | normal => exact ih (fun k => M k - 1) (hM.mono fun k h => by omega) e'
        | exit id => exact hK _ _ e'
        | ret => exact hK _ _ e') e
      refine (h1.and hM).mono fun k ⟨h2, h3⟩ => ?_
      obtain ⟨m, hm⟩ : ∃ m, M k = m + 1 := ⟨M k - 1, by omega⟩
      rw [hm] at h2 ⊢
      simp only [evL, hf]
      exact h2
    · simp at e

theorem cutK_lim {C : Cfg} {f id : Nat} {K : Ex → St → Option R} {K' : Nat → Ex → St → Option R'} (hK : LimE K K' r r') {st : St} (e : cutK C f id K st = some r) : Ev fun k => cutK C f id (K' k) st = some r' := by
  unfold cutK at e ⊢
  cases hc : C.cut f id with
  | false => rw [hc] at e; exact hK _ _ e
  | true =>
    rw [hc] at e
    simp only [cond_true] at e ⊢
    split at e
    · rename_i st' hf
      exact hK _ _ e
    · simp at e
theorem evC_lim {C : Cfg} {Γ : Orc} {Γ' : Nat → Orc} {N f : Nat} {M : Nat → Nat} (hΓ : LimO Γ Γ') (hM : Ev fun k => N ≤ M k) : ∀ (cd : Code) {st : St} {K : Ex → St → Option R} {K' : Nat → Ex → St → Option R'}, LimE K K' r r' → evC P C Γ N f cd K st = some r →
    Ev fun k => evC P C (Γ' k) (M k) f cd (K' k) st = some r' := by
  intro cd
  induction cd with
  | skip => intro st K K' hK e; exact hK _ _ e
  | label l => intro st K K' hK e; exact hK _ _ e
  | exit id => intro st K K' hK e; exact hK _ _ e
  | ret => intro st K K' hK e; exact hK _ _ e
  | region id ops draw =>
    intro st K K' hK e
    cases draw with
    | true =>
      simp only [evC] at e ⊢
      obtain ⟨hk, e⟩ := K2_some e
      refine (evDraw_lim hΓ (fun st' e' => cutK_lim hK e') _ _ _ e).mono fun k h => ?_
      rw [K2_true hk]; exact h
    | false => exact evOps_lim hΓ _ (fun st' e' => cutK_lim hK e') e
  | seq x y ihx ihy =>
    intro st K K' hK e
    refine ihx (fun ex st' e' => ?_) e
    cases ex with
    | normal => exact ihy hK e'
    | exit id => exact hK _ _ e'
    | ret => exact hK _ _ e'
  | cond c x y ihx ihy =>
    intro st K K' hK e
    simp only [evC] at e ⊢
    split at e
    · rename_i b _
      cases b with
      | true => exact ihx hK e
      | false => exact ihy hK e
    · simp at e
  | block id x ih =>
    intro st K K' hK e
    refine ih (fun ex st' e' => ?_) e
    cases ex with
    | normal => exact hK _ _ e'
    | exit k =>
      simp only at e' ⊢
      cases hb : Nat.beq k id with
      | true => rw [hb] at e'; exact hK _ _ e'
      | false => rw [hb] at e'; exact hK _ _ e'
    | ret => exact hK _ _ e'
  | loop x ih =>
    intro st K K' hK e
    exact evL_lim (body := fun K' => evC P C Γ N f x K') (body' := fun k K' => evC P C (Γ' k) (M k) f x K') (fun K1 K2 st h1 e1 => ih h1 e1) hK N M hM e
  | _ => intro st K K' hK e; simp [evC] at e

/-- What is answered came by the continuation. -/
theorem evC_lin {C : Cfg} {Γ : Orc} {N f : Nat} {cd : Code} {st : St} {K : Ex → St → Option R} (e : evC P C Γ N f cd K st = some r) : ∃ ex st', K ex st' = some r := by
  by_cases h : ∃ ex st', K ex st' = some r
  · exact h
  · have hno : ∀ (b : Bool), Ev fun _ => evC P C Γ N f cd (fun _ _ => (none : Option Bool)) st = some b := fun b =>
      evC_lim (Γ' := fun _ => Γ) (M := fun _ => N) (K' := fun _ _ _ => none) (fun f a e x hx => .of fun _ => hx) (.of fun _ => Nat.le_refl _) cd (fun ex st' e' => absurd ⟨ex, st', e'⟩ h) e
    obtain ⟨k0, h0⟩ := hno true
    obtain ⟨k1, h1⟩ := hno false
    have a := h0 k0 (Nat.le_refl _)
    have b := h1 k1 (Nat.le_refl _)
    rw [a] at b
    simp at b

end
end Go.Fw
