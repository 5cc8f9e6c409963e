/- The by-value interpreter goes along with its continuation and its oracle: monotone, continuous, linear. The by-value interpreter goes along with its continuation and its oracle: code. The by-value interpreter is sound: what it answers, the model's machine does. The by-value interpreter: its limit. -/
import Derived.Test.YtndmnbgcneaggaaGreatDoorFwU
import Derived.Test.YtndmnbgcneaggaaGreatDoorFxF
set_option linter.unusedVariables false
set_option linter.unusedSectionVars false
set_option linter.unusedSimpArgs false
namespace Go.Fw
section
variable {P : Program} {R R' : Type} {r : R} {r' : R'}
def Ev (p : Nat → Prop) : Prop := ∃ k0, ∀ k, k0 ≤ k → p k
theorem Ev.of {p : Nat → Prop} (h : ∀ k, p k) : Ev p := ⟨0, fun k _ => h k⟩
theorem Ev.and {p q : Nat → Prop} (h : Ev p) (h' : Ev q) : Ev fun k => p k ∧ q k := by
 obtain ⟨a, ha⟩ := h
 obtain ⟨b, hb⟩ := h'
 exact ⟨max a b, fun k hk => ⟨ha k (by omega), hb k (by omega)⟩⟩
theorem Ev.mono {p q : Nat → Prop} (h : Ev p) (hq : ∀ k, p k → q k) : Ev q := h.imp fun a ha k hk => hq k (ha k hk)
theorem K2_true {c : Bool} {x : Option R} (h : c = true) : K2 c x = x := by subst h; rfl
def LimO (Γ : Orc) (Γ' : Nat → Orc) : Prop := ∀ f a e x, Γ f a e = some x → Ev fun k => Γ' k f a e = some x
def LimK {S : Type} (K : S → Option R) (K' : Nat → S → Option R') (r : R) (r' : R') : Prop := ∀ st, K st = some r → Ev fun k => K' k st = some r'
theorem binK_lim {op : BinOp} {t : TypeId} {x y : AV} {K : AV → Option R} {K' : Nat → AV → Option R'} (hK : LimK K K' r r') (e : binK P op t x y K = some r) : Ev fun k => binK P op t x y (K' k) = some r' := by
 unfold binK at e ⊢
 split at e
 all_goals first
  | (simp at e; done)
  | (obtain ⟨hc, e⟩ := K2_some e; exact (hK _ e).mono fun k h => by rw [K2_true hc]; exact h)
  | exact hK _ e
  | (split at e
     · first
        | exact (hK _ e).mono fun k h => h
        | (obtain ⟨hc, e'⟩ := K2_some e; exact (hK _ e').mono fun k h => by rw [K2_true hc]; exact h)
     · simp at e)
theorem K2_lim {c : Bool} {x : Option R} {x' : Nat → Option R'} (e : K2 c x = some r) (h : x = some r → Ev fun k => x' k = some r') : Ev fun k => K2 c (x' k) = some r' := by
 obtain ⟨hc, e⟩ := K2_some e
 exact (h e).mono fun k h => by rw [K2_true hc]; exact h
theorem loadK_lim {st : St} {t : TypeId} {x : AV} {K : AV → Option R} {K' : Nat → AV → Option R'} (hK : LimK K K' r r') (e : loadK P st t x K = some r) : Ev fun k => loadK P st t x (K' k) = some r' := by
 unfold loadK at e ⊢
 cases x with
 | pb b o => simp only at e ⊢; split at e; exact K2_lim e (hK _); simp at e
 | pe id p i j => simp only at e ⊢; split at e; exact K2_lim e (hK _); simp at e
 | sp sz g => exact K2_lim e (hK _)
 | _ => simp at e
theorem storeK_lim {st : St} {t : TypeId} {p x : AV} {K : St → Option R} {K' : Nat → St → Option R'} (hK : LimK K K' r r') (e : storeK P st t p x K = some r) : Ev fun k => storeK P st t p x (K' k) = some r' := by
 unfold storeK at e ⊢
 refine K2_lim e fun e => ?_
 cases p with
 | pb b o => simp only at e ⊢; split at e; exact K2_lim e (hK _); simp at e
 | pe id p i j =>
  simp only at e ⊢
  split at e
  · split at e
    · refine K2_lim e fun e => ?_
      split at e
      · exact hK _ e
      · simp at e
    · simp at e
  · simp at e
 | _ => simp at e
theorem indexAddrK_lim {st : St} {t : TypeId} {x : AV} {n : Int} {K : AV → Option R} {K' : Nat → AV → Option R'} (hK : LimK K K' r r') (e : indexAddrK P st t x n K = some r) : Ev fun k => indexAddrK P st t x n (K' k) = some r' := by
 unfold indexAddrK at e ⊢
 split at e
 · cases x with
   | sl n sz g => exact K2_lim e (fun e => K2_lim e (hK _))
   | sln n sz g => exact K2_lim e (fun e => K2_lim e (hK _))
   | gv bs => exact K2_lim e (fun e => K2_lim e (hK _))
   | rf id => simp only at e ⊢; split at e; exact K2_lim e (fun e => K2_lim e (hK _)); simp at e
   | rs id a m => simp only at e ⊢; split at e; exact K2_lim e (fun e => K2_lim e (hK _)); simp at e
   | rn id p =>
    simp only at e ⊢
    split at e
    · split at e
      · exact K2_lim e (fun e => K2_lim e (hK _))
      · simp at e
    · simp at e
   | _ => simp at e
 · simp at e
theorem sliceK_lim {st : St} {t : TypeId} {x : AV} {l h : Option Int} {K : AV → Option R} {K' : Nat → AV → Option R'} (hK : LimK K K' r r') (e : sliceK P st t x l h K = some r) : Ev fun k => sliceK P st t x l h (K' k) = some r' := by
 unfold sliceK at e ⊢
 split at e
 · cases x with
   | S s => exact K2_lim e (hK _)
   | _ => simp at e
 · cases x with
   | sl n sz g =>
    simp only at e ⊢
    refine K2_lim e fun e => ?_
    cases h with
    | none => exact K2_lim e (hK _)
    | some h => exact K2_lim e (hK _)
   | rf id => simp only at e ⊢; split at e; exact K2_lim e (fun e => K2_lim e (hK _)); simp at e
   | rs id a m => simp only at e ⊢; split at e; exact K2_lim e (fun e => K2_lim e (hK _)); simp at e
   | _ => simp at e
 · simp at e
theorem appendK_lim {st : St} {t tx : TypeId} {x y : AV} {K : AV → St → Option R} {K' : Nat → AV → St → Option R'} (hK : ∀ y st, K y st = some r → Ev fun k => K' k y st = some r') (e : appendK P st t tx x y K = some r) : Ev fun k => appendK P st t tx x y (K' k) = some r' := by
 unfold appendK at e ⊢
 split at e
 · split at e
   · split at e
     · exact K2_lim e (hK _ _)
     · simp at e
   · simp at e
 · simp at e
theorem callK_lim {C : Cfg} {Γ : Orc} {Γ' : Nat → Orc} {st : St} {d f : Nat} {xs : List AV} {K : AV → St → Option R} {K' : Nat → AV → St → Option R'} (hΓ : LimO Γ Γ') (hK : ∀ y st, K y st = some r → Ev fun k => K' k y st = some r') (e : callK P C Γ st d f xs K = some r) :
  Ev fun k => callK P C (Γ' k) st d f xs (K' k) = some r' := by
 unfold callK at e ⊢
 split at e
 · split at e
   · refine K2_lim e fun e => ?_
     obtain ⟨rr, hrr, e⟩ := Option.bind_eq_some_iff.1 e
     simp only at e
     split at e
     · rename_i st1 hb
       obtain ⟨hfit, e⟩ := K2_some e
       refine ((hΓ _ _ _ _ hrr).and (hK _ _ e)).mono fun k ⟨h1, h2⟩ => ?_
       rw [h1]
       simp only [Option.bind_some, hb]
       rw [K2_true hfit]
       exact h2
     · simp at e
   · simp at e
 · simp at e
end
end Go.Fw
namespace Go.Fw
section
variable {P : Program} {R R' : Type} {r : R} {r' : R'}
theorem opCall_lim {C : Cfg} {Γ : Orc} {Γ' : Nat → Orc} {o : Oper} {c : Call} {st : St} {K : St → Option R} {K' : Nat → St → Option R'} (hΓ : LimO Γ Γ') (hK : LimK K K' r r') (e : opCall P C Γ o c st K = some r) : Ev fun k => opCall P C (Γ' k) o c st (K' k) = some r' := by
 unfold opCall at e ⊢
 simp only at e ⊢
 split at e
 · refine K2_lim e fun e => ?_
   split at e
   · split at e
     · exact hK _ e
     · simp at e
   · split at e
     · exact hK _ e
     · simp at e
   · simp at e
 · split at e
   · refine K2_lim e fun e => ?_
     split at e
     · rename_i id p m A B _
       cases hc : decide (p + m + B.n ≤ A.n) with
       | true => rw [hc] at e; exact hK _ e
       | false => rw [hc] at e; simp only [cond_false] at e ⊢; exact appendK_lim (fun y st e => hK _ e) e
     · exact appendK_lim (fun y st e => hK _ e) e
   · simp at e
 · refine K2_lim e fun e => ?_
   split at e
   · exact hK _ e
   · simp at e
 · split at e
   · exact callK_lim hΓ (fun y st e => hK _ e) e
   · simp at e
 · split at e
   · exact hK _ e
   · simp at e
 · simp at e
theorem evOp_lim {C : Cfg} {Γ : Orc} {Γ' : Nat → Orc} {o : Oper} {st : St} {K : St → Option R} {K' : Nat → St → Option R'} (hΓ : LimO Γ Γ') (hK : LimK K K' r r') (e : evOp P C Γ o st K = some r) : Ev fun k => evOp P C (Γ' k) o st (K' k) = some r' := by
 cases hop : o.op with
 | move x => simp only [evOp, hop] at e ⊢; exact hK _ e
 | assign x => simp only [evOp, hop] at e ⊢; exact hK _ e
 | pick c x y =>
  simp only [evOp, hop] at e ⊢
  split at e
  · exact hK _ e
  · simp at e
 | alloc t =>
  simp only [evOp, hop] at e ⊢
  split at e
  · exact hK _ e
  · simp at e
 | box t x =>
  simp only [evOp, hop] at e ⊢
  split at e
  · exact K2_lim e (hK _)
  · simp at e
 | load t x => simp only [evOp, hop] at e ⊢; exact loadK_lim (fun y e => hK _ e) e
 | store t p x => simp only [evOp, hop] at e ⊢; exact storeK_lim (fun y e => hK _ e) e
 | nilCheck x =>
  simp only [evOp, hop] at e ⊢
  split at e
  · exact K2_lim e (hK _)
  · exact K2_lim e (hK _)
  · exact hK _ e
  · simp at e
 | binOp op t x y yt => simp only [evOp, hop] at e ⊢; exact binK_lim (fun y e => hK _ e) e
 | unOp op t x => simp only [evOp, hop] at e ⊢; exact K2_lim e (hK _)
 | convert src dst x =>
  simp only [evOp, hop] at e ⊢
  split at e
  · exact hK _ e
  · split at e
    · exact K2_lim e (hK _)
    · simp at e
  · exact hK _ e
  · simp at e
 | fieldAddr t x f =>
  simp only [evOp, hop] at e ⊢
  split at e
  · refine K2_lim e fun e => ?_
    split at e
    · exact K2_lim e (hK _)
    · exact K2_lim e (hK _)
    · exact K2_lim e (hK _)
    · simp at e
  · simp at e
 | field t x f =>
  simp only [evOp, hop] at e ⊢
  split at e
  · exact K2_lim e (hK _)
  · simp at e
 | indexAddr t x i =>
  simp only [evOp, hop] at e ⊢
  split at e
  · exact indexAddrK_lim (fun y e => hK _ e) e
  · simp at e
 | slice t x lo hi mx =>
  simp only [evOp, hop] at e ⊢
  cases mx with
  | none =>
   simp only at e ⊢
   split at e
   · exact sliceK_lim (fun y e => hK _ e) e
   · simp at e
  | some y =>
   simp only at e ⊢
   split at e
   · unfold slice3K at e ⊢
     split at e
     · split at e
       · exact K2_lim e fun e => K2_lim e (hK _)
       · simp at e
     · simp at e
   · simp at e
 | index t x i =>
  simp only [evOp, hop] at e ⊢
  split at e
  · exact K2_lim e (hK _)
  · simp at e
 | extract x k =>
  simp only [evOp, hop] at e ⊢
  split at e
  · exact K2_lim e (hK _)
  · simp at e
 | makeFunc fn first caps =>
  simp only [evOp, hop] at e ⊢
  split at e
  · exact K2_lim e (hK _)
  · simp at e
 | build t parts =>
  simp only [evOp, hop] at e ⊢
  split at e
  · split at e
    · split at e
      · exact K2_lim e (hK _)
      · simp at e
    · simp at e
  · simp at e
 | buildSlice t len parts =>
  simp only [evOp, hop] at e ⊢
  split at e
  · refine K2_lim e fun e => ?_
    split at e
    · exact hK _ e
    · simp at e
  · simp at e
 | makeSlice t l c =>
  simp only [evOp, hop] at e ⊢
  split at e
  · exact K2_lim e (hK _)
  · simp at e
 | call c => simp only [evOp, hop] at e ⊢; exact opCall_lim hΓ hK e
 | _ => simp [evOp, hop] at e
theorem evOps_lim {C : Cfg} {Γ : Orc} {Γ' : Nat → Orc} {ops : Array Oper} (hΓ : LimO Γ Γ') : ∀ (l : List Nat) {st : St} {K : St → Option R} {K' : Nat → St → Option R'}, LimK K K' r r' → evOps P C Γ ops l st K = some r → Ev fun k => evOps P C (Γ' k) ops l st (K' k) = some r' := by
 intro l
 induction l with
 | nil => intro st K K' hK e; exact hK _ e
 | cons i rest ih =>
  intro st K K' hK e
  unfold evOps at e ⊢
  split at e
  · exact ih hK e
  · split at e
    · exact evOp_lim hΓ (fun st' e' => ih hK e') e
    · rename_i j want hg
      split at e
      · split at e
        · rename_i x _
          cases x with
          | true =>
           cases want with
           | true => simp only [cond_true, cond_false] at e ⊢; exact evOp_lim hΓ (fun st' e' => ih hK e') e
           | false => exact ih hK e
          | false =>
           cases want with
           | true => exact ih hK e
           | false => simp only [cond_true, cond_false] at e ⊢; exact evOp_lim hΓ (fun st' e' => ih hK e') e
        · exact ih hK e
        · simp at e
      · simp at e
theorem allOf_lim {F : Nat → Option R} {F' : Nat → Nat → Option R'} : ∀ (l : List Nat), (∀ i, F i = some r → Ev fun k => F' k i = some r') → allOf F l = some r → Ev fun k => allOf (F' k) l = some r' := by
 intro l
 induction l with
 | nil => intro _ e; simp [allOf] at e
 | cons i l ih =>
  intro h e
  cases l with
  | nil => exact h i e
  | cons j l =>
   simp only [allOf, and2] at e ⊢
   by_cases hx : F i = allOf F (j :: l)
   · simp only [hx, decide_true, cond_true] at e
     refine ((h i (hx.trans e)).and (ih h e)).mono fun k ⟨h1, h2⟩ => ?_
     rw [h1, h2]; simp
   · simp [hx] at e
theorem evDraw_lim {C : Cfg} {Γ : Orc} {Γ' : Nat → Orc} {ops : Array Oper} {K : St → Option R} {K' : Nat → St → Option R'} (hΓ : LimO Γ Γ') (hK : LimK K K' r r') : ∀ (n : Nat) (listed : Array Bool) (batch : List Nat) (st : St), evDraw P C Γ ops K n listed batch st = some r →
  Ev fun k => evDraw P C (Γ' k) ops (K' k) n listed batch st = some r' := by
 intro n
 induction n with
 | zero =>
  intro listed batch st e
  cases batch with
  | cons i rest => simp [evDraw] at e
  | nil =>
   simp only [evDraw] at e ⊢
   split at e
   · exact hK _ e
   · simp at e
 | succ n ih =>
  intro listed batch st e
  have rd : ∀ (i : Nat) (rest : List Nat), (match ops[i]? with
    | some o => K2 (rdArgs P st o) (evOp P C Γ o st (fun st' => evDraw P C Γ ops K n (listed.setIfInBounds i true) rest st'))
    | none => none) = some r → Ev fun k => (match ops[i]? with
    | some o => K2 (rdArgs P st o) (evOp P C (Γ' k) o st (fun st' => evDraw P C (Γ' k) ops (K' k) n (listed.setIfInBounds i true) rest st'))
    | none => none) = some r' := fun i rest e => by
   split at e
   · obtain ⟨hk, e⟩ := K2_some e
     simp only [K2_true hk]
     exact evOp_lim hΓ (fun st' e' => ih _ _ st' e') e
   · simp at e
  cases batch with
  | cons i rest => simp only [evDraw] at e ⊢; exact rd i rest e
  | nil =>
   simp only [evDraw] at e ⊢
   split at e
   · exact hK _ e
   · split at e
     · exact evOps_lim hΓ _ (fun st' e' => ih _ _ st' e') e
     · split at e
       · exact rd _ _ e
       · exact allOf_lim _ (fun i e' => evOps_lim hΓ _ (fun st' e'' => ih _ _ st' e'') e') e
def LimE (K : Ex → St → Option R) (K' : Nat → Ex → St → Option R') (r : R) (r' : R') : Prop := ∀ ex st, K ex st = some r → Ev fun k => K' k ex st = some r'
theorem evL_lim {F : Foc} {body : (Ex → St → Option R) → St → Option R} {body' : Nat → (Ex → St → Option R') → St → Option R'} {K : Ex → St → Option R} {K' : Nat → Ex → St → Option R'}
  (hb : ∀ (K1 : Ex → St → Option R) (K2 : Nat → Ex → St → Option R') (st : St), LimE K1 K2 r r' → body K1 st = some r → Ev fun k => body' k (K2 k) st = some r') (hK : LimE K K' r r') : ∀ (n : Nat) (M : Nat → Nat) {st : St}, (Ev fun k => n ≤ M k) → evL F body K n st = some r → Ev fun k => evL F (body' k) (K' k) (M k) st = some r' := by
 intro n
 induction n with
 | zero => intro M st _ e; simp [evL] at e
 | succ n ih =>
  intro M st hM e
  simp only [evL] at e
  split at e
  · rename_i st1 hf
    have h1 := hb _ (fun k e st'' => match e with
      | .normal => evL F (body' k) (K' k) (M k - 1) st''
      | e => K' k e st'') _ (fun ex st' e' => by
     cases ex with
     | normal => exact ih (fun k => M k - 1) (hM.mono fun k h => by omega) e'
     | exit id => exact hK _ _ e'
     | ret => exact hK _ _ e') e
    refine (h1.and hM).mono fun k ⟨h2, h3⟩ => ?_
    obtain ⟨m, hm⟩ : ∃ m, M k = m + 1 := ⟨M k - 1, by omega⟩
    rw [hm] at h2 ⊢
    simp only [evL, hf]
    exact h2
  · simp at e
theorem cutK_lim {C : Cfg} {f id : Nat} {K : Ex → St → Option R} {K' : Nat → Ex → St → Option R'} (hK : LimE K K' r r') {st : St} (e : cutK C f id K st = some r) : Ev fun k => cutK C f id (K' k) st = some r' := by
 unfold cutK at e ⊢
 cases hc : C.cut f id with
 | false => rw [hc] at e; exact hK _ _ e
 | true =>
  rw [hc] at e
  simp only [cond_true] at e ⊢
  split at e
  · rename_i st' hf
    exact hK _ _ e
  · simp at e
theorem evC_lim {C : Cfg} {Γ : Orc} {Γ' : Nat → Orc} {N f : Nat} {M : Nat → Nat} (hΓ : LimO Γ Γ') (hM : Ev fun k => N ≤ M k) : ∀ (cd : Code) {st : St} {K : Ex → St → Option R} {K' : Nat → Ex → St → Option R'}, LimE K K' r r' → evC P C Γ N f cd K st = some r →
  Ev fun k => evC P C (Γ' k) (M k) f cd (K' k) st = some r' := by
 intro cd
 induction cd with
 | skip => intro st K K' hK e; exact hK _ _ e
 | label l => intro st K K' hK e; exact hK _ _ e
 | exit id => intro st K K' hK e; exact hK _ _ e
 | ret => intro st K K' hK e; exact hK _ _ e
 | region id ops draw =>
  intro st K K' hK e
  cases draw with
  | true =>
   simp only [evC] at e ⊢
   obtain ⟨hk, e⟩ := K2_some e
   refine (evDraw_lim hΓ (fun st' e' => cutK_lim hK e') _ _ _ _ e).mono fun k h => ?_
   rw [K2_true hk]; exact h
  | false => exact evOps_lim hΓ _ (fun st' e' => cutK_lim hK e') e
 | seq x y ihx ihy =>
  intro st K K' hK e
  refine ihx (fun ex st' e' => ?_) e
  cases ex with
  | normal => exact ihy hK e'
  | exit id => exact hK _ _ e'
  | ret => exact hK _ _ e'
 | cond c x y ihx ihy =>
  intro st K K' hK e
  simp only [evC] at e ⊢
  split at e
  · rename_i b _
    cases b with
    | true => exact ihx hK e
    | false => exact ihy hK e
  · simp at e
 | block id x ih =>
  intro st K K' hK e
  refine ih (fun ex st' e' => ?_) e
  cases ex with
  | normal => exact hK _ _ e'
  | exit k =>
   simp only at e' ⊢
   cases hb : Nat.beq k id with
   | true => rw [hb] at e'; exact hK _ _ e'
   | false => rw [hb] at e'; exact hK _ _ e'
  | ret => exact hK _ _ e'
 | loop x ih =>
  intro st K K' hK e
  exact evL_lim (body := fun K' => evC P C Γ N f x K') (body' := fun k K' => evC P C (Γ' k) (M k) f x K') (fun K1 K2 st h1 e1 => ih h1 e1) hK N M hM e
 | _ => intro st K K' hK e; simp [evC] at e
theorem evC_lin {C : Cfg} {Γ : Orc} {N f : Nat} {cd : Code} {st : St} {K : Ex → St → Option R} (e : evC P C Γ N f cd K st = some r) : ∃ ex st', K ex st' = some r := by
 by_cases h : ∃ ex st', K ex st' = some r
 · exact h
 · have hno : ∀ (b : Bool), Ev fun _ => evC P C Γ N f cd (fun _ _ => (none : Option Bool)) st = some b := fun b =>
    evC_lim (Γ' := fun _ => Γ) (M := fun _ => N) (K' := fun _ _ _ => none) (fun f a e x hx => .of fun _ => hx) (.of fun _ => Nat.le_refl _) cd (fun ex st' e' => absurd ⟨ex, st', e'⟩ h) e
   obtain ⟨k0, h0⟩ := hno true
   obtain ⟨k1, h1⟩ := hno false
   have a := h0 k0 (Nat.le_refl _)
   have b := h1 k1 (Nat.le_refl _)
   rw [a] at b
   simp at b
end
end Go.Fw
namespace Go.Fw
variable [Tok]
theorem asA_ow (y : AV) (j : Nat) : ∃ z : AV, asA y.ow j = z.ow := by
 cases y with
 | ag sz g =>
  by_cases hj : j < sz
  · exact ⟨g j, tabG_lt hj⟩
  · exact ⟨.bad, tabG_ge hj⟩
 | nbx sz g =>
  by_cases hj : j < sz
  · exact ⟨g j, tabG_lt hj⟩
  · exact ⟨.bad, tabG_ge hj⟩
 | tup sz g =>
  by_cases hj : j < sz
  · exact ⟨g j, tabG_lt hj⟩
  · exact ⟨.bad, tabG_ge hj⟩
 | _ => exact ⟨.bad, rfl⟩
theorem likeE_norm (e y : AV) : e.likeE (e.likeE y.ow) = e.likeE y.ow ∧ (e.likeE y.ow).ow = e.likeE y.ow := by
 cases e with
 | own n sz g =>
  refine ⟨?_, ?_⟩
  · have h1 := like_like (.own n sz g) y.ow
    simp only [AV.like, asN, asG] at h1
    simp only [AV.likeE, asG]
    have h2 := congrArg asG h1
    simp only [asG] at h2
    rw [h2]
  · have h1 := like_ow (.own n sz g) y
    simp only [AV.like, AV.ow] at h1
    have h2 := congrArg asG h1
    simp only [asG] at h2
    show AV.own n sz (fun i => tabG sz (fun j => (tabG sz (fun j => (g 0 j).like (asG y.ow i j)) j).ow)) = AV.own n sz (fun i => tabG sz (fun j => (g 0 j).like (asG y.ow i j)))
    exact congrArg _ h2
 | nbx sz g =>
  have h1 : ∀ j, ((g j).like (asA y.ow j)).ow = (g j).like (asA y.ow j) := fun j => by
   obtain ⟨z, hz⟩ := asA_ow y j
   rw [hz]; exact like_ow _ _
  refine ⟨?_, ?_⟩
  · simp only [AV.likeE, asA]
    congr 1; exact tabG_congr fun j hj => by rw [tabG_lt hj]; exact like_like _ _
  · simp only [AV.likeE, AV.ow]
    congr 1; exact tabG_congr fun j hj => by rw [tabG_lt hj]; exact h1 j
 | _ => exact ⟨rfl, rfl⟩
theorem likeL_norm : ∀ (es ys : List AV), es.length = ys.length → (likeL es (ys.map AV.ow)).length = es.length ∧ likeL es (likeL es (ys.map AV.ow)) = likeL es (ys.map AV.ow) ∧ ∀ x, x ∈ likeL es (ys.map AV.ow) → x.ow = x := by
 intro es
 induction es with
 | nil => intro ys _; exact ⟨rfl, rfl, fun x hx => by simp [likeL] at hx⟩
 | cons e es ih =>
  intro ys h
  cases ys with
  | nil => simp at h
  | cons y ys =>
   obtain ⟨h1, h2, h3⟩ := ih ys (by simpa using h)
   obtain ⟨n1, n2⟩ := likeE_norm e y
   refine ⟨by simp [likeL, h1], by simp [likeL, n1, h2], fun x hx => ?_⟩
   rcases List.mem_cons.1 hx with rfl | hx
   · exact n2
   · exact h3 x hx
theorem likeG_norm (giv : Bool) (es ys : List AV) (h : es.length = ys.length) : (likeG giv es (ys.map AV.ow)).length = es.length ∧ likeG giv es (likeG giv es (ys.map AV.ow)) = likeG giv es (ys.map AV.ow) ∧ ∀ x, x ∈ likeG giv es (ys.map AV.ow) → x.ow = x := by
 cases giv with
 | true => exact ⟨by simp [likeG], rfl, fun x hx => by simp [likeG] at hx; obtain ⟨_, _, rfl⟩ := hx; rfl⟩
 | false => exact likeL_norm es ys h
section
variable {P : Program}
theorem tupAV_TR {sh : AV → Value → Prop} {gh : Gh} {ar : ArT} {bx : BxT} {w : World} {l : List AV} {vs : List Value} (h2 : vs.length = l.length) (h3 : ∀ j, j < l.length → TR sh gh ar bx w (lstG l j) (vs.getD j undef)) :
  TR sh gh ar bx w (tupAV l) (if h : vs.toArray.size = 1 then vs.toArray[0] else .tuple vs.toArray) := by
 match l, vs, h2, h3 with
 | [], [], _, _ => exact ⟨#[], rfl, rfl, fun j hj => absurd hj (by simp)⟩
 | [y], [v], _, h3 => exact h3 0 (by simp)
 | y :: z :: l, u :: v :: vs, h2, h3 =>
  have hn : ¬ (u :: v :: vs).toArray.size = 1 := by simp
  rw [dif_neg hn]
  refine ⟨_, rfl, by simpa using h2, fun j hj => ?_⟩
  have e1 : (u :: v :: vs).toArray.getD j undef = (u :: v :: vs).getD j undef := by simp [Array.getD_eq_getD_getElem?, List.getD_eq_getElem?_getD]
  rw [e1]; exact h3 j (by simpa using hj)
theorem finish_sound {giv : Bool} {c : Cx} {gh : Gh} {nt : Nat} {st : St} {a : Act} {w w1 : World} {ok1 : Cells} (ht1 : RS w1 ok1 (.gv Tok.bs) Tok.val) {fn : Func} {exts : List AV} {r : AV × List AV} {hv : Nat → Value} (hlim : exts.length ≤ c.lim) (hn : ∀ i x, exts[i]? = some x → NameOk c hv (0 + i) x)
  (h : Inv c gh nt st a w) (e : finish P giv fn exts st = some r) :
  ∃ (v : Value) (F : Cells) (Fe : Nat → Cells), (results fn a.tmps).run P w = .ok v w ∧ r.2.length = exts.length ∧ RR w (RS w1 ok1) (vwR P fn.resultTypes.toList r.1).ow v F ∧
   (∀ i x, (likeG giv exts (r.2.map AV.ow))[i]? = some x → RV w c.sh x (hv i) (Fe i)) ∧ (∀ i m b o, i < r.2.length → m < r.2.length → i ≠ m → Fe i b o → ¬ Fe m b o) ∧
   (∀ i b o, i < r.2.length → Fe i b o → ¬ F b o) ∧ (∀ i b o, i < r.2.length → Fe i b o → b < w.heap.size ∧ (b < c.w0.heap.size → c.M b o)) ∧ ∀ b o, F b o → b < w.heap.size ∧ (b < c.w0.heap.size → c.M b o) := by
 unfold finish at e
 split at e
 · rename_i l hl
   obtain ⟨vs, h1, h2, h3⟩ := resOf_sound h _ hl
   split at e
   · rename_i y st' ht
     cases hok : okR P fn.resultTypes.toList y with
     | false => rw [hok] at e; simp at e
     | true =>
      rw [hok] at e
      simp only [cond_true] at e
      split at e
      · rename_i es he
        simp only [Option.some.injEq] at e
        subst e
        obtain ⟨v, hv1, hv2⟩ : ∃ v, (results fn a.tmps).run P w = .ok v w ∧ TR c.sh gh st.ar st.bx w (tupAV l) v := by
         have hm : (fn.results.mapM (resF a.tmps)).run P w = .ok vs.toArray w := by
          rw [Array.mapM_eq_mapM_toList]
          simp only [map_eq_pure_bind, Sem.run_bind, h1, Result.andThen_ok, Sem.run_pure]
         refine ⟨if h : vs.toArray.size = 1 then vs.toArray[0] else .tuple vs.toArray, ?_, tupAV_TR h2 h3⟩
         rw [results_eq]
         simp only [Sem.run_bind]
         rw [hm]
         simp only [Result.andThen_ok, Sem.run_pure]
        obtain ⟨gh1, F, hT, hrr⟩ := takeR_sound (FL := fun _ _ => False) h .none hv2 ht
        cases giv with
        | true =>
         simp only [exOutG, cond_true, Option.some.injEq] at he
         subst he
         refine ⟨v, F, fun _ _ _ => False, hv1, by simp, RR_ow ht1 (vwR_RR hok hrr), fun i x hi => ?_, fun _ _ _ _ _ _ _ h => h.elim, fun _ _ _ _ h => h.elim, fun _ _ _ _ h => h.elim, fun b o hb => (hT.free b o (.inr hb)).2⟩
         have : x = .bad := by
          simp only [likeG, cond_true, List.getElem?_map, Option.map_eq_some_iff] at hi
          obtain ⟨_, _, rfl⟩ := hi; rfl
         subst this; trivial
        | false =>
        simp only [exOutG, cond_false] at he
        obtain ⟨q1, Fe, q4, q5, q6, q7⟩ := exOut_sound (FL := F) exts (k := 0) (by omega) hT.inv (hT.free.mono fun x y hx => .inr hx) he hn
        refine ⟨v, F, Fe, hv1, q1, RR_ow ht1 (vwR_RR hok hrr), fun i x hi => ?_, q5, q6, q7, fun b o hb => (hT.free b o (.inr hb)).2⟩
        have := q4 i x hi
        rwa [Nat.zero_add] at this
      · simp at e
   · simp at e
 · simp at e
theorem evB_con {C : Cfg} {Γ : Orc} {N f : Nat} {fn : Func} {cd : Code} {args exts : List AV} {r : AV × List AV} (hΓ : OrcOk P C Γ) (hf : P.funcs[f]? = some fn) (hb : fn.body = some cd) (hd : dstOk fn.ntmps cd = true) (hl : args.length ≤ fn.ntmps)
  (e : evB P C Γ N f fn cd args exts = some r) : Con P f args exts r.1 r.2 := by
 unfold evB at e
 intro w M hv Fe vs ht0 h64 hk hH hM hs ha
 obtain ⟨c, gh, hw0, hcM, hlim, hn, hI⟩ := init_inv ht0 h64 hk hH hM hs hl ha
 refine calls_of_wp hf hb ?_
 refine evC_sound hΓ cd _ gh _ _ w _ hd hI e fun ex st' gh' a' w' h' e' => ?_
 have key : (finish P (C.give f) fn exts st').bind (norm P (C.give f) fn exts) = some r → a'.defers = [] ∧ ∃ v, (results fn a'.tmps).run P w' = .ok v w' ∧ (∃ v', Ending.returned v = .returned v' ∧ Chg w w' M ∧ ∃ F Fe', RR w' (RS w (okOf w M)) r.1 v' F ∧
   Handed w' (RS w (okOf w M)) (fun b o => b < w'.heap.size ∧ (b < w.heap.size → M b o)) r.2 hv Fe' ∧ (∀ b o, F b o → b < w'.heap.size ∧ (b < w.heap.size → M b o)) ∧ ∀ k b o, k < r.2.length → Fe' k b o → ¬ F b o) := by
  intro e'
  obtain ⟨r0, e1, en⟩ := Option.bind_eq_some_iff.1 e'
  unfold norm at en
  obtain ⟨hlen, en⟩ := K2_some en
  have hr := (Option.some.inj en).symm
  clear en e' e
  subst hr
  dsimp only
  obtain ⟨v, F, Fe', q1, q2, q3, q4, q5, q6, q7, q8⟩ := finish_sound (w1 := w) (ok1 := okOf w M) ht0 (by rw [hlim]; exact h64) hn h' e1
  have hll := (likeG_norm (C.give f) exts r0.2 q2.symm).1
  rw [← q2] at hll
  have hsh : c.sh = RS w (okOf w M) := by
   show RS c.w0 c.ok = _
   have : c.ok = okOf w M := by
    funext b o
    show (b < c.w0.heap.size ∧ ¬ c.M b o) = _
    rw [hw0, hcM]; rfl
   rw [this, hw0]
  rw [hsh] at q4
  rw [hw0, hcM] at q7 q8
  have hio : Io w w' := by have := h'.mem.io; rw [hw0] at this; exact this
  refine ⟨h'.defers, v, q1, v, rfl, ⟨?_, fun b o hb hm => ?_, fun b hb hm => ?_, hio⟩, F, Fe', q3, ⟨q4, fun k m b o hk hm => q5 k m b o (by omega) (by omega), fun k b o hk hb => q7 k b o (by omega) hb⟩, q8, fun k b o hk hb => q6 k b o (by omega) hb⟩
  · have := h'.mem.grow; rw [hw0] at this; exact this
  · have := h'.mem.keep b o (by rw [hw0]; exact hb) (by rw [hcM]; exact hm); rw [hw0] at this; exact this
  · have := h'.mem.keepB b (by rw [hw0]; exact hb) (by rw [hcM]; exact hm); rw [hw0] at this; exact this
 cases ex with
 | normal => exact key (by rw [← finishN_eq]; exact e')
 | ret => exact key (by rw [← finishN_eq]; exact e')
 | exit id => simp at e'
theorem evS_ok {C : Cfg} {Γ : Orc} {k : Nat} (ih : OrcOk P C Γ) : OrcOk P C (evS P C Γ k) := by
  have open_ : ∀ f args exts r, evS P C Γ k f args exts = some r → ∃ fn cd, P.funcs[f]? = some fn ∧ fn.body = some cd ∧ (dstOk fn.ntmps cd && Nat.ble args.length fn.ntmps && !(fn.name == "runtime.NumGoroutine")) = true ∧ evB P C Γ k f fn cd args exts = some r := by
   intro f args exts r e
   simp only [evS] at e
   split at e
   · rename_i fn hf
     split at e
     · rename_i cd hb
       obtain ⟨h1, h2⟩ := K2_some e
       exact ⟨fn, cd, hf, hb, h1, h2⟩
     · simp at e
   · simp at e
  have norm_ : ∀ f fn cd args exts r, evB P C Γ k f fn cd args exts = some r → ∃ r0 : AV × List AV, r0.2.length = exts.length ∧ r = ((vwR P fn.resultTypes.toList r0.1).ow, likeG (C.give f) exts (r0.2.map AV.ow)) := by
   intro f fn cd args exts r e
   unfold evB at e
   obtain ⟨ex, st', e⟩ := evC_lin e
   have key : (finish P (C.give f) fn exts st').bind (norm P (C.give f) fn exts) = some r → ∃ r0 : AV × List AV, r0.2.length = exts.length ∧ r = ((vwR P fn.resultTypes.toList r0.1).ow, likeG (C.give f) exts (r0.2.map AV.ow)) := fun e => by
    obtain ⟨r0, e0, e⟩ := Option.bind_eq_some_iff.1 e
    unfold norm at e
    obtain ⟨hlen, e⟩ := K2_some e
    exact ⟨r0, beq_eq.1 hlen, (Option.some.inj e).symm⟩
   cases ex with
   | normal => exact key (by rw [← finishN_eq]; exact e)
   | ret => exact key (by rw [← finishN_eq]; exact e)
   | exit id => simp at e
  refine ⟨fun f args exts r e => ?_, fun f args exts r e => ?_, fun f fn args exts r e hfn => ?_, fun f args exts r e => ?_, fun f args exts r e => ?_⟩
  · obtain ⟨fn, cd, hf, hb, h1, h2⟩ := open_ f args exts r e
    simp only [Bool.and_eq_true, Bool.not_eq_true'] at h1
    exact ⟨fn, hf, by rw [hb]; rfl, h1.2⟩
  · obtain ⟨fn, cd, hf, hb, h1, h2⟩ := open_ f args exts r e
    simp only [Bool.and_eq_true, Bool.not_eq_true'] at h1
    exact evB_con ih hf hb h1.1.1 (Nat.le_of_ble_eq_true h1.1.2) h2
  · obtain ⟨fn', cd, hf, hb, h1, h2⟩ := open_ f args exts r e
    rw [hf] at hfn
    obtain rfl := Option.some.inj hfn
    obtain ⟨r0, _, rfl⟩ := norm_ f _ cd args exts r h2
    exact vwR_ow _ _
  · obtain ⟨fn', cd, hf, hb, h1, h2⟩ := open_ f args exts r e
    obtain ⟨r0, hl, rfl⟩ := norm_ f _ cd args exts r h2
    exact ⟨ow_ow _, (likeG_norm _ exts r0.2 hl.symm).2.2⟩
  · obtain ⟨fn', cd, hf, hb, h1, h2⟩ := open_ f args exts r e
    obtain ⟨r0, hl, rfl⟩ := norm_ f _ cd args exts r h2
    exact ⟨(likeG_norm _ exts r0.2 hl.symm).1, (likeG_norm _ exts r0.2 hl.symm).2.1⟩
theorem RS_nil {w : World} {ok : Cells} {n sz : Nat} {g : Nat → Nat → AV} {v : Value} (h : RS w ok (.sl n sz g) v) : (n = 0 ∧ RS w ok (.nsl sz g) v) ∨ RS w ok (.sln n sz g) v := by
 obtain ⟨A, cap, rfl, ⟨h1, h2⟩, h3⟩ := h
 cases A with
 | none =>
  obtain rfl := h2 rfl
  obtain rfl : n = 0 := by omega
  exact .inl ⟨rfl, rfl⟩
 | some x => exact .inr ⟨x, cap, rfl, h1, h3⟩
theorem clO_ok {C : Cfg} {Γ : Orc} (h : OrcOk P C Γ) : OrcOk P C (clO C Γ) := by
 have open_ : ∀ f args exts r, clO C Γ f args exts = some r → Γ f args exts = some r ∨ ∃ n sz g, args = [.sl n sz g] ∧ Γ f [.sln n sz g] exts = some r ∧ (n = 0 → Γ f [.nsl sz g] exts = some r) := by
  intro f args exts r e
  unfold clO at e
  cases hc : C.nil f with
  | false => rw [hc] at e; exact .inl e
  | true =>
   rw [hc] at e
   simp only [cond_true] at e
   split at e
   · rename_i n sz g
     split at e
     · rename_i r' hr'
       split at e
       · rename_i hn
         obtain rfl := Option.some.inj e
         exact .inr ⟨n, sz, g, rfl, hr', hn⟩
       · simp at e
     · simp at e
   · exact .inl e
 refine ⟨fun f args exts r e => ?_, fun f args exts r e => ?_, fun f fn args exts r e hfn => ?_, fun f args exts r e => ?_, fun f args exts r e => ?_⟩
 · rcases open_ f args exts r e with e | ⟨n, sz, g, rfl, e, _⟩ <;> exact h.fn f _ exts r e
 · rcases open_ f args exts r e with e | ⟨n, sz, g, rfl, e, e0⟩
   · exact h.con f _ exts r e
   · intro w M hv Fe vs h0' h1 h2 h3 h4 h5 h6
     have hx : RS w (okOf w M) (.sl n sz g) (vs.getD 0 undef) := h6 0 (by simp)
     rcases RS_nil hx with ⟨hn, hx⟩ | hx
     · refine h.con f _ exts r (e0 hn) w M hv Fe vs h0' h1 h2 h3 h4 h5 fun j hj => ?_
       obtain rfl : j = 0 := by simpa using hj
       exact hx
     · refine h.con f _ exts r e w M hv Fe vs h0' h1 h2 h3 h4 h5 fun j hj => ?_
       obtain rfl : j = 0 := by simpa using hj
       exact hx
 · rcases open_ f args exts r e with e | ⟨n, sz, g, rfl, e, _⟩ <;> exact h.res f fn _ exts r e hfn
 · rcases open_ f args exts r e with e | ⟨n, sz, g, rfl, e, _⟩ <;> exact h.ow f _ exts r e
 · rcases open_ f args exts r e with e | ⟨n, sz, g, rfl, e, _⟩ <;> exact h.exts f _ exts r e
theorem xO_ok {C : Cfg} {Γ : Orc} (hx : OrcOk P C C.outO) (h : OrcOk P C Γ) : OrcOk P C (xO C Γ) := by
 have open_ : ∀ f args exts r, xO C Γ f args exts = some r → C.outO f args exts = some r ∨ Γ f args exts = some r := by
  intro f args exts r e
  unfold xO at e
  cases hc : C.outF f with
  | false => rw [hc] at e; exact .inr e
  | true => rw [hc] at e; exact .inl e
 refine ⟨fun f args exts r e => ?_, fun f args exts r e => ?_, fun f fn args exts r e hfn => ?_, fun f args exts r e => ?_, fun f args exts r e => ?_⟩
 · rcases open_ f args exts r e with e | e <;> first | exact hx.fn f _ exts r e | exact h.fn f _ exts r e
 · rcases open_ f args exts r e with e | e <;> first | exact hx.con f _ exts r e | exact h.con f _ exts r e
 · rcases open_ f args exts r e with e | e <;> first | exact hx.res f fn _ exts r e hfn | exact h.res f fn _ exts r e hfn
 · rcases open_ f args exts r e with e | e <;> first | exact hx.ow f _ exts r e | exact h.ow f _ exts r e
 · rcases open_ f args exts r e with e | e <;> first | exact hx.exts f _ exts r e | exact h.exts f _ exts r e
theorem evF_ok (P : Program) (C : Cfg) (hx : OrcOk P C C.outO) : ∀ k, OrcOk P C (evF P C k) := by
 intro k
 induction k with
 | zero => exact ⟨fun _ _ _ _ h => by simp [evF] at h, fun _ _ _ _ h => by simp [evF] at h, fun _ _ _ _ _ h => by simp [evF] at h, fun _ _ _ _ h => by simp [evF] at h, fun _ _ _ _ h => by simp [evF] at h⟩
 | succ k ih => exact xO_ok hx (clO_ok (evS_ok ih))
end
end Go.Fw
namespace Go.Fw
section
variable {P : Program} {C : Cfg}
open Classical in
noncomputable def ev (P : Program) (C : Cfg) : Orc := fun f args exts =>
 if h : ∃ r, Ev fun k => evF P C k f args exts = some r then some (Classical.choose h) else none
theorem ev_of {f : Nat} {args exts : List AV} {r : AV × List AV} (h : Ev fun k => evF P C k f args exts = some r) : ev P C f args exts = some r := by
 have hx : ∃ r, Ev fun k => evF P C k f args exts = some r := ⟨r, h⟩
 unfold ev
 rw [dif_pos hx]
 obtain ⟨k0, h0⟩ := (Classical.choose_spec hx).and h
 have h1 := (h0 k0 (Nat.le_refl _)).1
 have h2 := (h0 k0 (Nat.le_refl _)).2
 exact h1.symm.trans h2
theorem ev_lim : LimO (ev P C) (fun k => evF P C k) := by
 intro f a e x h
 unfold ev at h
 split at h
 · rename_i hx
   obtain rfl := Option.some.inj h
   exact Classical.choose_spec hx
 · simp at h
def isSl : List AV → Bool | [.sl _ _ _] => true | _ => false
theorem clO_dir {Γ : Orc} {f : Nat} {args exts : List AV} (h : (C.nil f && isSl args) = false) : clO C Γ f args exts = Γ f args exts := by
 unfold clO
 cases hc : C.nil f with
 | false => rfl
 | true =>
  rw [hc] at h
  simp only [cond_true]
  split
  · simp [isSl] at h
  · rfl
theorem xO_dir {Γ : Orc} {f : Nat} {args exts : List AV} (h : C.outF f = false) : xO C Γ f args exts = Γ f args exts := by
 unfold xO; rw [h]; rfl
theorem ev_out {f : Nat} {args exts : List AV} {r : AV × List AV} (h : C.outF f = true) (e : C.outO f args exts = some r) : ev P C f args exts = some r := by
 refine ev_of ⟨1, fun k hk => ?_⟩
 obtain ⟨m, rfl⟩ : ∃ m, k = m + 1 := ⟨k - 1, by omega⟩
 simp only [evF, xO, h, cond_true]
 exact e
theorem ev_intro {N f : Nat} {fn : Func} {cd : Code} {args exts : List AV} {r : AV × List AV} (hf : P.funcs[f]? = some fn) (hb : fn.body = some cd) (hk : (dstOk fn.ntmps cd && Nat.ble args.length fn.ntmps && !(fn.name == "runtime.NumGoroutine")) = true)
  (hn0 : (C.nil f && isSl args || C.outF f) = false)
  (e : evB P C (ev P C) N f fn cd args exts = some r) : ev P C f args exts = some r := by
 obtain ⟨hn, ho⟩ := Bool.or_eq_false_iff.1 hn0
 refine ev_of ?_
 have h := evC_lim (r' := r) (M := fun k => k) (K' := fun _ e st => match e with
  | .exit _ => none
  | _ => finishN P (C.give f) fn exts st) ev_lim ⟨N, fun k h => h⟩ cd (fun ex st h => .of fun _ => h) e
 obtain ⟨k0, h0⟩ := h
 refine ⟨k0 + 1, fun k hk' => ?_⟩
 obtain ⟨m, rfl⟩ : ∃ m, k = m + 1 := ⟨k - 1, by omega⟩
 simp only [evF]
 rw [xO_dir ho, clO_dir hn]
 simp only [evS, hf, hb]
 rw [K2_true hk]
 exact h0 m (by omega)
theorem ev_con [Tok] (hx : OrcOk P C C.outO) {f : Nat} {args exts : List AV} {r : AV × List AV} (h : ev P C f args exts = some r) : Con P f args exts r.1 r.2 := by
 obtain ⟨k0, h0⟩ := ev_lim f args exts r h
 exact (evF_ok P C hx k0).con f args exts r (h0 k0 (Nat.le_refl _))
end
end Go.Fw
