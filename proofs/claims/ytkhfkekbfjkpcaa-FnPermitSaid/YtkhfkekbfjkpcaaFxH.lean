/- The by-value interpreter goes along with its continuation and its oracle: monotone, continuous, linear. -/
import Derived.Test.YtkhfkekbfjkpcaaFwI
set_option linter.unusedVariables false
set_option linter.unusedSectionVars false
set_option linter.unusedSimpArgs false
namespace Go.Fw

section
variable {P : Program} {R R' : Type} {r : R} {r' : R'}

/-- From some number on. -/
def Ev (p : Nat → Prop) : Prop := ∃ k0, ∀ k, k0 ≤ k → p k
theorem Ev.of {p : Nat → Prop} (h : ∀ k, p k) : Ev p := ⟨0, fun k _ => h k⟩
theorem Ev.and {p q : Nat → Prop} (h : Ev p) (h' : Ev q) : Ev fun k => p k ∧ q k := by
  obtain ⟨a, ha⟩ := h
  obtain ⟨b, hb⟩ := h'
  exact ⟨max a b, fun k hk => ⟨ha k (by omega), hb k (by omega)⟩⟩
theorem Ev.mono {p q : Nat → Prop} (h : Ev p) (hq : ∀ k, p k → q k) : Ev q := h.imp fun a ha k hk => hq k (ha k hk)

theorem K2_true {c : Bool} {x : Option R} (h : c = true) : K2 c x = x := by subst h; rfl

def LimO (Γ : Orc) (Γ' : Nat → Orc) : Prop := ∀ f a e x, Γ f a e = some x → Ev fun k => Γ' k f a e = some x
def LimK {S : Type} (K : S → Option R) (K' : Nat → S → Option R') (r : R) (r' : R') : Prop := ∀ st, K st = some r → Ev fun k => K' k st = some r'

theorem binK_lim {op : BinOp} {t : TypeId} {x y : AV} {K : AV → Option R} {K' : Nat → AV → Option R'} (hK : LimK K K' r r') (e : binK P op t x y K = some r) : Ev fun k => binK P op t x y (K' k) = some r' := by
  unfold binK at e ⊢
  split at e
  all_goals first
    | (simp at e; done)
    | (obtain ⟨hc, e⟩ := K2_some e; exact (hK _ e).mono fun k h => by rw [K2_true hc]; exact h)
    | exact hK _ e
    | (split at e
       · rename_i hu; exact (hK _ e).mono fun k h => h
       · simp at e)

theorem K2_lim {c : Bool} {x : Option R} {x' : Nat → Option R'} (e : K2 c x = some r) (h : x = some r → Ev fun k => x' k = some r') : Ev fun k => K2 c (x' k) = some r' := by
  obtain ⟨hc, e⟩ := K2_some e
  exact (h e).mono fun k h => by rw [K2_true hc]; exact h

theorem loadK_lim {st : St} {t : TypeId} {x : AV} {K : AV → Option R} {K' : Nat → AV → Option R'} (hK : LimK K K' r r') (e : loadK P st t x K = some r) : Ev fun k => loadK P st t x (K' k) = some r' := by
  unfold loadK at e ⊢
  cases x with
  | pb b o => simp only at e ⊢; split at e; exact K2_lim e (hK _); simp at e
  | pe id p i j => simp only at e ⊢; split at e; exact K2_lim e (hK _); simp at e
  | sp sz g => exact K2_lim e (hK _)
  | _ => simp at e

theorem storeK_lim {st : St} {t : TypeId} {p x : AV} {K : St → Option R} {K' : Nat → St → Option R'} (hK : LimK K K' r r') (e : storeK P st t p x K = some r) : Ev fun k => storeK P st t p x (K' k) = some r' := by
  unfold storeK at e ⊢
  refine K2_lim e fun e => ?_
  cases p with
  | pb b o => simp only at e ⊢; split at e; exact K2_lim e (hK _); simp at e
  | pe id p i j =>
    simp only at e ⊢
    split at e
    · split at e
      · refine K2_lim e fun e => ?_
        split at e
        · exact hK _ e
        · simp at e
      · simp at e
    · simp at e
  | _ => simp at e

theorem indexAddrK_lim {st : St} {t : TypeId} {x : AV} {n : Int} {K : AV → Option R} {K' : Nat → AV → Option R'} (hK : LimK K K' r r') (e : indexAddrK P st t x n K = some r) : Ev fun k => indexAddrK P st t x n (K' k) = some r' := by
  unfold indexAddrK at e ⊢
  split at e
  · cases x with
    | sl n sz g => exact K2_lim e (fun e => K2_lim e (hK _))
    | sln n sz g => exact K2_lim e (fun e => K2_lim e (hK _))
    | gv bs => exact K2_lim e (fun e => K2_lim e (hK _))
    | rf id => simp only at e ⊢; split at e; exact K2_lim e (fun e => K2_lim e (hK _)); simp at e
    | rs id a m => simp only at e ⊢; split at e; exact K2_lim e (fun e => K2_lim e (hK _)); simp at e
    | rn id p =>
      simp only at e ⊢
      split at e
      · split at e
        · exact K2_lim e (fun e => K2_lim e (hK _))
        · simp at e
      · simp at e
    | _ => simp at e
  · simp at e

theorem sliceK_lim {st : St} {t : TypeId} {x : AV} {l h : Option Int} {K : AV → Option R} {K' : Nat → AV → Option R'} (hK : LimK K K' r r') (e : sliceK P st t x l h K = some r) : Ev fun k => sliceK P st t x l h (K' k) = some r' := by
  unfold sliceK at e ⊢
  split at e
  · cases x with
    | S s => exact K2_lim e (hK _)
    | _ => simp at e
  · cases x with
    | sl n sz g =>
      simp only at e ⊢
      refine K2_lim e fun e => ?_
      cases h with
      | none => exact K2_lim e (hK _)
      | some h => exact K2_lim e (hK _)
    | rf id => simp only at e ⊢; split at e; exact K2_lim e (fun e => K2_lim e (hK _)); simp at e
    | rs id a m => simp only at e ⊢; split at e; exact K2_lim e (fun e => K2_lim e (hK _)); simp at e
    | _ => simp at e
  · simp at e

theorem appendK_lim {st : St} {t tx : TypeId} {x y : AV} {K : AV → St → Option R} {K' : Nat → AV → St → Option R'} (hK : ∀ y st, K y st = some r → Ev fun k => K' k y st = some r') (e : appendK P st t tx x y K = some r) : Ev fun k => appendK P st t tx x y (K' k) = some r' := by
  unfold appendK at e ⊢
  split at e
  · split at e
    · split at e
      · exact K2_lim e (hK _ _)
      · simp at e
    · simp at e
  · simp at e

theorem callK_lim {C : Cfg} {Γ : Orc} {Γ' : Nat → Orc} {st : St} {d f : Nat} {xs : List AV} {K : AV → St → Option R} {K' : Nat → AV → St → Option R'} (hΓ : LimO Γ Γ') (hK : ∀ y st, K y st = some r → Ev fun k => K' k y st = some r') (e : callK P C Γ st d f xs K = some r) :
    Ev fun k => callK P C (Γ' k) st d f xs (K' k) = some r' := by
  unfold callK at e ⊢
  split at e
  · split at e
    · refine K2_lim e fun e => ?_
      obtain ⟨rr, hrr, e⟩ := Option.bind_eq_some_iff.1 e
      simp only at e
      split at e
      · rename_i st1 hb
        obtain ⟨hfit, e⟩ := K2_some e
        refine ((hΓ _ _ _ _ hrr).and (hK _ _ e)).mono fun k ⟨h1, h2⟩ => ?_
        rw [h1]
        simp only [Option.bind_some, hb]
        rw [K2_true hfit]
        exact h2
      · simp at e
    · simp at e
  · simp at e

end
end Go.Fw
