/- Loops without counting their rounds: the limit of the heads' states. No proof of a statement. -/
import Derived.Test.YtndmnbgcneaggaaGreatDoorFyB
set_option linter.unusedVariables false
set_option linter.unusedSimpArgs false
namespace Go.Fw
abbrev RES := Option (AV × List AV)
section
variable {P : Program} {C : Cfg} {Γ : Orc} {f : Nat} {H : Hd} {H' : Nat → Hd} {r : AV × List AV}
theorem goH_lim {id : Nat} {p : List Bool} (hH : ∀ q st x, H q st = some x → Ev fun k => H' k q st = some x) {st : St} (e : goH C f H id p st = some r) : Ev fun k => goH C f (H' k) id p st = some r := by
 unfold goH at e ⊢
 split at e
 · exact hH _ _ _ e
 · simp at e
theorem cutH_lim {id : Nat} {p : List Bool} (hH : ∀ q st x, H q st = some x → Ev fun k => H' k q st = some x) {K : Ex → St → RES} {K' : Nat → Ex → St → RES}
  (hK : ∀ e st, K e st = some r → Ev fun k => K' k e st = some r) {st : St} (e : cutH C f H id p K st = some r) : Ev fun k => cutH C f (H' k) id p (K' k) st = some r := by
 unfold cutH at e ⊢
 cases hc : C.cut f id with
 | false => rw [hc] at e; exact hK _ _ e
 | true => rw [hc] at e; exact goH_lim hH e
theorem evH_lim (hH : ∀ q st x, H q st = some x → Ev fun k => H' k q st = some x) : ∀ (c : Code) (p : List Bool) {K : Ex → St → RES} {K' : Nat → Ex → St → RES},
  (∀ e st, K e st = some r → Ev fun k => K' k e st = some r) → ∀ st, evH P C Γ f H p c K st = some r → Ev fun k => evH P C Γ f (H' k) p c (K' k) st = some r := by
 intro c
 induction c with
 | skip => intro p K K' hK st e; exact hK _ _ e
 | label => intro p K K' hK st e; exact hK _ _ e
 | region id ops d =>
  intro p K K' hK st e
  cases d with
  | true =>
   simp only [evH] at e ⊢
   obtain ⟨hk, e⟩ := K2_some e
   simp only [K2_true hk]
   exact evDraw_lim (fun f a e x h => .of fun _ => h) (fun st e => cutH_lim hH hK e) _ _ _ _ e
  | false =>
   simp only [evH] at e ⊢
   exact evOps_lim (fun f a e x h => .of fun _ => h) _ (fun st e => cutH_lim hH hK e) e
 | seq a b iha ihb =>
  intro p K K' hK st e
  simp only [evH] at e ⊢
  refine iha (p ++ [false]) (K' := fun k e st' => match e with
   | .normal => evH P C Γ f (H' k) (p ++ [true]) b (K' k) st'
   | e => K' k e st') (fun e st h => ?_) st e
  cases e with
  | normal => exact ihb _ hK _ h
  | exit k => exact hK _ _ h
  | ret => exact hK _ _ h
 | cond c a b iha ihb =>
  intro p K K' hK st e
  simp only [evH] at e ⊢
  cases hg : st.get P 0 c with
  | B y =>
   rw [hg] at e
   cases y with
   | true => exact iha _ hK _ e
   | false => exact ihb _ hK _ e
  | _ => rw [hg] at e; simp at e
 | block id c ih =>
  intro p K K' hK st e
  simp only [evH] at e ⊢
  refine ih p (K' := fun k e st' => match e with
   | .exit j => bif Nat.beq j id then K' k .normal st' else K' k (.exit j) st'
   | e => K' k e st') (fun e st h => ?_) st e
  cases e with
  | normal => exact hK _ _ h
  | exit k =>
   simp only at h ⊢
   cases hk : Nat.beq k id with
   | true => rw [hk] at h; exact hK _ _ h
   | false => rw [hk] at h; exact hK _ _ h
  | ret => exact hK _ _ h
 | loop c ih => intro p K K' hK st e; simp only [evH] at e ⊢; exact goH_lim hH e
 | exit id => intro p K K' hK st e; exact hK _ _ e
 | ret => intro p K K' hK st e; exact hK _ _ e
 | _ => intro p K K' hK st e; simp [evH] at e
theorem loopK_lim (hH : ∀ q st x, H q st = some x → Ev fun k => H' k q st = some x) {p : List Bool} {c : Code} {K : Ex → St → RES} {K' : Nat → Ex → St → RES}
  (hK : ∀ e st, K e st = some r → Ev fun k => K' k e st = some r) : ∀ e st, loopK C f H p c K e st = some r → Ev fun k => loopK C f (H' k) p c (K' k) e st = some r := by
 intro e st h
 cases e with
 | normal => exact goH_lim hH h
 | exit k => exact hK _ _ h
 | ret => exact hK _ _ h
theorem fnd_lim (hH : ∀ q st x, H q st = some x → Ev fun k => H' k q st = some x) : ∀ (c : Code) (p : List Bool) {K : Ex → St → RES} {K' : Nat → Ex → St → RES},
  (∀ e st, K e st = some r → Ev fun k => K' k e st = some r) → ∀ q st, fnd P C Γ f H p c K q st = some r → Ev fun k => fnd P C Γ f (H' k) p c (K' k) q st = some r := by
 intro c
 induction c with
 | seq a b iha ihb =>
  intro p K K' hK q st e
  cases q with
  | nil => simp [fnd] at e
  | cons y q =>
   cases y with
   | false =>
    simp only [fnd] at e ⊢
    refine iha (p ++ [false]) (K' := fun k e st' => match e with
     | .normal => evH P C Γ f (H' k) (p ++ [true]) b (K' k) st'
     | e => K' k e st') (fun e st h => ?_) q st e
    cases e with
    | normal => exact evH_lim hH _ _ hK _ h
    | exit k => exact hK _ _ h
    | ret => exact hK _ _ h
   | true => simp only [fnd] at e ⊢; exact ihb _ hK _ _ e
 | cond c a b iha ihb =>
  intro p K K' hK q st e
  cases q with
  | nil => simp [fnd] at e
  | cons y q =>
   cases y with
   | false => simp only [fnd] at e ⊢; exact iha _ hK _ _ e
   | true => simp only [fnd] at e ⊢; exact ihb _ hK _ _ e
 | block id c ih =>
  intro p K K' hK q st e
  simp only [fnd] at e ⊢
  refine ih p (K' := fun k e st' => match e with
   | .exit j => bif Nat.beq j id then K' k .normal st' else K' k (.exit j) st'
   | e => K' k e st') (fun e st h => ?_) q st e
  cases e with
  | normal => exact hK _ _ h
  | exit k =>
   simp only at h ⊢
   cases hk : Nat.beq k id with
   | true => rw [hk] at h; exact hK _ _ h
   | false => rw [hk] at h; exact hK _ _ h
  | ret => exact hK _ _ h
 | loop c ih =>
  intro p K K' hK q st e
  cases q with
  | nil => simp only [fnd] at e ⊢; exact evH_lim hH _ _ (loopK_lim hH hK) _ e
  | cons y q =>
   cases y with
   | true => simp only [fnd] at e ⊢; exact ih _ (loopK_lim hH hK) _ _ e
   | false => simp [fnd] at e
 | region id ops d =>
  intro p K K' hK q st e
  cases q with
  | nil => exact hK _ _ e
  | cons y q => simp [fnd] at e
 | _ => intro p K K' hK q st e; simp [fnd] at e
theorem hed_lim {exts : List AV} (hH : ∀ q st x, H q st = some x → Ev fun k => H' k q st = some x) {q : List Bool} {st : St} (e : hed P C Γ f H exts q st = some r) : Ev fun k => hed P C Γ f (H' k) exts q st = some r := by
 unfold hed at e ⊢
 split at e
 · split at e
   · exact fnd_lim hH _ _ (fun e st h => .of fun _ => h) _ _ e
   · simp at e
 · simp at e
theorem ent_lim {args exts : List AV} (hH : ∀ q st x, H q st = some x → Ev fun k => H' k q st = some x) (e : ent P C Γ f H args exts = some r) : Ev fun k => ent P C Γ f (H' k) args exts = some r := by
 unfold ent at e ⊢
 split at e
 · split at e
   · obtain ⟨hk, e⟩ := K2_some e
     simp only [K2_true hk]
     exact evH_lim hH _ _ (fun e st h => .of fun _ => h) _ e
   · simp at e
 · simp at e
theorem HF_mono {exts : List AV} : ∀ (n : Nat) {q : List Bool} {st : St} {x : AV × List AV}, HF P C Γ f exts n q st = some x → HF P C Γ f exts (n + 1) q st = some x := by
 intro n
 induction n with
 | zero => intro q st x e; simp [HF] at e
 | succ n ih =>
  intro q st x e
  obtain ⟨k, h⟩ := hed_lim (H' := fun _ => HF P C Γ f exts (n + 1)) (fun q st x h => .of fun _ => ih h) (show hed P C Γ f (HF P C Γ f exts n) exts q st = some x from e)
  exact h k (Nat.le_refl _)
theorem HF_le {exts : List AV} {n m : Nat} (h : n ≤ m) {q : List Bool} {st : St} {x : AV × List AV} (e : HF P C Γ f exts n q st = some x) : HF P C Γ f exts m q st = some x := by
 induction h with
 | refl => exact e
 | step _ ih => exact HF_mono _ ih
end
variable (P : Program) (C : Cfg) (Γ : Orc) (f : Nat)
open Classical in
noncomputable def HL (exts : List AV) : Hd := fun q st => if h : ∃ (x : AV × List AV) (n : Nat), HF P C Γ f exts n q st = some x then some h.choose else none
variable {P : Program} {C : Cfg} {Γ : Orc} {f : Nat}
theorem HL_some {exts : List AV} {q : List Bool} {st : St} {x : AV × List AV} (e : HL P C Γ f exts q st = some x) : ∃ n, HF P C Γ f exts n q st = some x := by
 unfold HL at e
 split at e
 · rename_i h
   obtain rfl := Option.some.inj e
   exact h.choose_spec
 · simp at e
theorem HL_of {exts : List AV} {n : Nat} {q : List Bool} {st : St} {x : AV × List AV} (e : HF P C Γ f exts n q st = some x) : HL P C Γ f exts q st = some x := by
 have h : ∃ (x : AV × List AV) (n : Nat), HF P C Γ f exts n q st = some x := ⟨x, n, e⟩
 unfold HL
 rw [dif_pos h]
 obtain ⟨m, hm⟩ := h.choose_spec
 have h1 := HF_le (Nat.le_max_left n m) e
 rw [HF_le (Nat.le_max_right n m) hm] at h1
 exact h1
theorem HL_lim {exts : List AV} : ∀ q st x, HL P C Γ f exts q st = some x → Ev fun k => HF P C Γ f exts k q st = some x := fun q st x e => by
 obtain ⟨n, h⟩ := HL_some e
 exact ⟨n, fun k hk => HF_le hk h⟩
theorem HL_step {exts : List AV} {q : List Bool} {st : St} {x : AV × List AV} (e : hed P C Γ f (HL P C Γ f exts) exts q st = some x) : HL P C Γ f exts q st = some x := by
 obtain ⟨k, h⟩ := hed_lim HL_lim e
 exact HL_of (n := k + 1) (h k (Nat.le_refl _))
theorem ev_entL {args exts : List AV} {r : AV × List AV} (hn : (C.nil f && isSl args || C.outF f) = false) (e : ent P C (ev P C) f (HL P C (ev P C) f exts) args exts = some r) : ev P C f args exts = some r := by
 obtain ⟨k, h⟩ := ent_lim HL_lim e
 exact ev_ent (n := k) hn (h k (Nat.le_refl _))
end Go.Fw
