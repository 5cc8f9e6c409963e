/- The by-value interpreter: its limit. -/
import Derived.Test.YtkhfkekbfjkpcaaFxG
set_option linter.unusedVariables false
set_option linter.unusedSectionVars false
set_option linter.unusedSimpArgs false
namespace Go.Fw

section
variable {P : Program} {C : Cfg}

open Classical in
/-- What evF answers from some number on. -/
noncomputable def ev (P : Program) (C : Cfg) : Orc := fun f args exts =>
  if h : ∃ r, Ev fun k => evF P C k f args exts = some r then some (Classical.choose h) else none

theorem ev_of {f : Nat} {args exts : List AV} {r : AV × List AV} (h : Ev fun k => evF P C k f args exts = some r) : ev P C f args exts = some r := by
  have hx : ∃ r, Ev fun k => evF P C k f args exts = some r := ⟨r, h⟩
  unfold ev
  rw [dif_pos hx]
  obtain ⟨k0, h0⟩ := (Classical.choose_spec hx).and h
  have h1 := (h0 k0 (Nat.le_refl _)).1
  have h2 := (h0 k0 (Nat.le_refl _)).2
  exact h1.symm.trans h2

theorem ev_lim : LimO (ev P C) (fun k => evF P C k) := by
  intro f a e x h
  unfold ev at h
  split at h
  · rename_i hx
    obtain rfl := Option.some.inj h
    exact Classical.choose_spec hx
  · simp at h

def isSl : List AV → Bool | [.sl _ _ _] => true | _ => false
theorem clO_dir {Γ : Orc} {f : Nat} {args exts : List AV} (h : (C.nil f && isSl args) = false) : clO C Γ f args exts = Γ f args exts := by
  unfold clO
  cases hc : C.nil f with
  | false => rfl
  | true =>
    rw [hc] at h
    simp only [cond_true]
    split
    · simp [isSl] at h
    · rfl

/-- A function's value, out of the values of those that it calls. -/
theorem ev_intro {N f : Nat} {fn : Func} {cd : Code} {args exts : List AV} {r : AV × List AV} (hf : P.funcs[f]? = some fn) (hb : fn.body = some cd) (hk : (dstOk fn.ntmps cd && Nat.ble args.length fn.ntmps && !(fn.name == "runtime.NumGoroutine")) = true)
    (hn : (C.nil f && isSl args) = false)
    (e : evB P C (ev P C) N f fn cd args exts = some r) : ev P C f args exts = some r := by
  refine ev_of ?_
  have h := evC_lim (r' := r) (M := fun k => k) (K' := fun _ e st => match e with
    | .exit _ => none
    | _ => finishN P (C.give f) fn exts st) ev_lim ⟨N, fun k h => h⟩ cd (fun ex st h => .of fun _ => h) e
  obtain ⟨k0, h0⟩ := h
  refine ⟨k0 + 1, fun k hk' => ?_⟩
  obtain ⟨m, rfl⟩ : ∃ m, k = m + 1 := ⟨k - 1, by omega⟩
  simp only [evF]
  rw [clO_dir hn]
  simp only [evS, hf, hb]
  rw [K2_true hk]
  exact h0 m (by omega)

/-- A slice that is only read: nil or not. -/
theorem ev_nil {f n sz : Nat} {g : Nat → Nat → AV} {exts : List AV} {r : AV × List AV} (hc : C.nil f = true) (h : ev P C f [.sln n sz g] exts = some r) (h0 : n = 0 → ev P C f [.nsl sz g] exts = some r) : ev P C f [.sl n sz g] exts = some r := by
  refine ev_of ?_
  obtain ⟨k1, h1⟩ := ev_lim _ _ _ _ h
  have h2 : Ev fun k => n = 0 → evF P C k f [.nsl sz g] exts = some r := by
    by_cases hn : n = 0
    · exact (ev_lim _ _ _ _ (h0 hn)).mono fun k h _ => h
    · exact .of fun k h => absurd h hn
  obtain ⟨k2, h2⟩ := h2
  refine ⟨max k1 k2 + 1, fun k hk => ?_⟩
  have e1 := h1 k (by omega)
  have e2 := h2 k (by omega)
  obtain ⟨m, rfl⟩ : ∃ m, k = m + 1 := ⟨k - 1, by omega⟩
  simp only [evF] at e1 e2 ⊢
  rw [clO_dir (by simp [isSl])] at e1 e2
  unfold clO
  rw [hc]
  simp only [cond_true, e1]
  rw [if_pos e2]

/-- THE CONTRACT. -/
theorem ev_con [Tok] {f : Nat} {args exts : List AV} {r : AV × List AV} (h : ev P C f args exts = some r) : Con P f args exts r.1 r.2 := by
  obtain ⟨k0, h0⟩ := ev_lim f args exts r h
  exact (evF_ok P C k0).con f args exts r (h0 k0 (Nat.le_refl _))

end
end Go.Fw
