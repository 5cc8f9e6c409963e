/- The by-value interpreter: operations on temporaries are what the model's are. -/
import Derived.Test.YtkhfkekbfjkpcaaFwH
set_option linter.unusedVariables false
set_option linter.unusedSectionVars false
set_option linter.unusedSimpArgs false
namespace Go.Fw
variable [Tok]

omit [Tok] in
theorem K2_some {R : Type} {c : Bool} {x : Option R} {r : R} (h : K2 c x = some r) : c = true ∧ x = some r := by
  cases c
  · simp [K2] at h
  · exact ⟨rfl, h⟩

section
variable {c : Cx} {gh : Gh} {ar : ArT} {bx : BxT} {w : World} {P : Program}

theorem cCell_TR {z : AV} {v : Value} : TR c.sh gh ar bx w (cCell z v) v := by
  cases v with
  | int k n => rfl
  | bool x => rfl
  | string x => rfl
  | pointer a => cases a <;> first | rfl | trivial
  | slice a n m =>
    cases a with
    | some a => trivial
    | none =>
      cases n with
      | succ n => trivial
      | zero =>
        cases m with
        | succ m => trivial
        | zero =>
          simp only [cCell]
          cases z <;> first | rfl | trivial
  | _ => trivial

theorem all_oneCell {cs : Array Value} (h : cs.all (fun v => v.oneCell') = true) (j : Nat) (hj : j < cs.size) : (cs.getD j undef).oneCell' = true := by
  simp only [Array.all_eq_true] at h
  have := h j hj
  simpa [Array.getD_eq_getD_getElem?, hj] using this

theorem cVal_TR {t : TypeId} {v : Value} : TR c.sh gh ar bx w (cVal P t v) v := by
  cases v with
  | agg cs =>
    simp only [cVal]
    cases hall : cs.all (fun v => v.oneCell')
    · trivial
    · exact ⟨cs, rfl, rfl, fun j hj => ⟨all_oneCell hall j hj, cCell_TR⟩⟩
  | slice a n m =>
    cases a with
    | some a => trivial
    | none =>
      cases n with
      | succ n => trivial
      | zero =>
        cases m with
        | succ m => trivial
        | zero =>
          simp only [cVal]
          split
          · rfl
          · trivial
  | int k n => rfl
  | bool x => rfl
  | string x => rfl
  | pointer a => cases a <;> first | rfl | trivial
  | _ => trivial

theorem get_TR {nt : Nat} {st : St} {a : Act} (h : Inv c gh nt st a w) (t : TypeId) (x : Operand) : TR c.sh gh st.ar st.bx w (st.get P t x) (a.eval x) := by
  cases x with
  | tmp d => exact h.temps d
  | const v => exact cVal_TR
  | func f => exact ⟨#[], rfl, rfl, fun j hj => absurd hj (by simp)⟩
  | global g => trivial

theorem TR_I {k : IntKind} {n : Int} {v : Value} (h : TR c.sh gh ar bx w (.I k n) v) : v = .int k n := h
theorem TR_B {x : Bool} {v : Value} (h : TR c.sh gh ar bx w (.B x) v) : v = .bool x := h
theorem TR_S {x : ByteArray} {v : Value} (h : TR c.sh gh ar bx w (.S x) v) : v = .string x := h

/-- An operator's run. -/
def BinRun (P : Program) (w : World) (op : BinOp) (t : TypeId) (xo yo : Operand) (u v z : Value) : Prop :=
  (do eqGuard op t xo yo u v; binOp op t u v : Sem Value).run P w = .ok z w

theorem eqGuard_run {op : BinOp} {t : TypeId} {xo yo : Operand} {u v : Value} (h1 : ∀ cs, u ≠ .agg cs) (h2 : u ≠ .nilIface) : (eqGuard op t xo yo u v).run P w = .ok () w := by
  unfold eqGuard
  cases u <;> first | exact absurd rfl h2 | exact absurd rfl (h1 _) | (cases op <;> simp)

theorem equalIn_bool (d : Nat) {t : TypeId} {a b : Bool} (hu : P.underlying t = some .bool) : (Op.equalIn (d + 1) t (.bool a) (.bool b)).run P w = .ok (a == b) w := by
  unfold Op.equalIn
  simp only [Sem.run_bind, run_underlying hu, Result.andThen_ok, Sem.run_pure]
theorem equal_bool {t : TypeId} {a b : Bool} (hu : P.underlying t = some .bool) : (Op.equal t (.bool a) (.bool b)).run P w = .ok (a == b) w := equalIn_bool 9999 hu
theorem equalIn_slice_nil (d : Nat) {t e : TypeId} {a : Option Addr} {n m n' m' : Nat} (hu : P.underlying t = some (.slice e)) : (Op.equalIn (d + 1) t (.slice a n m) (.slice none n' m')).run P w = .ok a.isNone w := by
  unfold Op.equalIn
  cases a <;> simp only [Sem.run_bind, run_underlying hu, Result.andThen_ok, Sem.run_pure, Option.isNone_none, Option.isNone_some]
theorem equal_slice_nil {t e : TypeId} {a : Option Addr} {n m n' m' : Nat} (hu : P.underlying t = some (.slice e)) : (Op.equal t (.slice a n m) (.slice none n' m')).run P w = .ok a.isNone w := equalIn_slice_nil 9999 hu

theorem binK_sound {R : Type} {op : BinOp} {t : TypeId} {x y : AV} {K : AV → Option R} {r : R} {u v : Value} (xo yo : Operand) (e : binK P op t x y K = some r)
    (hx : TR c.sh gh ar bx w x u) (hy : TR c.sh gh ar bx w y v) : ∃ z vz, K z = some r ∧ BinRun P w op t xo yo u v vz ∧ ∀ gh ar bx, TR c.sh gh ar bx w z vz := by
  unfold binK at e
  split at e
  case h_28 => simp at e
  case h_26 =>
    obtain ⟨xa, cap, rfl, _⟩ := hx
    have hy' : v = .slice none 0 0 := hy
    subst hy'
    split at e
    · rename_i e2 hu
      refine ⟨_, .bool false, e, ?_, fun _ _ _ => rfl⟩
      unfold BinRun
      rw [Sem.run_bind, eqGuard_run (by simp) (by simp), Result.andThen_ok]
      unfold binOp
      simp only [Sem.run_bind, equal_slice_nil hu, Result.andThen_ok, Sem.run_pure, Option.isNone_some]
    · simp at e
  case h_27 =>
    have hx' : u = .slice none 0 0 := hx
    have hy' : v = .slice none 0 0 := hy
    subst hx' hy'
    split at e
    · rename_i e2 hu
      refine ⟨_, .bool true, e, ?_, fun _ _ _ => rfl⟩
      unfold BinRun
      rw [Sem.run_bind, eqGuard_run (by simp) (by simp), Result.andThen_ok]
      unfold binOp
      simp only [Sem.run_bind, equal_slice_nil hu, Result.andThen_ok, Sem.run_pure, Option.isNone_none]
    · simp at e
  case h_17 | h_18 =>
    have hx' := TR_B hx; have hy' := TR_B hy; subst hx' hy'
    split at e
    · rename_i hu
      refine ⟨_, _, e, ?_, fun _ _ _ => rfl⟩
      unfold BinRun
      rw [Sem.run_bind, eqGuard_run (by simp) (by simp), Result.andThen_ok]
      unfold binOp
      simp only [Sem.run_bind, equal_bool hu, Result.andThen_ok, Sem.run_pure]
    · simp at e
  case h_19 =>
    have hx' := TR_S hx; have hy' := TR_S hy; subst hx' hy'
    obtain ⟨hk, e⟩ := K2_some e
    refine ⟨_, _, e, ?_, fun _ _ _ => rfl⟩
    have hk' : _ ≤ LIM := of_decide_eq_true hk
    unfold BinRun
    rw [Sem.run_bind, eqGuard_run (by simp) (by simp), Result.andThen_ok]
    unfold binOp
    have hmax : IntKind.i64.max = 9223372036854775807 := by decide
    have : ∀ n : Nat, n ≤ LIM → ¬ (n : Int) > 9223372036854775807 := fun n hn => by unfold LIM at hn; omega
    simp only [Op.stringOp, hmax, this _ hk', if_false, Sem.run_pure]
  case h_20 | h_21 | h_22 | h_23 | h_24 | h_25 =>
    have hx' := TR_S hx; have hy' := TR_S hy; subst hx' hy'
    refine ⟨_, _, e, ?_, fun _ _ _ => rfl⟩
    unfold BinRun
    rw [Sem.run_bind, eqGuard_run (by simp) (by simp), Result.andThen_ok]
    unfold binOp
    simp only [Op.stringOp, Sem.run_pure]
  all_goals
    have hx' := TR_I hx; have hy' := TR_I hy; subst hx' hy'
    obtain ⟨hk, e⟩ := K2_some e
    refine ⟨_, _, e, ?_, fun _ _ _ => rfl⟩
    unfold BinRun
    rw [Sem.run_bind, eqGuard_run (by simp) (by simp), Result.andThen_ok]
    simp only [Bool.and_eq_true, beq_iff_eq, Bool.not_eq_true', decide_eq_false_iff_not, decide_eq_true_eq] at hk
    unfold binOp
  case h_1 | h_2 =>
    have : ¬ (_ : Int) < 0 := Int.not_lt.2 hk
    simp only [Op.shift, this, if_false, Sem.run_pure]
  case h_6 | h_7 =>
    obtain ⟨rfl, hk⟩ := hk
    simp only [ne_eq, not_true_eq_false, if_false, Op.intDiv, hk, Sem.run_pure]
  all_goals
    subst hk
    simp only [ne_eq, not_true_eq_false, if_false, Op.intArith, Op.intBits, Op.intCmp, Sem.run_pure]
  all_goals first | rfl | (congr 2; simp [bne, Int.beq_eq_decide_eq]) | skip

end
end Go.Fw
