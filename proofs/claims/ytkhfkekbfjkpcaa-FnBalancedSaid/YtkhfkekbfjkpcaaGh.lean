/- Balanced's law returns true whatever its arguments, and its arguments read as they did: the given statement. No condition beyond the statement's own. -/
import Derived.Test.YtkhfkekbfjkpcaaRows
import Derived.Test.YtkhfkekbfjkpcaaGf
import Derived.Test.YtkhfkekbfjkpcaaGg
set_option linter.unusedVariables false
namespace Go.Proofs.Ytkhfkekbfjkpcaa.fnBalanced
open Go.ChangeShapes Go.WideShapes Go.ChangeAt Go.RowKit Go.Fw
theorem own : ownKnob Try.prog.godebug = none := by kernel_rfl
theorem laidOut : laidOutB Try.prog = true := by kernel_rfl
set_option maxRecDepth 100000 in
theorem lifted (os : Os) (started : os.Started) (H : Type) (enc : TypeId × Value → H) :
    ReturnsInHanded {} Try.checked os 4 .any (Rows.fnBalancedSpec.pre6 enc Try.prog Try.f4 Rows.fnBalancedRow.domain false) (Rows.fnBalancedSpec.post enc Try.prog Try.f4 false true false false) := by
  refine returnsInHanded_of_change_sized (C := Try.checked) own started (by kernel_rfl) Try.func4
    (ChangeSpec.witness6 (enc := enc) (C := Try.checked) false ⟨#[], #[.slice none 0 0], []⟩ 2 (by kernel_rfl) (by kernel_rfl) (by kernel_rfl) (by kernel_rfl)) ?_
  intro W base args ds gs before hval0 hW hcnd hsz0 _
  have hW' := hW
  obtain ⟨p, q, hA0, hV, rfl, hfz, hnd⟩ := hW
  have hA : DataW.TrodAll enc Try.prog W 0 (fun _ => true) true Try.f4.params.toList args.toList ds p := hA0
  rw [Try.params4] at hA
  obtain ⟨v0, vs0, d0, ds0, p0, q0, hargs, rfl, rfl, k0, r0⟩ := trodAll_cons hA
  obtain ⟨rfl, rfl, rfl⟩ := trodAll_nil r0
  obtain rfl : args = #[v0] := by cases args; simp_all
  obtain ⟨rfl, rfl⟩ := trodVars_none hV
  have lt0 : ∀ x ∈ p0, x.block < W.heap.size := by obtain ⟨m, hm⟩ := k0; exact DataW.trod_lt m _ _ _ hm
  obtain ⟨fuel0, hf0⟩ := id k0
  obtain ⟨a0, len0, cap0, hv0⟩ := okWide_slice Try.underlying36 (hval0 0 36 v0 (by kernel_rfl) rfl)
  obtain ⟨xs0, hx0, hrs0⟩ := open_B (v := v0) (by rw [hv0] at hf0 ⊢; exact hf0)
  have hcon := ev_con (v4 xs0) W (fun _ _ => False) (fun _ => undef) (fun _ _ _ => False) #[v0] (by simp) (fun x hx => by simp at hx)
    ⟨fun k x hk => by simp at hk, fun k m b o hk => by simp at hk, fun k b o hk => by simp at hk⟩ (fun b o h => h.elim) rfl (fun j hj => by
      obtain rfl : j = 0 := by simpa using hj
      exact hrs0)
  refine hcon.mono fun e W' ⟨v, he, hC, F, Fe', hR, _⟩ => ?_
  obtain rfl : v = .bool true := hR
  have bel : Below W.heap.size W W' := ⟨hC.io.1, hC.io.2.2, hC.io.2.1, hC.size, fun k hk => hC.blk k hk (fun o h => h)⟩
  subst he
  exact ⟨_, rfl, _, _, _, [], _, [], hW', trodAll_mk1 (shut_bool Try.underlying4 _), (trodAll_cons_mk (Below.trod laidOut (by kernel_rfl) (of_decide_eq_true (by kernel_rfl)) k0 bel lt0) trodAll_mk0), rfl, bel.frame _, fun h => by cases h⟩
theorem over : Rows.fnBalancedRow.holds Try.pinned (OpenSpec.ofChange Rows.fnBalancedSpec) :=
  OpenClaim.holds_of_wide 4 Try.f4 rfl rfl rfl rfl rfl rfl rfl ⟨rfl, rfl, rfl, rfl, rfl⟩ rfl rfl rfl rfl rfl (by kernel_rfl) Try.func4 (by kernel_rfl)
    (of_decide_eq_true (by kernel_rfl)) (by unfold Func.isWrapper; first | (rw [if_pos (by decide +kernel)]; kernel_rfl) | (rw [if_neg (by decide +kernel)]; exact ⟨rfl, rfl⟩))
    (fun os started H enc _ => lifted os started H enc)
end Go.Proofs.Ytkhfkekbfjkpcaa.fnBalanced
namespace Go.Proofs.Ytkhfkekbfjkpcaa
/-- The given statement. -/
theorem fnBalanced_holds : Rows.FnBalancedSaid := fnBalanced.over
end Go.Proofs.Ytkhfkekbfjkpcaa
#print axioms Go.Proofs.Ytkhfkekbfjkpcaa.fnBalanced_holds
