/- Withdraw's law returns true whatever its arguments, and its arguments read as they did: the given statement. No condition beyond the statement's own. -/
import Derived.Test.YtkhfkekbfjkpcaaRows
import Derived.Test.YtkhfkekbfjkpcaaGa
import Derived.Test.YtkhfkekbfjkpcaaGc
set_option linter.unusedVariables false
namespace Go.Proofs.Ytkhfkekbfjkpcaa.fnExactWithdraw
open Go.ChangeShapes Go.WideShapes Go.ChangeAt Go.RowKit Go.Fw
theorem own : ownKnob Try.prog.godebug = none := by kernel_rfl
theorem laidOut : laidOutB Try.prog = true := by kernel_rfl
set_option maxRecDepth 100000 in
theorem lifted (os : Os) (started : os.Started) (H : Type) (enc : TypeId × Value → H) :
    ReturnsInHanded {} Try.checked os 6 .any (Rows.fnExactWithdrawSpec.pre6 enc Try.prog Try.f6 Rows.fnExactWithdrawRow.domain false) (Rows.fnExactWithdrawSpec.post enc Try.prog Try.f6 false true false false) := by
  refine returnsInHanded_of_change_sized (C := Try.checked) own started (by kernel_rfl) Try.func6
    (ChangeSpec.witness6 (enc := enc) (C := Try.checked) false ⟨#[], #[.agg #[.bool false, .slice none 0 0, .slice none 0 0, .int .i64 0, .int .i64 0, .int .i64 0], .int .i64 0], []⟩ 8 (by kernel_rfl) (by kernel_rfl) (by kernel_rfl) (by kernel_rfl)) ?_
  intro W base args ds gs before hval0 hW hcnd hsz0 _
  have hW' := hW
  obtain ⟨p, q, hA0, hV, rfl, hfz, hnd⟩ := hW
  have hA : DataW.TrodAll enc Try.prog W 0 (fun _ => true) true Try.f6.params.toList args.toList ds p := hA0
  rw [Try.params6] at hA
  obtain ⟨v0, vs0, d0, ds0, p0, q0, hargs, rfl, rfl, h0, r0⟩ := trodAll_cons hA
  obtain ⟨v1, vs1, d1, ds1, p1, q1, rfl, rfl, rfl, k1, r1⟩ := trodAll_cons r0
  obtain ⟨rfl, rfl, rfl⟩ := trodAll_nil r1
  obtain rfl : args = #[v0, v1] := by cases args; simp_all
  obtain ⟨rfl, rfl⟩ := trodVars_none hV
  have k0 := h0
  have lt0 : ∀ x ∈ p0, x.block < W.heap.size := by obtain ⟨m, hm⟩ := k0; exact DataW.trod_lt m _ _ _ hm
  have lt1 : ∀ x ∈ p1, x.block < W.heap.size := by obtain ⟨m, hm⟩ := k1; exact DataW.trod_lt m _ _ _ hm
  obtain ⟨fuel, hf⟩ := h0
  obtain ⟨b, hb⟩ := okWide_int Try.underlying3 (hval0 1 3 v1 (by kernel_rfl) rfl)
  obtain ⟨hl, n, hn1, hn2, hrs⟩ := open_N hf
  obtain ⟨hv, hvs⟩ := agg_of_cells hl (by omega)
  have hget : ∀ j, v0.cells.toList.getD j undef = v0.cells.getD j undef := fun j => by simp [List.getD_eq_getElem?_getD, Array.getD_eq_getD_getElem?]
  have hcon := ev_con (v6 n b hn1 hn2) W (fun _ _ => False) (fun _ => undef) (fun _ _ _ => False) #[v0, v1] (by simp) (fun x hx => by simp at hx)
    ⟨fun k x hk => by simp at hk, fun k m b o hk => by simp at hk, fun k b o hk => by simp at hk⟩ (fun b o h => h.elim) rfl (fun j hj => by
      have hj2 : j = 0 ∨ j = 1 := by have : j < 2 := hj; omega
      rcases hj2 with rfl | rfl
      · refine ⟨v0.cells, hv, hvs, fun j hj => ?_⟩
        have h1 := hrs j hj
        rw [hget] at h1
        refine ⟨RS_one h1, ?_⟩
        have h2 : j = 0 ∨ j = 1 ∨ j = 2 ∨ j = 3 ∨ j = 4 ∨ j = 5 := by omega
        rcases h2 with rfl | rfl | rfl | rfl | rfl | rfl <;> exact h1
      · exact hb)
  refine hcon.mono fun e W' ⟨v, he, hC, F, Fe', hR, _⟩ => ?_
  obtain rfl : v = .bool true := hR
  have bel : Below W.heap.size W W' := ⟨hC.io.1, hC.io.2.2, hC.io.2.1, hC.size, fun k hk => hC.blk k hk (fun o h => h)⟩
  subst he
  exact ⟨_, rfl, _, _, _, [], _, [], hW', trodAll_mk1 (shut_bool Try.underlying4 _), (trodAll_cons_mk (Below.trod laidOut (by kernel_rfl) (of_decide_eq_true (by kernel_rfl)) k0 bel lt0) (trodAll_cons_mk (Below.trod laidOut (by kernel_rfl) (of_decide_eq_true (by kernel_rfl)) k1 bel lt1) trodAll_mk0)), rfl, bel.frame _, fun h => by cases h⟩
theorem over : Rows.fnExactWithdrawRow.holds Try.pinned (OpenSpec.ofChange Rows.fnExactWithdrawSpec) :=
  OpenClaim.holds_of_wide 6 Try.f6 rfl rfl rfl rfl rfl rfl rfl ⟨rfl, rfl, rfl, rfl, rfl⟩ rfl rfl rfl rfl rfl (by kernel_rfl) Try.func6 (by kernel_rfl)
    (of_decide_eq_true (by kernel_rfl)) (by unfold Func.isWrapper; first | (rw [if_pos (by decide +kernel)]; kernel_rfl) | (rw [if_neg (by decide +kernel)]; exact ⟨rfl, rfl⟩))
    (fun os started H enc _ => lifted os started H enc)
end Go.Proofs.Ytkhfkekbfjkpcaa.fnExactWithdraw
namespace Go.Proofs.Ytkhfkekbfjkpcaa
/-- The given statement. -/
theorem fnExactWithdraw_holds : Rows.FnExactWithdrawSaid := fnExactWithdraw.over
end Go.Proofs.Ytkhfkekbfjkpcaa
#print axioms Go.Proofs.Ytkhfkekbfjkpcaa.fnExactWithdraw_holds
