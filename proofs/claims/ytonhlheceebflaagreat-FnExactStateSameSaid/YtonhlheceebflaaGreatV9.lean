/- StateSame's law returns true whatever its arguments, and its arguments read as they did: the given statement. No condition beyond the statement's own. -/
import Derived.Test.YtonhlheceebflaaGreatRows
import Derived.Test.YtonhlheceebflaaGreatV5
import Derived.Test.YtonhlheceebflaaGreatV8
set_option linter.unusedVariables false
namespace Go.Proofs.YtonhlheceebflaaGreat.fnExactStateSame
open Go.ChangeShapes Go.WideShapes Go.ChangeAt Go.RowKit Go.Fw
theorem no_outs [Go.Fw.Tok] : OrcOk Tryz.prog cfg cfg.outO := by
  have k : ∀ {f : Nat} {args exts : List AV} {r : AV × List AV}, cfg.outO f args exts = some r → False := fun {f args exts r} h => by
    have h : (none : Option (AV × List AV)) = some r := h
    cases h
  exact ⟨fun _ _ _ _ h => (k h).elim, fun _ _ _ _ h => (k h).elim, fun _ _ _ _ _ h => (k h).elim, fun _ _ _ _ h => (k h).elim, fun _ _ _ _ h => (k h).elim⟩
theorem own : ownKnob Tryz.prog.godebug = none := by kernel_rfl
theorem laidOut : laidOutB Tryz.prog = true := by kernel_rfl
set_option maxRecDepth 100000 in
theorem lifted (os : Os) (started : os.Started) (H : Type) (enc : TypeId × Value → H) :
    ReturnsInHanded {} Tryz.checked os 3 .any (Rows.fnExactStateSameSpec.pre6 enc Tryz.prog Tryz.f3 Rows.fnExactStateSameRow.domain false) (Rows.fnExactStateSameSpec.post enc Tryz.prog Tryz.f3 false true false false) := by
  refine returnsInHanded_of_change_sized (C := Tryz.checked) own started (by kernel_rfl) Tryz.func3
    (ChangeSpec.witness6 (enc := enc) (C := Tryz.checked) false ⟨#[], #[.agg #[.slice none 0 0, .slice none 0 0, .int .i64 0, .slice none 0 0, .slice none 0 0, .slice none 0 0, .slice none 0 0, .slice none 0 0, .slice none 0 0, .slice none 0 0, .slice none 0 0, .slice none 0 0], .agg #[.slice none 0 0, .slice none 0 0, .int .i64 0, .slice none 0 0, .slice none 0 0, .slice none 0 0, .slice none 0 0, .slice none 0 0, .slice none 0 0, .slice none 0 0, .slice none 0 0, .slice none 0 0]], []⟩ 25 (by kernel_rfl) (by kernel_rfl) (by kernel_rfl) (by kernel_rfl)) ?_
  intro W base args ds gs before hval0 hW hcnd hsz0 _
  have hW' := hW
  obtain ⟨p, q, hA0, hV, rfl, hfz, hnd⟩ := hW
  have hA : DataW.TrodAll enc Tryz.prog W 0 (fun _ => true) true Tryz.f3.params.toList args.toList ds p := hA0
  rw [Tryz.params3] at hA
  obtain ⟨v0, vs0, d0, ds0, p0, q0, hargs, rfl, rfl, k0, r0⟩ := trodAll_cons hA
  obtain ⟨v1, vs1, d1, ds1, p1, q1, rfl, rfl, rfl, k1, r1⟩ := trodAll_cons r0
  obtain ⟨rfl, rfl, rfl⟩ := trodAll_nil r1
  obtain rfl : args = #[v0, v1] := by cases args; simp_all
  obtain ⟨rfl, rfl⟩ := trodVars_none hV
  letI tk : Go.Fw.Tok := ⟨.slice none 0 0, [], none⟩
  have htok : RS W (okOf W (fun _ _ => False)) (.gv tk.bs) tk.val := ⟨rfl, rfl, fun b u hb => absurd (show (none : Option (Nat × Value)) = some (b, u) from hb) (by simp), none, 0, rfl, ⟨Nat.le_refl _, fun _ => rfl⟩, .inl rfl⟩
  have lt0 : ∀ x ∈ p0, x.block < W.heap.size := by obtain ⟨m, hm⟩ := k0; exact DataW.trod_lt m _ _ _ hm
  have lt1 : ∀ x ∈ p1, x.block < W.heap.size := by obtain ⟨m, hm⟩ := k1; exact DataW.trod_lt m _ _ _ hm
  obtain ⟨fuel0, hf0⟩ := id k0
  obtain ⟨hl0, b0, ok0, hrs0⟩ := op_State hf0
  obtain ⟨hv0, hvs0⟩ := agg_of_cells hl0 (by omega)
  have hget0 : ∀ j, v0.cells.toList.getD j undef = v0.cells.getD j undef := fun j => by simp [List.getD_eq_getElem?_getD, Array.getD_eq_getD_getElem?]
  obtain ⟨fuel1, hf1⟩ := id k1
  obtain ⟨hl1, b1, ok1, hrs1⟩ := op_State hf1
  obtain ⟨hv1, hvs1⟩ := agg_of_cells hl1 (by omega)
  have hget1 : ∀ j, v1.cells.toList.getD j undef = v1.cells.getD j undef := fun j => by simp [List.getD_eq_getElem?_getD, Array.getD_eq_getD_getElem?]
  have hcon := ev_con no_outs (v3 b0 b1 ok0 ok1) W (fun _ _ => False) (fun _ => undef) (fun _ _ _ => False) #[v0, v1] htok (by simp) (fun x hx => by simp at hx)
    ⟨fun k x hk => by simp at hk, fun k m b o hk => by simp at hk, fun k b o hk => by simp at hk⟩ (fun b o h => h.elim) rfl (fun j hj => by
      have hj2 : j = 0 ∨ j = 1 := by have : j < 2 := hj; omega
      rcases hj2 with rfl | rfl
      · refine ⟨v0.cells, hv0, hvs0, fun j hj => ?_⟩
        have h1 := hrs0 j hj
        rw [hget0] at h1
        refine ⟨RS_one h1, ?_⟩
        have h2 : j = 0 ∨ j = 1 ∨ j = 2 ∨ j = 3 ∨ j = 4 ∨ j = 5 ∨ j = 6 ∨ j = 7 ∨ j = 8 ∨ j = 9 ∨ j = 10 ∨ j = 11 := by omega
        rcases h2 with rfl | rfl | rfl | rfl | rfl | rfl | rfl | rfl | rfl | rfl | rfl | rfl <;> exact h1
      · refine ⟨v1.cells, hv1, hvs1, fun j hj => ?_⟩
        have h1 := hrs1 j hj
        rw [hget1] at h1
        refine ⟨RS_one h1, ?_⟩
        have h2 : j = 0 ∨ j = 1 ∨ j = 2 ∨ j = 3 ∨ j = 4 ∨ j = 5 ∨ j = 6 ∨ j = 7 ∨ j = 8 ∨ j = 9 ∨ j = 10 ∨ j = 11 := by omega
        rcases h2 with rfl | rfl | rfl | rfl | rfl | rfl | rfl | rfl | rfl | rfl | rfl | rfl <;> exact h1)
  refine hcon.mono fun e W' ⟨v, he, hC, F, Fe', hR, _⟩ => ?_
  obtain rfl : v = .bool true := hR
  have bel : Below W.heap.size W W' := ⟨hC.io.1, hC.io.2.2, hC.io.2.1, hC.size, fun k hk => hC.blk k hk (fun o h => h)⟩
  subst he
  exact ⟨_, rfl, _, _, _, [], _, [], hW', trodAll_mk1 (shut_bool Tryz.underlying4 _), (trodAll_cons_mk (Below.trod laidOut (by kernel_rfl) (of_decide_eq_true (by kernel_rfl)) k0 bel lt0) (trodAll_cons_mk (Below.trod laidOut (by kernel_rfl) (of_decide_eq_true (by kernel_rfl)) k1 bel lt1) trodAll_mk0)), rfl, bel.frame _, fun h => by cases h⟩
theorem over : Rows.fnExactStateSameRow.holds Tryz.pinned (OpenSpec.ofChange Rows.fnExactStateSameSpec) :=
  OpenClaim.holds_of_wide 3 Tryz.f3 rfl rfl rfl rfl rfl rfl rfl ⟨rfl, rfl, rfl, rfl, rfl⟩ rfl rfl rfl rfl rfl (by kernel_rfl) Tryz.func3 (by kernel_rfl)
    (of_decide_eq_true (by kernel_rfl)) (by unfold Func.isWrapper; first | (rw [if_pos (by decide +kernel)]; kernel_rfl) | (rw [if_neg (by decide +kernel)]; exact ⟨rfl, rfl⟩))
    (fun os started H enc _ => lifted os started H enc)
end Go.Proofs.YtonhlheceebflaaGreat.fnExactStateSame
namespace Go.Proofs.YtonhlheceebflaaGreat
/-- The given statement. -/
theorem fnExactStateSame_holds : Rows.FnExactStateSameSaid := fnExactStateSame.over
end Go.Proofs.YtonhlheceebflaaGreat
#print axioms Go.Proofs.YtonhlheceebflaaGreat.fnExactStateSame_holds
