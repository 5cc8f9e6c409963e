/- PassOn's law returns true whatever its arguments, and its arguments read as they did: the given statement. No condition beyond the statement's own. -/
import Derived.Test.YtkhfkekbfjkpcaaRows
import Derived.Test.YtkhfkekbfjkpcaaH7
import Derived.Test.YtkhfkekbfjkpcaaFyC
import Derived.WalkKit
import Derived.ProofKit
import Derived.OpenShut
import Derived.ShutString
import Derived.ChangeOld
import Derived.Below
import Derived.SizedLaws
set_option linter.unusedVariables false
namespace Go.Fw
open Go.Proofs

section
variable {H : Type} {enc : TypeId × Value → H} {w : World} {base : Nat} {spare : Nat → Bool} {held : Bool}
theorem open_B [Tok] {fuel : Nat} {v : Value} {x : DataW H × List MemPlace} (h : DataW.trod enc Try.prog w base spare held fuel 36 [v] = some x) :
    ∃ xs : List Int, xs.length ≤ maxLen ∧ RS w (okAll w) (slB xs) v := by
  refine rs_slice (0 : Int) (fun a => [.I .u8 a]) Try.underlying36 (by kernel_rfl) (by omega) (fun fuel cs x hl hx => ?_) h
  obtain ⟨n, rfl, _⟩ := trod_int Try.underlying5 hx
  refine ⟨n, fun j hj => ?_⟩
  obtain rfl : j = 0 := by omega
  exact rfl
theorem gv_of {t0 : Tok} {w : World} {ok : Cells} {v : Value} {xs : List Int} (h : @RS t0 w ok (slB xs) v) : @RS ⟨v, xs⟩ w ok (.gv xs) v := by
  obtain ⟨A, cap, e, h1, h2⟩ := h
  refine ⟨rfl, rfl, A, cap, e, h1, h2.imp (fun h => h) fun ⟨a, ea, hs, hc⟩ => ⟨a, ea, hs, fun i hi j hj => ?_⟩⟩
  obtain ⟨h3, u, h4, h5⟩ := hc i hi j hj
  obtain rfl : j = 0 := by omega
  exact ⟨h3, u, h4, h5⟩
theorem open_G {fuel : Nat} {v : Value} {x : DataW H × List MemPlace} (h : DataW.trod enc Try.prog w base spare held fuel 36 [v] = some x) :
    ∃ xs : List Int, xs.length ≤ maxLen ∧ @RS ⟨v, xs⟩ w (okAll w) (.gv xs) v := by
  letI : Tok := ⟨undef, []⟩
  obtain ⟨xs, hx, hr⟩ := open_B h
  exact ⟨xs, hx, gv_of hr⟩
end
end Go.Fw
namespace Go.Proofs.Ytkhfkekbfjkpcaa.fnPassOn
open Go.ChangeShapes Go.WideShapes Go.ChangeAt Go.RowKit Go.Fw
theorem own : ownKnob Try.prog.godebug = none := by kernel_rfl
theorem laidOut : laidOutB Try.prog = true := by kernel_rfl
set_option maxRecDepth 100000 in
theorem lifted (os : Os) (started : os.Started) (H : Type) (enc : TypeId × Value → H) :
    ReturnsInHanded {} Try.checked os 7 .any (Rows.fnPassOnSpec.pre6 enc Try.prog Try.f7 Rows.fnPassOnRow.domain false) (Rows.fnPassOnSpec.post enc Try.prog Try.f7 false true false false) := by
  refine returnsInHanded_of_change_sized (C := Try.checked) own started (by kernel_rfl) Try.func7
    (ChangeSpec.witness6 (enc := enc) (C := Try.checked) false ⟨#[], #[.slice none 0 0], []⟩ 2 (by kernel_rfl) (by kernel_rfl) (by kernel_rfl) (by kernel_rfl)) ?_
  intro W base args ds gs before hval0 hW hcnd hsz0 _
  have hW' := hW
  obtain ⟨p, q, hA0, hV, rfl, hfz, hnd⟩ := hW
  have hA : DataW.TrodAll enc Try.prog W 0 (fun _ => true) true Try.f7.params.toList args.toList ds p := hA0
  rw [Try.params7] at hA
  obtain ⟨v0, vs0, d0, ds0, p0, q0, hargs, rfl, rfl, k0, r0⟩ := trodAll_cons hA
  obtain ⟨rfl, rfl, rfl⟩ := trodAll_nil r0
  obtain rfl : args = #[v0] := by cases args; simp_all
  obtain ⟨rfl, rfl⟩ := trodVars_none hV
  have lt0 : ∀ x ∈ p0, x.block < W.heap.size := by obtain ⟨m, hm⟩ := k0; exact DataW.trod_lt m _ _ _ hm
  obtain ⟨fuel0, hf0⟩ := id k0
  obtain ⟨a0, len0, cap0, hv0⟩ := okWide_slice Try.underlying36 (hval0 0 36 v0 (by kernel_rfl) rfl)
  obtain ⟨xs0, hx0, hrs0⟩ := open_G (v := v0) (by rw [hv0] at hf0 ⊢; exact hf0)
  letI tk : Tok := ⟨v0, xs0⟩
  have hcon := ev_con (v7 xs0) W (fun _ _ => False) (fun _ => undef) (fun _ _ _ => False) #[v0] hrs0 (by simp) (fun x hx => by simp at hx)
    ⟨fun k x hk => by simp at hk, fun k m b o hk => by simp at hk, fun k b o hk => by simp at hk⟩ (fun b o h => h.elim) rfl (fun j hj => by
      obtain rfl : j = 0 := by simpa using hj
      exact hrs0)
  refine hcon.mono fun e W' ⟨v, he, hC, F, Fe', hR, _⟩ => ?_
  obtain rfl : v = .bool true := hR
  have bel : Below W.heap.size W W' := ⟨hC.io.1, hC.io.2.2, hC.io.2.1, hC.size, fun k hk => hC.blk k hk (fun o h => h)⟩
  subst he
  exact ⟨_, rfl, _, _, _, [], _, [], hW', trodAll_mk1 (shut_bool Try.underlying4 _), (trodAll_cons_mk (Below.trod laidOut (by kernel_rfl) (of_decide_eq_true (by kernel_rfl)) k0 bel lt0) trodAll_mk0), rfl, bel.frame _, fun h => by cases h⟩
theorem over : Rows.fnPassOnRow.holds Try.pinned (OpenSpec.ofChange Rows.fnPassOnSpec) :=
  OpenClaim.holds_of_wide 7 Try.f7 rfl rfl rfl rfl rfl rfl rfl ⟨rfl, rfl, rfl, rfl, rfl⟩ rfl rfl rfl rfl rfl (by kernel_rfl) Try.func7 (by kernel_rfl)
    (of_decide_eq_true (by kernel_rfl)) (by unfold Func.isWrapper; first | (rw [if_pos (by decide +kernel)]; kernel_rfl) | (rw [if_neg (by decide +kernel)]; exact ⟨rfl, rfl⟩))
    (fun os started H enc _ => lifted os started H enc)
end Go.Proofs.Ytkhfkekbfjkpcaa.fnPassOn
namespace Go.Proofs.Ytkhfkekbfjkpcaa
/-- The given statement. -/
theorem fnPassOn_holds : Rows.FnPassOnSaid := fnPassOn.over
end Go.Proofs.Ytkhfkekbfjkpcaa
#print axioms Go.Proofs.Ytkhfkekbfjkpcaa.fnPassOn_holds
