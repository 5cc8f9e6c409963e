/- The opening of the code that the caller lends for good. No proof of a statement. -/
import Derived.Test.YtailkfoodjgipaaGreatDoorFyC
import Derived.Test.YtailkfoodjgipaaGreatDoorD4
import Derived.WalkKit
import Derived.ProofKit
import Derived.OpenShut
import Derived.ShutString
import Derived.ChangeOld
import Derived.Below
import Derived.SizedLaws
set_option linter.unusedVariables false
set_option linter.unusedSectionVars false
namespace Go.Fw
open Go.Proofs
open Go.Deep
theorem lt_of_cell {w : World} {b : Nat} {v : Value} (h : w.cell? ⟨b, 0, none⟩ = some v) : b < w.heap.size := by
  by_cases hb : b < w.heap.size
  · exact hb
  · exfalso
    unfold World.cell? at h
    rw [Array.getElem?_eq_none (by show w.heap.size ≤ b; omega)] at h
    simp at h

section
variable {H : Type} {enc : TypeId × Value → H} {w : World} {base : Nat} {spare : Nat → Bool} {held : Bool}
theorem open_B [Tok] {fuel : Nat} {v : Value} {x : DataW H × List MemPlace} (h : DataW.trod enc Tryz.prog w base spare held fuel 22 [v] = some x) :
    ∃ xs : List Int, xs.length ≤ maxLen ∧ RS w (okAll w) (slB xs) v := by
  refine rs_slice (0 : Int) (fun a => [.I .u8 a]) Tryz.underlying22 (by kernel_rfl) (by omega) (fun fuel cs x hl hx => ?_) h
  obtain ⟨n, rfl, _⟩ := trod_int Tryz.underlying5 hx
  refine ⟨n, fun j hj => ?_⟩
  obtain rfl : j = 0 := by omega
  exact rfl
theorem gv_of {t0 : Tok} {w : World} {v : Value} {xs : List Int} {m : Int} (hm : w.cell? ⟨0, 0, none⟩ = some (.int .i64 m)) (h : @RS t0 w (okAll w) (slB xs) v) : @RS ⟨v, xs, some (0, .int .i64 m)⟩ w (okAll w) (.gv xs) v := by
  obtain ⟨A, cap, e, h1, h2⟩ := h
  refine ⟨rfl, rfl, fun b u hb => ?_, A, cap, e, h1, h2.imp (fun h => h) fun ⟨a, ea, hs, hc⟩ => ⟨a, ea, hs, fun i hi j hj => ?_⟩⟩
  · have hb2 : some ((0 : Nat), Value.int .i64 m) = some (b, u) := hb
    obtain ⟨rfl, rfl⟩ := Prod.mk.inj (Option.some.inj hb2)
    exact ⟨⟨lt_of_cell hm, fun h => h⟩, hm⟩
  · obtain ⟨h3, u, h4, h5⟩ := hc i hi j hj
    obtain rfl : j = 0 := by omega
    exact ⟨h3, u, h4, h5⟩
theorem open_G {fuel : Nat} {v : Value} {x : DataW H × List MemPlace} {m : Int} (hm : w.cell? ⟨0, 0, none⟩ = some (.int .i64 m)) (h : DataW.trod enc Tryz.prog w base spare held fuel 22 [v] = some x) :
    ∃ xs : List Int, xs.length ≤ maxLen ∧ @RS ⟨v, xs, some (0, .int .i64 m)⟩ w (okAll w) (.gv xs) v := by
  letI : Tok := ⟨undef, [], none⟩
  obtain ⟨xs, hx, hr⟩ := open_B h
  exact ⟨xs, hx, gv_of hm hr⟩
end
end Go.Fw
