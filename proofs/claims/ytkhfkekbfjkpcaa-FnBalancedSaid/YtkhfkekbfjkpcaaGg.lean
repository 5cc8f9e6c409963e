/- The opening of an argument of bytes. No proof of a statement. -/
import Derived.Test.YtkhfkekbfjkpcaaGc
set_option linter.unusedVariables false
namespace Go.Fw
open Go.Proofs

section
variable {H : Type} {enc : TypeId × Value → H} {w : World} {base : Nat} {spare : Nat → Bool} {held : Bool}
theorem open_B {fuel : Nat} {v : Value} {x : DataW H × List MemPlace} (h : DataW.trod enc Try.prog w base spare held fuel 36 [v] = some x) :
    ∃ xs : List Int, xs.length ≤ maxLen ∧ RS w (okAll w) (slB xs) v := by
  refine rs_slice (0 : Int) (fun a => [.I .u8 a]) Try.underlying36 (by kernel_rfl) (by omega) (fun fuel cs x hl hx => ?_) h
  obtain ⟨n, rfl, _⟩ := trod_int Try.underlying5 hx
  refine ⟨n, fun j hj => ?_⟩
  obtain rfl : j = 0 := by omega
  exact rfl
end
end Go.Fw
