/- The laws' values: CallText, ProgText. -/
import Derived.Test.YtailkfoodjgipaaDoorKl
set_option linter.unusedVariables false
set_option linter.unusedSimpArgs false
namespace Go.Fw
open Go.Proofs
theorem sumL_mem {α : Type} {f : α → Nat} {xs : List α} {b : Nat} (h : sumL f xs ≤ b) {x : α} (hx : x ∈ xs) : f x ≤ b := by
  have key : ∀ (ys : List α) (y : α), y ∈ ys → f y ≤ (ys.map f).sum := fun ys => by
    induction ys with
    | nil => intro y hy; simp at hy
    | cons a ys ih =>
      intro y hy
      simp only [List.map_cons, List.sum_cons]
      rcases List.mem_cons.1 hy with rfl | hy
      · omega
      · have := ih y hy; omega
  have := key xs x hx
  unfold sumL at h; omega
/-- A call's whole numbers are of their kind. -/
def intsOk (c : VCall) : Prop := i64R c.A ∧ i64R c.B ∧ i64R c.Tok
theorem fit_of {c : VCall} (h : szCall c ≤ 1048576) (hi : intsOk c) : Fit c := by
  unfold szCall szMsg at h
  have h1 : szTermS c.Filter ≤ 1048576 := by omega
  have h2 := sumL_len h1
  exact ⟨by omega, fun x hx => sumL_mem h1 hx, by omega, by omega, hi.1, hi.2.1, hi.2.2⟩
theorem v3 (c : VCall) (ok : okCall c) (hi : intsOk c) : E 3 [slCall c] [] = some (.B true, []) := by
  refine ev1 0 rfl ((e3 ..).trans (obind' (v7 c 1048576 ok (by omega) (by omega)) ?_))
  by_cases hz : szCall c ≤ 1048576
  · have hx := fit_of hz hi
    have h1 : subZ 1048576 (szCall c) = 1048576 - (szCall c : Int) := subZ_le (by omega)
    refine bf' (by show decide (subZ 1048576 (szCall c) < 0) = false; rw [h1]; exact decide_eq_false (by omega)) (obind' (v9 c hz) (obind' (v8 c hx) (obind' (v9 c hz) (obind' (v10 c hx) ?_))))
    refine bf' (by show (!(callT c).toList == (callT c).toList) = false; simp) (bf' (by show (!callB c == callB c) = false; simp) (and2_both ?_ ?_))
    · exact obind' (v9 c hz) (obind' (w11 c hz) (bf' rfl rfl))
    · exact obind' (v9 c hz) (obind' (w11 c hz) (bf' rfl rfl))
  · have h1 : subZ 1048576 (szCall c) = -1 := subZ_gt (by omega)
    exact bt' (by show decide (subZ 1048576 (szCall c) < 0) = true; rw [h1]; rfl) rfl
/-- What is known of a call that is handed in. -/
def okCall2 (c : VCall) : Prop := okCall c ∧ intsOk c
def okCallS2 (xs : List VCall) : Prop := xs.length ≤ 9223372036854775807 ∧ ∀ x ∈ xs, okCall2 x
theorem wf_rng {n : Int} (h : (Lit.int .i64 n).wf = true) : i64R n := by
  simpa [Lit.wf, IntKind.min, IntKind.max, IntKind.signed, IntKind.bits] using h
end Go.Fw
