/- Plain: rows without two alike that lie in another are no longer than it. No program in sight. -/
import Derived.Test.YtndmnbgcneaggaaGreatDoorD0
set_option linter.unusedVariables false
set_option linter.unusedSimpArgs false
namespace Go.Fw
theorem len_le_of_sub : ∀ (W I : List Int), (∀ i, i < W.length → W.getD i 0 ∈ I ∧ W.getD i 0 ∉ W.take i) → W.length ≤ I.length := by
 intro W
 induction W with
 | nil => intro I h; exact Nat.zero_le _
 | cons a r ih =>
  intro I h
  have ha : a ∈ I := (h 0 (by simp)).1
  have := ih (I.erase a) (fun i hi => by
   obtain ⟨h1, h2⟩ := h (i + 1) (by simp; omega)
   simp only [List.getD_cons_succ, List.take_succ_cons, List.mem_cons, not_or] at h1 h2
   exact ⟨(List.mem_erase_of_ne h2.1).2 h1, h2.2⟩)
  rw [List.length_erase_of_mem ha] at this
  have hp := List.length_pos_of_mem ha
  simp only [List.length_cons]
  omega
end Go.Fw
