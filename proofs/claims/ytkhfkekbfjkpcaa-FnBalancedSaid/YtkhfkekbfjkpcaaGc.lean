/- The opening of a Notify's arguments: what lies in shared memory, told as lists. No proof of a statement. -/
import Derived.Test.YtkhfkekbfjkpcaaRows
import Derived.Test.YtkhfkekbfjkpcaaG2
import Derived.Test.YtkhfkekbfjkpcaaFyC
import Derived.WalkKit
import Derived.ProofKit
import Derived.OpenShut
import Derived.ShutString
import Derived.ChangeOld
import Derived.Below
import Derived.SizedLaws
set_option linter.unusedVariables false
namespace Go.Fw
open Go.Proofs

section
variable {H : Type} {enc : TypeId × Value → H} {w : World} {base : Nat} {spare : Nat → Bool} {held : Bool}
theorem take1 {cs : List Value} {j : Nat} (h : j < cs.length) : (cs.drop j).take 1 = [cs.getD j undef] := by
  rw [List.drop_eq_getElem_cons h, List.take_succ_cons, List.take_zero, List.getD_eq_getElem?_getD, List.getElem?_eq_getElem h]
  rfl
theorem open_I {t : TypeId} (ht : Try.prog.underlying t = some (.slice 3)) {fuel : Nat} {v : Value} {x : DataW H × List MemPlace} (h : DataW.trod enc Try.prog w base spare held fuel t [v] = some x) :
    ∃ xs : List Int, xs.length ≤ maxLen ∧ RS w (okAll w) (slI xs) v := by
  refine rs_slice (0 : Int) (fun a => [nI a]) ht (by kernel_rfl) (by omega) (fun fuel cs x hl hx => ?_) h
  obtain ⟨n, rfl, _⟩ := trod_int Try.underlying3 hx
  refine ⟨n, fun j hj => ?_⟩
  obtain rfl : j = 0 := by omega
  exact rfl
theorem open_G {t e : TypeId} (ht : Try.prog.underlying t = some (.slice e)) (he : Try.prog.cellsOf e = 2) {f0 f1 : Field} (hu : Try.prog.underlying e = some (.struct #[f0, f1])) (h0 : f0.offset = 0 ∧ f0.type = 3) (h1 : f1.offset = 1 ∧ f1.type = 4)
    {fuel : Nat} {v : Value} {x : DataW H × List MemPlace} (h : DataW.trod enc Try.prog w base spare held fuel t [v] = some x) :
    ∃ xs : List (Int × Bool), xs.length ≤ maxLen ∧ RS w (okAll w) (slG xs) v := by
  refine rs_slice ((0 : Int), false) (fun a => [nI a.1, .B a.2]) ht he (by omega) (fun fuel cs x hl hx => ?_) h
  obtain ⟨_, n, hf⟩ := trod_struct hu hx
  obtain ⟨y0, g0⟩ := hf f0 (by simp)
  obtain ⟨y1, g1⟩ := hf f1 (by simp)
  have c3 : Try.prog.cellsOf 3 = 1 := by kernel_rfl
  have c4 : Try.prog.cellsOf 4 = 1 := by kernel_rfl
  rw [h0.1, h0.2, c3, take1 (by omega)] at g0
  rw [h1.1, h1.2, c4, take1 (by omega)] at g1
  obtain ⟨a, ea, _⟩ := trod_int Try.underlying3 g0
  obtain ⟨b, eb⟩ := trod_bool Try.underlying4 g1
  refine ⟨(a, b), fun j hj => ?_⟩
  have h2 : j = 0 ∨ j = 1 := by omega
  rcases h2 with rfl | rfl
  · exact (List.cons.inj ea).1
  · exact (List.cons.inj eb).1
theorem open_N {fuel : Nat} {cs : List Value} {x : DataW H × List MemPlace} (h : DataW.trod enc Try.prog w base spare held fuel 25 cs = some x) :
    cs.length = 6 ∧ ∃ n : NT, n.l.length ≤ maxLen ∧ n.g.length ≤ maxLen ∧ ∀ j, j < 6 → RS w (okAll w) (lstG [.B n.p, slI n.l, slG n.g, nI n.o, nI n.s, nI n.t] j) (cs.getD j undef) := by
  obtain ⟨hl, n, hf⟩ := trod_struct Try.underlying25 h
  have c25 : Try.prog.cellsOf 25 = 6 := by kernel_rfl
  have c3 : Try.prog.cellsOf 3 = 1 := by kernel_rfl
  have c4 : Try.prog.cellsOf 4 = 1 := by kernel_rfl
  have c22 : Try.prog.cellsOf 22 = 1 := by kernel_rfl
  have c23 : Try.prog.cellsOf 23 = 1 := by kernel_rfl
  rw [c25] at hl
  have hf := fun f h => hf f h
  simp only [List.mem_cons, List.not_mem_nil, or_false, forall_eq_or_imp, forall_eq] at hf
  obtain ⟨⟨y0, g0⟩, ⟨y1, g1⟩, ⟨y2, g2⟩, ⟨y3, g3⟩, ⟨y4, g4⟩, ⟨y5, g5⟩⟩ := hf
  rw [c4, take1 (by omega)] at g0
  rw [c22, take1 (by omega)] at g1
  rw [c23, take1 (by omega)] at g2
  rw [c3, take1 (by omega)] at g3 g4 g5
  obtain ⟨p, ep⟩ := trod_bool Try.underlying4 g0
  obtain ⟨l, hl1, hl2⟩ := open_I Try.underlying22 g1
  obtain ⟨g, hg1, hg2⟩ := open_G Try.underlying23 (by kernel_rfl) Try.underlying75 ⟨rfl, rfl⟩ ⟨rfl, rfl⟩ g2
  obtain ⟨o, eo, _⟩ := trod_int Try.underlying3 g3
  obtain ⟨s, es, _⟩ := trod_int Try.underlying3 g4
  obtain ⟨t, et, _⟩ := trod_int Try.underlying3 g5
  refine ⟨hl, ⟨p, l, g, o, s, t⟩, hl1, hg1, fun j hj => ?_⟩
  have h2 : j = 0 ∨ j = 1 ∨ j = 2 ∨ j = 3 ∨ j = 4 ∨ j = 5 := by omega
  rcases h2 with rfl | rfl | rfl | rfl | rfl | rfl
  · exact (List.cons.inj ep).1
  · exact hl2
  · exact hg2
  · exact (List.cons.inj eo).1
  · exact (List.cons.inj es).1
  · exact (List.cons.inj et).1
theorem agg_of_cells {v : Value} {n : Nat} (h : v.cells.toList.length = n) (hn : n ≠ 1) : v = .agg v.cells ∧ v.cells.size = n := by
  cases v with
  | agg cs => exact ⟨rfl, by simpa using h⟩
  | _ => simp [Value.cells] at h; omega
theorem RS_one {ok : Cells} {x : AV} {v : Value} (h : RS w ok x v) : v.oneCell' = true := RS_oneCell h
end
end Go.Fw

