/- The opening of arguments that the caller shares. No proof of a statement. -/
import Derived.Test.YtailkfoodjgipaaDoorFyC
import Derived.Test.YtailkfoodjgipaaDoorKm
import Derived.WalkKit
import Derived.ProofKit
import Derived.OpenShut
import Derived.ShutString
import Derived.ChangeOld
import Derived.Below
import Derived.SizedLaws
set_option linter.unusedVariables false
set_option linter.unusedSimpArgs false
namespace Go.Fw
open Go.Proofs
open Go.Deep
theorem lt_of_cell {w : World} {b : Nat} {v : Value} (h : w.cell? ⟨b, 0, none⟩ = some v) : b < w.heap.size := by
  by_cases hb : b < w.heap.size
  · exact hb
  · exfalso
    unfold World.cell? at h
    rw [Array.getElem?_eq_none (by show w.heap.size ≤ b; omega)] at h
    simp at h
set_option linter.unusedSectionVars false
section
variable [Tok]
variable {H : Type} {enc : TypeId × Value → H} {w : World} {base : Nat} {spare : Nat → Bool} {held : Bool}
theorem take1 {cs : List Value} {j : Nat} (h : j < cs.length) : (cs.drop j).take 1 = [cs.getD j undef] := by
  rw [List.drop_eq_getElem_cons h, List.take_succ_cons, List.take_zero, List.getD_eq_getElem?_getD, List.getElem?_eq_getElem h]
  rfl
theorem sub_getD {cs : List Value} {o c j : Nat} (h : j < c) : ((cs.drop o).take c).getD j undef = cs.getD (o + j) undef := by
  simp [List.getD_eq_getElem?_getD, List.getElem?_take, h]
theorem agg_of_cells {v : Value} {n : Nat} (h : v.cells.toList.length = n) (hn : n ≠ 1) : v = .agg v.cells ∧ v.cells.size = n := by
  cases v with
  | agg cs => exact ⟨rfl, by simpa using h⟩
  | _ => simp [Value.cells] at h; omega
theorem RS_one {ok : Cells} {x : AV} {v : Value} (h : RS w ok x v) : v.oneCell' = true := RS_oneCell h
theorem op_Term {fuel : Nat} {cs : List Value} {x : DataW H × List MemPlace} (h : DataW.trod enc Tryd.prog w base spare held fuel 79 cs = some x) :
    cs.length = 3 ∧ ∃ a : VTerm, okTerm a ∧ ∀ j, j < 3 → RS w (okAll w) (lstG [nI a.Op, nI a.Num, .S a.Text] j) (cs.getD j undef) := by
  obtain ⟨hl, n, hf⟩ := trod_struct Tryd.underlying79 h
  rw [(by kernel_rfl : Tryd.prog.cellsOf 79 = 3)] at hl
  have hf := fun f h => hf f h
  simp only [List.mem_cons, List.not_mem_nil, or_false, forall_eq_or_imp, forall_eq] at hf
  obtain ⟨⟨y0, g0⟩, ⟨y1, g1⟩, ⟨y2, g2⟩⟩ := hf
  rw [(by kernel_rfl : Tryd.prog.cellsOf 3 = 1)] at g0
  rw [take1 (by omega)] at g0
  obtain ⟨a0, h0, w0⟩ := trod_int Tryd.underlying3 g0
  rw [(by kernel_rfl : Tryd.prog.cellsOf 3 = 1)] at g1
  rw [take1 (by omega)] at g1
  obtain ⟨a1, h1, w1⟩ := trod_int Tryd.underlying3 g1
  rw [(by kernel_rfl : Tryd.prog.cellsOf 9 = 1)] at g2
  rw [take1 (by omega)] at g2
  obtain ⟨a2, h2, o2⟩ := trod_string Tryd.underlying9 g2
  refine ⟨hl, ⟨a0, a1, a2⟩, o2, fun j hj => ?_⟩
  have h2 : j = 0 ∨ j = 1 ∨ j = 2 := by omega
  rcases h2 with rfl | rfl | rfl
  · exact (List.cons.inj h0).1
  · exact (List.cons.inj h1).1
  · exact (List.cons.inj h2).1
theorem op_TermS {fuel : Nat} {v : Value} {x : DataW H × List MemPlace} (h : DataW.trod enc Tryd.prog w base spare held fuel 24 [v] = some x) : ∃ xs : List VTerm, okTermS xs ∧ RS w (okAll w) (slTermS xs) v := by
  have hm : maxLen = 9223372036854775807 := by decide
  obtain ⟨xs, h1, h2, h3⟩ := rs_sliceQ (zTerm : VTerm) (fun a : VTerm => [nI a.Op, nI a.Num, .S a.Text]) (fun a => okTerm a) Tryd.underlying24 (by kernel_rfl : Tryd.prog.cellsOf 79 = 3) (by omega) (by
    intro fuel cs x hl hx
    obtain ⟨_, a, ha, hc⟩ := op_Term hx
    exact ⟨a, ha, hc⟩) h
  rw [hm] at h1
  exact ⟨xs, ⟨h1, h2⟩, h3⟩
theorem op_Msg {fuel : Nat} {cs : List Value} {x : DataW H × List MemPlace} (h : DataW.trod enc Tryd.prog w base spare held fuel 23 cs = some x) :
    cs.length = 3 ∧ ∃ a : VMsg, okMsg a ∧ ∀ j, j < 3 → RS w (okAll w) (lstG [nI a.Kind, nI a.Num, .S a.Text] j) (cs.getD j undef) := by
  obtain ⟨hl, n, hf⟩ := trod_struct Tryd.underlying23 h
  rw [(by kernel_rfl : Tryd.prog.cellsOf 23 = 3)] at hl
  have hf := fun f h => hf f h
  simp only [List.mem_cons, List.not_mem_nil, or_false, forall_eq_or_imp, forall_eq] at hf
  obtain ⟨⟨y0, g0⟩, ⟨y1, g1⟩, ⟨y2, g2⟩⟩ := hf
  rw [(by kernel_rfl : Tryd.prog.cellsOf 3 = 1)] at g0
  rw [take1 (by omega)] at g0
  obtain ⟨a0, h0, w0⟩ := trod_int Tryd.underlying3 g0
  rw [(by kernel_rfl : Tryd.prog.cellsOf 3 = 1)] at g1
  rw [take1 (by omega)] at g1
  obtain ⟨a1, h1, w1⟩ := trod_int Tryd.underlying3 g1
  rw [(by kernel_rfl : Tryd.prog.cellsOf 9 = 1)] at g2
  rw [take1 (by omega)] at g2
  obtain ⟨a2, h2, o2⟩ := trod_string Tryd.underlying9 g2
  refine ⟨hl, ⟨a0, a1, a2⟩, o2, fun j hj => ?_⟩
  have h2 : j = 0 ∨ j = 1 ∨ j = 2 := by omega
  rcases h2 with rfl | rfl | rfl
  · exact (List.cons.inj h0).1
  · exact (List.cons.inj h1).1
  · exact (List.cons.inj h2).1
theorem op_Call {fuel : Nat} {cs : List Value} {x : DataW H × List MemPlace} (h : DataW.trod enc Tryd.prog w base spare held fuel 26 cs = some x) :
    cs.length = 9 ∧ ∃ a : VCall, okCall2 a ∧ ∀ j, j < 9 → RS w (okAll w) (lstG [nI a.Op, nI a.A, nI a.B, nI a.Tok, .S a.Name, nI a.Msg.Kind, nI a.Msg.Num, .S a.Msg.Text, slTermS a.Filter] j) (cs.getD j undef) := by
  obtain ⟨hl, n, hf⟩ := trod_struct Tryd.underlying26 h
  rw [(by kernel_rfl : Tryd.prog.cellsOf 26 = 9)] at hl
  have hf := fun f h => hf f h
  simp only [List.mem_cons, List.not_mem_nil, or_false, forall_eq_or_imp, forall_eq] at hf
  obtain ⟨⟨y0, g0⟩, ⟨y1, g1⟩, ⟨y2, g2⟩, ⟨y3, g3⟩, ⟨y4, g4⟩, ⟨y5, g5⟩, ⟨y6, g6⟩⟩ := hf
  rw [(by kernel_rfl : Tryd.prog.cellsOf 3 = 1)] at g0
  rw [take1 (by omega)] at g0
  obtain ⟨a0, h0, w0⟩ := trod_int Tryd.underlying3 g0
  rw [(by kernel_rfl : Tryd.prog.cellsOf 3 = 1)] at g1
  rw [take1 (by omega)] at g1
  obtain ⟨a1, h1, w1⟩ := trod_int Tryd.underlying3 g1
  rw [(by kernel_rfl : Tryd.prog.cellsOf 3 = 1)] at g2
  rw [take1 (by omega)] at g2
  obtain ⟨a2, h2, w2⟩ := trod_int Tryd.underlying3 g2
  rw [(by kernel_rfl : Tryd.prog.cellsOf 3 = 1)] at g3
  rw [take1 (by omega)] at g3
  obtain ⟨a3, h3, w3⟩ := trod_int Tryd.underlying3 g3
  rw [(by kernel_rfl : Tryd.prog.cellsOf 9 = 1)] at g4
  rw [take1 (by omega)] at g4
  obtain ⟨a4, h4, o4⟩ := trod_string Tryd.underlying9 g4
  rw [(by kernel_rfl : Tryd.prog.cellsOf 23 = 3)] at g5
  obtain ⟨_, a5, o5, h5⟩ := op_Msg g5
  rw [(by kernel_rfl : Tryd.prog.cellsOf 24 = 1)] at g6
  rw [take1 (by omega)] at g6
  obtain ⟨a6, o6, h6⟩ := op_TermS g6
  refine ⟨hl, ⟨a0, a1, a2, a3, a4, a5, a6⟩, ⟨⟨o4, o5, o6⟩, wf_rng w1, wf_rng w2, wf_rng w3⟩, fun j hj => ?_⟩
  have h2 : j = 0 ∨ j = 1 ∨ j = 2 ∨ j = 3 ∨ j = 4 ∨ j = 5 ∨ j = 6 ∨ j = 7 ∨ j = 8 := by omega
  rcases h2 with rfl | rfl | rfl | rfl | rfl | rfl | rfl | rfl | rfl
  · exact (List.cons.inj h0).1
  · exact (List.cons.inj h1).1
  · exact (List.cons.inj h2).1
  · exact (List.cons.inj h3).1
  · exact (List.cons.inj h4).1
  · have := h5 0 (by omega); rw [sub_getD (by omega)] at this; exact this
  · have := h5 1 (by omega); rw [sub_getD (by omega)] at this; exact this
  · have := h5 2 (by omega); rw [sub_getD (by omega)] at this; exact this
  · exact h6
theorem op_CallS {fuel : Nat} {v : Value} {x : DataW H × List MemPlace} (h : DataW.trod enc Tryd.prog w base spare held fuel 37 [v] = some x) : ∃ xs : List VCall, okCallS2 xs ∧ RS w (okAll w) (slCallS xs) v := by
  have hm : maxLen = 9223372036854775807 := by decide
  obtain ⟨xs, h1, h2, h3⟩ := rs_sliceQ (zCall : VCall) (fun a : VCall => [nI a.Op, nI a.A, nI a.B, nI a.Tok, .S a.Name, nI a.Msg.Kind, nI a.Msg.Num, .S a.Msg.Text, slTermS a.Filter]) (fun a => okCall2 a) Tryd.underlying37 (by kernel_rfl : Tryd.prog.cellsOf 26 = 9) (by omega) (by
    intro fuel cs x hl hx
    obtain ⟨_, a, ha, hc⟩ := op_Call hx
    exact ⟨a, ha, hc⟩) h
  rw [hm] at h1
  exact ⟨xs, ⟨h1, h2⟩, h3⟩
end
end Go.Fw
