/- The opening of arguments that the caller shares. No proof of a statement. -/
import Derived.Test.YtndmnbgcneaggaaGreatDoorFyC
import Derived.Test.YtndmnbgcneaggaaGreatDoorV4
import Derived.WalkKit
import Derived.ProofKit
import Derived.OpenShut
import Derived.ShutString
import Derived.ChangeOld
import Derived.Below
import Derived.SizedLaws
set_option linter.unusedVariables false
set_option linter.unusedSimpArgs false
namespace Go.Fw
open Go.Proofs
open Go.Deep
theorem lt_of_cell {w : World} {b : Nat} {v : Value} (h : w.cell? ⟨b, 0, none⟩ = some v) : b < w.heap.size := by
 by_cases hb : b < w.heap.size
 · exact hb
 · exfalso
   unfold World.cell? at h
   rw [Array.getElem?_eq_none (by show w.heap.size ≤ b; omega)] at h
   simp at h
set_option linter.unusedSectionVars false
section
variable [Tok]
variable {H : Type} {enc : TypeId × Value → H} {w : World} {base : Nat} {spare : Nat → Bool} {held : Bool}
theorem take1 {cs : List Value} {j : Nat} (h : j < cs.length) : (cs.drop j).take 1 = [cs.getD j undef] := by
 rw [List.drop_eq_getElem_cons h, List.take_succ_cons, List.take_zero, List.getD_eq_getElem?_getD, List.getElem?_eq_getElem h]
 rfl
theorem sub_getD {cs : List Value} {o c j : Nat} (h : j < c) : ((cs.drop o).take c).getD j undef = cs.getD (o + j) undef := by
 simp [List.getD_eq_getElem?_getD, List.getElem?_take, h]
theorem agg_of_cells {v : Value} {n : Nat} (h : v.cells.toList.length = n) (hn : n ≠ 1) : v = .agg v.cells ∧ v.cells.size = n := by
 cases v with
 | agg cs => exact ⟨rfl, by simpa using h⟩
 | _ => simp [Value.cells] at h; omega
theorem RS_one {ok : Cells} {x : AV} {v : Value} (h : RS w ok x v) : v.oneCell' = true := RS_oneCell h
theorem op_IntS {fuel : Nat} {v : Value} {x : DataW H × List MemPlace} (h : DataW.trod enc Tryz.prog w base spare held fuel 22 [v] = some x) : ∃ xs : List Int, arIntS xs ∧ RS w (okAll w) (slIntS xs) v := by
 have hm : maxLen = 9223372036854775807 := by decide
 obtain ⟨xs, h1, h2, h3⟩ := rs_sliceQ (0 : Int) (fun a : Int => [nI a]) (fun a => i64R a) Tryz.underlying22 (by kernel_rfl : Tryz.prog.cellsOf 3 = 1) (by omega) (by
  intro fuel cs x hl hx
  obtain ⟨a, rfl, wa⟩ := trod_int Tryz.underlying3 hx
  refine ⟨a, wf_rng wa, fun j hj => ?_⟩
  obtain rfl : j = 0 := by omega
  exact rfl) h
 rw [hm] at h1
 exact ⟨xs, ⟨h1, h2⟩, h3⟩
theorem op_BoolS {fuel : Nat} {v : Value} {x : DataW H × List MemPlace} (h : DataW.trod enc Tryz.prog w base spare held fuel 23 [v] = some x) : ∃ xs : List Bool, arBoolS xs ∧ RS w (okAll w) (slBoolS xs) v := by
 have hm : maxLen = 9223372036854775807 := by decide
 obtain ⟨xs, h1, h2, h3⟩ := rs_sliceQ (false : Bool) (fun a : Bool => [.B a]) (fun a => True) Tryz.underlying23 (by kernel_rfl : Tryz.prog.cellsOf 4 = 1) (by omega) (by
  intro fuel cs x hl hx
  obtain ⟨a, rfl⟩ := trod_bool Tryz.underlying4 hx
  refine ⟨a, trivial, fun j hj => ?_⟩
  obtain rfl : j = 0 := by omega
  exact rfl) h
 rw [hm] at h1
 exact ⟨xs, ⟨h1, fun x hx => h2 x hx⟩, h3⟩
theorem op_Tokens {fuel : Nat} {cs : List Value} {x : DataW H × List MemPlace} (h : DataW.trod enc Tryz.prog w base spare held fuel 25 cs = some x) :
  cs.length = 2 ∧ ∃ a : VTokens, arTokens a ∧ ∀ j, j < 2 → RS w (okAll w) (lstG [slIntS a.Parents, slBoolS a.Off] j) (cs.getD j undef) := by
 obtain ⟨hl, n, hf⟩ := trod_struct Tryz.underlying25 h
 rw [(by kernel_rfl : Tryz.prog.cellsOf 25 = 2)] at hl
 have hf := fun f h => hf f h
 simp only [List.mem_cons, List.not_mem_nil, or_false, forall_eq_or_imp, forall_eq] at hf
 obtain ⟨⟨y0, g0⟩, ⟨y1, g1⟩⟩ := hf
 rw [(by kernel_rfl : Tryz.prog.cellsOf 22 = 1)] at g0
 rw [take1 (by omega)] at g0
 obtain ⟨a0, o0, h0⟩ := op_IntS g0
 rw [(by kernel_rfl : Tryz.prog.cellsOf 23 = 1)] at g1
 rw [take1 (by omega)] at g1
 obtain ⟨a1, o1, h1⟩ := op_BoolS g1
 refine ⟨hl, ⟨a0, a1⟩, ⟨o0, o1⟩, fun j hj => ?_⟩
 have h2 : j = 0 ∨ j = 1 := by omega
 rcases h2 with rfl | rfl
 · exact h0
 · exact h1
theorem op_Timer {fuel : Nat} {cs : List Value} {x : DataW H × List MemPlace} (h : DataW.trod enc Tryz.prog w base spare held fuel 281 cs = some x) :
  cs.length = 2 ∧ ∃ a : VTimer, arTimer a ∧ ∀ j, j < 2 → RS w (okAll w) (lstG [nI a.At, nI a.Token] j) (cs.getD j undef) := by
 obtain ⟨hl, n, hf⟩ := trod_struct Tryz.underlying281 h
 rw [(by kernel_rfl : Tryz.prog.cellsOf 281 = 2)] at hl
 have hf := fun f h => hf f h
 simp only [List.mem_cons, List.not_mem_nil, or_false, forall_eq_or_imp, forall_eq] at hf
 obtain ⟨⟨y0, g0⟩, ⟨y1, g1⟩⟩ := hf
 rw [(by kernel_rfl : Tryz.prog.cellsOf 3 = 1)] at g0
 rw [take1 (by omega)] at g0
 obtain ⟨a0, h0, w0⟩ := trod_int Tryz.underlying3 g0
 rw [(by kernel_rfl : Tryz.prog.cellsOf 3 = 1)] at g1
 rw [take1 (by omega)] at g1
 obtain ⟨a1, h1, w1⟩ := trod_int Tryz.underlying3 g1
 refine ⟨hl, ⟨a0, a1⟩, ⟨wf_rng w0, wf_rng w1⟩, fun j hj => ?_⟩
 have h2 : j = 0 ∨ j = 1 := by omega
 rcases h2 with rfl | rfl
 · exact (List.cons.inj h0).1
 · exact (List.cons.inj h1).1
theorem op_TimerS {fuel : Nat} {v : Value} {x : DataW H × List MemPlace} (h : DataW.trod enc Tryz.prog w base spare held fuel 26 [v] = some x) : ∃ xs : List VTimer, arTimerS xs ∧ RS w (okAll w) (slTimerS xs) v := by
 have hm : maxLen = 9223372036854775807 := by decide
 obtain ⟨xs, h1, h2, h3⟩ := rs_sliceQ (zTimer : VTimer) (fun a : VTimer => [nI a.At, nI a.Token]) (fun a => arTimer a) Tryz.underlying26 (by kernel_rfl : Tryz.prog.cellsOf 281 = 2) (by omega) (by
  intro fuel cs x hl hx
  obtain ⟨_, a, ha, hc⟩ := op_Timer hx
  exact ⟨a, ha, hc⟩) h
 rw [hm] at h1
 exact ⟨xs, ⟨h1, h2⟩, h3⟩
theorem op_Clock {fuel : Nat} {cs : List Value} {x : DataW H × List MemPlace} (h : DataW.trod enc Tryz.prog w base spare held fuel 28 cs = some x) :
  cs.length = 2 ∧ ∃ a : VClock, arClock a ∧ ∀ j, j < 2 → RS w (okAll w) (lstG [nI a.Now, slTimerS a.Timers] j) (cs.getD j undef) := by
 obtain ⟨hl, n, hf⟩ := trod_struct Tryz.underlying28 h
 rw [(by kernel_rfl : Tryz.prog.cellsOf 28 = 2)] at hl
 have hf := fun f h => hf f h
 simp only [List.mem_cons, List.not_mem_nil, or_false, forall_eq_or_imp, forall_eq] at hf
 obtain ⟨⟨y0, g0⟩, ⟨y1, g1⟩⟩ := hf
 rw [(by kernel_rfl : Tryz.prog.cellsOf 3 = 1)] at g0
 rw [take1 (by omega)] at g0
 obtain ⟨a0, h0, w0⟩ := trod_int Tryz.underlying3 g0
 rw [(by kernel_rfl : Tryz.prog.cellsOf 26 = 1)] at g1
 rw [take1 (by omega)] at g1
 obtain ⟨a1, o1, h1⟩ := op_TimerS g1
 refine ⟨hl, ⟨a0, a1⟩, ⟨wf_rng w0, o1⟩, fun j hj => ?_⟩
 have h2 : j = 0 ∨ j = 1 := by omega
 rcases h2 with rfl | rfl
 · exact (List.cons.inj h0).1
 · exact h1
theorem op_Grant {fuel : Nat} {cs : List Value} {x : DataW H × List MemPlace} (h : DataW.trod enc Tryz.prog w base spare held fuel 315 cs = some x) :
  cs.length = 2 ∧ ∃ a : VGrant, arGrant a ∧ ∀ j, j < 2 → RS w (okAll w) (lstG [nI a.Who, .B a.One] j) (cs.getD j undef) := by
 obtain ⟨hl, n, hf⟩ := trod_struct Tryz.underlying315 h
 rw [(by kernel_rfl : Tryz.prog.cellsOf 315 = 2)] at hl
 have hf := fun f h => hf f h
 simp only [List.mem_cons, List.not_mem_nil, or_false, forall_eq_or_imp, forall_eq] at hf
 obtain ⟨⟨y0, g0⟩, ⟨y1, g1⟩⟩ := hf
 rw [(by kernel_rfl : Tryz.prog.cellsOf 3 = 1)] at g0
 rw [take1 (by omega)] at g0
 obtain ⟨a0, h0, w0⟩ := trod_int Tryz.underlying3 g0
 rw [(by kernel_rfl : Tryz.prog.cellsOf 4 = 1)] at g1
 rw [take1 (by omega)] at g1
 obtain ⟨a1, h1⟩ := trod_bool Tryz.underlying4 g1
 refine ⟨hl, ⟨a0, a1⟩, wf_rng w0, fun j hj => ?_⟩
 have h2 : j = 0 ∨ j = 1 := by omega
 rcases h2 with rfl | rfl
 · exact (List.cons.inj h0).1
 · exact (List.cons.inj h1).1
theorem op_GrantS {fuel : Nat} {v : Value} {x : DataW H × List MemPlace} (h : DataW.trod enc Tryz.prog w base spare held fuel 181 [v] = some x) : ∃ xs : List VGrant, arGrantS xs ∧ RS w (okAll w) (slGrantS xs) v := by
 have hm : maxLen = 9223372036854775807 := by decide
 obtain ⟨xs, h1, h2, h3⟩ := rs_sliceQ (zGrant : VGrant) (fun a : VGrant => [nI a.Who, .B a.One]) (fun a => arGrant a) Tryz.underlying181 (by kernel_rfl : Tryz.prog.cellsOf 315 = 2) (by omega) (by
  intro fuel cs x hl hx
  obtain ⟨_, a, ha, hc⟩ := op_Grant hx
  exact ⟨a, ha, hc⟩) h
 rw [hm] at h1
 exact ⟨xs, ⟨h1, h2⟩, h3⟩
theorem op_Notify {fuel : Nat} {cs : List Value} {x : DataW H × List MemPlace} (h : DataW.trod enc Tryz.prog w base spare held fuel 183 cs = some x) :
  cs.length = 6 ∧ ∃ a : VNotify, arNotify a ∧ ∀ j, j < 6 → RS w (okAll w) (lstG [.B a.Permit, slIntS a.Line, slGrantS a.Grants, nI a.Ones, nI a.Spilt, nI a.Taken] j) (cs.getD j undef) := by
 obtain ⟨hl, n, hf⟩ := trod_struct Tryz.underlying183 h
 rw [(by kernel_rfl : Tryz.prog.cellsOf 183 = 6)] at hl
 have hf := fun f h => hf f h
 simp only [List.mem_cons, List.not_mem_nil, or_false, forall_eq_or_imp, forall_eq] at hf
 obtain ⟨⟨y0, g0⟩, ⟨y1, g1⟩, ⟨y2, g2⟩, ⟨y3, g3⟩, ⟨y4, g4⟩, ⟨y5, g5⟩⟩ := hf
 rw [(by kernel_rfl : Tryz.prog.cellsOf 4 = 1)] at g0
 rw [take1 (by omega)] at g0
 obtain ⟨a0, h0⟩ := trod_bool Tryz.underlying4 g0
 rw [(by kernel_rfl : Tryz.prog.cellsOf 22 = 1)] at g1
 rw [take1 (by omega)] at g1
 obtain ⟨a1, o1, h1⟩ := op_IntS g1
 rw [(by kernel_rfl : Tryz.prog.cellsOf 181 = 1)] at g2
 rw [take1 (by omega)] at g2
 obtain ⟨a2, o2, h2⟩ := op_GrantS g2
 rw [(by kernel_rfl : Tryz.prog.cellsOf 3 = 1)] at g3
 rw [take1 (by omega)] at g3
 obtain ⟨a3, h3, w3⟩ := trod_int Tryz.underlying3 g3
 rw [(by kernel_rfl : Tryz.prog.cellsOf 3 = 1)] at g4
 rw [take1 (by omega)] at g4
 obtain ⟨a4, h4, w4⟩ := trod_int Tryz.underlying3 g4
 rw [(by kernel_rfl : Tryz.prog.cellsOf 3 = 1)] at g5
 rw [take1 (by omega)] at g5
 obtain ⟨a5, h5, w5⟩ := trod_int Tryz.underlying3 g5
 refine ⟨hl, ⟨a0, a1, a2, a3, a4, a5⟩, ⟨o1, o2, wf_rng w3, wf_rng w4, wf_rng w5⟩, fun j hj => ?_⟩
 have h2 : j = 0 ∨ j = 1 ∨ j = 2 ∨ j = 3 ∨ j = 4 ∨ j = 5 := by omega
 rcases h2 with rfl | rfl | rfl | rfl | rfl | rfl
 · exact (List.cons.inj h0).1
 · exact h1
 · exact h2
 · exact (List.cons.inj h3).1
 · exact (List.cons.inj h4).1
 · exact (List.cons.inj h5).1
theorem op_NotifyS {fuel : Nat} {v : Value} {x : DataW H × List MemPlace} (h : DataW.trod enc Tryz.prog w base spare held fuel 29 [v] = some x) : ∃ xs : List VNotify, arNotifyS xs ∧ RS w (okAll w) (slNotifyS xs) v := by
 have hm : maxLen = 9223372036854775807 := by decide
 obtain ⟨xs, h1, h2, h3⟩ := rs_sliceQ (zNotify : VNotify) (fun a : VNotify => [.B a.Permit, slIntS a.Line, slGrantS a.Grants, nI a.Ones, nI a.Spilt, nI a.Taken]) (fun a => arNotify a) Tryz.underlying29 (by kernel_rfl : Tryz.prog.cellsOf 183 = 6) (by omega) (by
  intro fuel cs x hl hx
  obtain ⟨_, a, ha, hc⟩ := op_Notify hx
  exact ⟨a, ha, hc⟩) h
 rw [hm] at h1
 exact ⟨xs, ⟨h1, h2⟩, h3⟩
theorem op_Event {fuel : Nat} {cs : List Value} {x : DataW H × List MemPlace} (h : DataW.trod enc Tryz.prog w base spare held fuel 185 cs = some x) :
  cs.length = 7 ∧ ∃ a : VEvent, arEvent a ∧ ∀ j, j < 7 → RS w (okAll w) (lstG [.B a.Auto, .B a.Up, slIntS a.Line, slIntS a.Grants, nI a.Sets, nI a.Spilt, nI a.Taken] j) (cs.getD j undef) := by
 obtain ⟨hl, n, hf⟩ := trod_struct Tryz.underlying185 h
 rw [(by kernel_rfl : Tryz.prog.cellsOf 185 = 7)] at hl
 have hf := fun f h => hf f h
 simp only [List.mem_cons, List.not_mem_nil, or_false, forall_eq_or_imp, forall_eq] at hf
 obtain ⟨⟨y0, g0⟩, ⟨y1, g1⟩, ⟨y2, g2⟩, ⟨y3, g3⟩, ⟨y4, g4⟩, ⟨y5, g5⟩, ⟨y6, g6⟩⟩ := hf
 rw [(by kernel_rfl : Tryz.prog.cellsOf 4 = 1)] at g0
 rw [take1 (by omega)] at g0
 obtain ⟨a0, h0⟩ := trod_bool Tryz.underlying4 g0
 rw [(by kernel_rfl : Tryz.prog.cellsOf 4 = 1)] at g1
 rw [take1 (by omega)] at g1
 obtain ⟨a1, h1⟩ := trod_bool Tryz.underlying4 g1
 rw [(by kernel_rfl : Tryz.prog.cellsOf 22 = 1)] at g2
 rw [take1 (by omega)] at g2
 obtain ⟨a2, o2, h2⟩ := op_IntS g2
 rw [(by kernel_rfl : Tryz.prog.cellsOf 22 = 1)] at g3
 rw [take1 (by omega)] at g3
 obtain ⟨a3, o3, h3⟩ := op_IntS g3
 rw [(by kernel_rfl : Tryz.prog.cellsOf 3 = 1)] at g4
 rw [take1 (by omega)] at g4
 obtain ⟨a4, h4, w4⟩ := trod_int Tryz.underlying3 g4
 rw [(by kernel_rfl : Tryz.prog.cellsOf 3 = 1)] at g5
 rw [take1 (by omega)] at g5
 obtain ⟨a5, h5, w5⟩ := trod_int Tryz.underlying3 g5
 rw [(by kernel_rfl : Tryz.prog.cellsOf 3 = 1)] at g6
 rw [take1 (by omega)] at g6
 obtain ⟨a6, h6, w6⟩ := trod_int Tryz.underlying3 g6
 refine ⟨hl, ⟨a0, a1, a2, a3, a4, a5, a6⟩, ⟨o2, o3, wf_rng w4, wf_rng w5, wf_rng w6⟩, fun j hj => ?_⟩
 have h2 : j = 0 ∨ j = 1 ∨ j = 2 ∨ j = 3 ∨ j = 4 ∨ j = 5 ∨ j = 6 := by omega
 rcases h2 with rfl | rfl | rfl | rfl | rfl | rfl | rfl
 · exact (List.cons.inj h0).1
 · exact (List.cons.inj h1).1
 · exact h2
 · exact h3
 · exact (List.cons.inj h4).1
 · exact (List.cons.inj h5).1
 · exact (List.cons.inj h6).1
theorem op_EventS {fuel : Nat} {v : Value} {x : DataW H × List MemPlace} (h : DataW.trod enc Tryz.prog w base spare held fuel 30 [v] = some x) : ∃ xs : List VEvent, arEventS xs ∧ RS w (okAll w) (slEventS xs) v := by
 have hm : maxLen = 9223372036854775807 := by decide
 obtain ⟨xs, h1, h2, h3⟩ := rs_sliceQ (zEvent : VEvent) (fun a : VEvent => [.B a.Auto, .B a.Up, slIntS a.Line, slIntS a.Grants, nI a.Sets, nI a.Spilt, nI a.Taken]) (fun a => arEvent a) Tryz.underlying30 (by kernel_rfl : Tryz.prog.cellsOf 185 = 7) (by omega) (by
  intro fuel cs x hl hx
  obtain ⟨_, a, ha, hc⟩ := op_Event hx
  exact ⟨a, ha, hc⟩) h
 rw [hm] at h1
 exact ⟨xs, ⟨h1, h2⟩, h3⟩
theorem op_Latch {fuel : Nat} {cs : List Value} {x : DataW H × List MemPlace} (h : DataW.trod enc Tryz.prog w base spare held fuel 187 cs = some x) :
  cs.length = 3 ∧ ∃ a : VLatch, arLatch a ∧ ∀ j, j < 3 → RS w (okAll w) (lstG [nI a.Count, slIntS a.Line, slIntS a.Grants] j) (cs.getD j undef) := by
 obtain ⟨hl, n, hf⟩ := trod_struct Tryz.underlying187 h
 rw [(by kernel_rfl : Tryz.prog.cellsOf 187 = 3)] at hl
 have hf := fun f h => hf f h
 simp only [List.mem_cons, List.not_mem_nil, or_false, forall_eq_or_imp, forall_eq] at hf
 obtain ⟨⟨y0, g0⟩, ⟨y1, g1⟩, ⟨y2, g2⟩⟩ := hf
 rw [(by kernel_rfl : Tryz.prog.cellsOf 3 = 1)] at g0
 rw [take1 (by omega)] at g0
 obtain ⟨a0, h0, w0⟩ := trod_int Tryz.underlying3 g0
 rw [(by kernel_rfl : Tryz.prog.cellsOf 22 = 1)] at g1
 rw [take1 (by omega)] at g1
 obtain ⟨a1, o1, h1⟩ := op_IntS g1
 rw [(by kernel_rfl : Tryz.prog.cellsOf 22 = 1)] at g2
 rw [take1 (by omega)] at g2
 obtain ⟨a2, o2, h2⟩ := op_IntS g2
 refine ⟨hl, ⟨a0, a1, a2⟩, ⟨wf_rng w0, o1, o2⟩, fun j hj => ?_⟩
 have h2 : j = 0 ∨ j = 1 ∨ j = 2 := by omega
 rcases h2 with rfl | rfl | rfl
 · exact (List.cons.inj h0).1
 · exact h1
 · exact h2
theorem op_LatchS {fuel : Nat} {v : Value} {x : DataW H × List MemPlace} (h : DataW.trod enc Tryz.prog w base spare held fuel 31 [v] = some x) : ∃ xs : List VLatch, arLatchS xs ∧ RS w (okAll w) (slLatchS xs) v := by
 have hm : maxLen = 9223372036854775807 := by decide
 obtain ⟨xs, h1, h2, h3⟩ := rs_sliceQ (zLatch : VLatch) (fun a : VLatch => [nI a.Count, slIntS a.Line, slIntS a.Grants]) (fun a => arLatch a) Tryz.underlying31 (by kernel_rfl : Tryz.prog.cellsOf 187 = 3) (by omega) (by
  intro fuel cs x hl hx
  obtain ⟨_, a, ha, hc⟩ := op_Latch hx
  exact ⟨a, ha, hc⟩) h
 rw [hm] at h1
 exact ⟨xs, ⟨h1, h2⟩, h3⟩
theorem op_Msg {fuel : Nat} {cs : List Value} {x : DataW H × List MemPlace} (h : DataW.trod enc Tryz.prog w base spare held fuel 189 cs = some x) :
  cs.length = 3 ∧ ∃ a : VMsg, arMsg a ∧ ∀ j, j < 3 → RS w (okAll w) (lstG [nI a.Kind, nI a.Num, .S a.Text] j) (cs.getD j undef) := by
 obtain ⟨hl, n, hf⟩ := trod_struct Tryz.underlying189 h
 rw [(by kernel_rfl : Tryz.prog.cellsOf 189 = 3)] at hl
 have hf := fun f h => hf f h
 simp only [List.mem_cons, List.not_mem_nil, or_false, forall_eq_or_imp, forall_eq] at hf
 obtain ⟨⟨y0, g0⟩, ⟨y1, g1⟩, ⟨y2, g2⟩⟩ := hf
 rw [(by kernel_rfl : Tryz.prog.cellsOf 3 = 1)] at g0
 rw [take1 (by omega)] at g0
 obtain ⟨a0, h0, w0⟩ := trod_int Tryz.underlying3 g0
 rw [(by kernel_rfl : Tryz.prog.cellsOf 3 = 1)] at g1
 rw [take1 (by omega)] at g1
 obtain ⟨a1, h1, w1⟩ := trod_int Tryz.underlying3 g1
 rw [(by kernel_rfl : Tryz.prog.cellsOf 9 = 1)] at g2
 rw [take1 (by omega)] at g2
 obtain ⟨a2, h2, o2⟩ := trod_string Tryz.underlying9 g2
 refine ⟨hl, ⟨a0, a1, a2⟩, ⟨wf_rng w0, wf_rng w1, o2⟩, fun j hj => ?_⟩
 have h2 : j = 0 ∨ j = 1 ∨ j = 2 := by omega
 rcases h2 with rfl | rfl | rfl
 · exact (List.cons.inj h0).1
 · exact (List.cons.inj h1).1
 · exact (List.cons.inj h2).1
theorem op_MsgS {fuel : Nat} {v : Value} {x : DataW H × List MemPlace} (h : DataW.trod enc Tryz.prog w base spare held fuel 193 [v] = some x) : ∃ xs : List VMsg, arMsgS xs ∧ RS w (okAll w) (slMsgS xs) v := by
 have hm : maxLen = 9223372036854775807 := by decide
 obtain ⟨xs, h1, h2, h3⟩ := rs_sliceQ (zMsg : VMsg) (fun a : VMsg => [nI a.Kind, nI a.Num, .S a.Text]) (fun a => arMsg a) Tryz.underlying193 (by kernel_rfl : Tryz.prog.cellsOf 189 = 3) (by omega) (by
  intro fuel cs x hl hx
  obtain ⟨_, a, ha, hc⟩ := op_Msg hx
  exact ⟨a, ha, hc⟩) h
 rw [hm] at h1
 exact ⟨xs, ⟨h1, h2⟩, h3⟩
theorem op_Cell {fuel : Nat} {cs : List Value} {x : DataW H × List MemPlace} (h : DataW.trod enc Tryz.prog w base spare held fuel 191 cs = some x) :
  cs.length = 7 ∧ ∃ a : VCell, arCell a ∧ ∀ j, j < 7 → RS w (okAll w) (lstG [nI a.Val.Kind, nI a.Val.Num, .S a.Val.Text, nI a.Version, .B a.Closed, slIntS a.Line, slIntS a.Grants] j) (cs.getD j undef) := by
 obtain ⟨hl, n, hf⟩ := trod_struct Tryz.underlying191 h
 rw [(by kernel_rfl : Tryz.prog.cellsOf 191 = 7)] at hl
 have hf := fun f h => hf f h
 simp only [List.mem_cons, List.not_mem_nil, or_false, forall_eq_or_imp, forall_eq] at hf
 obtain ⟨⟨y0, g0⟩, ⟨y1, g1⟩, ⟨y2, g2⟩, ⟨y3, g3⟩, ⟨y4, g4⟩⟩ := hf
 rw [(by kernel_rfl : Tryz.prog.cellsOf 189 = 3)] at g0
 obtain ⟨_, a0, o0, h0⟩ := op_Msg g0
 rw [(by kernel_rfl : Tryz.prog.cellsOf 3 = 1)] at g1
 rw [take1 (by omega)] at g1
 obtain ⟨a1, h1, w1⟩ := trod_int Tryz.underlying3 g1
 rw [(by kernel_rfl : Tryz.prog.cellsOf 4 = 1)] at g2
 rw [take1 (by omega)] at g2
 obtain ⟨a2, h2⟩ := trod_bool Tryz.underlying4 g2
 rw [(by kernel_rfl : Tryz.prog.cellsOf 22 = 1)] at g3
 rw [take1 (by omega)] at g3
 obtain ⟨a3, o3, h3⟩ := op_IntS g3
 rw [(by kernel_rfl : Tryz.prog.cellsOf 22 = 1)] at g4
 rw [take1 (by omega)] at g4
 obtain ⟨a4, o4, h4⟩ := op_IntS g4
 refine ⟨hl, ⟨a0, a1, a2, a3, a4⟩, ⟨o0, wf_rng w1, o3, o4⟩, fun j hj => ?_⟩
 have h2 : j = 0 ∨ j = 1 ∨ j = 2 ∨ j = 3 ∨ j = 4 ∨ j = 5 ∨ j = 6 := by omega
 rcases h2 with rfl | rfl | rfl | rfl | rfl | rfl | rfl
 · have := h0 0 (by omega); rw [sub_getD (by omega)] at this; exact this
 · have := h0 1 (by omega); rw [sub_getD (by omega)] at this; exact this
 · have := h0 2 (by omega); rw [sub_getD (by omega)] at this; exact this
 · exact (List.cons.inj h1).1
 · exact (List.cons.inj h2).1
 · exact h3
 · exact h4
theorem op_CellS {fuel : Nat} {v : Value} {x : DataW H × List MemPlace} (h : DataW.trod enc Tryz.prog w base spare held fuel 32 [v] = some x) : ∃ xs : List VCell, arCellS xs ∧ RS w (okAll w) (slCellS xs) v := by
 have hm : maxLen = 9223372036854775807 := by decide
 obtain ⟨xs, h1, h2, h3⟩ := rs_sliceQ (zCell : VCell) (fun a : VCell => [nI a.Val.Kind, nI a.Val.Num, .S a.Val.Text, nI a.Version, .B a.Closed, slIntS a.Line, slIntS a.Grants]) (fun a => arCell a) Tryz.underlying32 (by kernel_rfl : Tryz.prog.cellsOf 191 = 7) (by omega) (by
  intro fuel cs x hl hx
  obtain ⟨_, a, ha, hc⟩ := op_Cell hx
  exact ⟨a, ha, hc⟩) h
 rw [hm] at h1
 exact ⟨xs, ⟨h1, h2⟩, h3⟩
theorem op_Term {fuel : Nat} {cs : List Value} {x : DataW H × List MemPlace} (h : DataW.trod enc Tryz.prog w base spare held fuel 340 cs = some x) :
  cs.length = 3 ∧ ∃ a : VTerm, arTerm a ∧ ∀ j, j < 3 → RS w (okAll w) (lstG [nI a.Op, nI a.Num, .S a.Text] j) (cs.getD j undef) := by
 obtain ⟨hl, n, hf⟩ := trod_struct Tryz.underlying340 h
 rw [(by kernel_rfl : Tryz.prog.cellsOf 340 = 3)] at hl
 have hf := fun f h => hf f h
 simp only [List.mem_cons, List.not_mem_nil, or_false, forall_eq_or_imp, forall_eq] at hf
 obtain ⟨⟨y0, g0⟩, ⟨y1, g1⟩, ⟨y2, g2⟩⟩ := hf
 rw [(by kernel_rfl : Tryz.prog.cellsOf 3 = 1)] at g0
 rw [take1 (by omega)] at g0
 obtain ⟨a0, h0, w0⟩ := trod_int Tryz.underlying3 g0
 rw [(by kernel_rfl : Tryz.prog.cellsOf 3 = 1)] at g1
 rw [take1 (by omega)] at g1
 obtain ⟨a1, h1, w1⟩ := trod_int Tryz.underlying3 g1
 rw [(by kernel_rfl : Tryz.prog.cellsOf 9 = 1)] at g2
 rw [take1 (by omega)] at g2
 obtain ⟨a2, h2, o2⟩ := trod_string Tryz.underlying9 g2
 refine ⟨hl, ⟨a0, a1, a2⟩, ⟨wf_rng w0, wf_rng w1, o2⟩, fun j hj => ?_⟩
 have h2 : j = 0 ∨ j = 1 ∨ j = 2 := by omega
 rcases h2 with rfl | rfl | rfl
 · exact (List.cons.inj h0).1
 · exact (List.cons.inj h1).1
 · exact (List.cons.inj h2).1
theorem op_TermS {fuel : Nat} {v : Value} {x : DataW H × List MemPlace} (h : DataW.trod enc Tryz.prog w base spare held fuel 268 [v] = some x) : ∃ xs : List VTerm, arTermS xs ∧ RS w (okAll w) (slTermS xs) v := by
 have hm : maxLen = 9223372036854775807 := by decide
 obtain ⟨xs, h1, h2, h3⟩ := rs_sliceQ (zTerm : VTerm) (fun a : VTerm => [nI a.Op, nI a.Num, .S a.Text]) (fun a => arTerm a) Tryz.underlying268 (by kernel_rfl : Tryz.prog.cellsOf 340 = 3) (by omega) (by
  intro fuel cs x hl hx
  obtain ⟨_, a, ha, hc⟩ := op_Term hx
  exact ⟨a, ha, hc⟩) h
 rw [hm] at h1
 exact ⟨xs, ⟨h1, h2⟩, h3⟩
theorem op_Sub {fuel : Nat} {cs : List Value} {x : DataW H × List MemPlace} (h : DataW.trod enc Tryz.prog w base spare held fuel 338 cs = some x) :
  cs.length = 7 ∧ ∃ a : VSub, arSub a ∧ ∀ j, j < 7 → RS w (okAll w) (lstG [nI a.Id, nI a.Start, nI a.Cursor, nI a.Got, nI a.Lost, nI a.Passed, slTermS a.Filter] j) (cs.getD j undef) := by
 obtain ⟨hl, n, hf⟩ := trod_struct Tryz.underlying338 h
 rw [(by kernel_rfl : Tryz.prog.cellsOf 338 = 7)] at hl
 have hf := fun f h => hf f h
 simp only [List.mem_cons, List.not_mem_nil, or_false, forall_eq_or_imp, forall_eq] at hf
 obtain ⟨⟨y0, g0⟩, ⟨y1, g1⟩, ⟨y2, g2⟩, ⟨y3, g3⟩, ⟨y4, g4⟩, ⟨y5, g5⟩, ⟨y6, g6⟩⟩ := hf
 rw [(by kernel_rfl : Tryz.prog.cellsOf 3 = 1)] at g0
 rw [take1 (by omega)] at g0
 obtain ⟨a0, h0, w0⟩ := trod_int Tryz.underlying3 g0
 rw [(by kernel_rfl : Tryz.prog.cellsOf 3 = 1)] at g1
 rw [take1 (by omega)] at g1
 obtain ⟨a1, h1, w1⟩ := trod_int Tryz.underlying3 g1
 rw [(by kernel_rfl : Tryz.prog.cellsOf 3 = 1)] at g2
 rw [take1 (by omega)] at g2
 obtain ⟨a2, h2, w2⟩ := trod_int Tryz.underlying3 g2
 rw [(by kernel_rfl : Tryz.prog.cellsOf 3 = 1)] at g3
 rw [take1 (by omega)] at g3
 obtain ⟨a3, h3, w3⟩ := trod_int Tryz.underlying3 g3
 rw [(by kernel_rfl : Tryz.prog.cellsOf 3 = 1)] at g4
 rw [take1 (by omega)] at g4
 obtain ⟨a4, h4, w4⟩ := trod_int Tryz.underlying3 g4
 rw [(by kernel_rfl : Tryz.prog.cellsOf 3 = 1)] at g5
 rw [take1 (by omega)] at g5
 obtain ⟨a5, h5, w5⟩ := trod_int Tryz.underlying3 g5
 rw [(by kernel_rfl : Tryz.prog.cellsOf 268 = 1)] at g6
 rw [take1 (by omega)] at g6
 obtain ⟨a6, o6, h6⟩ := op_TermS g6
 refine ⟨hl, ⟨a0, a1, a2, a3, a4, a5, a6⟩, ⟨wf_rng w0, wf_rng w1, wf_rng w2, wf_rng w3, wf_rng w4, wf_rng w5, o6⟩, fun j hj => ?_⟩
 have h2 : j = 0 ∨ j = 1 ∨ j = 2 ∨ j = 3 ∨ j = 4 ∨ j = 5 ∨ j = 6 := by omega
 rcases h2 with rfl | rfl | rfl | rfl | rfl | rfl | rfl
 · exact (List.cons.inj h0).1
 · exact (List.cons.inj h1).1
 · exact (List.cons.inj h2).1
 · exact (List.cons.inj h3).1
 · exact (List.cons.inj h4).1
 · exact (List.cons.inj h5).1
 · exact h6
theorem op_SubS {fuel : Nat} {v : Value} {x : DataW H × List MemPlace} (h : DataW.trod enc Tryz.prog w base spare held fuel 194 [v] = some x) : ∃ xs : List VSub, arSubS xs ∧ RS w (okAll w) (slSubS xs) v := by
 have hm : maxLen = 9223372036854775807 := by decide
 obtain ⟨xs, h1, h2, h3⟩ := rs_sliceQ (zSub : VSub) (fun a : VSub => [nI a.Id, nI a.Start, nI a.Cursor, nI a.Got, nI a.Lost, nI a.Passed, slTermS a.Filter]) (fun a => arSub a) Tryz.underlying194 (by kernel_rfl : Tryz.prog.cellsOf 338 = 7) (by omega) (by
  intro fuel cs x hl hx
  obtain ⟨_, a, ha, hc⟩ := op_Sub hx
  exact ⟨a, ha, hc⟩) h
 rw [hm] at h1
 exact ⟨xs, ⟨h1, h2⟩, h3⟩
theorem op_Ring {fuel : Nat} {cs : List Value} {x : DataW H × List MemPlace} (h : DataW.trod enc Tryz.prog w base spare held fuel 196 cs = some x) :
  cs.length = 8 ∧ ∃ a : VRing, arRing a ∧ ∀ j, j < 8 → RS w (okAll w) (lstG [nI a.Cap, nI a.Sent, slMsgS a.Items, nI a.Next, slSubS a.Subs, slIntS a.Line, slIntS a.Grants, .B a.Closed] j) (cs.getD j undef) := by
 obtain ⟨hl, n, hf⟩ := trod_struct Tryz.underlying196 h
 rw [(by kernel_rfl : Tryz.prog.cellsOf 196 = 8)] at hl
 have hf := fun f h => hf f h
 simp only [List.mem_cons, List.not_mem_nil, or_false, forall_eq_or_imp, forall_eq] at hf
 obtain ⟨⟨y0, g0⟩, ⟨y1, g1⟩, ⟨y2, g2⟩, ⟨y3, g3⟩, ⟨y4, g4⟩, ⟨y5, g5⟩, ⟨y6, g6⟩, ⟨y7, g7⟩⟩ := hf
 rw [(by kernel_rfl : Tryz.prog.cellsOf 3 = 1)] at g0
 rw [take1 (by omega)] at g0
 obtain ⟨a0, h0, w0⟩ := trod_int Tryz.underlying3 g0
 rw [(by kernel_rfl : Tryz.prog.cellsOf 3 = 1)] at g1
 rw [take1 (by omega)] at g1
 obtain ⟨a1, h1, w1⟩ := trod_int Tryz.underlying3 g1
 rw [(by kernel_rfl : Tryz.prog.cellsOf 193 = 1)] at g2
 rw [take1 (by omega)] at g2
 obtain ⟨a2, o2, h2⟩ := op_MsgS g2
 rw [(by kernel_rfl : Tryz.prog.cellsOf 3 = 1)] at g3
 rw [take1 (by omega)] at g3
 obtain ⟨a3, h3, w3⟩ := trod_int Tryz.underlying3 g3
 rw [(by kernel_rfl : Tryz.prog.cellsOf 194 = 1)] at g4
 rw [take1 (by omega)] at g4
 obtain ⟨a4, o4, h4⟩ := op_SubS g4
 rw [(by kernel_rfl : Tryz.prog.cellsOf 22 = 1)] at g5
 rw [take1 (by omega)] at g5
 obtain ⟨a5, o5, h5⟩ := op_IntS g5
 rw [(by kernel_rfl : Tryz.prog.cellsOf 22 = 1)] at g6
 rw [take1 (by omega)] at g6
 obtain ⟨a6, o6, h6⟩ := op_IntS g6
 rw [(by kernel_rfl : Tryz.prog.cellsOf 4 = 1)] at g7
 rw [take1 (by omega)] at g7
 obtain ⟨a7, h7⟩ := trod_bool Tryz.underlying4 g7
 refine ⟨hl, ⟨a0, a1, a2, a3, a4, a5, a6, a7⟩, ⟨wf_rng w0, wf_rng w1, o2, wf_rng w3, o4, o5, o6⟩, fun j hj => ?_⟩
 have h2 : j = 0 ∨ j = 1 ∨ j = 2 ∨ j = 3 ∨ j = 4 ∨ j = 5 ∨ j = 6 ∨ j = 7 := by omega
 rcases h2 with rfl | rfl | rfl | rfl | rfl | rfl | rfl | rfl
 · exact (List.cons.inj h0).1
 · exact (List.cons.inj h1).1
 · exact h2
 · exact (List.cons.inj h3).1
 · exact h4
 · exact h5
 · exact h6
 · exact (List.cons.inj h7).1
theorem op_Topic {fuel : Nat} {cs : List Value} {x : DataW H × List MemPlace} (h : DataW.trod enc Tryz.prog w base spare held fuel 198 cs = some x) :
  cs.length = 9 ∧ ∃ a : VTopic, arTopic a ∧ ∀ j, j < 9 → RS w (okAll w) (lstG [.S a.Name, nI a.Ring.Cap, nI a.Ring.Sent, slMsgS a.Ring.Items, nI a.Ring.Next, slSubS a.Ring.Subs, slIntS a.Ring.Line, slIntS a.Ring.Grants, .B a.Ring.Closed] j) (cs.getD j undef) := by
 obtain ⟨hl, n, hf⟩ := trod_struct Tryz.underlying198 h
 rw [(by kernel_rfl : Tryz.prog.cellsOf 198 = 9)] at hl
 have hf := fun f h => hf f h
 simp only [List.mem_cons, List.not_mem_nil, or_false, forall_eq_or_imp, forall_eq] at hf
 obtain ⟨⟨y0, g0⟩, ⟨y1, g1⟩⟩ := hf
 rw [(by kernel_rfl : Tryz.prog.cellsOf 9 = 1)] at g0
 rw [take1 (by omega)] at g0
 obtain ⟨a0, h0, o0⟩ := trod_string Tryz.underlying9 g0
 rw [(by kernel_rfl : Tryz.prog.cellsOf 196 = 8)] at g1
 obtain ⟨_, a1, o1, h1⟩ := op_Ring g1
 refine ⟨hl, ⟨a0, a1⟩, ⟨o0, o1⟩, fun j hj => ?_⟩
 have h2 : j = 0 ∨ j = 1 ∨ j = 2 ∨ j = 3 ∨ j = 4 ∨ j = 5 ∨ j = 6 ∨ j = 7 ∨ j = 8 := by omega
 rcases h2 with rfl | rfl | rfl | rfl | rfl | rfl | rfl | rfl | rfl
 · exact (List.cons.inj h0).1
 · have := h1 0 (by omega); rw [sub_getD (by omega)] at this; exact this
 · have := h1 1 (by omega); rw [sub_getD (by omega)] at this; exact this
 · have := h1 2 (by omega); rw [sub_getD (by omega)] at this; exact this
 · have := h1 3 (by omega); rw [sub_getD (by omega)] at this; exact this
 · have := h1 4 (by omega); rw [sub_getD (by omega)] at this; exact this
 · have := h1 5 (by omega); rw [sub_getD (by omega)] at this; exact this
 · have := h1 6 (by omega); rw [sub_getD (by omega)] at this; exact this
 · have := h1 7 (by omega); rw [sub_getD (by omega)] at this; exact this
theorem op_TopicS {fuel : Nat} {v : Value} {x : DataW H × List MemPlace} (h : DataW.trod enc Tryz.prog w base spare held fuel 33 [v] = some x) : ∃ xs : List VTopic, arTopicS xs ∧ RS w (okAll w) (slTopicS xs) v := by
 have hm : maxLen = 9223372036854775807 := by decide
 obtain ⟨xs, h1, h2, h3⟩ := rs_sliceQ (zTopic : VTopic) (fun a : VTopic => [.S a.Name, nI a.Ring.Cap, nI a.Ring.Sent, slMsgS a.Ring.Items, nI a.Ring.Next, slSubS a.Ring.Subs, slIntS a.Ring.Line, slIntS a.Ring.Grants, .B a.Ring.Closed]) (fun a => arTopic a) Tryz.underlying33 (by kernel_rfl : Tryz.prog.cellsOf 198 = 9) (by omega) (by
  intro fuel cs x hl hx
  obtain ⟨_, a, ha, hc⟩ := op_Topic hx
  exact ⟨a, ha, hc⟩) h
 rw [hm] at h1
 exact ⟨xs, ⟨h1, h2⟩, h3⟩
theorem op_Leg {fuel : Nat} {cs : List Value} {x : DataW H × List MemPlace} (h : DataW.trod enc Tryz.prog w base spare held fuel 319 cs = some x) :
  cs.length = 4 ∧ ∃ a : VLeg, arLeg a ∧ ∀ j, j < 4 → RS w (okAll w) (lstG [nI a.Topic, nI a.Id, nI a.Lost, .B a.Over] j) (cs.getD j undef) := by
 obtain ⟨hl, n, hf⟩ := trod_struct Tryz.underlying319 h
 rw [(by kernel_rfl : Tryz.prog.cellsOf 319 = 4)] at hl
 have hf := fun f h => hf f h
 simp only [List.mem_cons, List.not_mem_nil, or_false, forall_eq_or_imp, forall_eq] at hf
 obtain ⟨⟨y0, g0⟩, ⟨y1, g1⟩, ⟨y2, g2⟩, ⟨y3, g3⟩⟩ := hf
 rw [(by kernel_rfl : Tryz.prog.cellsOf 3 = 1)] at g0
 rw [take1 (by omega)] at g0
 obtain ⟨a0, h0, w0⟩ := trod_int Tryz.underlying3 g0
 rw [(by kernel_rfl : Tryz.prog.cellsOf 3 = 1)] at g1
 rw [take1 (by omega)] at g1
 obtain ⟨a1, h1, w1⟩ := trod_int Tryz.underlying3 g1
 rw [(by kernel_rfl : Tryz.prog.cellsOf 3 = 1)] at g2
 rw [take1 (by omega)] at g2
 obtain ⟨a2, h2, w2⟩ := trod_int Tryz.underlying3 g2
 rw [(by kernel_rfl : Tryz.prog.cellsOf 4 = 1)] at g3
 rw [take1 (by omega)] at g3
 obtain ⟨a3, h3⟩ := trod_bool Tryz.underlying4 g3
 refine ⟨hl, ⟨a0, a1, a2, a3⟩, ⟨wf_rng w0, wf_rng w1, wf_rng w2⟩, fun j hj => ?_⟩
 have h2 : j = 0 ∨ j = 1 ∨ j = 2 ∨ j = 3 := by omega
 rcases h2 with rfl | rfl | rfl | rfl
 · exact (List.cons.inj h0).1
 · exact (List.cons.inj h1).1
 · exact (List.cons.inj h2).1
 · exact (List.cons.inj h3).1
theorem op_LegS {fuel : Nat} {v : Value} {x : DataW H × List MemPlace} (h : DataW.trod enc Tryz.prog w base spare held fuel 200 [v] = some x) : ∃ xs : List VLeg, arLegS xs ∧ RS w (okAll w) (slLegS xs) v := by
 have hm : maxLen = 9223372036854775807 := by decide
 obtain ⟨xs, h1, h2, h3⟩ := rs_sliceQ (zLeg : VLeg) (fun a : VLeg => [nI a.Topic, nI a.Id, nI a.Lost, .B a.Over]) (fun a => arLeg a) Tryz.underlying200 (by kernel_rfl : Tryz.prog.cellsOf 319 = 4) (by omega) (by
  intro fuel cs x hl hx
  obtain ⟨_, a, ha, hc⟩ := op_Leg hx
  exact ⟨a, ha, hc⟩) h
 rw [hm] at h1
 exact ⟨xs, ⟨h1, h2⟩, h3⟩
theorem op_Merge {fuel : Nat} {cs : List Value} {x : DataW H × List MemPlace} (h : DataW.trod enc Tryz.prog w base spare held fuel 202 cs = some x) :
  cs.length = 3 ∧ ∃ a : VMerge, arMerge a ∧ ∀ j, j < 3 → RS w (okAll w) (lstG [slLegS a.Legs, nI a.Into, nI a.Moved] j) (cs.getD j undef) := by
 obtain ⟨hl, n, hf⟩ := trod_struct Tryz.underlying202 h
 rw [(by kernel_rfl : Tryz.prog.cellsOf 202 = 3)] at hl
 have hf := fun f h => hf f h
 simp only [List.mem_cons, List.not_mem_nil, or_false, forall_eq_or_imp, forall_eq] at hf
 obtain ⟨⟨y0, g0⟩, ⟨y1, g1⟩, ⟨y2, g2⟩⟩ := hf
 rw [(by kernel_rfl : Tryz.prog.cellsOf 200 = 1)] at g0
 rw [take1 (by omega)] at g0
 obtain ⟨a0, o0, h0⟩ := op_LegS g0
 rw [(by kernel_rfl : Tryz.prog.cellsOf 3 = 1)] at g1
 rw [take1 (by omega)] at g1
 obtain ⟨a1, h1, w1⟩ := trod_int Tryz.underlying3 g1
 rw [(by kernel_rfl : Tryz.prog.cellsOf 3 = 1)] at g2
 rw [take1 (by omega)] at g2
 obtain ⟨a2, h2, w2⟩ := trod_int Tryz.underlying3 g2
 refine ⟨hl, ⟨a0, a1, a2⟩, ⟨o0, wf_rng w1, wf_rng w2⟩, fun j hj => ?_⟩
 have h2 : j = 0 ∨ j = 1 ∨ j = 2 := by omega
 rcases h2 with rfl | rfl | rfl
 · exact h0
 · exact (List.cons.inj h1).1
 · exact (List.cons.inj h2).1
theorem op_MergeS {fuel : Nat} {v : Value} {x : DataW H × List MemPlace} (h : DataW.trod enc Tryz.prog w base spare held fuel 34 [v] = some x) : ∃ xs : List VMerge, arMergeS xs ∧ RS w (okAll w) (slMergeS xs) v := by
 have hm : maxLen = 9223372036854775807 := by decide
 obtain ⟨xs, h1, h2, h3⟩ := rs_sliceQ (zMerge : VMerge) (fun a : VMerge => [slLegS a.Legs, nI a.Into, nI a.Moved]) (fun a => arMerge a) Tryz.underlying34 (by kernel_rfl : Tryz.prog.cellsOf 202 = 3) (by omega) (by
  intro fuel cs x hl hx
  obtain ⟨_, a, ha, hc⟩ := op_Merge hx
  exact ⟨a, ha, hc⟩) h
 rw [hm] at h1
 exact ⟨xs, ⟨h1, h2⟩, h3⟩
theorem op_Hit {fuel : Nat} {cs : List Value} {x : DataW H × List MemPlace} (h : DataW.trod enc Tryz.prog w base spare held fuel 321 cs = some x) :
  cs.length = 2 ∧ ∃ a : VHit, arHit a ∧ ∀ j, j < 2 → RS w (okAll w) (lstG [nI a.Topic, nI a.Id] j) (cs.getD j undef) := by
 obtain ⟨hl, n, hf⟩ := trod_struct Tryz.underlying321 h
 rw [(by kernel_rfl : Tryz.prog.cellsOf 321 = 2)] at hl
 have hf := fun f h => hf f h
 simp only [List.mem_cons, List.not_mem_nil, or_false, forall_eq_or_imp, forall_eq] at hf
 obtain ⟨⟨y0, g0⟩, ⟨y1, g1⟩⟩ := hf
 rw [(by kernel_rfl : Tryz.prog.cellsOf 3 = 1)] at g0
 rw [take1 (by omega)] at g0
 obtain ⟨a0, h0, w0⟩ := trod_int Tryz.underlying3 g0
 rw [(by kernel_rfl : Tryz.prog.cellsOf 3 = 1)] at g1
 rw [take1 (by omega)] at g1
 obtain ⟨a1, h1, w1⟩ := trod_int Tryz.underlying3 g1
 refine ⟨hl, ⟨a0, a1⟩, ⟨wf_rng w0, wf_rng w1⟩, fun j hj => ?_⟩
 have h2 : j = 0 ∨ j = 1 := by omega
 rcases h2 with rfl | rfl
 · exact (List.cons.inj h0).1
 · exact (List.cons.inj h1).1
theorem op_HitS {fuel : Nat} {v : Value} {x : DataW H × List MemPlace} (h : DataW.trod enc Tryz.prog w base spare held fuel 204 [v] = some x) : ∃ xs : List VHit, arHitS xs ∧ RS w (okAll w) (slHitS xs) v := by
 have hm : maxLen = 9223372036854775807 := by decide
 obtain ⟨xs, h1, h2, h3⟩ := rs_sliceQ (zHit : VHit) (fun a : VHit => [nI a.Topic, nI a.Id]) (fun a => arHit a) Tryz.underlying204 (by kernel_rfl : Tryz.prog.cellsOf 321 = 2) (by omega) (by
  intro fuel cs x hl hx
  obtain ⟨_, a, ha, hc⟩ := op_Hit hx
  exact ⟨a, ha, hc⟩) h
 rw [hm] at h1
 exact ⟨xs, ⟨h1, h2⟩, h3⟩
theorem op_User {fuel : Nat} {cs : List Value} {x : DataW H × List MemPlace} (h : DataW.trod enc Tryz.prog w base spare held fuel 206 cs = some x) :
  cs.length = 2 ∧ ∃ a : VUser, arUser a ∧ ∀ j, j < 2 → RS w (okAll w) (lstG [slHitS a.Subs, slIntS a.Seen] j) (cs.getD j undef) := by
 obtain ⟨hl, n, hf⟩ := trod_struct Tryz.underlying206 h
 rw [(by kernel_rfl : Tryz.prog.cellsOf 206 = 2)] at hl
 have hf := fun f h => hf f h
 simp only [List.mem_cons, List.not_mem_nil, or_false, forall_eq_or_imp, forall_eq] at hf
 obtain ⟨⟨y0, g0⟩, ⟨y1, g1⟩⟩ := hf
 rw [(by kernel_rfl : Tryz.prog.cellsOf 204 = 1)] at g0
 rw [take1 (by omega)] at g0
 obtain ⟨a0, o0, h0⟩ := op_HitS g0
 rw [(by kernel_rfl : Tryz.prog.cellsOf 22 = 1)] at g1
 rw [take1 (by omega)] at g1
 obtain ⟨a1, o1, h1⟩ := op_IntS g1
 refine ⟨hl, ⟨a0, a1⟩, ⟨o0, o1⟩, fun j hj => ?_⟩
 have h2 : j = 0 ∨ j = 1 := by omega
 rcases h2 with rfl | rfl
 · exact h0
 · exact h1
theorem op_UserS {fuel : Nat} {v : Value} {x : DataW H × List MemPlace} (h : DataW.trod enc Tryz.prog w base spare held fuel 35 [v] = some x) : ∃ xs : List VUser, arUserS xs ∧ RS w (okAll w) (slUserS xs) v := by
 have hm : maxLen = 9223372036854775807 := by decide
 obtain ⟨xs, h1, h2, h3⟩ := rs_sliceQ (zUser : VUser) (fun a : VUser => [slHitS a.Subs, slIntS a.Seen]) (fun a => arUser a) Tryz.underlying35 (by kernel_rfl : Tryz.prog.cellsOf 206 = 2) (by omega) (by
  intro fuel cs x hl hx
  obtain ⟨_, a, ha, hc⟩ := op_User hx
  exact ⟨a, ha, hc⟩) h
 rw [hm] at h1
 exact ⟨xs, ⟨h1, h2⟩, h3⟩
theorem op_Hub {fuel : Nat} {cs : List Value} {x : DataW H × List MemPlace} (h : DataW.trod enc Tryz.prog w base spare held fuel 37 cs = some x) :
  cs.length = 11 ∧ ∃ a : VHub, arHub a ∧ ∀ j, j < 11 → RS w (okAll w) (lstG [slIntS a.Tokens.Parents, slBoolS a.Tokens.Off, nI a.Clock.Now, slTimerS a.Clock.Timers, slNotifyS a.Notes, slEventS a.Events, slLatchS a.Latches, slCellS a.Cells, slTopicS a.Topics, slMergeS a.Merges, slUserS a.Users] j) (cs.getD j undef) := by
 obtain ⟨hl, n, hf⟩ := trod_struct Tryz.underlying37 h
 rw [(by kernel_rfl : Tryz.prog.cellsOf 37 = 11)] at hl
 have hf := fun f h => hf f h
 simp only [List.mem_cons, List.not_mem_nil, or_false, forall_eq_or_imp, forall_eq] at hf
 obtain ⟨⟨y0, g0⟩, ⟨y1, g1⟩, ⟨y2, g2⟩, ⟨y3, g3⟩, ⟨y4, g4⟩, ⟨y5, g5⟩, ⟨y6, g6⟩, ⟨y7, g7⟩, ⟨y8, g8⟩⟩ := hf
 rw [(by kernel_rfl : Tryz.prog.cellsOf 25 = 2)] at g0
 obtain ⟨_, a0, o0, h0⟩ := op_Tokens g0
 rw [(by kernel_rfl : Tryz.prog.cellsOf 28 = 2)] at g1
 obtain ⟨_, a1, o1, h1⟩ := op_Clock g1
 rw [(by kernel_rfl : Tryz.prog.cellsOf 29 = 1)] at g2
 rw [take1 (by omega)] at g2
 obtain ⟨a2, o2, h2⟩ := op_NotifyS g2
 rw [(by kernel_rfl : Tryz.prog.cellsOf 30 = 1)] at g3
 rw [take1 (by omega)] at g3
 obtain ⟨a3, o3, h3⟩ := op_EventS g3
 rw [(by kernel_rfl : Tryz.prog.cellsOf 31 = 1)] at g4
 rw [take1 (by omega)] at g4
 obtain ⟨a4, o4, h4⟩ := op_LatchS g4
 rw [(by kernel_rfl : Tryz.prog.cellsOf 32 = 1)] at g5
 rw [take1 (by omega)] at g5
 obtain ⟨a5, o5, h5⟩ := op_CellS g5
 rw [(by kernel_rfl : Tryz.prog.cellsOf 33 = 1)] at g6
 rw [take1 (by omega)] at g6
 obtain ⟨a6, o6, h6⟩ := op_TopicS g6
 rw [(by kernel_rfl : Tryz.prog.cellsOf 34 = 1)] at g7
 rw [take1 (by omega)] at g7
 obtain ⟨a7, o7, h7⟩ := op_MergeS g7
 rw [(by kernel_rfl : Tryz.prog.cellsOf 35 = 1)] at g8
 rw [take1 (by omega)] at g8
 obtain ⟨a8, o8, h8⟩ := op_UserS g8
 refine ⟨hl, ⟨a0, a1, a2, a3, a4, a5, a6, a7, a8⟩, ⟨o0, o1, o2, o3, o4, o5, o6, o7, o8⟩, fun j hj => ?_⟩
 have h2 : j = 0 ∨ j = 1 ∨ j = 2 ∨ j = 3 ∨ j = 4 ∨ j = 5 ∨ j = 6 ∨ j = 7 ∨ j = 8 ∨ j = 9 ∨ j = 10 := by omega
 rcases h2 with rfl | rfl | rfl | rfl | rfl | rfl | rfl | rfl | rfl | rfl | rfl
 · have := h0 0 (by omega); rw [sub_getD (by omega)] at this; exact this
 · have := h0 1 (by omega); rw [sub_getD (by omega)] at this; exact this
 · have := h1 0 (by omega); rw [sub_getD (by omega)] at this; exact this
 · have := h1 1 (by omega); rw [sub_getD (by omega)] at this; exact this
 · exact h2
 · exact h3
 · exact h4
 · exact h5
 · exact h6
 · exact h7
 · exact h8
theorem op_Call {fuel : Nat} {cs : List Value} {x : DataW H × List MemPlace} (h : DataW.trod enc Tryz.prog w base spare held fuel 270 cs = some x) :
  cs.length = 9 ∧ ∃ a : VCall, arCall a ∧ ∀ j, j < 9 → RS w (okAll w) (lstG [nI a.Op, nI a.A, nI a.B, nI a.Tok, .S a.Name, nI a.Msg.Kind, nI a.Msg.Num, .S a.Msg.Text, slTermS a.Filter] j) (cs.getD j undef) := by
 obtain ⟨hl, n, hf⟩ := trod_struct Tryz.underlying270 h
 rw [(by kernel_rfl : Tryz.prog.cellsOf 270 = 9)] at hl
 have hf := fun f h => hf f h
 simp only [List.mem_cons, List.not_mem_nil, or_false, forall_eq_or_imp, forall_eq] at hf
 obtain ⟨⟨y0, g0⟩, ⟨y1, g1⟩, ⟨y2, g2⟩, ⟨y3, g3⟩, ⟨y4, g4⟩, ⟨y5, g5⟩, ⟨y6, g6⟩⟩ := hf
 rw [(by kernel_rfl : Tryz.prog.cellsOf 3 = 1)] at g0
 rw [take1 (by omega)] at g0
 obtain ⟨a0, h0, w0⟩ := trod_int Tryz.underlying3 g0
 rw [(by kernel_rfl : Tryz.prog.cellsOf 3 = 1)] at g1
 rw [take1 (by omega)] at g1
 obtain ⟨a1, h1, w1⟩ := trod_int Tryz.underlying3 g1
 rw [(by kernel_rfl : Tryz.prog.cellsOf 3 = 1)] at g2
 rw [take1 (by omega)] at g2
 obtain ⟨a2, h2, w2⟩ := trod_int Tryz.underlying3 g2
 rw [(by kernel_rfl : Tryz.prog.cellsOf 3 = 1)] at g3
 rw [take1 (by omega)] at g3
 obtain ⟨a3, h3, w3⟩ := trod_int Tryz.underlying3 g3
 rw [(by kernel_rfl : Tryz.prog.cellsOf 9 = 1)] at g4
 rw [take1 (by omega)] at g4
 obtain ⟨a4, h4, o4⟩ := trod_string Tryz.underlying9 g4
 rw [(by kernel_rfl : Tryz.prog.cellsOf 189 = 3)] at g5
 obtain ⟨_, a5, o5, h5⟩ := op_Msg g5
 rw [(by kernel_rfl : Tryz.prog.cellsOf 268 = 1)] at g6
 rw [take1 (by omega)] at g6
 obtain ⟨a6, o6, h6⟩ := op_TermS g6
 refine ⟨hl, ⟨a0, a1, a2, a3, a4, a5, a6⟩, ⟨wf_rng w0, wf_rng w1, wf_rng w2, wf_rng w3, o4, o5, o6⟩, fun j hj => ?_⟩
 have h2 : j = 0 ∨ j = 1 ∨ j = 2 ∨ j = 3 ∨ j = 4 ∨ j = 5 ∨ j = 6 ∨ j = 7 ∨ j = 8 := by omega
 rcases h2 with rfl | rfl | rfl | rfl | rfl | rfl | rfl | rfl | rfl
 · exact (List.cons.inj h0).1
 · exact (List.cons.inj h1).1
 · exact (List.cons.inj h2).1
 · exact (List.cons.inj h3).1
 · exact (List.cons.inj h4).1
 · have := h5 0 (by omega); rw [sub_getD (by omega)] at this; exact this
 · have := h5 1 (by omega); rw [sub_getD (by omega)] at this; exact this
 · have := h5 2 (by omega); rw [sub_getD (by omega)] at this; exact this
 · exact h6
theorem op_CallS {fuel : Nat} {v : Value} {x : DataW H × List MemPlace} (h : DataW.trod enc Tryz.prog w base spare held fuel 104 [v] = some x) : ∃ xs : List VCall, arCallS xs ∧ RS w (okAll w) (slCallS xs) v := by
 have hm : maxLen = 9223372036854775807 := by decide
 obtain ⟨xs, h1, h2, h3⟩ := rs_sliceQ (zCall : VCall) (fun a : VCall => [nI a.Op, nI a.A, nI a.B, nI a.Tok, .S a.Name, nI a.Msg.Kind, nI a.Msg.Num, .S a.Msg.Text, slTermS a.Filter]) (fun a => arCall a) Tryz.underlying104 (by kernel_rfl : Tryz.prog.cellsOf 270 = 9) (by omega) (by
  intro fuel cs x hl hx
  obtain ⟨_, a, ha, hc⟩ := op_Call hx
  exact ⟨a, ha, hc⟩) h
 rw [hm] at h1
 exact ⟨xs, ⟨h1, h2⟩, h3⟩
theorem op_Client {fuel : Nat} {cs : List Value} {x : DataW H × List MemPlace} (h : DataW.trod enc Tryz.prog w base spare held fuel 106 cs = some x) :
  cs.length = 3 ∧ ∃ a : VClient, arClient a ∧ ∀ j, j < 3 → RS w (okAll w) (lstG [slCallS a.Prog, nI a.At, .B a.Waiting] j) (cs.getD j undef) := by
 obtain ⟨hl, n, hf⟩ := trod_struct Tryz.underlying106 h
 rw [(by kernel_rfl : Tryz.prog.cellsOf 106 = 3)] at hl
 have hf := fun f h => hf f h
 simp only [List.mem_cons, List.not_mem_nil, or_false, forall_eq_or_imp, forall_eq] at hf
 obtain ⟨⟨y0, g0⟩, ⟨y1, g1⟩, ⟨y2, g2⟩⟩ := hf
 rw [(by kernel_rfl : Tryz.prog.cellsOf 104 = 1)] at g0
 rw [take1 (by omega)] at g0
 obtain ⟨a0, o0, h0⟩ := op_CallS g0
 rw [(by kernel_rfl : Tryz.prog.cellsOf 3 = 1)] at g1
 rw [take1 (by omega)] at g1
 obtain ⟨a1, h1, w1⟩ := trod_int Tryz.underlying3 g1
 rw [(by kernel_rfl : Tryz.prog.cellsOf 4 = 1)] at g2
 rw [take1 (by omega)] at g2
 obtain ⟨a2, h2⟩ := trod_bool Tryz.underlying4 g2
 refine ⟨hl, ⟨a0, a1, a2⟩, ⟨o0, wf_rng w1⟩, fun j hj => ?_⟩
 have h2 : j = 0 ∨ j = 1 ∨ j = 2 := by omega
 rcases h2 with rfl | rfl | rfl
 · exact h0
 · exact (List.cons.inj h1).1
 · exact (List.cons.inj h2).1
theorem op_ClientS {fuel : Nat} {v : Value} {x : DataW H × List MemPlace} (h : DataW.trod enc Tryz.prog w base spare held fuel 38 [v] = some x) : ∃ xs : List VClient, arClientS xs ∧ RS w (okAll w) (slClientS xs) v := by
 have hm : maxLen = 9223372036854775807 := by decide
 obtain ⟨xs, h1, h2, h3⟩ := rs_sliceQ (zClient : VClient) (fun a : VClient => [slCallS a.Prog, nI a.At, .B a.Waiting]) (fun a => arClient a) Tryz.underlying38 (by kernel_rfl : Tryz.prog.cellsOf 106 = 3) (by omega) (by
  intro fuel cs x hl hx
  obtain ⟨_, a, ha, hc⟩ := op_Client hx
  exact ⟨a, ha, hc⟩) h
 rw [hm] at h1
 exact ⟨xs, ⟨h1, h2⟩, h3⟩
theorem op_State {fuel : Nat} {cs : List Value} {x : DataW H × List MemPlace} (h : DataW.trod enc Tryz.prog w base spare held fuel 40 cs = some x) :
  cs.length = 12 ∧ ∃ a : VState, arState a ∧ ∀ j, j < 12 → RS w (okAll w) (lstG [slIntS a.Hub.Tokens.Parents, slBoolS a.Hub.Tokens.Off, nI a.Hub.Clock.Now, slTimerS a.Hub.Clock.Timers, slNotifyS a.Hub.Notes, slEventS a.Hub.Events, slLatchS a.Hub.Latches, slCellS a.Hub.Cells, slTopicS a.Hub.Topics, slMergeS a.Hub.Merges, slUserS a.Hub.Users, slClientS a.Clients] j) (cs.getD j undef) := by
 obtain ⟨hl, n, hf⟩ := trod_struct Tryz.underlying40 h
 rw [(by kernel_rfl : Tryz.prog.cellsOf 40 = 12)] at hl
 have hf := fun f h => hf f h
 simp only [List.mem_cons, List.not_mem_nil, or_false, forall_eq_or_imp, forall_eq] at hf
 obtain ⟨⟨y0, g0⟩, ⟨y1, g1⟩⟩ := hf
 rw [(by kernel_rfl : Tryz.prog.cellsOf 37 = 11)] at g0
 obtain ⟨_, a0, o0, h0⟩ := op_Hub g0
 rw [(by kernel_rfl : Tryz.prog.cellsOf 38 = 1)] at g1
 rw [take1 (by omega)] at g1
 obtain ⟨a1, o1, h1⟩ := op_ClientS g1
 refine ⟨hl, ⟨a0, a1⟩, ⟨o0, o1⟩, fun j hj => ?_⟩
 have h2 : j = 0 ∨ j = 1 ∨ j = 2 ∨ j = 3 ∨ j = 4 ∨ j = 5 ∨ j = 6 ∨ j = 7 ∨ j = 8 ∨ j = 9 ∨ j = 10 ∨ j = 11 := by omega
 rcases h2 with rfl | rfl | rfl | rfl | rfl | rfl | rfl | rfl | rfl | rfl | rfl | rfl
 · have := h0 0 (by omega); rw [sub_getD (by omega)] at this; exact this
 · have := h0 1 (by omega); rw [sub_getD (by omega)] at this; exact this
 · have := h0 2 (by omega); rw [sub_getD (by omega)] at this; exact this
 · have := h0 3 (by omega); rw [sub_getD (by omega)] at this; exact this
 · have := h0 4 (by omega); rw [sub_getD (by omega)] at this; exact this
 · have := h0 5 (by omega); rw [sub_getD (by omega)] at this; exact this
 · have := h0 6 (by omega); rw [sub_getD (by omega)] at this; exact this
 · have := h0 7 (by omega); rw [sub_getD (by omega)] at this; exact this
 · have := h0 8 (by omega); rw [sub_getD (by omega)] at this; exact this
 · have := h0 9 (by omega); rw [sub_getD (by omega)] at this; exact this
 · have := h0 10 (by omega); rw [sub_getD (by omega)] at this; exact this
 · exact h1
end
end Go.Fw
