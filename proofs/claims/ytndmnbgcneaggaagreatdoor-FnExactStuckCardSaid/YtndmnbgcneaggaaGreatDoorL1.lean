/- What these functions of Go's library give, as contracts of the framework's own form: strings.Split (by the library's contract), slices.Grow of no slice. -/
import Derived.Test.YtndmnbgcneaggaaGreatDoorK
import Derived.Test.YtndmnbgcneaggaaGreatDoorL0
import Derived.Laws.NewBlocks
import Derived.Deep.DeepAppendWide
import Derived.WalkKit
import Derived.ProofKit
set_option linter.unusedVariables false
set_option linter.unusedSectionVars false
namespace Go.Proofs
open Go.RowKit
theorem zero_get (k i : Nat) (h : i < k) : (Builtin.zeroCells #[Value.int .i64 0] k)[i]? = some (Value.int .i64 0) := by
 unfold Builtin.zeroCells
 simp [h, Nat.mod_one]
theorem zero_size (k : Nat) : (Builtin.zeroCells #[Value.int .i64 0] k).size = k := by
 unfold Builtin.zeroCells
 simp
theorem Tryz.grow_nil (n : Int) (w : World) (h0 : 0 ≤ n) (h1 : n ≤ 4294967296) :
  Calls Tryz.prog 277 #[.slice none 0 0, .int .i64 n] w fun e w' => ∃ v, e = .returned v ∧ ((v = .slice none 0 0 ∧ w' = w) ∨
   ∃ (c : Nat) (cs : Array Value), v = .slice (some ⟨w.heap.size, 0, none⟩) 0 c ∧ w' = (w.alloc (.cells cs 3)).drew ∧ ∀ i, i < c → cs[i]? = some (.int .i64 0)) := by
 go_enter Tryz.func277, Tryz.ntmps277
 have hb : Tryz.t3.bytes = 8 := rfl
 go_wp2
 · exfalso
   have hh : 281474976710656 < Builtin.nextslicecap n.toNat 0 * 8 := by first | assumption | (rw [← hb]; assumption)
   have := nextslicecap_le_wide (need := n.toNat) (old := 0) (by omega)
   omega
 · go_ret
   refine ⟨.slice (some ⟨w.heap.size, 0, none⟩) 0 ((Question.appendCap n.toNat 0 3).cut (w.tape w.drawn (Question.appendCap n.toNat 0 3))), rfl, Or.inr ?_⟩
   refine ⟨_, rfl, Builtin.zeroCells #[Value.int IntKind.i64 0] n.toNat ++ Builtin.zeroCells #[Value.int IntKind.i64 0] ((Question.appendCap n.toNat 0 3).cut (w.tape w.drawn (Question.appendCap n.toNat 0 3)) - n.toNat), rfl, ?_⟩
   intro i hi
   rw [Array.getElem?_append, zero_size]
   split
   · exact zero_get _ _ (by assumption)
   · exact zero_get _ _ (by omega)
 · go_ret
   exact ⟨_, rfl, .inl ⟨rfl, rfl⟩⟩
end Go.Proofs
namespace Go.Fw
open Go.Proofs Go.RowKit
theorem outO_cases {f : Nat} {args exts : List AV} {r : AV × List AV} (h : outO f args exts = some r) :
  (∃ s p, f = 213 ∧ args = [.S s, .S p] ∧ exts = [] ∧ s.size < 4294967281 ∧ 1 ≤ p.size ∧ r = (owStrS (Lib.splitB p 0 (Lib.countB s p) s), [])) ∨
  (∃ g n, f = 277 ∧ args = [.nsl 1 g, .I .i64 n] ∧ exts = [] ∧ 0 ≤ n ∧ n ≤ 4294967296 ∧ r = (owIntS [], [])) := by
 unfold outO at h
 split at h
 · rename_i s p
   cases h1 : Nat.beq f 213 with
   | true =>
    rw [h1] at h
    simp only [cond_true] at h
    cases h2 : (decide (s.size < 4294967281) && Nat.ble 1 p.size) with
    | true =>
     rw [h2] at h
     obtain ⟨h3, h4⟩ := Bool.and_eq_true_iff.1 h2
     exact .inl ⟨s, p, Nat.eq_of_beq_eq_true h1, rfl, rfl, of_decide_eq_true h3, Nat.le_of_ble_eq_true h4, (Option.some.inj h).symm⟩
    | false => rw [h2] at h; simp at h
   | false => rw [h1] at h; simp at h
 · rename_i g n
   cases h1 : Nat.beq f 277 with
   | true =>
    rw [h1] at h
    simp only [cond_true] at h
    cases h2 : (decide (0 ≤ n) && decide (n ≤ 4294967296)) with
    | true =>
     rw [h2] at h
     obtain ⟨h3, h4⟩ := Bool.and_eq_true_iff.1 h2
     exact .inr ⟨g, n, Nat.eq_of_beq_eq_true h1, rfl, rfl, of_decide_eq_true h3, of_decide_eq_true h4, (Option.some.inj h).symm⟩
    | false => rw [h2] at h; simp at h
   | false => rw [h1] at h; simp at h
 · simp at h
variable [Tok]
theorem args2 {vs : Array Value} {x y : Value} (h : vs.size = 2) (h0 : vs.getD 0 undef = x) (h1 : vs.getD 1 undef = y) : vs = #[x, y] := by
 obtain ⟨l⟩ := vs
 match l, h with
 | [a, b], _ => simp at h0 h1; subst h0 h1; rfl
theorem handed_none {w : World} {sh : AV → Value → Prop} {M : Cells} {hv : Nat → Value} {Fe : Nat → Cells} : Handed w sh M [] hv Fe :=
 ⟨fun k x h => by simp at h, fun k m b o h => by simp at h, fun k b o h => by simp at h⟩
theorem chg_of_below {w w' : World} {M : Cells} (h : Below w.heap.size w w') : Chg w w' M :=
 ⟨h.size, fun b o hb _ => by
  have := h.block b hb
  unfold cellAt frozAt World.cell? World.frozen?
  simp only [this]; exact ⟨trivial, trivial⟩, fun b hb _ => h.block b hb, h.os, h.output, h.tape⟩
theorem chg_of_ext {w w' : World} {M : Cells} (h : Ext w w') : Chg w w' M := ⟨h.1, fun b o hb _ => h.cell hb o, fun b hb _ => h.2.1 b hb, h.2.2⟩
theorem gStr_cells (xs : List ByteArray) (t : TypeId) (w : World) (n : Nat) (h : xs.length = n) {w0 : World} {ok : Cells} :
  RO (w.alloc (.cells (xs.map Value.string).toArray t)) (RS w0 ok) (owStrS xs) (.slice (some ⟨w.heap.size, 0, none⟩) n n) (In ⟨w.heap.size, 0, none⟩ n) := by
 subst h
 have hc : ∀ i, i < xs.length → cellAt (w.alloc (.cells (xs.map Value.string).toArray t)) w.heap.size i = some (.string (xs.getD i ByteArray.empty)) := fun i hi => by
  rw [alloc_cell]
  simp [List.getElem?_map, hi, List.getD_eq_getElem?_getD]
 refine ⟨some ⟨w.heap.size, 0, none⟩, xs.length, rfl, Nat.le_refl _, by omega, .inr ⟨⟨w.heap.size, 0, none⟩, rfl, rfl, fun i hi => ⟨⟨rfl, by omega, by omega⟩, ⟨_, (by rw [Nat.zero_add]; exact hc i (by omega)), rfl⟩, alloc_froz _ _ _ _⟩, fun _ _ _ _ => False, fun _ _ _ _ _ _ h => h.elim, fun _ _ _ _ _ _ _ _ _ _ _ h => h.elim, fun i hi j hj => ?_⟩⟩
 obtain rfl : j = 0 := by omega
 exact ⟨.string (xs.getD i ByteArray.empty), (by rw [Nat.zero_add, Nat.mul_one, Nat.add_zero]; exact hc i hi), rfl⟩
theorem out_con (m : Int) (hv : Tok.vr = some (0, .int .i64 m)) {f : Nat} {args exts : List AV} {r : AV × List AV} (h : outO f args exts = some r) : Con Tryz.prog f args exts r.1 r.2 := by
 intro w M hv0 Fe vs ht _ _ _ hM hvs hargs
 obtain ⟨_, _, hvar, _⟩ := ht
 have hm : w.cell? ⟨0, 0, none⟩ = some (.int .i64 m) := (hvar _ _ hv).2
 rcases outO_cases h with ⟨s, p, rfl, rfl, rfl, hs, hp, rfl⟩ | ⟨g, n, rfl, rfl, rfl, h0, h1, rfl⟩
 · have a0 : vs.getD 0 undef = .string s := hargs 0 (by simp)
   have a1 : vs.getD 1 undef = .string p := hargs 1 (by simp)
   obtain rfl := args2 hvs a0 a1
   refine (Tryz.strings_Split s p m w hs hm hp).mono ?_
   rintro e w' ⟨rfl, rfl⟩
   have hk := Lib.splitB_all p hp 0 _ s rfl
   refine ⟨_, rfl, chg_of_ext (alloc_ext _ _), In ⟨w.heap.size, 0, none⟩ (Lib.countB s p + 1), fun _ _ _ => False, gStr_cells _ _ _ _ hk, handed_none, fun b o hb => ?_, fun k b o hk => by simp at hk⟩
   obtain ⟨rfl, _, _⟩ := hb
   exact ⟨by rw [alloc_heap]; simp, fun h => by simp at h⟩
 · have a0 : vs.getD 0 undef = .slice none 0 0 := hargs 0 (by simp)
   have a1 : vs.getD 1 undef = .int .i64 n := hargs 1 (by simp)
   obtain rfl := args2 hvs a0 a1
   refine (Tryz.grow_nil n w h0 h1).mono ?_
   rintro e w' ⟨v, rfl, ⟨rfl, rfl⟩ | ⟨c, cs, rfl, rfl, hc⟩⟩
   · exact ⟨_, rfl, chg_of_below (Below.refl _ _), fun _ _ => False, fun _ _ _ => False, ⟨none, 0, rfl, Nat.le_refl _, by omega, .inl rfl⟩, handed_none, fun b o hb => hb.elim, fun k b o hk => by simp at hk⟩
   · have hcell : ∀ i, i < c → cellAt (w.alloc (.cells cs 3)).drew w.heap.size i = some (.int .i64 0) := fun i hi => by
      have : cellAt (w.alloc (.cells cs 3)) w.heap.size i = some (.int .i64 0) := by rw [alloc_cell]; exact hc i hi
      exact this
     refine ⟨_, rfl, ?_, In ⟨w.heap.size, 0, none⟩ c, fun _ _ _ => False, ⟨some ⟨w.heap.size, 0, none⟩, c, rfl, Nat.zero_le _, by omega, .inr ⟨⟨w.heap.size, 0, none⟩, rfl, rfl, fun i hi => ⟨⟨rfl, by omega, by omega⟩, ⟨_, (by rw [Nat.zero_add]; exact hcell i (by omega)), rfl⟩, alloc_froz _ _ _ _⟩,
      fun _ _ _ _ => False, fun i j b o hi => by simp at hi, fun i j i' j' b o hi => by simp at hi, fun i hi => by simp at hi⟩⟩, handed_none, fun b o hb => ?_, fun k b o hk => by simp at hk⟩
     · obtain ⟨x1, x2, x3, x4, x5, x6⟩ := (chg_of_ext (alloc_ext w (.cells cs 3)) : Chg w (w.alloc (.cells cs 3)) M)
       exact ⟨x1, x2, x3, x4, x5, x6⟩
     · obtain ⟨rfl, _, _⟩ := hb
       exact ⟨by show w.heap.size < (w.alloc (.cells cs 3)).heap.size; rw [alloc_heap]; simp, fun h => by simp at h⟩
theorem outs_ok (m : Int) (hv : Tok.vr = some (0, .int .i64 m)) : OrcOk Tryz.prog cfg cfg.outO := by
 refine ⟨fun f args exts r h => ?_, fun f args exts r h => out_con m hv h, fun f fn args exts r h hfn => ?_, fun f args exts r h => ?_, fun f args exts r h => ?_⟩
 · rcases outO_cases h with ⟨s, p, rfl, _⟩ | ⟨g, n, rfl, _⟩
   · exact ⟨_, Tryz.func213, by kernel_rfl, by kernel_rfl⟩
   · exact ⟨_, Tryz.func277, by kernel_rfl, by kernel_rfl⟩
 · rcases outO_cases h with ⟨s, p, rfl, rfl, rfl, hs, hp, rfl⟩ | ⟨g, n, rfl, rfl, rfl, h0, h1, rfl⟩
   · rw [Tryz.func213] at hfn; obtain rfl := Option.some.inj hfn; kernel_rfl
   · rw [Tryz.func277] at hfn; obtain rfl := Option.some.inj hfn; kernel_rfl
 · rcases outO_cases h with ⟨s, p, rfl, rfl, rfl, hs, hp, rfl⟩ | ⟨g, n, rfl, rfl, rfl, h0, h1, rfl⟩
   · exact ⟨rfl, fun x hx => by simp at hx⟩
   · exact ⟨rfl, fun x hx => by simp at hx⟩
 · rcases outO_cases h with ⟨s, p, rfl, rfl, rfl, hs, hp, rfl⟩ | ⟨g, n, rfl, rfl, rfl, h0, h1, rfl⟩ <;> exact ⟨rfl, rfl⟩
end Go.Fw
