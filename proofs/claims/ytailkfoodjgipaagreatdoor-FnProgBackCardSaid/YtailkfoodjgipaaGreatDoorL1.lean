/- What these functions of Go's library give, as contracts of the framework's own form: strings.Split, strings.Cut, strings.Join; their proofs are the library's contracts. -/
import Derived.Test.YtailkfoodjgipaaGreatDoorK
import Derived.Test.YtailkfoodjgipaaGreatDoorL0
import Derived.Laws.NewBlocks
set_option linter.unusedVariables false
set_option linter.unusedSectionVars false
namespace Go.Fw
open Go.Proofs Go.RowKit
theorem outO_cases {f : Nat} {args exts : List AV} {r : AV × List AV} (h : outO f args exts = some r) :
    (∃ s p, f = 78 ∧ args = [.S s, .S p] ∧ exts = [] ∧ s.size < 4294967281 ∧ 1 ≤ p.size ∧ r = (owStrS (Lib.splitB p 0 (Lib.countB s p) s), [])) ∨
    (∃ s p, f = 32 ∧ args = [.S s, .S p] ∧ exts = [] ∧ s.size < 4294967281 ∧ r = (.tup 3 (lstG [.S ⟨(Lib.cut s.data.toList p.data.toList).1.toArray⟩, .S ⟨(Lib.cut s.data.toList p.data.toList).2.1.toArray⟩, .B (Lib.cut s.data.toList p.data.toList).2.2]), [])) ∨
    (∃ n g p, f = 24 ∧ args = [.sl n 1 g, .S p] ∧ exts = [] ∧ n ≤ 140737488355328 ∧ (∀ i, i < n → isSt (g i 0) = true) ∧ (Lib.join ((strsOf n g).map (·.data.toList)) p.data.toList).length ≤ 140737488355328 ∧
      r = (.S ⟨(Lib.join ((strsOf n g).map (·.data.toList)) p.data.toList).toArray⟩, [])) := by
  unfold outO at h
  split at h
  · rename_i s p
    cases h1 : Nat.beq f 78 with
    | true =>
      rw [h1] at h
      simp only [cond_true] at h
      cases h2 : (decide (s.size < 4294967281) && Nat.ble 1 p.size) with
      | true =>
        rw [h2] at h
        obtain ⟨h3, h4⟩ := Bool.and_eq_true_iff.1 h2
        exact .inl ⟨s, p, Nat.eq_of_beq_eq_true h1, rfl, rfl, of_decide_eq_true h3, Nat.le_of_ble_eq_true h4, (Option.some.inj h).symm⟩
      | false => rw [h2] at h; simp at h
    | false =>
      rw [h1] at h
      simp only [cond_false] at h
      cases h2 : Nat.beq f 32 with
      | true =>
        rw [h2] at h
        simp only [cond_true] at h
        cases h3 : decide (s.size < 4294967281) with
        | true => rw [h3] at h; exact .inr (.inl ⟨s, p, Nat.eq_of_beq_eq_true h2, rfl, rfl, of_decide_eq_true h3, (Option.some.inj h).symm⟩)
        | false => rw [h3] at h; simp at h
      | false => rw [h2] at h; simp at h
  · rename_i n g p
    cases h1 : Nat.beq f 24 with
    | true =>
      rw [h1] at h
      simp only [cond_true] at h
      cases h2 : (Nat.ble n 140737488355328 && (List.range n).all (fun i => isSt (g i 0)) && decide ((Lib.join ((strsOf n g).map (·.data.toList)) p.data.toList).length ≤ 140737488355328)) with
      | true =>
        rw [h2] at h
        obtain ⟨h3, h5⟩ := Bool.and_eq_true_iff.1 h2
        obtain ⟨h3, h4⟩ := Bool.and_eq_true_iff.1 h3
        exact .inr (.inr ⟨n, g, p, Nat.eq_of_beq_eq_true h1, rfl, rfl, Nat.le_of_ble_eq_true h3, fun i hi => List.all_eq_true.1 h4 i (List.mem_range.2 hi), of_decide_eq_true h5, (Option.some.inj h).symm⟩)
      | false => rw [h2] at h; simp at h
    | false => rw [h1] at h; simp at h
  · simp at h
variable [Tok]
theorem args2 {vs : Array Value} {x y : Value} (h : vs.size = 2) (h0 : vs.getD 0 undef = x) (h1 : vs.getD 1 undef = y) : vs = #[x, y] := by
  obtain ⟨l⟩ := vs
  match l, h with
  | [a, b], _ => simp at h0 h1; subst h0 h1; rfl
theorem handed_none {w : World} {sh : AV → Value → Prop} {M : Cells} {hv : Nat → Value} {Fe : Nat → Cells} : Handed w sh M [] hv Fe :=
  ⟨fun k x h => by simp at h, fun k m b o h => by simp at h, fun k b o h => by simp at h⟩
theorem chg_of_below {w w' : World} {M : Cells} (h : Below w.heap.size w w') : Chg w w' M :=
  ⟨h.size, fun b o hb _ => by
    have := h.block b hb
    unfold cellAt frozAt World.cell? World.frozen?
    simp only [this]; exact ⟨trivial, trivial⟩, fun b hb _ => h.block b hb, h.os, h.output, h.tape⟩
theorem chg_of_ext {w w' : World} {M : Cells} (h : Ext w w') : Chg w w' M := ⟨h.1, fun b o hb _ => h.cell hb o, fun b hb _ => h.2.1 b hb, h.2.2⟩
theorem gStr_cells (xs : List ByteArray) (t : TypeId) (w : World) (n : Nat) (h : xs.length = n) {w0 : World} {ok : Cells} :
    RO (w.alloc (.cells (xs.map Value.string).toArray t)) (RS w0 ok) (owStrS xs) (.slice (some ⟨w.heap.size, 0, none⟩) n n) (In ⟨w.heap.size, 0, none⟩ n) := by
  subst h
  have hc : ∀ i, i < xs.length → cellAt (w.alloc (.cells (xs.map Value.string).toArray t)) w.heap.size i = some (.string (xs.getD i ByteArray.empty)) := fun i hi => by
    rw [alloc_cell]
    simp [List.getElem?_map, hi, List.getD_eq_getElem?_getD]
  refine ⟨some ⟨w.heap.size, 0, none⟩, xs.length, rfl, Nat.le_refl _, by omega, .inr ⟨⟨w.heap.size, 0, none⟩, rfl, rfl, fun i hi => ⟨⟨rfl, by omega, by omega⟩, ⟨_, (by rw [Nat.zero_add]; exact hc i (by omega)), rfl⟩, alloc_froz _ _ _ _⟩, fun _ _ _ _ => False, fun _ _ _ _ _ _ h => h.elim, fun _ _ _ _ _ _ _ _ _ _ _ h => h.elim, fun i hi j hj => ?_⟩⟩
  obtain rfl : j = 0 := by omega
  exact ⟨.string (xs.getD i ByteArray.empty), (by rw [Nat.zero_add, Nat.mul_one, Nat.add_zero]; exact hc i hi), rfl⟩
theorem out_con (m : Int) (hv : Tok.vr = some (0, .int .i64 m)) {f : Nat} {args exts : List AV} {r : AV × List AV} (h : outO f args exts = some r) : Con Tryz.prog f args exts r.1 r.2 := by
  intro w M hv0 Fe vs ht _ _ _ hM hvs hargs
  obtain ⟨_, _, hvar, _⟩ := ht
  have hm : w.cell? ⟨0, 0, none⟩ = some (.int .i64 m) := (hvar _ _ hv).2
  rcases outO_cases h with ⟨s, p, rfl, rfl, rfl, hs, hp, rfl⟩ | ⟨s, p, rfl, rfl, rfl, hs, rfl⟩ | ⟨n, g, p, rfl, rfl, rfl, hn, hg, hl, rfl⟩
  · have a0 : vs.getD 0 undef = .string s := hargs 0 (by simp)
    have a1 : vs.getD 1 undef = .string p := hargs 1 (by simp)
    obtain rfl := args2 hvs a0 a1
    refine (Tryz.strings_Split s p m w hs hm hp).mono ?_
    rintro e w' ⟨rfl, rfl⟩
    have hk := Lib.splitB_all p hp 0 _ s rfl
    refine ⟨_, rfl, chg_of_ext (alloc_ext _ _), In ⟨w.heap.size, 0, none⟩ (Lib.countB s p + 1), fun _ _ _ => False, gStr_cells _ _ _ _ hk, handed_none, fun b o hb => ?_, fun k b o hk => by simp at hk⟩
    obtain ⟨rfl, _, _⟩ := hb
    exact ⟨by rw [alloc_heap]; simp, fun h => by simp at h⟩
  · have a0 : vs.getD 0 undef = .string s := hargs 0 (by simp)
    have a1 : vs.getD 1 undef = .string p := hargs 1 (by simp)
    obtain rfl := args2 hvs a0 a1
    refine (Tryz.strings_Cut s p m w hs hm).mono ?_
    rintro e w' ⟨rfl, k, rfl⟩
    refine ⟨_, rfl, ⟨Nat.le_refl _, fun _ _ _ _ => ⟨rfl, rfl⟩, fun _ _ _ => rfl, rfl, rfl, rfl⟩, fun _ _ => False, fun _ _ _ => False, ⟨_, rfl, rfl, fun _ _ _ => False, fun _ _ _ _ h => h, fun _ _ _ _ _ _ _ h => h.elim, fun j hj => ?_⟩, handed_none, fun b o hb => hb.elim, fun k b o hk => by simp at hk⟩
    match j, hj with
    | 0, _ => exact rfl
    | 1, _ => exact rfl
    | 2, _ => exact rfl
  · have a0 : RS w (okOf w M) (.sl n 1 g) (vs.getD 0 undef) := hargs 0 (by simp)
    have a1 : vs.getD 1 undef = .string p := hargs 1 (by simp)
    obtain ⟨A, cap, e0, ⟨hcap, _⟩, hc⟩ := a0
    obtain rfl := args2 hvs e0 a1
    have hfin : ∀ (x : ByteArray) (w' : World), Below w.heap.size w w' → ∃ v, Ending.returned (Value.string x) = .returned v ∧ Chg w w' M ∧ ∃ (F : Cells) (Fe' : Nat → Cells), RR w' (RS w (okOf w M)) (.S x) v F ∧
      Handed w' (RS w (okOf w M)) (fun b o => b < w'.heap.size ∧ (b < w.heap.size → M b o)) [] hv0 Fe' ∧ (∀ b o, F b o → b < w'.heap.size ∧ (b < w.heap.size → M b o)) ∧ ∀ k b o, k < ([] : List AV).length → Fe' k b o → ¬ F b o :=
      fun x w' hb => ⟨_, rfl, chg_of_below hb, fun _ _ => False, fun _ _ _ => False, rfl, handed_none, fun _ _ h => h.elim, fun k b o hk => by simp at hk⟩
    by_cases h0 : n = 0
    · subst h0
      refine (Tryz.strings_Join_none A cap p w).mono ?_
      rintro e w' ⟨rfl, rfl⟩
      exact hfin _ _ (Below.refl _ _)
    · obtain h1 | ⟨a, rfl, hsp, hcell⟩ := hc
      · exact absurd h1 h0
      have hlen : (strsOf n g).length = n := by simp [strsOf]
      have hz := hcell 0 (by omega) 0 (by omega)
      obtain ⟨bk, o, sp⟩ := a
      simp only at hsp
      subst hsp
      have := Tryz.strings_Join bk o cap (strsOf n g) p w (fun j x hx => ?_) hz.1.1 (by omega) (by omega) hl
      · rw [hlen] at this
        refine this.mono ?_
        rintro e w' ⟨rfl, hb⟩
        exact hfin _ _ hb
      · have hj : j < n := by
          have := (List.getElem?_eq_some_iff.1 hx).1
          omega
        obtain ⟨_, u, h4, h5⟩ := hcell j hj 0 (by omega)
        have hgj := hg j hj
        have hx' : x = asS (g j 0) := by
          rw [strsOf, List.getElem?_map, List.getElem?_range hj] at hx
          exact (Option.some.inj hx).symm
        simp only [Nat.mul_one, Nat.add_zero] at h4
        cases hq : g j 0 with
        | S y =>
          rw [hq] at h5 hx'
          have h5' : u = .string y := h5
          subst h5' hx'
          exact h4
        | _ => rw [hq] at hgj; simp [isSt] at hgj
theorem outs_ok (m : Int) (hv : Tok.vr = some (0, .int .i64 m)) : OrcOk Tryz.prog cfg cfg.outO := by
  refine ⟨fun f args exts r h => ?_, fun f args exts r h => out_con m hv h, fun f fn args exts r h hfn => ?_, fun f args exts r h => ?_, fun f args exts r h => ?_⟩
  · rcases outO_cases h with ⟨s, p, rfl, _⟩ | ⟨s, p, rfl, _⟩ | ⟨n, g, p, rfl, _⟩
    · exact ⟨_, Tryz.func78, by kernel_rfl, by kernel_rfl⟩
    · exact ⟨_, Tryz.func32, by kernel_rfl, by kernel_rfl⟩
    · exact ⟨_, Tryz.func24, by kernel_rfl, by kernel_rfl⟩
  · rcases outO_cases h with ⟨s, p, rfl, rfl, rfl, hs, hp, rfl⟩ | ⟨s, p, rfl, rfl, rfl, hs, rfl⟩ | ⟨n, g, p, rfl, rfl, rfl, hn, hg, hl, rfl⟩
    · rw [Tryz.func78] at hfn; obtain rfl := Option.some.inj hfn; kernel_rfl
    · rw [Tryz.func32] at hfn; obtain rfl := Option.some.inj hfn; kernel_rfl
    · rw [Tryz.func24] at hfn; obtain rfl := Option.some.inj hfn; kernel_rfl
  · rcases outO_cases h with ⟨s, p, rfl, rfl, rfl, hs, hp, rfl⟩ | ⟨s, p, rfl, rfl, rfl, hs, rfl⟩ | ⟨n, g, p, rfl, rfl, rfl, hn, hg, hl, rfl⟩
    · exact ⟨rfl, fun x hx => by simp at hx⟩
    · exact ⟨rfl, fun x hx => by simp at hx⟩
    · exact ⟨rfl, fun x hx => by simp at hx⟩
  · rcases outO_cases h with ⟨s, p, rfl, rfl, rfl, hs, hp, rfl⟩ | ⟨s, p, rfl, rfl, rfl, hs, rfl⟩ | ⟨n, g, p, rfl, rfl, rfl, hn, hg, hl, rfl⟩ <;> exact ⟨rfl, rfl⟩
end Go.Fw
