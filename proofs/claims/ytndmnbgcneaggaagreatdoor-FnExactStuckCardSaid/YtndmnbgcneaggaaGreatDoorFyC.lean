/- What the caller shares, as what is only read: slices of numbers, of pairs; a struct of these. -/
import Derived.Test.YtndmnbgcneaggaaGreatDoorFyB
import Derived.Deep.Slices
import Derived.Carry
set_option linter.unusedVariables false
set_option linter.unusedSectionVars false
namespace Go.Fw
open Go.Deep
section
variable {H : Type} {enc : TypeId × Value → H} {P : Program} {w : World} {base : Nat} {spare : Nat → Bool} {held : Bool}
def okAll (w : World) : Cells := okOf w (fun _ _ => False)
theorem ok_of_cell {b o : Nat} {v : Value} (h : cellAt w b o = some v) : okAll w b o := by
 refine ⟨?_, fun h => h⟩
 by_cases hb : b < w.heap.size
 · exact hb
 · unfold cellAt World.cell? at h
   simp only [Array.getElem?_eq_none (Nat.le_of_not_lt hb)] at h
   simp at h
variable [Tok]
theorem rs_sliceQ {α : Type} {t e : TypeId} {sz : Nat} (D : α) (E : α → List AV) (Q : α → Prop) (ht : P.underlying t = some (.slice e)) (hsz : P.cellsOf e = sz) (hpos : 0 < sz)
  (hel : ∀ fuel cs x, cs.length = sz → DataW.trod enc P w base spare held fuel e cs = some x → ∃ a : α, Q a ∧ ∀ j, j < sz → RS w (okAll w) (lstG (E a) j) (cs.getD j undef))
  {fuel : Nat} {v : Value} {x : DataW H × List MemPlace} (h : DataW.trod enc P w base spare held fuel t [v] = some x) :
  ∃ xs : List α, xs.length ≤ maxLen ∧ (∀ x ∈ xs, Q x) ∧ RS w (okAll w) (.sl xs.length sz (fun i => lstG (E (xs.getD i D)))) v := by
 rcases open_slice ht h with ⟨h1, _⟩ | ⟨a, len, cap, m, n, Dd, Pl, h1, hb, hl, hm, hmm, rfl, hx⟩
 · obtain rfl : v = .slice none 0 0 := by simpa using h1
   exact ⟨[], Nat.zero_le _, by simp, none, 0, rfl, ⟨Nat.le_refl _, fun _ => rfl⟩, .inl rfl⟩
 · obtain rfl : v = .slice (some a) len cap := by simpa using h1
   have hlm : len ≤ m := by rw [hmm]; split <;> omega
   have hall : ∀ i, ∃ y : α, i < len → Q y ∧ ∃ cs' : List Value, w.cells? base (a.add (i * sz)) sz = some cs' ∧ ∀ j, j < sz → RS w (okAll w) (lstG (E y) j) (cs'.getD j undef) := fun i => by
    by_cases hi : i < len
    · obtain ⟨cs', h2, h3⟩ := hx i (by omega)
      rw [hsz] at h2
      obtain ⟨_, h4, _⟩ := World.cells?_some h2
      obtain ⟨y, hQ, hy⟩ := hel _ _ _ h4 h3
      exact ⟨y, fun _ => ⟨hQ, cs', h2, hy⟩⟩
    · exact ⟨D, fun h => absurd h hi⟩
   obtain ⟨f, hf⟩ := Classical.axiomOfChoice hall
   refine ⟨(List.range len).map f, by simpa using Nat.le_trans hl hm, fun x hx => by
    obtain ⟨i, hi, rfl⟩ := List.mem_map.1 hx
    exact (hf i (List.mem_range.1 hi)).1, ?_⟩
   simp only [List.length_map, List.length_range]
   refine ⟨some a, cap, rfl, ⟨hl, fun h => by simp at h⟩, ?_⟩
   rcases Nat.eq_zero_or_pos len with h0 | hlen
   · exact .inl h0
   · right
     have hcell : ∀ i, i < len → ∀ j, j < sz → ∃ cs' : List Value, w.cell? ((a.add (i * sz)).add j) = some (cs'.getD j undef) ∧ RS w (okAll w) (lstG (E (f i)) j) (cs'.getD j undef) := fun i hi j hj => by
      obtain ⟨_, cs', h2, h3⟩ := hf i hi
      obtain ⟨_, h4, h5⟩ := World.cells?_some h2
      refine ⟨cs', ?_, h3 j hj⟩
      rw [h5 j hj]
      simp [List.getD_eq_getElem?_getD, h4, hj]
     have hspot : a.spot = none := by
      obtain ⟨cs', h2, _⟩ := hcell 0 hlen 0 hpos
      have := World.cell?_spot h2
      simpa [Addr.add] using this
     refine ⟨a, rfl, hspot, fun i hi j hj => ?_⟩
     obtain ⟨cs', h2, h3⟩ := hcell i hi j hj
     rw [add_eq hspot, add_eq rfl] at h2
     have h2' : cellAt w a.block (a.off + (i * sz + j)) = some (cs'.getD j undef) := by
      rw [← Nat.add_assoc]; exact h2
     refine ⟨ok_of_cell h2', _, h2', ?_⟩
     have e1 : ((List.range len).map f).getD i D = f i := by simp [List.getD_eq_getElem?_getD, hi]
     show RS w (okAll w) (lstG (E (((List.range len).map f).getD i D)) j) _
     rw [e1]; exact h3
theorem trod_string {t : TypeId} (hu : P.underlying t = some .string) {fuel : Nat} {cs : List Value} {x : DataW H × List MemPlace} (h : DataW.trod enc P w base spare held fuel t cs = some x) : ∃ s, cs = [.string s] ∧ s.size ≤ 9223372036854775807 := by
 have hm : maxLen = 9223372036854775807 := by decide
 cases fuel with
 | zero => simp [DataW.trod] at h
 | succ fuel =>
  simp only [DataW.trod, hu] at h
  split at h <;> try (simp at h; done)
  all_goals try (rename_i heq _ ; simp at heq; done)
  all_goals try (rename_i heq ; simp at heq; done)
  split at h
  · rename_i hs; rw [hm] at hs; exact ⟨_, rfl, hs⟩
  · simp at h
theorem trod_int {t : TypeId} {k : IntKind} (hu : P.underlying t = some (.int k)) {fuel : Nat} {cs : List Value} {x : DataW H × List MemPlace} (h : DataW.trod enc P w base spare held fuel t cs = some x) : ∃ n, cs = [.int k n] ∧ (Lit.int k n).wf = true := by
 cases fuel with
 | zero => simp [DataW.trod] at h
 | succ fuel =>
  simp only [DataW.trod, hu] at h
  split at h <;> try (simp at h; done)
  all_goals try (rename_i heq _ ; simp at heq; done)
  all_goals try (rename_i heq ; simp at heq; done)
  rename_i k1 k' n heq
  simp only [Option.some.injEq, TypeDesc.int.injEq] at heq
  subst heq
  split at h
  · rename_i hk
    obtain ⟨rfl, hw⟩ := hk
    exact ⟨n, rfl, hw⟩
  · simp at h
theorem trod_bool {t : TypeId} (hu : P.underlying t = some .bool) {fuel : Nat} {cs : List Value} {x : DataW H × List MemPlace} (h : DataW.trod enc P w base spare held fuel t cs = some x) : ∃ b, cs = [.bool b] := by
 cases fuel with
 | zero => simp [DataW.trod] at h
 | succ fuel =>
  simp only [DataW.trod, hu] at h
  split at h <;> try (simp at h; done)
  all_goals try (rename_i heq _ ; simp at heq; done)
  all_goals try (rename_i heq ; simp at heq; done)
  exact ⟨_, rfl⟩
theorem trod_struct {t : TypeId} {fs : Array Field} (hu : P.underlying t = some (.struct fs)) {fuel : Nat} {cs : List Value} {x : DataW H × List MemPlace} (h : DataW.trod enc P w base spare held fuel t cs = some x) :
  cs.length = P.cellsOf t ∧ ∃ n, ∀ f, f ∈ fs.toList → ∃ y, DataW.trod enc P w base spare held n f.type ((cs.drop f.offset).take (P.cellsOf f.type)) = some y := by
 cases fuel with
 | zero => simp [DataW.trod] at h
 | succ fuel =>
  simp only [DataW.trod, hu] at h
  split at h <;> try (simp at h; done)
  all_goals try (rename_i heq _ ; simp at heq; done)
  all_goals try (rename_i heq ; simp at heq; done)
  rename_i hl
  refine ⟨hl, fuel, fun f hf => ?_⟩
  obtain ⟨ys, hys, _⟩ := Option.map_eq_some_iff.1 h
  obtain ⟨i, hi⟩ := List.mem_iff_getElem?.1 hf
  have h1 := mapM_some_get hys i f hi
  have hlen := mapM_some_length hys
  have hlt : i < ys.length := by
   have := (List.getElem?_eq_some_iff.1 hi).1
   omega
  rw [List.getElem?_eq_getElem hlt] at h1
  exact ⟨_, h1⟩
end
end Go.Fw
