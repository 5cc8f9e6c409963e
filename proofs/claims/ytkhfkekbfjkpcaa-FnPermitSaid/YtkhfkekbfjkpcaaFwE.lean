/- The by-value interpreter's invariant: changes of the world, values taken out of the table, cells that are set. -/
import Derived.Test.YtkhfkekbfjkpcaaFwD
set_option linter.unusedVariables false
set_option linter.unusedSectionVars false
namespace Go.Fw
variable [Tok]

/-- The world changed at the cells D alone (and new blocks were made). -/
structure Chg (w w' : World) (D : Cells) : Prop where
  size : w.heap.size ≤ w'.heap.size
  cell : ∀ b o, b < w.heap.size → ¬ D b o → cellAt w' b o = cellAt w b o ∧ frozAt w' b o = frozAt w b o
  blk : ∀ b, b < w.heap.size → (∀ o, ¬ D b o) → w'.heap[b]? = w.heap[b]?
  io : Io w w'
theorem Ext.chg {w w' : World} (h : Ext w w') : Chg w w' (fun _ _ => False) := ⟨h.1, fun b o hb _ => h.cell hb o, fun b hb _ => h.2.1 b hb, h.2.2⟩
theorem Chg.refl (w : World) (D : Cells) : Chg w w D := ⟨Nat.le_refl _, fun _ _ _ _ => ⟨rfl, rfl⟩, fun _ _ _ => rfl, Io.refl w⟩
theorem Chg.trans {w w' w'' : World} {D : Cells} (h : Chg w w' D) (h' : Chg w' w'' D) : Chg w w'' D :=
  ⟨Nat.le_trans h.size h'.size, fun b o hb hd => ⟨(h'.cell b o (Nat.lt_of_lt_of_le hb h.size) hd).1.trans (h.cell b o hb hd).1, (h'.cell b o (Nat.lt_of_lt_of_le hb h.size) hd).2.trans (h.cell b o hb hd).2⟩,
    fun b hb hd => (h'.blk b (Nat.lt_of_lt_of_le hb h.size) hd).trans (h.blk b hb hd), h.io.trans h'.io⟩

theorem setCell_size (w : World) (a : Addr) (v : Value) : (w.setCell a v).heap.size = w.heap.size := by simp [World.setCell]
theorem setCell_heap (w : World) (a : Addr) (v : Value) (b : Nat) : (w.setCell a v).heap[b]? = if b = a.block then (w.heap[b]?).map (fun
      | .cells c elem frozen => .cells (if a.spot.isSome then c else c.setIfInBounds a.off v) elem frozen
      | o => o) else w.heap[b]? := by
  simp only [World.setCell, Array.getElem?_modify]
  by_cases h : a.block = b
  · subst h; simp only [if_true]; rfl
  · have : ¬ b = a.block := fun e => h e.symm
    simp [h, this]
theorem cellAt_setCell (w : World) (bl of : Nat) (v : Value) (b o : Nat) :
    cellAt (w.setCell ⟨bl, of, none⟩ v) b o = if b = bl ∧ o = of then (cellAt w b o).map (fun _ => v) else cellAt w b o := by
  unfold cellAt World.cell?
  simp only [setCell_heap]
  by_cases hb : b = bl
  · subst hb
    simp only [if_true, true_and]
    cases hh : w.heap[b]? with
    | none => simp
    | some x =>
      cases x with
      | cells c e f =>
        simp only [Option.map_some, Option.isSome_none, Bool.false_eq_true, if_false]
        by_cases ho : o = of
        · subst ho
          simp only [if_true, Array.getElem?_setIfInBounds]
          by_cases hlt : o < c.size <;> simp [hlt]
        · have : of ≠ o := fun e => ho e.symm
          simp [ho, this]
      | _ => simp
  · simp [hb]
theorem frozAt_setCell (w : World) (a : Addr) (v : Value) (b o : Nat) : frozAt (w.setCell a v) b o = frozAt w b o := by
  unfold frozAt World.frozen?
  simp only [setCell_heap]
  by_cases hb : b = a.block
  · simp only [hb, if_true]
    cases hh : w.heap[a.block]? with
    | none => simp
    | some x => cases x <;> simp
  · simp [hb]
theorem setCell_chg (w : World) (bl of : Nat) (v : Value) : Chg w (w.setCell ⟨bl, of, none⟩ v) (fun b o => b = bl ∧ o = of) where
  size := by rw [setCell_size]; exact Nat.le_refl _
  cell b o hb hd := ⟨by rw [cellAt_setCell, if_neg hd], frozAt_setCell ..⟩
  blk b hb hd := by
    rw [setCell_heap, if_neg (fun e => hd of ⟨e, rfl⟩)]
  io := ⟨rfl, rfl, rfl⟩

/-- The general change of table, boxes and world: what is not touched stays; what is touched is given anew. -/
theorem Mem.gen {c : Cx} {gh gh' : Gh} {ar ar' : ArT} {bx bx' : BxT} {w w' : World} {D G : Cells} (T : Nat ⊕ Nat → Prop) (h : Mem c gh ar bx w) (hC : Chg w w' D)
    (hD : ∀ b o, D b o → (∃ r, T r ∧ live ar bx r ∧ fp gh bx r b o) ∨ G b o)
    (hG : ∀ x y, G x y → (∀ r, ¬ T r → live ar bx r → ¬ fp gh bx r x y) ∧ x < w'.heap.size ∧ (x < c.w0.heap.size → c.M x y))
    (rowsOld : ∀ id A, ¬ T (.inl id) → ar' id = some A → ar id = some A ∧ gh'.hd id = gh.hd id ∧ gh'.fa id = gh.fa id)
    (boxesOld : ∀ b sz g, ¬ T (.inr b) → bx' b = some (sz, g) → ∃ g0, bx b = some (sz, g0) ∧ gh'.ba b = gh.ba b ∧ ∀ o, o < sz → ∀ v, cellAt w (gh.ba b).block ((gh.ba b).off + o) = some v → TR c.sh gh ar bx w (g0 o) v → TR c.sh gh' ar' bx' w' (g o) v)
    (rowsNew : ∀ id A, T (.inl id) → ar' id = some A → RO w' c.sh (.own A.n A.sz A.g) (.slice (gh'.hd id).1 A.n (gh'.hd id).2) (gh'.fa id))
    (boxesNew : ∀ b sz g, T (.inr b) → bx' b = some (sz, g) → (gh'.ba b).spot = none ∧ ∀ o, o < sz → ∃ v, cellAt w' (gh'.ba b).block ((gh'.ba b).off + o) = some v ∧ frozAt w' (gh'.ba b).block ((gh'.ba b).off + o) = false ∧ v.oneCell' = true ∧ TR c.sh gh' ar' bx' w' (g o) v)
    (fpNew : ∀ r x y, T r → live ar' bx' r → fp gh' bx' r x y → (∃ r', T r' ∧ live ar bx r' ∧ fp gh bx r' x y) ∨ G x y)
    (disjNew : ∀ r r' x y, T r → T r' → r ≠ r' → live ar' bx' r → live ar' bx' r' → fp gh' bx' r x y → ¬ fp gh' bx' r' x y) :
    Mem c gh' ar' bx' w' := by
  have hnT : ∀ r x y, ¬ T r → live ar' bx' r → fp gh' bx' r x y → live ar bx r ∧ fp gh bx r x y := by
    rintro (id | b) x y hT hl hf
    · obtain ⟨A, e⟩ := Option.isSome_iff_exists.1 hl
      obtain ⟨e1, _, e3⟩ := rowsOld id A hT e
      refine ⟨by simp [live, e1], ?_⟩
      have hf' : gh'.fa id x y := hf
      rw [e3] at hf'; exact hf'
    · obtain ⟨⟨sz, g⟩, e⟩ := Option.isSome_iff_exists.1 hl
      obtain ⟨g0, e1, e2, _⟩ := boxesOld b sz g hT e
      refine ⟨by simp [live, e1], ?_⟩
      obtain ⟨B, eB, hin⟩ := hf
      have : B = (sz, g) := by rw [e] at eB; exact (Option.some.inj eB).symm
      subst this
      rw [e2] at hin
      exact ⟨(sz, g0), e1, hin⟩
  have hag : ∀ r, ¬ T r → live ar bx r → Agree w w' (fp gh bx r) := fun r hT hl b o hf => by
    refine hC.cell b o (h.mine r b o hl hf).1 fun hd => ?_
    rcases hD b o hd with ⟨r', hT', hl', hf'⟩ | hg
    · exact h.disj r r' b o (fun e => hT (e ▸ hT')) hl hl' hf hf'
    · exact (hG b o hg).1 r hT hl hf
  have hDM : ∀ b o, D b o → b < c.w0.heap.size → c.M b o := fun b o hd hb => by
    rcases hD b o hd with ⟨r, _, hl, hf⟩ | hg
    · exact (h.mine r b o hl hf).2 hb
    · exact (hG b o hg).2.2 hb
  refine ⟨fun id A e => ?_, fun b sz g e => ?_, fun r r' x y hn hl hl' hx hy => ?_, fun r x y hl hx => ?_, Nat.le_trans h.grow hC.size, fun b o hb hm => ?_, fun b hb hm => ?_, ?_⟩
  · by_cases hT : T (.inl id)
    · exact rowsNew id A hT e
    · obtain ⟨e1, e2, e3⟩ := rowsOld id A hT e
      rw [e2, e3]
      exact RO_congr _ (hag (.inl id) hT (by simp [live, e1])) (h.rows id A e1)
  · by_cases hT : T (.inr b)
    · exact boxesNew b sz g hT e
    · obtain ⟨g0, e1, e2, e3⟩ := boxesOld b sz g hT e
      rw [e2]
      refine ⟨(h.boxes b sz g0 e1).1, fun o ho => ?_⟩
      obtain ⟨v, hv, hf, h1, ht⟩ := (h.boxes b sz g0 e1).2 o ho
      have hin : fp gh bx (.inr b) (gh.ba b).block ((gh.ba b).off + o) := ⟨(sz, g0), e1, rfl, by omega, by simp only; omega⟩
      have := hag (.inr b) hT (by simp [live, e1]) _ _ hin
      exact ⟨v, by rw [this.1]; exact hv, by rw [this.2]; exact hf, h1, e3 o ho v hv ht⟩
  · by_cases hT : T r
    · by_cases hT' : T r'
      · exact disjNew r r' x y hT hT' hn hl hl' hx hy
      · obtain ⟨hl1, hf1⟩ := hnT r' x y hT' hl' hy
        rcases fpNew r x y hT hl hx with ⟨r2, hT2, hl2, hf2⟩ | hg
        · exact h.disj r2 r' x y (fun e => hT' (e ▸ hT2)) hl2 hl1 hf2 hf1
        · exact (hG x y hg).1 r' hT' hl1 hf1
    · obtain ⟨hl1, hf1⟩ := hnT r x y hT hl hx
      by_cases hT' : T r'
      · rcases fpNew r' x y hT' hl' hy with ⟨r2, hT2, hl2, hf2⟩ | hg
        · exact h.disj r r2 x y (fun e => hT (e ▸ hT2)) hl1 hl2 hf1 hf2
        · exact (hG x y hg).1 r hT hl1 hf1
      · obtain ⟨hl2, hf2⟩ := hnT r' x y hT' hl' hy
        exact h.disj r r' x y hn hl1 hl2 hf1 hf2
  · by_cases hT : T r
    · rcases fpNew r x y hT hl hx with ⟨r2, hT2, hl2, hf2⟩ | hg
      · exact ⟨Nat.lt_of_lt_of_le (h.mine r2 x y hl2 hf2).1 hC.size, (h.mine r2 x y hl2 hf2).2⟩
      · exact (hG x y hg).2
    · obtain ⟨hl1, hf1⟩ := hnT r x y hT hl hx
      exact ⟨Nat.lt_of_lt_of_le (h.mine r x y hl1 hf1).1 hC.size, (h.mine r x y hl1 hf1).2⟩
  · have := hC.cell b o (Nat.lt_of_lt_of_le hb h.grow) (fun hd => hm (hDM b o hd hb))
    exact ⟨this.1.trans (h.keep b o hb hm).1, this.2.trans (h.keep b o hb hm).2⟩
  · exact (hC.blk b (Nat.lt_of_lt_of_le hb h.grow) (fun o hd => hm o (hDM b o hd hb))).trans (h.keepB b hb hm)
  · exact h.io.trans hC.io

/-! ### Parts of a row -/
omit [Tok] in
theorem mrg_true (x : AV) : ∀ y, mrg true x y = x := by
  induction x with
  | own n sz g ih =>
    intro y
    cases y with
    | own m sz' h => simp only [mrg, ih]; cases Nat.beq sz sz' <;> rfl
    | _ => rfl
  | sl n sz g ih =>
    intro y
    cases y with
    | sl m sz' h => simp only [mrg, ih]; cases Nat.beq sz sz' <;> rfl
    | _ => rfl
  | I k n => intro y; cases y with
    | I k' m => simp only [mrg]; cases (k == k') <;> rfl
    | _ => rfl
  | _ => intro y; cases y <;> rfl
omit [Tok] in
theorem mrg_false (x : AV) : ∀ y, mrg false x y = y := by
  induction x with
  | own n sz g ih =>
    intro y
    cases y with
    | own m sz' h =>
      simp only [mrg, ih]
      cases hb : Nat.beq sz sz'
      · rfl
      · have := Nat.eq_of_beq_eq_true hb; subst this; rfl
    | _ => rfl
  | sl n sz g ih =>
    intro y
    cases y with
    | sl m sz' h =>
      simp only [mrg, ih]
      cases hb : Nat.beq sz sz'
      · rfl
      · have := Nat.eq_of_beq_eq_true hb; subst this; rfl
    | _ => rfl
  | I k n => intro y; cases y with
    | I k' m =>
      simp only [mrg]
      cases hb : (k == k')
      · rfl
      · have := eq_of_beq hb; subst this; rfl
    | _ => rfl
  | _ => intro y; cases y <;> rfl
theorem upd2_self (g : Nat → Nat → AV) (i j : Nat) (v : AV) : upd2 g i j v i j = v := by simp [upd2, mrg_true]
theorem upd2_ne (g : Nat → Nat → AV) {i j i' j' : Nat} (v : AV) (h : ¬ (i' = i ∧ j' = j)) : upd2 g i j v i' j' = g i' j' := by
  unfold upd2
  cases hc : Nat.beq j' j
  · rfl
  · have := Nat.eq_of_beq_eq_true hc
    have h1 : ¬ i' = i := fun e => h ⟨e, this⟩
    simp [h1, mrg_false]

theorem RO_cut {w : World} {sh : AV → Value → Prop} {A : Arr} {ad A' : Option Addr} {cap a m : Nat} {F : Cells} (h : RO w sh (.own A.n A.sz A.g) (.slice ad A.n cap) F)
    (ham : a + m ≤ A.n) (hA : cap - a = 0 ∨ ∃ x, ad = some x ∧ A' = some ⟨x.block, x.off + a * A.sz, none⟩) :
    RO w sh (.own m A.sz (cut A a m)) (.slice A' m (cap - a)) F := by
  obtain ⟨A1, cap1, e, h1, h2, h3⟩ := h
  obtain ⟨rfl, rfl⟩ : ad = A1 ∧ cap = cap1 := by simpa using e
  refine ⟨A', cap - a, rfl, by omega, h2, ?_⟩
  by_cases hz : cap - a = 0
  · exact .inl hz
  · rcases hA with hA | ⟨x, rfl, rfl⟩
    · exact absurd hA hz
    · rcases h3 with h3 | ⟨y, ey, hs, hcs, Fs, hf1, hf2, hf3⟩
      · omega
      · obtain rfl : x = y := by simpa using ey
        have hmul : (cap - a) * A.sz + a * A.sz = cap * A.sz := by rw [← Nat.add_mul]; congr 1; omega
        refine .inr ⟨_, rfl, rfl, fun i hi => ?_, fun i j => Fs (a + i) j, fun i j b o hi hj hb => ?_, fun i j i' j' b o hi hj hi' hj' hn hb => ?_, fun i hi j hj => ?_⟩
        · have := hcs (a * A.sz + i) (by omega)
          simp only [Nat.add_assoc] at this ⊢
          exact this
        · have := hf1 (a + i) j b o (by omega) hj hb
          refine ⟨this.1, fun hin => this.2 ⟨hin.1, ?_, ?_⟩⟩
          · have := hin.2.1; simp only at this; omega
          · have := hin.2.2; simp only at this; omega
        · exact hf2 (a + i) j (a + i') j' b o (by omega) hj (by omega) hj' (fun e => hn ⟨by omega, e.2⟩) hb
        · obtain ⟨u, hu, hr⟩ := hf3 (a + i) (by omega) j hj
          refine ⟨u, ?_, ?_⟩
          · have e1 : x.off + a * A.sz + (i * A.sz + j) = x.off + ((a + i) * A.sz + j) := by rw [Nat.add_mul]; omega
            simp only [e1]; exact hu
          · have : cut A a m i j = A.g (a + i) j := by simp [cut, hi, mrg_true]
            rw [this]; exact hr



/-- One cell of a row is another one, in a world that differs there alone; X: what was taken out there. -/
theorem RO_upd {w w' : World} {sh : AV → Value → Prop} {n sz i j : Nat} {g : Nat → Nat → AV} {ad : Addr} {cap : Nat} {F F' : Cells} {x : AV} {D : Cells} {Z : Cells → Prop}
    (h : RO w sh (.own n sz g) (.slice (some ad) n cap) F) (hi : i < n) (hj : j < sz)
    (hag : ∀ b o, F b o → ¬ D b o → cellAt w' b o = cellAt w b o ∧ frozAt w' b o = frozAt w b o)
    (hx : ∀ Fij : Cells, (∀ b o, Fij b o → F b o ∧ ¬ In ad (cap * sz) b o) → (∃ v, cellAt w ad.block (ad.off + (i * sz + j)) = some v ∧ RO w sh (g i j) v Fij) →
      ∃ (X F2 : Cells) (u : Value), (∀ b o, X b o → Fij b o) ∧ (∀ b o, F2 b o → (Fij b o ∧ ¬ X b o) ∨ F' b o) ∧ (∀ b o, D b o → Fij b o ∨ (b = ad.block ∧ o = ad.off + (i * sz + j))) ∧
        cellAt w' ad.block (ad.off + (i * sz + j)) = some u ∧ frozAt w' ad.block (ad.off + (i * sz + j)) = false ∧ u.oneCell' = true ∧ RO w' sh x u F2 ∧ Z X)
    (hF' : ∀ b o, F' b o → ¬ F b o) :
    ∃ X : Cells, Z X ∧ (∀ b o, X b o → F b o) ∧ RO w' sh (.own n sz (upd2 g i j x)) (.slice (some ad) n cap) (fun b o => (F b o ∧ ¬ X b o) ∨ F' b o) := by
  obtain ⟨A1, cap1, e, h1, h2, h3⟩ := h
  obtain ⟨rfl, rfl⟩ : some ad = A1 ∧ cap = cap1 := by simpa using e
  rcases h3 with h3 | ⟨y, ey, hs, hcs, Fs, hf1, hf2, hf3⟩
  · omega
  obtain rfl : ad = y := by simpa using ey
  obtain ⟨v0, hv0, hr0⟩ := hf3 i hi j hj
  obtain ⟨X, F2, u, hX, hF2, hD, hc, hfz, hone, hr2, hZ⟩ := hx (Fs i j) (fun b o hb => hf1 i j b o hi hj hb) ⟨v0, hv0, hr0⟩
  refine ⟨X, hZ, fun b o hb => (hf1 i j b o hi hj (hX b o hb)).1, _, _, rfl, h1, h2, ?_⟩
  have hij := cell_lt hi hj h1
  have hDin : ∀ k, k < cap * sz → k ≠ i * sz + j → ¬ D ad.block (ad.off + k) := fun k hk hne hd => by
    rcases hD _ _ hd with hd | ⟨_, hd⟩
    · exact (hf1 i j _ _ hi hj hd).2 ⟨rfl, by omega, by omega⟩
    · omega
  have hXin : ∀ k, k < cap * sz → ¬ X ad.block (ad.off + k) := fun k hk hd => (hf1 i j _ _ hi hj (hX _ _ hd)).2 ⟨rfl, by omega, by omega⟩
  have hFs' : ∀ i' j' b o, (if i' = i ∧ j' = j then F2 else Fs i' j') b o → (i' = i ∧ j' = j ∧ F2 b o) ∨ (¬ (i' = i ∧ j' = j) ∧ Fs i' j' b o) := fun i' j' b o hb => by
    by_cases hc' : i' = i ∧ j' = j
    · rw [if_pos hc'] at hb; exact .inl ⟨hc'.1, hc'.2, hb⟩
    · rw [if_neg hc'] at hb; exact .inr ⟨hc', hb⟩
  refine .inr ⟨ad, rfl, hs, fun k hk => ?_, fun i' j' => if i' = i ∧ j' = j then F2 else Fs i' j', fun i' j' b o hi' hj' hb => ?_, fun i1 j1 i2 j2 b o hi1 hj1 hi2 hj2 hn hb hb' => ?_, fun i' hi' j' hj' => ?_⟩
  · by_cases hk' : k = i * sz + j
    · subst hk'; exact ⟨.inl ⟨(hcs _ hk).1, hXin _ hk⟩, ⟨u, hc, hone⟩, hfz⟩
    · have h5 := hcs k hk
      have h6 := hag _ _ h5.1 (hDin k hk hk')
      exact ⟨.inl ⟨h5.1, hXin _ hk⟩, by rw [h6.1]; exact h5.2.1, by rw [h6.2]; exact h5.2.2⟩
  · rcases hFs' i' j' b o hb with ⟨_, _, hb⟩ | ⟨hne, hb⟩
    · rcases hF2 b o hb with ⟨hb, hnx⟩ | hb
      · exact ⟨.inl ⟨(hf1 i j b o hi hj hb).1, hnx⟩, (hf1 i j b o hi hj hb).2⟩
      · refine ⟨.inr hb, fun hin => hF' b o hb ?_⟩
        have := hcs (o - ad.off) (by have := hin.2.2; have := hin.2.1; omega)
        have e1 : ad.off + (o - ad.off) = o := by have := hin.2.1; omega
        rw [e1, ← hin.1] at this; exact this.1
    · exact ⟨.inl ⟨(hf1 i' j' b o hi' hj' hb).1, fun hx' => hf2 i' j' i j b o hi' hj' hi hj hne hb (hX b o hx')⟩, (hf1 i' j' b o hi' hj' hb).2⟩
  · rcases hFs' i1 j1 b o hb with ⟨e1, e2, hb⟩ | ⟨hne1, hb⟩
    · rcases hFs' i2 j2 b o hb' with ⟨e3, e4, hb'⟩ | ⟨hne2, hb'⟩
      · exact hn ⟨by omega, by omega⟩
      · rcases hF2 b o hb with ⟨hb, _⟩ | hb
        · exact hf2 i j i2 j2 b o hi hj hi2 hj2 (fun e => hne2 ⟨e.1.symm, e.2.symm⟩) hb hb'
        · exact hF' b o hb (hf1 i2 j2 b o hi2 hj2 hb').1
    · rcases hFs' i2 j2 b o hb' with ⟨e3, e4, hb'⟩ | ⟨hne2, hb'⟩
      · rcases hF2 b o hb' with ⟨hb2, _⟩ | hb2
        · exact hf2 i j i1 j1 b o hi hj hi1 hj1 (fun e => hne1 ⟨e.1.symm, e.2.symm⟩) hb2 hb
        · exact hF' b o hb2 (hf1 i1 j1 b o hi1 hj1 hb).1
      · exact hf2 i1 j1 i2 j2 b o hi1 hj1 hi2 hj2 hn hb hb'
  · by_cases hc' : i' = i ∧ j' = j
    · obtain ⟨rfl, rfl⟩ := hc'
      simp only [and_self, if_true, upd2_self]
      exact ⟨u, hc, hr2⟩
    · simp only [if_neg hc', upd2_ne _ _ hc']
      obtain ⟨v, hv, hr⟩ := hf3 i' hi' j' hj'
      have hne : i' * sz + j' ≠ i * sz + j := fun e => by
        apply hc'
        have e1 : (i' * sz + j') / sz = i' := by rw [Nat.mul_comm, Nat.mul_add_div h2, Nat.div_eq_of_lt hj', Nat.add_zero]
        have e2 : (i * sz + j) / sz = i := by rw [Nat.mul_comm, Nat.mul_add_div h2, Nat.div_eq_of_lt hj, Nat.add_zero]
        have : i' = i := by rw [← e1, ← e2, e]
        subst this; exact ⟨rfl, by omega⟩
      have hlt := cell_lt hi' hj' h1
      have h6 := hag _ _ (hcs _ hlt).1 (hDin _ hlt hne)
      refine ⟨v, by rw [h6.1]; exact hv, RO_congr _ (fun b o hb => ?_) hr⟩
      refine hag b o (hf1 i' j' b o hi' hj' hb).1 fun hd => ?_
      rcases hD b o hd with hd | ⟨rfl, rfl⟩
      · exact hf2 i' j' i j b o hi' hj' hi hj hc' hb hd
      · exact (hf1 i' j' _ _ hi' hj' hb).2 ⟨rfl, by omega, by omega⟩

/-- A place inside a row, seen from the row that holds it; and back. -/
theorem place_up {w : World} {i j n sz n3 sz3 cap3 : Nat} {g h3 : Nat → Nat → AV} {ad1 : Addr} {A3 : Option Addr} {p : List (Nat × Nat)} {a b : Nat} {v : Value} (hg : g i j = .own n3 sz3 h3) (hi : i < n) (hj : j < sz)
    (hc : cellAt w ad1.block (ad1.off + (i * sz + j)) = some (.slice A3 n3 cap3)) (h : placeV w A3 n3 sz3 h3 p a b v) : placeV w (some ad1) n sz g ((i, j) :: p) a b v := by
  cases p with
  | nil =>
    intro n' sz' h' e'
    simp only [atP, hg, AV.own.injEq] at e'
    obtain ⟨rfl, rfl, rfl⟩ := e'
    obtain ⟨hi', hj', ad3, rfl, e3⟩ := h
    exact ⟨hi', hj', ad3, cap3, ⟨hi, hj, ad1, rfl, hc⟩, e3⟩
  | cons q r =>
    intro n' sz' h' e'
    simp only [atP, hg] at e'
    obtain ⟨hi', hj', ad3, cap', hp3, e3⟩ := h n' sz' h' e'
    refine ⟨hi', hj', ad3, cap', ⟨hi, hj, ad1, rfl, _, hc, ?_⟩, e3⟩
    rw [hg]; exact ⟨_, _, rfl, hp3⟩

theorem place_down {w : World} {i j n sz : Nat} {g : Nat → Nat → AV} {A : Option Addr} {p : List (Nat × Nat)} {a b : Nat} {v : Value} (h : placeV w A n sz g ((i, j) :: p) a b v)
    (hat : ∃ n' sz' h, atP g ((i, j) :: p) = .own n' sz' h) : i < n ∧ j < sz ∧ ∃ ad1, A = some ad1 ∧ ∃ n3 sz3 h3 A3 cap3, g i j = .own n3 sz3 h3 ∧ cellAt w ad1.block (ad1.off + (i * sz + j)) = some (.slice A3 n3 cap3) ∧
      placeV w A3 n3 sz3 h3 p a b v ∧ (p = [] ∨ ∃ n' sz' h, atP h3 p = .own n' sz' h) ∧ (p ≠ [] → atP g ((i, j) :: p) = atP h3 p) ∧ (p = [] → atP g ((i, j) :: p) = .own n3 sz3 h3) := by
  obtain ⟨n', sz', h', hat⟩ := hat
  obtain ⟨hqi, hqj, ad2, cap2, hpv, hpl⟩ := h n' sz' h' hat
  cases p with
  | nil =>
    obtain ⟨hi, hj, ad, rfl, hc⟩ := hpv
    have hat' := hat
    simp only [atP] at hat
    exact ⟨hi, hj, ad, rfl, n', sz', h', _, _, hat, hc, ⟨hqi, hqj, ad2, rfl, hpl⟩, .inl rfl, fun h => absurd rfl h, fun _ => hat'⟩
  | cons q r =>
    obtain ⟨hi, hj, ad, rfl, u, hc, hm⟩ := hpv
    have hat' := hat
    simp only [atP] at hat
    cases hg : g i j with
    | own n3 sz3 h3 =>
      rw [hg] at hm hat
      simp only at hm hat
      obtain ⟨A3, cap3, rfl, hpv3⟩ := hm
      refine ⟨hi, hj, ad, rfl, n3, sz3, h3, A3, cap3, rfl, hc, fun n4 sz4 h4 e4 => ?_, .inr ⟨_, _, _, hat⟩, fun _ => by simp only [atP, hg], fun h => by simp at h⟩
      rw [hat] at e4
      obtain ⟨rfl, rfl, rfl⟩ : n' = n4 ∧ sz' = sz4 ∧ h' = h4 := by simpa using e4
      exact ⟨hqi, hqj, ad2, cap2, hpv3, hpl⟩
    | _ => rw [hg] at hat; simp at hat

/-- A cell at a path of a row is another one. 'hx' tells of the cell itself. -/
theorem RO_setP {w w' : World} {sh : AV → Value → Prop} {F' D : Cells} {x : AV} {Z : Cells → Prop} {q : Nat × Nat} {ad : Addr} : ∀ (p : List (Nat × Nat)) {n sz : Nat} {g : Nat → Nat → AV} {A : Option Addr} {cap : Nat} {F : Cells},
    RO w sh (.own n sz g) (.slice A n cap) F → placeV w A n sz g p q.1 q.2 (.pointer (some ad)) → (p = [] ∨ ∃ n' sz' h, atP g p = .own n' sz' h) →
    (∀ b o, F b o → ¬ D b o → cellAt w' b o = cellAt w b o ∧ frozAt w' b o = frozAt w b o) →
    (∀ b o, D b o → b = ad.block ∧ o = ad.off) →
    (∀ Fij : Cells, (∀ b o, Fij b o → F b o) → frozAt w ad.block ad.off = false → (∃ v, cellAt w ad.block ad.off = some v ∧ RO w sh (atP g (p ++ [q])) v Fij) →
      ∃ (X F2 : Cells) (u : Value), (∀ b o, X b o → Fij b o) ∧ (∀ b o, F2 b o → (Fij b o ∧ ¬ X b o) ∨ F' b o) ∧ cellAt w' ad.block ad.off = some u ∧ frozAt w' ad.block ad.off = false ∧ u.oneCell' = true ∧ RO w' sh x u F2 ∧ Z X) →
    (∀ b o, F' b o → ¬ F b o) →
    F ad.block ad.off ∧ (∃ X : Cells, Z X ∧ (∀ b o, X b o → F b o) ∧ RO w' sh (.own n sz (setP g (p ++ [q]) x)) (.slice A n cap) (fun b o => (F b o ∧ ¬ X b o) ∨ F' b o)) ∧
      (∀ k v, placeV w A n sz g p q.1 k v → placeV w' A n sz (setP g (p ++ [q]) x) p q.1 k v) ∧ (p = [] ∨ ∃ n' sz' h, atP (setP g (p ++ [q]) x) p = .own n' sz' h ∧ ∃ h0, atP g p = .own n' sz' h0) := by
  intro p
  induction p with
  | nil =>
    intro n sz g A cap F hr hp _ hag hD hx hF'
    obtain ⟨hi, hj, ad', rfl, e⟩ := hp
    obtain rfl : ad = _ := by simpa using e
    have hr' := hr
    obtain ⟨A1, cap1, e, h1, h2, h3⟩ := hr
    obtain ⟨rfl, rfl⟩ : some ad' = A1 ∧ cap = cap1 := by simpa using e
    rcases h3 with h3 | ⟨y, ey, hs, hcs, _⟩
    · omega
    obtain rfl : ad' = y := by simpa using ey
    have hc0 := hcs _ (cell_lt hi hj h1)
    refine ⟨hc0.1, ?_, fun k v hv => hv, .inl rfl⟩
    refine RO_upd (D := D) (Z := Z) hr' hi hj hag (fun Fij hFij hv => ?_) hF'
    obtain ⟨X, F2, u, hX, hF2, hc, hf, ho, hr2, hZ⟩ := hx Fij (fun b o hb => (hFij b o hb).1) hc0.2.2 hv
    exact ⟨X, F2, u, hX, hF2, fun b o hd => .inr (hD b o hd), hc, hf, ho, hr2, hZ⟩
  | cons ij p ih =>
    obtain ⟨i, j⟩ := ij
    intro n sz g A cap F hr hp hat hag hD hx hF'
    have hat : ∃ n' sz' h, atP g ((i, j) :: p) = .own n' sz' h := by rcases hat with hat | hat; exact absurd hat (by simp); exact hat
    obtain ⟨hi, hj, ad1, rfl, n3, sz3, h3', A3, cap3, hg, hc, hpl', hat', hatc, hatn⟩ := place_down hp hat
    have hr' := hr
    obtain ⟨A1, cap1, e, h1, h2, h3⟩ := hr
    obtain ⟨rfl, rfl⟩ : some ad1 = A1 ∧ cap = cap1 := by simpa using e
    have hset : setP g ((i, j) :: p ++ [q]) x = upd2 g i j (.own n3 sz3 (setP h3' (p ++ [q]) x)) := by
      cases p with
      | nil => simp [setP, hg]
      | cons a b => simp [setP, hg]
    have hatq : atP g ((i, j) :: p ++ [q]) = atP h3' (p ++ [q]) := by
      cases p with
      | nil => simp [atP, hg]
      | cons a b => simp [atP, hg]
    rcases h3 with h3 | ⟨y, ey, hs, hcs, Fs, hf1, hf2, hf3⟩
    · omega
    obtain rfl : ad1 = y := by simpa using ey
    have inner : ∀ Fij : Cells, (∀ b o, Fij b o → F b o ∧ ¬ In ad1 (cap * sz) b o) → RO w sh (.own n3 sz3 h3') (.slice A3 n3 cap3) Fij → _ := fun Fij hFij hro =>
      ih (F := Fij) hro hpl' hat' (fun b o hb hd => hag b o (hFij b o hb).1 hd) hD
        (fun Fij' hsub hfz hv => by rw [hatq] at hx; exact hx Fij' (fun b o hb => (hFij b o (hsub b o hb)).1) hfz hv)
        (fun b o hb hb' => hF' b o hb (hFij b o hb').1)
    obtain ⟨u0, hu0, hro0⟩ := hf3 i hi j hj
    rw [hc] at hu0
    obtain rfl : _ = u0 := by simpa using hu0
    rw [hg] at hro0
    have hin0 := inner (Fs i j) (fun b o hb => hf1 i j b o hi hj hb) hro0
    have hnd : ¬ D ad1.block (ad1.off + (i * sz + j)) := fun hd => by
      obtain ⟨e1, e2⟩ := hD _ _ hd
      exact (hf1 i j _ _ hi hj hin0.1).2 ⟨e1.symm, by omega, by have := cell_lt hi hj h1; omega⟩
    have hcell := hcs _ (cell_lt hi hj h1)
    have hk := hag _ _ hcell.1 hnd
    refine ⟨(hf1 i j _ _ hi hj hin0.1).1, ?_, ?_, ?_⟩
    · rw [hset]
      refine RO_upd (D := D) (Z := Z) hr' hi hj hag (fun Fij hFij hv => ?_) hF'
      obtain ⟨v, hv, hro⟩ := hv
      rw [hc] at hv
      obtain rfl : _ = v := by simpa using hv
      rw [hg] at hro
      obtain ⟨hin, ⟨X, hZ, hX, hro'⟩, _⟩ := inner Fij hFij hro
      refine ⟨X, _, _, hX, fun b o hb => hb, fun b o hd => .inl ?_, by rw [hk.1]; exact hc, by rw [hk.2]; exact hcell.2.2, rfl, hro', hZ⟩
      obtain ⟨rfl, rfl⟩ := hD b o hd
      exact hin
    · intro k v hv
      obtain ⟨_, _, ad1', e1, n4, sz4, h4, A4, cap4, hg4, hc4, hpl4, _⟩ := place_down hv hat
      obtain rfl : ad1 = ad1' := by simpa using e1
      rw [hc] at hc4
      rw [hg] at hg4
      obtain ⟨rfl, rfl, rfl⟩ : n3 = n4 ∧ sz3 = sz4 ∧ h3' = h4 := by simpa using hg4
      obtain ⟨rfl, rfl⟩ : A3 = A4 ∧ cap3 = cap4 := by simpa using hc4
      have := hin0.2.2.1 k v hpl4
      rw [hset]
      exact place_up (upd2_self _ _ _ _) hi hj (by rw [hk.1]; exact hc) this
    · right
      rw [hset]
      rcases hin0.2.2.2 with rfl | ⟨n', sz', h', e', h0, e0⟩
      · exact ⟨n3, sz3, setP h3' ([] ++ [q]) x, by simp only [atP, upd2_self], h3', by simp only [atP]; exact hg⟩
      · cases p with
        | nil => simp [atP] at e'
        | cons a b => exact ⟨n', sz', h', by simp only [atP, upd2_self]; exact e', h0, by simp only [atP, hg]; exact e0⟩

end Go.Fw
