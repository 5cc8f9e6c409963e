/- The by-value interpreter's invariant under changes of the table, the boxes and the world. -/
import Derived.Test.YtkhfkekbfjkpcaaFwC
set_option linter.unusedVariables false
set_option linter.unusedSectionVars false
namespace Go.Fw
variable [Tok]

omit [Tok] in
theorem upd_self {α : Type} (f : Nat → α) (i : Nat) (v : α) : upd f i v i = v := by simp [upd]
omit [Tok] in
theorem upd_ne {α : Type} (f : Nat → α) {i j : Nat} (v : α) (h : j ≠ i) : upd f i v j = f j := by
  unfold upd
  have : Nat.beq j i = false := by
    cases hb : Nat.beq j i
    · rfl
    · exact absurd (Nat.eq_of_beq_eq_true hb) h
  rw [this]; rfl
omit [Tok] in
theorem beq_eq {i j : Nat} : Nat.beq i j = true ↔ i = j := ⟨Nat.eq_of_beq_eq_true, fun h => by subst h; simp⟩

theorem pathV_congr {w w' : World} {sh : AV → Value → Prop} : ∀ (p : List (Nat × Nat)) {A : Option Addr} {n cap sz : Nat} {g : Nat → Nat → AV} {F : Cells} {v : Value},
    RO w sh (.own n sz g) (.slice A n cap) F → Agree w w' F → pathV w A n sz g p v → pathV w' A n sz g p v := by
  intro p
  induction p with
  | nil => intro A n cap sz g F v hr ha hp; exact hp.elim
  | cons ij p ih =>
    obtain ⟨i, j⟩ := ij
    intro A n cap sz g F v hr ha hp
    obtain ⟨A1, cap1, e, h1, h2, h3⟩ := hr
    obtain ⟨rfl, -, rfl⟩ : A = A1 ∧ n = n ∧ cap = cap1 := by simpa using e
    cases p with
    | nil =>
      obtain ⟨hi, hj, ad, rfl, hc⟩ := hp
      rcases h3 with h3 | ⟨a, ea, hs, hcs, Fs, hf1, hf2, hf3⟩
      · omega
      · obtain rfl : ad = a := by simpa using ea
        exact ⟨hi, hj, ad, rfl, by rw [(ha _ _ (hcs _ (cell_lt hi hj h1)).1).1]; exact hc⟩
    | cons q p' =>
      obtain ⟨hi, hj, ad, rfl, u, hc, hm⟩ := hp
      rcases h3 with h3 | ⟨a, ea, hs, hcs, Fs, hf1, hf2, hf3⟩
      · omega
      · obtain rfl : ad = a := by simpa using ea
        obtain ⟨u', hu, hro⟩ := hf3 i hi j hj
        rw [hc] at hu
        obtain rfl : u = u' := by simpa using hu
        refine ⟨hi, hj, ad, rfl, u, by rw [(ha _ _ (hcs _ (cell_lt hi hj h1)).1).1]; exact hc, ?_⟩
        generalize g i j = x at hm hro
        cases x with
        | own n2 sz2 h2' =>
          simp only at hm ⊢
          obtain ⟨A2, cap2, rfl, hpv⟩ := hm
          exact ⟨A2, cap2, rfl, ih hro (ha.mono fun b o hb => (hf1 i j b o hi hj hb).1) hpv⟩
        | _ => trivial

theorem placeV_congr {w w' : World} {sh : AV → Value → Prop} (p : List (Nat × Nat)) {A : Option Addr} {n cap sz : Nat} {g : Nat → Nat → AV} {F : Cells} {i j : Nat} {v : Value}
    (hr : RO w sh (.own n sz g) (.slice A n cap) F) (ha : Agree w w' F) (h : placeV w A n sz g p i j v) : placeV w' A n sz g p i j v := by
  cases p with
  | nil => exact h
  | cons q p =>
    intro n' sz' h' e
    obtain ⟨hi, hj, ad, cap', hp, hv⟩ := h n' sz' h' e
    exact ⟨hi, hj, ad, cap', pathV_congr _ hr ha hp, hv⟩

theorem TR_congr {sh : AV → Value → Prop} {gh : Gh} {ar : ArT} {bx : BxT} {w w' : World}
    (hr : ∀ id A, ar id = some A → RO w sh (.own A.n A.sz A.g) (.slice (gh.hd id).1 A.n (gh.hd id).2) (gh.fa id)) (ha : ∀ id A, ar id = some A → Agree w w' (gh.fa id))
    (x : AV) : ∀ {v : Value}, TR sh gh ar bx w x v → TR sh gh ar bx w' x v := by
  induction x with
  | rn id p => intro v h A n sz g e ep; exact pathV_congr p (hr id A e) (ha id A e) (h A n sz g e ep)
  | pe id p i j => intro v h A e; exact placeV_congr p (hr id A e) (ha id A e) (h A e)
  | ag sz g ih => rintro v ⟨vs, rfl, hs, hv⟩; exact ⟨vs, rfl, hs, fun j hj => ⟨(hv j hj).1, ih j (hv j hj).2⟩⟩
  | tup sz g ih => rintro v ⟨vs, rfl, hs, hv⟩; exact ⟨vs, rfl, hs, fun j hj => ih j (hv j hj)⟩
  | clo f sz g ih => rintro v ⟨vs, rfl, hs, hv⟩; exact ⟨vs, rfl, hs, fun j hj => ih j (hv j hj)⟩
  | _ => intro v h; exact h

theorem TR_weaken {sh : AV → Value → Prop} {gh : Gh} {ar ar' : ArT} {bx bx' : BxT} {w : World}
    (ha : ∀ id A, ar' id = some A → ar id = some A) (hb : ∀ b B, bx' b = some B → ∃ B', bx b = some B')
    (x : AV) : ∀ {v : Value}, TR sh gh ar bx w x v → TR sh gh ar' bx' w x v := by
  induction x with
  | rf id => intro v h A e; exact h A (ha _ _ e)
  | rs id a m => intro v h A e; exact h A (ha _ _ e)
  | rn id p => intro v h A n sz g e ep; exact h A n sz g (ha _ _ e) ep
  | pe id p i j => intro v h A e; exact h A (ha _ _ e)
  | pb b o => intro v h B e; obtain ⟨B', e'⟩ := hb _ _ e; exact h B' e'
  | ag sz g ih => rintro v ⟨vs, rfl, hs, hv⟩; exact ⟨vs, rfl, hs, fun j hj => ⟨(hv j hj).1, ih j (hv j hj).2⟩⟩
  | tup sz g ih => rintro v ⟨vs, rfl, hs, hv⟩; exact ⟨vs, rfl, hs, fun j hj => ih j (hv j hj)⟩
  | clo f sz g ih => rintro v ⟨vs, rfl, hs, hv⟩; exact ⟨vs, rfl, hs, fun j hj => ih j (hv j hj)⟩
  | _ => intro v h; exact h

theorem cond_TR {sh : AV → Value → Prop} {gh : Gh} {ar : ArT} {bx : BxT} {w : World} {v : Value} {x : AV} (c : Bool) (h : TR sh gh ar bx w x v) : TR sh gh ar bx w (bif c then .bad else x) v := by
  cases c
  · exact h
  · trivial

theorem TR_killA {sh : AV → Value → Prop} {gh : Gh} {ar : ArT} {bx : BxT} {w : World} (id : Nat) (x : AV) :
    ∀ {v : Value}, TR sh gh ar bx w x v → TR sh gh ar bx w (x.killA id) v := by
  induction x with
  | rf k => intro v h; exact cond_TR _ h
  | rs k a m => intro v h; exact cond_TR _ h
  | rn k p => intro v h; exact cond_TR _ h
  | pe k p i j => intro v h; exact cond_TR _ h
  | ag sz g ih => rintro v ⟨vs, rfl, hs, hv⟩; exact ⟨vs, rfl, hs, fun j hj => ⟨(hv j hj).1, ih j (hv j hj).2⟩⟩
  | tup sz g ih => rintro v ⟨vs, rfl, hs, hv⟩; exact ⟨vs, rfl, hs, fun j hj => ih j (hv j hj)⟩
  | clo f sz g ih => rintro v ⟨vs, rfl, hs, hv⟩; exact ⟨vs, rfl, hs, fun j hj => ih j (hv j hj)⟩
  | _ => intro v h; exact h
theorem TR_killB {sh : AV → Value → Prop} {gh : Gh} {ar : ArT} {bx : BxT} {w : World} (id : Nat) (x : AV) :
    ∀ {v : Value}, TR sh gh ar bx w x v → TR sh gh ar bx w (x.killB id) v := by
  induction x with
  | pb k p => intro v h; exact cond_TR _ h
  | ag sz g ih => rintro v ⟨vs, rfl, hs, hv⟩; exact ⟨vs, rfl, hs, fun j hj => ⟨(hv j hj).1, ih j (hv j hj).2⟩⟩
  | tup sz g ih => rintro v ⟨vs, rfl, hs, hv⟩; exact ⟨vs, rfl, hs, fun j hj => ih j (hv j hj)⟩
  | clo f sz g ih => rintro v ⟨vs, rfl, hs, hv⟩; exact ⟨vs, rfl, hs, fun j hj => ih j (hv j hj)⟩
  | _ => intro v h; exact h

/-- Behind a kill a row may be another one. -/
theorem TR_newA {sh : AV → Value → Prop} {gh : Gh} {ar : ArT} {bx : BxT} {w : World} (id : Nat) (hd : Option Addr × Nat) (F : Cells) (A' : Option Arr) (x : AV) :
    ∀ {v : Value}, TR sh gh ar bx w x v → TR sh ⟨upd gh.hd id hd, upd gh.fa id F, gh.ba⟩ (upd ar id A') bx w (x.killA id) v := by
  have key : ∀ k, Nat.beq k id = false → upd ar id A' k = ar k ∧ upd gh.hd id hd k = gh.hd k := fun k hk => by
    have : k ≠ id := fun e => by rw [e] at hk; simp at hk
    exact ⟨upd_ne _ _ this, upd_ne _ _ this⟩
  induction x with
  | rf k =>
    intro v h; unfold AV.killA; cases hk : Nat.beq k id
    · intro A e; rw [(key k hk).1] at e; simp only [(key k hk).2]; exact h A e
    · trivial
  | rs k a m =>
    intro v h; unfold AV.killA; cases hk : Nat.beq k id
    · intro A e; rw [(key k hk).1] at e; simp only [(key k hk).2]; exact h A e
    · trivial
  | rn k p =>
    intro v h; unfold AV.killA; cases hk : Nat.beq k id
    · intro A n sz g e ep; rw [(key k hk).1] at e; simp only [(key k hk).2]; exact h A n sz g e ep
    · trivial
  | pe k p i j =>
    intro v h; unfold AV.killA; cases hk : Nat.beq k id
    · intro A e; rw [(key k hk).1] at e; simp only [(key k hk).2]; exact h A e
    · trivial
  | ag sz g ih => rintro v ⟨vs, rfl, hs, hv⟩; exact ⟨vs, rfl, hs, fun j hj => ⟨(hv j hj).1, ih j (hv j hj).2⟩⟩
  | tup sz g ih => rintro v ⟨vs, rfl, hs, hv⟩; exact ⟨vs, rfl, hs, fun j hj => ih j (hv j hj)⟩
  | clo f sz g ih => rintro v ⟨vs, rfl, hs, hv⟩; exact ⟨vs, rfl, hs, fun j hj => ih j (hv j hj)⟩
  | _ => intro v h; exact h
theorem TR_newB {sh : AV → Value → Prop} {gh : Gh} {ar : ArT} {bx : BxT} {w : World} (b : Nat) (ad : Addr) (B : Option (Nat × (Nat → AV))) (x : AV) :
    ∀ {v : Value}, TR sh gh ar bx w x v → TR sh ⟨gh.hd, gh.fa, upd gh.ba b ad⟩ ar (upd bx b B) w (x.killB b) v := by
  induction x with
  | pb k o =>
    intro v h; unfold AV.killB; cases hk : Nat.beq k b
    · have : k ≠ b := fun e => by rw [e] at hk; simp at hk
      intro B' e; rw [upd_ne _ _ this] at e; simp only [upd_ne _ _ this]; exact h B' e
    · trivial
  | ag sz g ih => rintro v ⟨vs, rfl, hs, hv⟩; exact ⟨vs, rfl, hs, fun j hj => ⟨(hv j hj).1, ih j (hv j hj).2⟩⟩
  | tup sz g ih => rintro v ⟨vs, rfl, hs, hv⟩; exact ⟨vs, rfl, hs, fun j hj => ih j (hv j hj)⟩
  | clo f sz g ih => rintro v ⟨vs, rfl, hs, hv⟩; exact ⟨vs, rfl, hs, fun j hj => ih j (hv j hj)⟩
  | _ => intro v h; exact h

/-- A value that does not speak of a row, of a box. -/
def AV.noA (id : Nat) : AV → Prop
  | .rf k => k ≠ id
  | .rs k _ _ => k ≠ id
  | .rn k _ => k ≠ id
  | .pe k _ _ _ => k ≠ id
  | .ag sz g => ∀ j, j < sz → (g j).noA id
  | .tup n g => ∀ j, j < n → (g j).noA id
  | .clo _ n g => ∀ j, j < n → (g j).noA id
  | _ => True
def AV.noB (b : Nat) : AV → Prop
  | .pb k _ => k ≠ b
  | .ag sz g => ∀ j, j < sz → (g j).noB b
  | .tup n g => ∀ j, j < n → (g j).noB b
  | .clo _ n g => ∀ j, j < n → (g j).noB b
  | _ => True
theorem beq_ne {i j : Nat} (h : i ≠ j) : Nat.beq i j = false := by
  cases hb : Nat.beq i j
  · rfl
  · exact absurd (Nat.eq_of_beq_eq_true hb) h
theorem TR_unkillA {sh : AV → Value → Prop} {gh : Gh} {ar : ArT} {bx : BxT} {w : World} {id : Nat} (x : AV) :
    ∀ {v : Value}, x.noA id → TR sh gh ar bx w (x.killA id) v → TR sh gh ar bx w x v := by
  induction x with
  | rf k => intro v hn h; unfold AV.killA at h; rw [beq_ne hn] at h; exact h
  | rs k a m => intro v hn h; unfold AV.killA at h; rw [beq_ne hn] at h; exact h
  | rn k p => intro v hn h; unfold AV.killA at h; rw [beq_ne hn] at h; exact h
  | pe k p i j => intro v hn h; unfold AV.killA at h; rw [beq_ne hn] at h; exact h
  | ag sz g ih => rintro v hn ⟨vs, rfl, hs, hv⟩; exact ⟨vs, rfl, hs, fun j hj => ⟨(hv j hj).1, ih j (hn j hj) (hv j hj).2⟩⟩
  | tup sz g ih => rintro v hn ⟨vs, rfl, hs, hv⟩; exact ⟨vs, rfl, hs, fun j hj => ih j (hn j hj) (hv j hj)⟩
  | clo f sz g ih => rintro v hn ⟨vs, rfl, hs, hv⟩; exact ⟨vs, rfl, hs, fun j hj => ih j (hn j hj) (hv j hj)⟩
  | _ => intro v hn h; exact h
theorem TR_unkillB {sh : AV → Value → Prop} {gh : Gh} {ar : ArT} {bx : BxT} {w : World} {b : Nat} (x : AV) :
    ∀ {v : Value}, x.noB b → TR sh gh ar bx w (x.killB b) v → TR sh gh ar bx w x v := by
  induction x with
  | pb k o => intro v hn h; unfold AV.killB at h; rw [beq_ne hn] at h; exact h
  | ag sz g ih => rintro v hn ⟨vs, rfl, hs, hv⟩; exact ⟨vs, rfl, hs, fun j hj => ⟨(hv j hj).1, ih j (hn j hj) (hv j hj).2⟩⟩
  | tup sz g ih => rintro v hn ⟨vs, rfl, hs, hv⟩; exact ⟨vs, rfl, hs, fun j hj => ih j (hn j hj) (hv j hj)⟩
  | clo f sz g ih => rintro v hn ⟨vs, rfl, hs, hv⟩; exact ⟨vs, rfl, hs, fun j hj => ih j (hn j hj) (hv j hj)⟩
  | _ => intro v hn h; exact h

theorem Mem.world {c : Cx} {gh : Gh} {ar : ArT} {bx : BxT} {w w' : World} (h : Mem c gh ar bx w) (ha : ∀ r, live ar bx r → Agree w w' (fp gh bx r))
    (hs : w.heap.size ≤ w'.heap.size) (hk : ∀ b o, b < c.w0.heap.size → ¬ c.M b o → cellAt w' b o = cellAt w b o ∧ frozAt w' b o = frozAt w b o)
    (hkB : ∀ b, b < c.w0.heap.size → (∀ o, ¬ c.M b o) → w'.heap[b]? = w.heap[b]?) (hio : Io w w') : Mem c gh ar bx w' where
  rows id A e := RO_congr _ (ha (.inl id) (by simp [live, e])) (h.rows id A e)
  boxes b sz g e := by
    refine ⟨(h.boxes b sz g e).1, fun o ho => ?_⟩
    obtain ⟨v, hv, hf, h1, ht⟩ := (h.boxes b sz g e).2 o ho
    have hin : fp gh bx (.inr b) (gh.ba b).block ((gh.ba b).off + o) := ⟨(sz, g), e, rfl, by omega, by simp only; omega⟩
    have hag := ha (.inr b) (by simp [live, e]) _ _ hin
    refine ⟨v, by rw [hag.1]; exact hv, by rw [hag.2]; exact hf, h1, TR_congr h.rows (fun id A e' => ha (.inl id) (by simp [live, e'])) _ ht⟩
  disj := h.disj
  mine r x y hl hf := ⟨Nat.lt_of_lt_of_le (h.mine r x y hl hf).1 hs, (h.mine r x y hl hf).2⟩
  grow := Nat.le_trans h.grow hs
  keep b o hb hm := ⟨(hk b o hb hm).1.trans (h.keep b o hb hm).1, (hk b o hb hm).2.trans (h.keep b o hb hm).2⟩
  keepB b hb hm := (hkB b hb hm).trans (h.keepB b hb hm)
  io := h.io.trans hio

/-- What was there is there still. -/
theorem Fix.weaken {c : Cx} {gh : Gh} {ar ar' : ArT} {bx bx' : BxT} (h : Fix c gh ar bx) (ha : ∀ id A, ar' id = some A → ∃ B, ar id = some B ∧ A.n = B.n ∧ A.sz = B.sz) (hb : ∀ b B, bx' b = some B → ∃ B', bx b = some B' ∧ B.1 = B'.1) : Fix c gh ar' bx' :=
  ⟨h.hd, h.ba, fun id A hi e => by obtain ⟨B, e', h1, h2⟩ := ha id A e; rw [h1, h2]; exact h.n id B hi e', fun b B hi e => by obtain ⟨B', e', h1⟩ := hb b B e; rw [h1]; exact h.z b B' hi e'⟩
def Ext (w w' : World) : Prop := w.heap.size ≤ w'.heap.size ∧ (∀ b, b < w.heap.size → w'.heap[b]? = w.heap[b]?) ∧ Io w w'
theorem Ext.cell {w w' : World} (h : Ext w w') {b : Nat} (hb : b < w.heap.size) (o : Nat) : cellAt w' b o = cellAt w b o ∧ frozAt w' b o = frozAt w b o := by
  have := h.2.1 b hb
  unfold cellAt frozAt World.cell? World.frozen?
  simp only [this]
  exact ⟨trivial, trivial⟩
theorem Mem.ext {c : Cx} {gh : Gh} {ar : ArT} {bx : BxT} {w w' : World} (h : Mem c gh ar bx w) (he : Ext w w') : Mem c gh ar bx w' :=
  h.world (fun r hl b o hf => he.cell (h.mine r b o hl hf).1 o) he.1 (fun b o hb _ => he.cell (Nat.lt_of_lt_of_le hb h.grow) o) (fun b hb _ => he.2.1 b (Nat.lt_of_lt_of_le hb h.grow)) he.2.2
theorem Inv.ext {c : Cx} {gh : Gh} {nt : Nat} {st : St} {a : Act} {w w' : World} (h : Inv c gh nt st a w) (he : Ext w w') : Inv c gh nt st a w' :=
  ⟨h.defers, h.size, fun t => TR_congr h.mem.rows (fun id A e b o hf => he.cell (h.mem.mine (.inl id) b o (by simp [live, e]) hf).1 o) _ (h.temps t), h.mem.ext he, h.fix⟩

theorem fp_map {gh : Gh} {bx : BxT} (f : AV → AV) (r : Nat ⊕ Nat) : fp gh (fun b => (bx b).map fun B => (B.1, fun o => f (B.2 o))) r = fp gh bx r := by
  cases r with
  | inl id => rfl
  | inr b =>
    funext x y
    simp only [fp]
    cases hb : bx b with
    | none => simp
    | some B => simp
theorem live_map {ar : ArT} {bx : BxT} (f : AV → AV) (r : Nat ⊕ Nat) : live ar (fun b => (bx b).map fun B => (B.1, fun o => f (B.2 o))) r ↔ live ar bx r := by
  cases r with
  | inl id => exact Iff.rfl
  | inr b => simp [live]
theorem map_some {bx : BxT} {f : AV → AV} {b sz : Nat} {g : Nat → AV} (e : (bx b).map (fun B => (B.1, fun o => f (B.2 o))) = some (sz, g)) : ∃ g', bx b = some (sz, g') ∧ g = fun o => f (g' o) := by
  cases hb : bx b with
  | none => simp [hb] at e
  | some B => rw [hb] at e; simp at e; obtain ⟨rfl, rfl⟩ := e; exact ⟨B.2, by cases B; rfl, rfl⟩

theorem map_ex {st : St} {f : AV → AV} {b : Nat} {B : Nat × (Nat → AV)} (e : (st.map f).bx b = some B) : ∃ B', st.bx b = some B' := by
  obtain ⟨sz, g⟩ := B
  obtain ⟨g', e', _⟩ := map_some (bx := st.bx) (f := f) e
  exact ⟨_, e'⟩

/-- A weakening of every value. -/
theorem Inv.map {c : Cx} {gh : Gh} {nt : Nat} {st : St} {a : Act} {w : World} (f : AV → AV) (hf : ∀ x v, TR c.sh gh st.ar st.bx w x v → TR c.sh gh st.ar st.bx w (f x) v)
    (h : Inv c gh nt st a w) : Inv c gh nt (st.map f) a w := by
  have hw : ∀ (x : AV) (v : Value), TR c.sh gh st.ar st.bx w x v → TR c.sh gh st.ar (st.map f).bx w x v := fun x v ht =>
    TR_weaken (fun _ _ e => e) (fun b B e => map_ex e) x ht
  exact ⟨h.defers, h.size, fun t => hw _ _ (hf _ _ (h.temps t)), {
    rows := h.mem.rows
    boxes := fun b sz g e => by
      obtain ⟨g', e', rfl⟩ := map_some e
      refine ⟨(h.mem.boxes b sz g' e').1, fun o ho => ?_⟩
      obtain ⟨v, hv, hfr, h1, ht⟩ := (h.mem.boxes b sz g' e').2 o ho
      exact ⟨v, hv, hfr, h1, hw _ _ (hf _ _ ht)⟩
    disj := fun r r' x y hn hl hl' hx => by
      have h1 : fp gh (st.map f).bx r = fp gh st.bx r := fp_map f r
      have h2 : fp gh (st.map f).bx r' = fp gh st.bx r' := fp_map f r'
      rw [h1] at hx; rw [h2]
      exact h.mem.disj r r' x y hn ((live_map f r).1 hl) ((live_map f r').1 hl') hx
    mine := fun r x y hl hx => by
      have h1 : fp gh (st.map f).bx r = fp gh st.bx r := fp_map f r
      rw [h1] at hx
      exact h.mem.mine r x y ((live_map f r).1 hl) hx
    grow := h.mem.grow, keep := h.mem.keep, keepB := h.mem.keepB, io := h.mem.io }, h.fix.weaken (fun id A e => ⟨A, e, rfl, rfl⟩) (fun b B e => by
      obtain ⟨g', e', hg⟩ := map_some (sz := B.1) (g := B.2) e; exact ⟨_, e', rfl⟩)⟩

/-- Rows and boxes that are let go. -/
theorem Inv.drop {c : Cx} {gh : Gh} {nt : Nat} {st : St} {a : Act} {w : World} {ar : ArT} {bx : BxT} (ha : ∀ id A, ar id = some A → st.ar id = some A)
    (hb : ∀ b B, bx b = some B → ∃ g0, st.bx b = some (B.1, g0) ∧ ∀ o, o < B.1 → B.2 o = g0 o) (h : Inv c gh nt st a w) : Inv c gh nt ⟨st.t, ar, bx⟩ a w := by
  have hw : ∀ (x : AV) (v : Value), TR c.sh gh st.ar st.bx w x v → TR c.sh gh ar bx w x v := fun x v ht => TR_weaken ha (fun b B e => by obtain ⟨g0, e', _⟩ := hb b B e; exact ⟨_, e'⟩) x ht
  have hl : ∀ r, live ar bx r → live st.ar st.bx r := by
    rintro (id | b) hr
    · obtain ⟨A, e⟩ := Option.isSome_iff_exists.1 hr; simp [live, ha _ _ e]
    · obtain ⟨A, e⟩ := Option.isSome_iff_exists.1 hr; obtain ⟨g0, e', _⟩ := hb _ _ e; simp [live, e']
  have hfp : ∀ r x y, fp gh bx r x y → fp gh st.bx r x y := by
    rintro (id | b) x y hr
    · exact hr
    · obtain ⟨B, e, hi⟩ := hr; obtain ⟨g0, e', _⟩ := hb _ _ e; exact ⟨_, e', hi⟩
  exact ⟨h.defers, h.size, fun t => hw _ _ (h.temps t), {
    rows := fun id A e => h.mem.rows id A (ha _ _ e)
    boxes := fun b sz g e => by
      obtain ⟨g0, e', hg⟩ := hb _ _ e
      refine ⟨(h.mem.boxes b sz g0 e').1, fun o ho => ?_⟩
      obtain ⟨v, hv, hfr, h1, ht⟩ := (h.mem.boxes b sz g0 e').2 o ho
      exact ⟨v, hv, hfr, h1, by have hgo : g o = g0 o := hg o ho; rw [hgo]; exact hw _ _ ht⟩
    disj := fun r r' x y hn h1 h2 hx hy => h.mem.disj r r' x y hn (hl _ h1) (hl _ h2) (hfp _ _ _ hx) (hfp _ _ _ hy)
    mine := fun r x y h1 hx => h.mem.mine r x y (hl _ h1) (hfp _ _ _ hx)
    grow := h.mem.grow, keep := h.mem.keep, keepB := h.mem.keepB, io := h.mem.io }, h.fix.weaken (fun id A e => ⟨A, ha id A e, rfl, rfl⟩) (fun b B e => by obtain ⟨g0, e', _⟩ := hb b B e; exact ⟨_, e', rfl⟩)⟩

/-- A temporary is set. -/
theorem Inv.setT {c : Cx} {gh : Gh} {nt : Nat} {st : St} {a : Act} {w : World} {d : Nat} {x : AV} {v : Value} (h : Inv c gh nt st a w) (hd : d < nt)
    (hx : TR c.sh gh st.ar st.bx w x v) : Inv c gh nt (st.setT d x) (a.put (some d) v) w := by
  refine ⟨h.defers, by simp [Act.put, h.size], fun t => ?_, h.mem, h.fix⟩
  by_cases e : t = d
  · subst e
    have hs := h.size
    have : (a.put (some t) v).tmps.getD t undef = v := by
      simp [Act.put, Array.getD_eq_getD_getElem?, hs, hd]
    rw [this]
    show TR c.sh gh st.ar st.bx w (upd st.t t x t) v
    rw [upd_self]; exact hx
  · have : (a.put (some d) v).tmps.getD t undef = a.tmps.getD t undef := by
      have hne : d ≠ t := fun e' => e e'.symm
      simp [Act.put, Array.getD_eq_getD_getElem?, hne]
    rw [this]
    show TR c.sh gh st.ar st.bx w (upd st.t d x t) _
    rw [upd_ne _ _ e]; exact h.temps t
theorem Inv.put {c : Cx} {gh : Gh} {nt : Nat} {st : St} {a : Act} {w : World} {d : Option Nat} {x : AV} {v : Value} (h : Inv c gh nt st a w) (hd : ∀ k, d = some k → k < nt)
    (hx : TR c.sh gh st.ar st.bx w x v) : Inv c gh nt (st.put d x) (a.put d v) w := by
  cases d with
  | none => exact h
  | some k => exact h.setT (hd k rfl) hx

/-- A new row. -/
theorem Inv.newA {c : Cx} {gh : Gh} {nt : Nat} {st : St} {a : Act} {w : World} (id : Nat) (A : Arr) (hd : Option Addr × Nat) (F : Cells) (h : Inv c gh nt st a w)
    (hr : RO w c.sh (.own A.n A.sz A.g) (.slice hd.1 A.n hd.2) F)
    (hdis : ∀ r x y, r ≠ .inl id → live st.ar st.bx r → fp gh st.bx r x y → ¬ F x y)
    (hm : ∀ x y, F x y → x < w.heap.size ∧ (x < c.w0.heap.size → c.M x y)) (hlo : c.lim * 4096 ≤ id) :
    Inv c ⟨upd gh.hd id hd, upd gh.fa id F, gh.ba⟩ nt (st.newA id A) a w := by
  have hk := h.map (AV.killA id) (fun x v => TR_killA id x)
  have hw : ∀ (x : AV) (v : Value), TR c.sh gh st.ar st.bx w x v → TR c.sh ⟨upd gh.hd id hd, upd gh.fa id F, gh.ba⟩ (upd st.ar id (some A)) (st.map (AV.killA id)).bx w (x.killA id) v := fun x v ht =>
    TR_newA id hd F (some A) x (TR_weaken (fun _ _ e => e) (fun b B e => map_ex e) x ht)
  refine ⟨h.defers, h.size, fun t => hw _ _ (h.temps t), ?_, ⟨fun k hk => by simp only [upd_ne _ _ (show k ≠ id by omega)]; exact h.fix.hd k hk, h.fix.ba, fun k B hk e => ?_, fun b B hb e => ?_⟩⟩
  rotate_left
  · have e' : upd st.ar id (some A) k = some B := e
    rw [upd_ne _ _ (show k ≠ id by omega)] at e'
    exact h.fix.n k B hk e'
  · exact hk.fix.z b B hb e
  have hfr : ∀ r, r ≠ .inl id → fp ⟨upd gh.hd id hd, upd gh.fa id F, gh.ba⟩ (st.map (AV.killA id)).bx r = fp gh st.bx r := by
    rintro (k | b) hr
    · have : k ≠ id := fun e => hr (by rw [e])
      show upd gh.fa id F k = gh.fa k
      exact upd_ne _ _ this
    · exact fp_map (gh := gh) _ (.inr b)
  have hlr : ∀ r, r ≠ .inl id → live (upd st.ar id (some A)) (st.map (AV.killA id)).bx r → live st.ar st.bx r := by
    rintro (k | b) hr hl
    · have : k ≠ id := fun e => hr (by rw [e])
      simp only [live, upd_ne _ _ this] at hl; exact hl
    · exact (live_map (ar := st.ar) _ (.inr b)).1 hl
  have hfs : fp ⟨upd gh.hd id hd, upd gh.fa id F, gh.ba⟩ (st.map (AV.killA id)).bx (.inl id) = F := upd_self _ _ _
  exact {
    rows := fun k A' e => by
      by_cases ek : k = id
      · subst ek
        have e' : upd st.ar k (some A) k = some A' := e
        rw [upd_self] at e'; obtain rfl : A = A' := by simpa using e'
        simp only [upd_self]; exact hr
      · have e' : upd st.ar id (some A) k = some A' := e
        rw [upd_ne _ _ ek] at e'
        simp only [upd_ne _ _ ek]; exact h.mem.rows k A' e'
    boxes := fun b sz g e => by
      obtain ⟨g', e', rfl⟩ := map_some e
      refine ⟨(h.mem.boxes b sz g' e').1, fun o ho => ?_⟩
      obtain ⟨v, hv, hfr, h1, ht⟩ := (h.mem.boxes b sz g' e').2 o ho
      exact ⟨v, hv, hfr, h1, hw _ _ ht⟩
    disj := fun r r' x y hn h1 h2 hx hy => by
      by_cases er : r = .inl id
      · subst er
        have er' : r' ≠ .inl id := fun e => hn e.symm
        have hx' : fp ⟨upd gh.hd id hd, upd gh.fa id F, gh.ba⟩ (st.map (AV.killA id)).bx (.inl id) x y := hx
        have hy' : fp ⟨upd gh.hd id hd, upd gh.fa id F, gh.ba⟩ (st.map (AV.killA id)).bx r' x y := hy
        rw [hfs] at hx'; rw [hfr _ er'] at hy'
        exact hdis r' x y er' (hlr _ er' h2) hy' hx'
      · by_cases er' : r' = .inl id
        · subst er'
          have hx' : fp ⟨upd gh.hd id hd, upd gh.fa id F, gh.ba⟩ (st.map (AV.killA id)).bx r x y := hx
          have hy' : fp ⟨upd gh.hd id hd, upd gh.fa id F, gh.ba⟩ (st.map (AV.killA id)).bx (.inl id) x y := hy
          rw [hfs] at hy'; rw [hfr _ er] at hx'
          exact hdis r x y er (hlr _ er h1) hx' hy'
        · have hx' : fp ⟨upd gh.hd id hd, upd gh.fa id F, gh.ba⟩ (st.map (AV.killA id)).bx r x y := hx
          have hy' : fp ⟨upd gh.hd id hd, upd gh.fa id F, gh.ba⟩ (st.map (AV.killA id)).bx r' x y := hy
          rw [hfr _ er] at hx'; rw [hfr _ er'] at hy'
          exact h.mem.disj r r' x y hn (hlr _ er h1) (hlr _ er' h2) hx' hy'
    mine := fun r x y h1 hx => by
      by_cases er : r = .inl id
      · subst er
        have hx' : fp ⟨upd gh.hd id hd, upd gh.fa id F, gh.ba⟩ (st.map (AV.killA id)).bx (.inl id) x y := hx
        rw [hfs] at hx'; exact hm x y hx'
      · have hx' : fp ⟨upd gh.hd id hd, upd gh.fa id F, gh.ba⟩ (st.map (AV.killA id)).bx r x y := hx
        rw [hfr _ er] at hx'; exact h.mem.mine r x y (hlr _ er h1) hx'
    grow := h.mem.grow, keep := h.mem.keep, keepB := h.mem.keepB, io := h.mem.io }

/-- A new box. -/
theorem Inv.newB {c : Cx} {gh : Gh} {nt : Nat} {st : St} {a : Act} {w : World} (b sz : Nat) (g : Nat → AV) (ad : Addr) (h : Inv c gh nt st a w) (hs : ad.spot = none)
    (hg : ∀ o, o < sz → ∃ v, cellAt w ad.block (ad.off + o) = some v ∧ frozAt w ad.block (ad.off + o) = false ∧ v.oneCell' = true ∧ TR c.sh gh st.ar st.bx w (g o) v)
    (hdis : ∀ r x y, r ≠ .inr b → live st.ar st.bx r → fp gh st.bx r x y → ¬ In ad sz x y)
    (hm : ∀ x y, In ad sz x y → x < w.heap.size ∧ (x < c.w0.heap.size → c.M x y)) (hlo : c.lim ≤ b) :
    Inv c ⟨gh.hd, gh.fa, upd gh.ba b ad⟩ nt (st.newB b sz g) a w := by
  have hw : ∀ (x : AV) (v : Value), TR c.sh gh st.ar st.bx w x v → TR c.sh ⟨gh.hd, gh.fa, upd gh.ba b ad⟩ st.ar (upd (st.map (AV.killB b)).bx b (some (sz, fun o => (g o).killB b))) w (x.killB b) v := fun x v ht =>
    TR_newB b ad _ x (TR_weaken (fun _ _ e => e) (fun b' B e => map_ex e) x ht)
  refine ⟨h.defers, h.size, fun t => hw _ _ (h.temps t), ?_, ⟨h.fix.hd, fun k hk => by simp only [upd_ne _ _ (show k ≠ b by omega)]; exact h.fix.ba k hk, h.fix.n, fun k B hk e => ?_⟩⟩
  rotate_left
  · have e' : upd (st.map (AV.killB b)).bx b (some (sz, fun o => (g o).killB b)) k = some B := e
    rw [upd_ne _ _ (show k ≠ b by omega)] at e'
    obtain ⟨g', e'', hg⟩ := map_some (sz := B.1) (g := B.2) e'
    exact h.fix.z k (B.1, g') hk e''
  have hfr : ∀ r, r ≠ .inr b → fp ⟨gh.hd, gh.fa, upd gh.ba b ad⟩ (upd (st.map (AV.killB b)).bx b (some (sz, fun o => (g o).killB b))) r = fp gh st.bx r := by
    rintro (k | k) hr
    · rfl
    · have : k ≠ b := fun e => hr (by rw [e])
      have h1 := fp_map (gh := gh) (bx := st.bx) (AV.killB b) (.inr k)
      rw [← h1]
      simp only [fp, upd_ne _ _ this]
      rfl
  have hlr : ∀ r, r ≠ .inr b → live st.ar (upd (st.map (AV.killB b)).bx b (some (sz, fun o => (g o).killB b))) r → live st.ar st.bx r := by
    rintro (k | k) hr hl
    · exact hl
    · have : k ≠ b := fun e => hr (by rw [e])
      simp only [live, upd_ne _ _ this] at hl
      exact (live_map (ar := st.ar) (AV.killB b) (.inr k)).1 hl
  have hfs : ∀ x y, fp ⟨gh.hd, gh.fa, upd gh.ba b ad⟩ (upd (st.map (AV.killB b)).bx b (some (sz, fun o => (g o).killB b))) (.inr b) x y → In ad sz x y := by
    rintro x y ⟨B, e, hi⟩
    rw [upd_self] at e; obtain rfl := by simpa using e
    simpa only [upd_self] using hi
  change Mem c ⟨gh.hd, gh.fa, upd gh.ba b ad⟩ st.ar (upd (st.map (AV.killB b)).bx b (some (sz, fun o => (g o).killB b))) w
  exact {
    rows := h.mem.rows
    boxes := fun k sz' g' e => by
      by_cases ek : k = b
      · subst ek
        have e' : upd (st.map (AV.killB k)).bx k (some (sz, fun o => (g o).killB k)) k = some (sz', g') := e
        rw [upd_self] at e'; obtain ⟨rfl, rfl⟩ : sz = sz' ∧ (fun o => (g o).killB k) = g' := by simpa using e'
        simp only [upd_self]
        refine ⟨hs, fun o ho => ?_⟩
        obtain ⟨v, hv, hf, h1, ht⟩ := hg o ho
        exact ⟨v, hv, hf, h1, hw _ _ ht⟩
      · have e' : upd (st.map (AV.killB b)).bx b (some (sz, fun o => (g o).killB b)) k = some (sz', g') := e
        rw [upd_ne _ _ ek] at e'
        obtain ⟨g'', e'', rfl⟩ := map_some e'
        simp only [upd_ne _ _ ek]
        refine ⟨(h.mem.boxes k sz' g'' e'').1, fun o ho => ?_⟩
        obtain ⟨v, hv, hf, h1, ht⟩ := (h.mem.boxes k sz' g'' e'').2 o ho
        exact ⟨v, hv, hf, h1, hw _ _ ht⟩
    disj := fun r r' x y hn h1 h2 hx hy => by
      by_cases er : r = .inr b
      · subst er
        have er' : r' ≠ .inr b := fun e => hn e.symm
        have hy' := hy
        rw [show fp _ _ r' = _ from hfr _ er'] at hy'
        exact hdis r' x y er' (hlr _ er' h2) hy' (hfs x y hx)
      · have hx' := hx
        rw [show fp _ _ r = _ from hfr _ er] at hx'
        by_cases er' : r' = .inr b
        · subst er'
          exact hdis r x y er (hlr _ er h1) hx' (hfs x y hy)
        · have hy' := hy
          rw [show fp _ _ r' = _ from hfr _ er'] at hy'
          exact h.mem.disj r r' x y hn (hlr _ er h1) (hlr _ er' h2) hx' hy'
    mine := fun r x y h1 hx => by
      by_cases er : r = .inr b
      · subst er
        exact hm x y (hfs x y hx)
      · have hx' := hx
        rw [show fp _ _ r = _ from hfr _ er] at hx'; exact h.mem.mine r x y (hlr _ er h1) hx'
    grow := h.mem.grow, keep := h.mem.keep, keepB := h.mem.keepB, io := h.mem.io }

end Go.Fw
