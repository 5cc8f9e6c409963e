/- What relates the by-value interpreter's states to the model's memory: definitions and first lemmas. The by-value interpreter's invariant under changes of the table, the boxes and the world. The by-value interpreter's invariant: changes of the world, values taken out of the table, cells that are set. The by-value interpreter's invariant: values taken out of the table, and laid into it. The by-value interpreter's invariant: whole values taken out of the table, and laid into it. The by-value interpreter's invariant: whole values are laid into the table. -/
import Derived.Test.YtndmnbgcneaggaaGreatDoorFwB
import Derived.WalkKit
set_option linter.unusedVariables false
set_option linter.unusedSectionVars false
namespace Go.Fw
abbrev Cells := Nat → Nat → Prop
def In (a : Addr) (m : Nat) : Cells := fun b o => b = a.block ∧ a.off ≤ o ∧ o < a.off + m
abbrev cellAt (w : World) (b o : Nat) : Option Value := w.cell? ⟨b, o, none⟩
abbrev frozAt (w : World) (b o : Nat) : Bool := w.frozen? ⟨b, o, none⟩
theorem add_eq {a : Addr} (h : a.spot = none) (n : Nat) : a.add n = ⟨a.block, a.off + n, none⟩ := by
 unfold Addr.add
 split
 · subst n; cases a; simp at h; subst h; rfl
 · rfl
class Tok where
 val : Value
 bs : List Int
 vr : Option (Nat × Value) := none
variable [Tok]
def RS (w : World) (ok : Cells) : AV → Value → Prop
 | .bad, v => v.oneCell' = true
 | .I k n, v => v = .int k n
 | .B x, v => v = .bool x
 | .S x, v => v = .string x
 | .nlp, v => v = .pointer none
 | .nsl _ _, v => v = .slice none 0 0
 | .sl n sz g, v => ∃ A cap, v = .slice A n cap ∧ (n ≤ cap ∧ (A = none → cap = 0)) ∧ (n = 0 ∨ ∃ a, A = some a ∧ a.spot = none ∧
   ∀ i, i < n → ∀ j, j < sz → ok a.block (a.off + (i * sz + j)) ∧ ∃ u, cellAt w a.block (a.off + (i * sz + j)) = some u ∧ RS w ok (g i j) u)
 | .sln n sz g, v => ∃ x cap, v = .slice (some x) n cap ∧ n ≤ cap ∧ (n = 0 ∨ ∃ a, some x = some a ∧ a.spot = none ∧
   ∀ i, i < n → ∀ j, j < sz → ok a.block (a.off + (i * sz + j)) ∧ ∃ u, cellAt w a.block (a.off + (i * sz + j)) = some u ∧ RS w ok (g i j) u)
 | .sp sz g, v => ∃ a, v = .pointer (some a) ∧ a.spot = none ∧ ∀ j, j < sz → ok a.block (a.off + j) ∧ ∃ u, cellAt w a.block (a.off + j) = some u ∧ RS w ok (g j) u
 | .gv bs, v => v = Tok.val ∧ bs = Tok.bs ∧ (∀ b u, Tok.vr = some (b, u) → ok b 0 ∧ cellAt w b 0 = some u) ∧ ∃ A cap, v = .slice A bs.length cap ∧ (bs.length ≤ cap ∧ (A = none → cap = 0)) ∧ (bs.length = 0 ∨ ∃ a, A = some a ∧ a.spot = none ∧
   ∀ i, i < bs.length → ∀ j, j < 1 → ok a.block (a.off + (i * 1 + j)) ∧ ∃ u, cellAt w a.block (a.off + (i * 1 + j)) = some u ∧ u = .int .u8 (bs.getD i 0))
 | .clo f n g, v => ∃ vs, v = .func (.func f) #[] vs ∧ vs.size = n ∧ ∀ j, j < n → g j = .bad ∨ RS w ok (g j) (vs.getD j undef)
 | _, _ => False
def RO (w : World) (sh : AV → Value → Prop) : AV → Value → Cells → Prop
 | .own n sz g, v, F => ∃ A cap, v = .slice A n cap ∧ n ≤ cap ∧ 0 < sz ∧ (cap = 0 ∨ ∃ a, A = some a ∧ a.spot = none ∧
   (∀ i, i < cap * sz → F a.block (a.off + i) ∧ (∃ u, cellAt w a.block (a.off + i) = some u ∧ u.oneCell' = true) ∧ frozAt w a.block (a.off + i) = false) ∧
   ∃ Fs : Nat → Nat → Cells, (∀ i j b o, i < n → j < sz → Fs i j b o → F b o ∧ ¬ In a (cap * sz) b o) ∧
    (∀ i j i' j' b o, i < n → j < sz → i' < n → j' < sz → ¬ (i = i' ∧ j = j') → Fs i j b o → ¬ Fs i' j' b o) ∧
    ∀ i, i < n → ∀ j, j < sz → ∃ u, cellAt w a.block (a.off + (i * sz + j)) = some u ∧ RO w sh (g i j) u (Fs i j))
 | .bad, _, _ => True
 | x, v, _ => sh x v
def pathV (w : World) (a : Option Addr) (n sz : Nat) (g : Nat → Nat → AV) : List (Nat × Nat) → Value → Prop
 | [], _ => False
 | [(i, j)], v => i < n ∧ j < sz ∧ ∃ ad, a = some ad ∧ cellAt w ad.block (ad.off + (i * sz + j)) = some v
 | (i, j) :: p, v => i < n ∧ j < sz ∧ ∃ ad, a = some ad ∧ ∃ u, cellAt w ad.block (ad.off + (i * sz + j)) = some u ∧
   match g i j with
   | .own n' sz' h => ∃ A cap, u = .slice A n' cap ∧ pathV w A n' sz' h p v
   | _ => True
def placeV (w : World) (a : Option Addr) (n sz : Nat) (g : Nat → Nat → AV) (p : List (Nat × Nat)) (i j : Nat) (v : Value) : Prop :=
 match p with
 | [] => i < n ∧ j < sz ∧ ∃ ad, a = some ad ∧ v = .pointer (some ⟨ad.block, ad.off + (i * sz + j), none⟩)
 | p => ∀ n' sz' h, atP g p = .own n' sz' h → i < n' ∧ j < sz' ∧ ∃ ad cap, pathV w a n sz g p (.slice (some ad) n' cap) ∧ v = .pointer (some ⟨ad.block, ad.off + (i * sz' + j), none⟩)
structure Gh where
 hd : Nat → Option Addr × Nat
 fa : Nat → Cells
 ba : Nat → Addr
abbrev ArT := Nat → Option Arr
abbrev BxT := Nat → Option (Nat × (Nat → AV))
def TR (sh : AV → Value → Prop) (gh : Gh) (ar : ArT) (bx : BxT) (w : World) : AV → Value → Prop
 | .bad, _ => True
 | .rf id, v => ∀ A, ar id = some A → v = .slice (gh.hd id).1 A.n (gh.hd id).2
 | .rs id a m, v => ∀ A, ar id = some A → a + m ≤ A.n ∧ ∃ A', v = .slice A' m ((gh.hd id).2 - a) ∧ ((gh.hd id).2 - a = 0 ∨ ∃ ad, (gh.hd id).1 = some ad ∧ A' = some ⟨ad.block, ad.off + a * A.sz, none⟩)
 | .rn id p, v => ∀ A n sz g, ar id = some A → atP A.g p = .own n sz g → pathV w (gh.hd id).1 A.n A.sz A.g p v
 | .pb b o, v => ∀ B, bx b = some B → v = .pointer (some ⟨(gh.ba b).block, (gh.ba b).off + o, none⟩)
 | .pe id p i j, v => ∀ A, ar id = some A → placeV w (gh.hd id).1 A.n A.sz A.g p i j v
 | .ag sz g, v => ∃ vs, v = .agg vs ∧ vs.size = sz ∧ ∀ j, j < sz → (vs.getD j undef).oneCell' = true ∧ TR sh gh ar bx w (g j) (vs.getD j undef)
 | .tup n g, v => ∃ vs, v = .tuple vs ∧ vs.size = n ∧ ∀ j, j < n → TR sh gh ar bx w (g j) (vs.getD j undef)
 | .clo f n g, v => ∃ vs, v = .func (.func f) #[] vs ∧ vs.size = n ∧ ∀ j, j < n → TR sh gh ar bx w (g j) (vs.getD j undef)
 | .own _ _ _, _ => False
 | .nbx _ _, _ => False
 | x, v => sh x v
theorem RS_gv {w : World} {ok : Cells} {bs : List Int} {v : Value} (h : RS w ok (.gv bs) v) : RS w ok (.sl bs.length 1 (gvG bs)) v := by
 obtain ⟨_, _, _, A, cap, e, h1, h2⟩ := h
 refine ⟨A, cap, e, h1, h2.imp (fun h => h) fun ⟨a, ea, hs, hc⟩ => ⟨a, ea, hs, fun i hi j hj => ?_⟩⟩
 obtain ⟨h3, u, h4, h5⟩ := hc i hi j hj
 obtain rfl : j = 0 := by omega
 exact ⟨h3, u, h4, h5⟩
structure Cx where
 w0 : World
 M : Cells
 tok : RS w0 (fun b o => b < w0.heap.size ∧ ¬ M b o) (.gv Tok.bs) Tok.val
 lo : Bool
 hd0 : Nat → Option Addr × Nat
 ba0 : Nat → Addr
 n0 : Nat → Nat
 s0 : Nat → Nat
 z0 : Nat → Nat
def Cx.lim (c : Cx) : Nat := bif c.lo then 64 else 0
def Cx.ok (c : Cx) : Cells := fun b o => b < c.w0.heap.size ∧ ¬ c.M b o
abbrev Cx.sh (c : Cx) : AV → Value → Prop := RS c.w0 c.ok
theorem RS_TR {c : Cx} {gh : Gh} {ar : ArT} {bx : BxT} {w : World} (x : AV) : ∀ {v : Value}, c.sh x v → TR c.sh gh ar bx w x v := by
 induction x with
 | clo f n g ih => rintro v ⟨vs, e, hs, hc⟩; exact ⟨vs, e, hs, fun j hj => (hc j hj).elim (fun h => by rw [h]; trivial) (fun h => ih j h)⟩
 | bad => intro v _; trivial
 | rf _ => intro v h; exact h.elim
 | rs _ _ _ => intro v h; exact h.elim
 | rn _ _ => intro v h; exact h.elim
 | pb _ _ => intro v h; exact h.elim
 | pe _ _ _ _ => intro v h; exact h.elim
 | ag _ _ _ => intro v h; exact h.elim
 | nbx _ _ _ => intro v h; exact h.elim
 | tup _ _ _ => intro v h; exact h.elim
 | own _ _ _ _ => intro v h; exact h.elim
 | _ => intro v h; exact h
def live (ar : ArT) (bx : BxT) : Nat ⊕ Nat → Prop
 | .inl id => (ar id).isSome
 | .inr b => (bx b).isSome
def fp (gh : Gh) (bx : BxT) : Nat ⊕ Nat → Cells
 | .inl id => gh.fa id
 | .inr b => fun x y => ∃ B, bx b = some B ∧ In (gh.ba b) B.1 x y
def Io (w w' : World) : Prop := w'.os = w.os ∧ w'.output = w.output ∧ w'.tape = w.tape
theorem Io.refl (w : World) : Io w w := ⟨rfl, rfl, rfl⟩
theorem Io.trans {w w' w'' : World} (h : Io w w') (h' : Io w' w'') : Io w w'' := ⟨h'.1.trans h.1, h'.2.1.trans h.2.1, h'.2.2.trans h.2.2⟩
structure Mem (c : Cx) (gh : Gh) (ar : ArT) (bx : BxT) (w : World) : Prop where
 rows : ∀ id A, ar id = some A → RO w c.sh (.own A.n A.sz A.g) (.slice (gh.hd id).1 A.n (gh.hd id).2) (gh.fa id)
 boxes : ∀ b sz g, bx b = some (sz, g) → (gh.ba b).spot = none ∧ ∀ o, o < sz → ∃ v, cellAt w (gh.ba b).block ((gh.ba b).off + o) = some v ∧ frozAt w (gh.ba b).block ((gh.ba b).off + o) = false ∧ v.oneCell' = true ∧ TR c.sh gh ar bx w (g o) v
 disj : ∀ r r' x y, r ≠ r' → live ar bx r → live ar bx r' → fp gh bx r x y → ¬ fp gh bx r' x y
 mine : ∀ r x y, live ar bx r → fp gh bx r x y → x < w.heap.size ∧ (x < c.w0.heap.size → c.M x y)
 grow : c.w0.heap.size ≤ w.heap.size
 keep : ∀ b o, b < c.w0.heap.size → ¬ c.M b o → cellAt w b o = cellAt c.w0 b o ∧ frozAt w b o = frozAt c.w0 b o
 keepB : ∀ b, b < c.w0.heap.size → (∀ o, ¬ c.M b o) → w.heap[b]? = c.w0.heap[b]?
 io : Io c.w0 w
structure Fix (c : Cx) (gh : Gh) (ar : ArT) (bx : BxT) : Prop where
 hd : ∀ id, id < c.lim * 4096 → gh.hd id = c.hd0 id
 ba : ∀ b, b < c.lim → gh.ba b = c.ba0 b
 n : ∀ id A, id < c.lim * 4096 → ar id = some A → A.n = c.n0 id ∧ A.sz = c.s0 id
 z : ∀ b B, b < c.lim → bx b = some B → B.1 = c.z0 b
structure Inv (c : Cx) (gh : Gh) (nt : Nat) (st : St) (a : Act) (w : World) : Prop where
 defers : a.defers = []
 size : a.tmps.size = nt
 temps : ∀ t, TR c.sh gh st.ar st.bx w (st.t t) (a.tmps.getD t undef)
 mem : Mem c gh st.ar st.bx w
 fix : Fix c gh st.ar st.bx
def Agree (w w' : World) (F : Cells) : Prop := ∀ b o, F b o → cellAt w' b o = cellAt w b o ∧ frozAt w' b o = frozAt w b o
theorem Agree.mono {w w' : World} {F G : Cells} (h : Agree w w' F) (hg : ∀ b o, G b o → F b o) : Agree w w' G := fun b o x => h b o (hg b o x)
theorem Agree.refl (w : World) (F : Cells) : Agree w w F := fun _ _ _ => ⟨rfl, rfl⟩
theorem RO_congr {w w' : World} {sh : AV → Value → Prop} (x : AV) : ∀ {v : Value} {F : Cells}, Agree w w' F → RO w sh x v F → RO w' sh x v F := by
 induction x with
 | own n sz g ih =>
  intro v F ha h
  obtain ⟨A, cap, rfl, h1, h2, h3⟩ := h
  refine ⟨A, cap, rfl, h1, h2, ?_⟩
  rcases h3 with h3 | ⟨a, rfl, hs, hc, Fs, hf1, hf2, hf3⟩
  · exact .inl h3
  · refine .inr ⟨a, rfl, hs, fun i hi => ?_, Fs, hf1, hf2, fun i hi j hj => ?_⟩
    · obtain ⟨x1, x2, x3⟩ := hc i hi
      have := ha _ _ x1
      exact ⟨x1, by rw [this.1]; exact x2, by rw [this.2]; exact x3⟩
    · obtain ⟨u, hu, hr⟩ := hf3 i hi j hj
      have hcell : i * sz + j < cap * sz := by
       have : (i + 1) * sz ≤ cap * sz := Nat.mul_le_mul_right _ (by omega)
       rw [Nat.add_mul] at this
       omega
      refine ⟨u, by rw [(ha _ _ (hc _ hcell).1).1]; exact hu, ih i j (ha.mono fun b o hb => (hf1 i j b o hi hj hb).1) hr⟩
 | _ => intro v F ha h; first | exact h | trivial
theorem RO_mono {w : World} {sh : AV → Value → Prop} (x : AV) : ∀ {v : Value} {F G : Cells}, (∀ b o, F b o → G b o) → RO w sh x v F → RO w sh x v G := by
 intro v F G hg h
 cases x with
 | own n sz g =>
  obtain ⟨A, cap, rfl, h1, h2, h3⟩ := h
  refine ⟨A, cap, rfl, h1, h2, ?_⟩
  rcases h3 with h3 | ⟨a, rfl, hs, hc, Fs, hf1, hf2, hf3⟩
  · exact .inl h3
  · exact .inr ⟨a, rfl, hs, fun i hi => ⟨hg _ _ (hc i hi).1, (hc i hi).2⟩, Fs, fun i j b o hi hj hb => ⟨hg _ _ (hf1 i j b o hi hj hb).1, (hf1 i j b o hi hj hb).2⟩, hf2, hf3⟩
 | _ => first | exact h | trivial
theorem cell_lt {i j n cap sz : Nat} (hi : i < n) (hj : j < sz) (h : n ≤ cap) : i * sz + j < cap * sz := by
 have : (i + 1) * sz ≤ cap * sz := Nat.mul_le_mul_right _ (by omega)
 rw [Nat.add_mul] at this
 omega
theorem RO_path {w : World} {sh : AV → Value → Prop} : ∀ (p : List (Nat × Nat)) {A : Option Addr} {n cap sz : Nat} {g : Nat → Nat → AV} {F : Cells} {v : Value} {n' sz' : Nat} {h : Nat → Nat → AV},
  RO w sh (.own n sz g) (.slice A n cap) F → atP g p = .own n' sz' h → pathV w A n sz g p v → ∃ F', RO w sh (.own n' sz' h) v F' ∧ ∀ b o, F' b o → F b o := by
 intro p
 induction p with
 | nil => intro A n cap sz g F v n' sz' h hr ha hp; exact hp.elim
 | cons ij p ih =>
  obtain ⟨i, j⟩ := ij
  intro A n cap sz g F v n' sz' h hr ha hp
  obtain ⟨A1, cap1, e, h1, h2, h3⟩ := hr
  obtain ⟨rfl, -, rfl⟩ : A = A1 ∧ n = n ∧ cap = cap1 := by simpa using e
  cases p with
  | nil =>
   obtain ⟨hi, hj, ad, rfl, hc⟩ := hp
   rcases h3 with h3 | ⟨a, ea, hs, hcs, Fs, hf1, hf2, hf3⟩
   · omega
   · obtain rfl : ad = a := by simpa using ea
     obtain ⟨u, hu, hro⟩ := hf3 i hi j hj
     rw [hc] at hu
     obtain rfl : v = u := by simpa using hu
     simp only [atP] at ha
     rw [ha] at hro
     exact ⟨_, hro, fun b o hb => (hf1 i j b o hi hj hb).1⟩
  | cons q p' =>
   obtain ⟨hi, hj, ad, rfl, u, hc, hm⟩ := hp
   rcases h3 with h3 | ⟨a, ea, hs, hcs, Fs, hf1, hf2, hf3⟩
   · omega
   · obtain rfl : ad = a := by simpa using ea
     obtain ⟨u', hu, hro⟩ := hf3 i hi j hj
     rw [hc] at hu
     obtain rfl : u = u' := by simpa using hu
     simp only [atP] at ha
     generalize hg : g i j = x at ha hm hro
     cases x with
     | own n2 sz2 h2' =>
      simp only at ha hm
      obtain ⟨A2, cap2, rfl, hpv⟩ := hm
      obtain ⟨F', hr', hsub⟩ := ih hro ha hpv
      exact ⟨F', hr', fun b o hb => (hf1 i j b o hi hj (hsub b o hb)).1⟩
     | _ => simp at ha
end Go.Fw
namespace Go.Fw
variable [Tok]
omit [Tok] in
theorem upd_self {α : Type} (f : Nat → α) (i : Nat) (v : α) : upd f i v i = v := by simp [upd]
omit [Tok] in
theorem upd_ne {α : Type} (f : Nat → α) {i j : Nat} (v : α) (h : j ≠ i) : upd f i v j = f j := by
 unfold upd
 have : Nat.beq j i = false := by
  cases hb : Nat.beq j i
  · rfl
  · exact absurd (Nat.eq_of_beq_eq_true hb) h
 rw [this]; rfl
omit [Tok] in
theorem beq_eq {i j : Nat} : Nat.beq i j = true ↔ i = j := ⟨Nat.eq_of_beq_eq_true, fun h => by subst h; simp⟩
theorem pathV_congr {w w' : World} {sh : AV → Value → Prop} : ∀ (p : List (Nat × Nat)) {A : Option Addr} {n cap sz : Nat} {g : Nat → Nat → AV} {F : Cells} {v : Value},
  RO w sh (.own n sz g) (.slice A n cap) F → Agree w w' F → pathV w A n sz g p v → pathV w' A n sz g p v := by
 intro p
 induction p with
 | nil => intro A n cap sz g F v hr ha hp; exact hp.elim
 | cons ij p ih =>
  obtain ⟨i, j⟩ := ij
  intro A n cap sz g F v hr ha hp
  obtain ⟨A1, cap1, e, h1, h2, h3⟩ := hr
  obtain ⟨rfl, -, rfl⟩ : A = A1 ∧ n = n ∧ cap = cap1 := by simpa using e
  cases p with
  | nil =>
   obtain ⟨hi, hj, ad, rfl, hc⟩ := hp
   rcases h3 with h3 | ⟨a, ea, hs, hcs, Fs, hf1, hf2, hf3⟩
   · omega
   · obtain rfl : ad = a := by simpa using ea
     exact ⟨hi, hj, ad, rfl, by rw [(ha _ _ (hcs _ (cell_lt hi hj h1)).1).1]; exact hc⟩
  | cons q p' =>
   obtain ⟨hi, hj, ad, rfl, u, hc, hm⟩ := hp
   rcases h3 with h3 | ⟨a, ea, hs, hcs, Fs, hf1, hf2, hf3⟩
   · omega
   · obtain rfl : ad = a := by simpa using ea
     obtain ⟨u', hu, hro⟩ := hf3 i hi j hj
     rw [hc] at hu
     obtain rfl : u = u' := by simpa using hu
     refine ⟨hi, hj, ad, rfl, u, by rw [(ha _ _ (hcs _ (cell_lt hi hj h1)).1).1]; exact hc, ?_⟩
     generalize g i j = x at hm hro
     cases x with
     | own n2 sz2 h2' =>
      simp only at hm ⊢
      obtain ⟨A2, cap2, rfl, hpv⟩ := hm
      exact ⟨A2, cap2, rfl, ih hro (ha.mono fun b o hb => (hf1 i j b o hi hj hb).1) hpv⟩
     | _ => trivial
theorem placeV_congr {w w' : World} {sh : AV → Value → Prop} (p : List (Nat × Nat)) {A : Option Addr} {n cap sz : Nat} {g : Nat → Nat → AV} {F : Cells} {i j : Nat} {v : Value}
  (hr : RO w sh (.own n sz g) (.slice A n cap) F) (ha : Agree w w' F) (h : placeV w A n sz g p i j v) : placeV w' A n sz g p i j v := by
 cases p with
 | nil => exact h
 | cons q p =>
  intro n' sz' h' e
  obtain ⟨hi, hj, ad, cap', hp, hv⟩ := h n' sz' h' e
  exact ⟨hi, hj, ad, cap', pathV_congr _ hr ha hp, hv⟩
theorem TR_congr {sh : AV → Value → Prop} {gh : Gh} {ar : ArT} {bx : BxT} {w w' : World}
  (hr : ∀ id A, ar id = some A → RO w sh (.own A.n A.sz A.g) (.slice (gh.hd id).1 A.n (gh.hd id).2) (gh.fa id)) (ha : ∀ id A, ar id = some A → Agree w w' (gh.fa id))
  (x : AV) : ∀ {v : Value}, TR sh gh ar bx w x v → TR sh gh ar bx w' x v := by
 induction x with
 | rn id p => intro v h A n sz g e ep; exact pathV_congr p (hr id A e) (ha id A e) (h A n sz g e ep)
 | pe id p i j => intro v h A e; exact placeV_congr p (hr id A e) (ha id A e) (h A e)
 | ag sz g ih => rintro v ⟨vs, rfl, hs, hv⟩; exact ⟨vs, rfl, hs, fun j hj => ⟨(hv j hj).1, ih j (hv j hj).2⟩⟩
 | tup sz g ih => rintro v ⟨vs, rfl, hs, hv⟩; exact ⟨vs, rfl, hs, fun j hj => ih j (hv j hj)⟩
 | clo f sz g ih => rintro v ⟨vs, rfl, hs, hv⟩; exact ⟨vs, rfl, hs, fun j hj => ih j (hv j hj)⟩
 | _ => intro v h; exact h
theorem TR_weaken {sh : AV → Value → Prop} {gh : Gh} {ar ar' : ArT} {bx bx' : BxT} {w : World}
  (ha : ∀ id A, ar' id = some A → ar id = some A) (hb : ∀ b B, bx' b = some B → ∃ B', bx b = some B')
  (x : AV) : ∀ {v : Value}, TR sh gh ar bx w x v → TR sh gh ar' bx' w x v := by
 induction x with
 | rf id => intro v h A e; exact h A (ha _ _ e)
 | rs id a m => intro v h A e; exact h A (ha _ _ e)
 | rn id p => intro v h A n sz g e ep; exact h A n sz g (ha _ _ e) ep
 | pe id p i j => intro v h A e; exact h A (ha _ _ e)
 | pb b o => intro v h B e; obtain ⟨B', e'⟩ := hb _ _ e; exact h B' e'
 | ag sz g ih => rintro v ⟨vs, rfl, hs, hv⟩; exact ⟨vs, rfl, hs, fun j hj => ⟨(hv j hj).1, ih j (hv j hj).2⟩⟩
 | tup sz g ih => rintro v ⟨vs, rfl, hs, hv⟩; exact ⟨vs, rfl, hs, fun j hj => ih j (hv j hj)⟩
 | clo f sz g ih => rintro v ⟨vs, rfl, hs, hv⟩; exact ⟨vs, rfl, hs, fun j hj => ih j (hv j hj)⟩
 | _ => intro v h; exact h
theorem cond_TR {sh : AV → Value → Prop} {gh : Gh} {ar : ArT} {bx : BxT} {w : World} {v : Value} {x : AV} (c : Bool) (h : TR sh gh ar bx w x v) : TR sh gh ar bx w (bif c then .bad else x) v := by
 cases c
 · exact h
 · trivial
theorem TR_killA {sh : AV → Value → Prop} {gh : Gh} {ar : ArT} {bx : BxT} {w : World} (id : Nat) (x : AV) :
  ∀ {v : Value}, TR sh gh ar bx w x v → TR sh gh ar bx w (x.killA id) v := by
 induction x with
 | rf k => intro v h; exact cond_TR _ h
 | rs k a m => intro v h; exact cond_TR _ h
 | rn k p => intro v h; exact cond_TR _ h
 | pe k p i j => intro v h; exact cond_TR _ h
 | ag sz g ih => rintro v ⟨vs, rfl, hs, hv⟩; exact ⟨vs, rfl, hs, fun j hj => ⟨(hv j hj).1, ih j (hv j hj).2⟩⟩
 | tup sz g ih => rintro v ⟨vs, rfl, hs, hv⟩; exact ⟨vs, rfl, hs, fun j hj => ih j (hv j hj)⟩
 | clo f sz g ih => rintro v ⟨vs, rfl, hs, hv⟩; exact ⟨vs, rfl, hs, fun j hj => ih j (hv j hj)⟩
 | _ => intro v h; exact h
theorem TR_newA {sh : AV → Value → Prop} {gh : Gh} {ar : ArT} {bx : BxT} {w : World} (id : Nat) (hd : Option Addr × Nat) (F : Cells) (A' : Option Arr) (x : AV) :
  ∀ {v : Value}, TR sh gh ar bx w x v → TR sh ⟨upd gh.hd id hd, upd gh.fa id F, gh.ba⟩ (upd ar id A') bx w (x.killA id) v := by
 have key : ∀ k, Nat.beq k id = false → upd ar id A' k = ar k ∧ upd gh.hd id hd k = gh.hd k := fun k hk => by
  have : k ≠ id := fun e => by rw [e] at hk; simp at hk
  exact ⟨upd_ne _ _ this, upd_ne _ _ this⟩
 induction x with
 | rf k =>
  intro v h; unfold AV.killA; cases hk : Nat.beq k id
  · intro A e; rw [(key k hk).1] at e; simp only [(key k hk).2]; exact h A e
  · trivial
 | rs k a m =>
  intro v h; unfold AV.killA; cases hk : Nat.beq k id
  · intro A e; rw [(key k hk).1] at e; simp only [(key k hk).2]; exact h A e
  · trivial
 | rn k p =>
  intro v h; unfold AV.killA; cases hk : Nat.beq k id
  · intro A n sz g e ep; rw [(key k hk).1] at e; simp only [(key k hk).2]; exact h A n sz g e ep
  · trivial
 | pe k p i j =>
  intro v h; unfold AV.killA; cases hk : Nat.beq k id
  · intro A e; rw [(key k hk).1] at e; simp only [(key k hk).2]; exact h A e
  · trivial
 | ag sz g ih => rintro v ⟨vs, rfl, hs, hv⟩; exact ⟨vs, rfl, hs, fun j hj => ⟨(hv j hj).1, ih j (hv j hj).2⟩⟩
 | tup sz g ih => rintro v ⟨vs, rfl, hs, hv⟩; exact ⟨vs, rfl, hs, fun j hj => ih j (hv j hj)⟩
 | clo f sz g ih => rintro v ⟨vs, rfl, hs, hv⟩; exact ⟨vs, rfl, hs, fun j hj => ih j (hv j hj)⟩
 | _ => intro v h; exact h
theorem TR_newB {sh : AV → Value → Prop} {gh : Gh} {ar : ArT} {bx : BxT} {w : World} (b : Nat) (ad : Addr) (B : Option (Nat × (Nat → AV))) (x : AV) :
  ∀ {v : Value}, TR sh gh ar bx w x v → TR sh ⟨gh.hd, gh.fa, upd gh.ba b ad⟩ ar (upd bx b B) w (x.killB b) v := by
 induction x with
 | pb k o =>
  intro v h; unfold AV.killB; cases hk : Nat.beq k b
  · have : k ≠ b := fun e => by rw [e] at hk; simp at hk
    intro B' e; rw [upd_ne _ _ this] at e; simp only [upd_ne _ _ this]; exact h B' e
  · trivial
 | ag sz g ih => rintro v ⟨vs, rfl, hs, hv⟩; exact ⟨vs, rfl, hs, fun j hj => ⟨(hv j hj).1, ih j (hv j hj).2⟩⟩
 | tup sz g ih => rintro v ⟨vs, rfl, hs, hv⟩; exact ⟨vs, rfl, hs, fun j hj => ih j (hv j hj)⟩
 | clo f sz g ih => rintro v ⟨vs, rfl, hs, hv⟩; exact ⟨vs, rfl, hs, fun j hj => ih j (hv j hj)⟩
 | _ => intro v h; exact h
def AV.noA (id : Nat) : AV → Prop
 | .rf k => k ≠ id
 | .rs k _ _ => k ≠ id
 | .rn k _ => k ≠ id
 | .pe k _ _ _ => k ≠ id
 | .ag sz g => ∀ j, j < sz → (g j).noA id
 | .tup n g => ∀ j, j < n → (g j).noA id
 | .clo _ n g => ∀ j, j < n → (g j).noA id
 | _ => True
def AV.noB (b : Nat) : AV → Prop
 | .pb k _ => k ≠ b
 | .ag sz g => ∀ j, j < sz → (g j).noB b
 | .tup n g => ∀ j, j < n → (g j).noB b
 | .clo _ n g => ∀ j, j < n → (g j).noB b
 | _ => True
theorem beq_ne {i j : Nat} (h : i ≠ j) : Nat.beq i j = false := by
 cases hb : Nat.beq i j
 · rfl
 · exact absurd (Nat.eq_of_beq_eq_true hb) h
theorem TR_unkillA {sh : AV → Value → Prop} {gh : Gh} {ar : ArT} {bx : BxT} {w : World} {id : Nat} (x : AV) :
  ∀ {v : Value}, x.noA id → TR sh gh ar bx w (x.killA id) v → TR sh gh ar bx w x v := by
 induction x with
 | rf k => intro v hn h; unfold AV.killA at h; rw [beq_ne hn] at h; exact h
 | rs k a m => intro v hn h; unfold AV.killA at h; rw [beq_ne hn] at h; exact h
 | rn k p => intro v hn h; unfold AV.killA at h; rw [beq_ne hn] at h; exact h
 | pe k p i j => intro v hn h; unfold AV.killA at h; rw [beq_ne hn] at h; exact h
 | ag sz g ih => rintro v hn ⟨vs, rfl, hs, hv⟩; exact ⟨vs, rfl, hs, fun j hj => ⟨(hv j hj).1, ih j (hn j hj) (hv j hj).2⟩⟩
 | tup sz g ih => rintro v hn ⟨vs, rfl, hs, hv⟩; exact ⟨vs, rfl, hs, fun j hj => ih j (hn j hj) (hv j hj)⟩
 | clo f sz g ih => rintro v hn ⟨vs, rfl, hs, hv⟩; exact ⟨vs, rfl, hs, fun j hj => ih j (hn j hj) (hv j hj)⟩
 | _ => intro v hn h; exact h
theorem TR_unkillB {sh : AV → Value → Prop} {gh : Gh} {ar : ArT} {bx : BxT} {w : World} {b : Nat} (x : AV) :
  ∀ {v : Value}, x.noB b → TR sh gh ar bx w (x.killB b) v → TR sh gh ar bx w x v := by
 induction x with
 | pb k o => intro v hn h; unfold AV.killB at h; rw [beq_ne hn] at h; exact h
 | ag sz g ih => rintro v hn ⟨vs, rfl, hs, hv⟩; exact ⟨vs, rfl, hs, fun j hj => ⟨(hv j hj).1, ih j (hn j hj) (hv j hj).2⟩⟩
 | tup sz g ih => rintro v hn ⟨vs, rfl, hs, hv⟩; exact ⟨vs, rfl, hs, fun j hj => ih j (hn j hj) (hv j hj)⟩
 | clo f sz g ih => rintro v hn ⟨vs, rfl, hs, hv⟩; exact ⟨vs, rfl, hs, fun j hj => ih j (hn j hj) (hv j hj)⟩
 | _ => intro v hn h; exact h
theorem Mem.world {c : Cx} {gh : Gh} {ar : ArT} {bx : BxT} {w w' : World} (h : Mem c gh ar bx w) (ha : ∀ r, live ar bx r → Agree w w' (fp gh bx r))
  (hs : w.heap.size ≤ w'.heap.size) (hk : ∀ b o, b < c.w0.heap.size → ¬ c.M b o → cellAt w' b o = cellAt w b o ∧ frozAt w' b o = frozAt w b o)
  (hkB : ∀ b, b < c.w0.heap.size → (∀ o, ¬ c.M b o) → w'.heap[b]? = w.heap[b]?) (hio : Io w w') : Mem c gh ar bx w' where
 rows id A e := RO_congr _ (ha (.inl id) (by simp [live, e])) (h.rows id A e)
 boxes b sz g e := by
  refine ⟨(h.boxes b sz g e).1, fun o ho => ?_⟩
  obtain ⟨v, hv, hf, h1, ht⟩ := (h.boxes b sz g e).2 o ho
  have hin : fp gh bx (.inr b) (gh.ba b).block ((gh.ba b).off + o) := ⟨(sz, g), e, rfl, by omega, by simp only; omega⟩
  have hag := ha (.inr b) (by simp [live, e]) _ _ hin
  refine ⟨v, by rw [hag.1]; exact hv, by rw [hag.2]; exact hf, h1, TR_congr h.rows (fun id A e' => ha (.inl id) (by simp [live, e'])) _ ht⟩
 disj := h.disj
 mine r x y hl hf := ⟨Nat.lt_of_lt_of_le (h.mine r x y hl hf).1 hs, (h.mine r x y hl hf).2⟩
 grow := Nat.le_trans h.grow hs
 keep b o hb hm := ⟨(hk b o hb hm).1.trans (h.keep b o hb hm).1, (hk b o hb hm).2.trans (h.keep b o hb hm).2⟩
 keepB b hb hm := (hkB b hb hm).trans (h.keepB b hb hm)
 io := h.io.trans hio
theorem Fix.weaken {c : Cx} {gh : Gh} {ar ar' : ArT} {bx bx' : BxT} (h : Fix c gh ar bx) (ha : ∀ id A, ar' id = some A → ∃ B, ar id = some B ∧ A.n = B.n ∧ A.sz = B.sz) (hb : ∀ b B, bx' b = some B → ∃ B', bx b = some B' ∧ B.1 = B'.1) : Fix c gh ar' bx' :=
 ⟨h.hd, h.ba, fun id A hi e => by obtain ⟨B, e', h1, h2⟩ := ha id A e; rw [h1, h2]; exact h.n id B hi e', fun b B hi e => by obtain ⟨B', e', h1⟩ := hb b B e; rw [h1]; exact h.z b B' hi e'⟩
def Ext (w w' : World) : Prop := w.heap.size ≤ w'.heap.size ∧ (∀ b, b < w.heap.size → w'.heap[b]? = w.heap[b]?) ∧ Io w w'
theorem Ext.cell {w w' : World} (h : Ext w w') {b : Nat} (hb : b < w.heap.size) (o : Nat) : cellAt w' b o = cellAt w b o ∧ frozAt w' b o = frozAt w b o := by
 have := h.2.1 b hb
 unfold cellAt frozAt World.cell? World.frozen?
 simp only [this]
 exact ⟨trivial, trivial⟩
theorem Mem.ext {c : Cx} {gh : Gh} {ar : ArT} {bx : BxT} {w w' : World} (h : Mem c gh ar bx w) (he : Ext w w') : Mem c gh ar bx w' :=
 h.world (fun r hl b o hf => he.cell (h.mine r b o hl hf).1 o) he.1 (fun b o hb _ => he.cell (Nat.lt_of_lt_of_le hb h.grow) o) (fun b hb _ => he.2.1 b (Nat.lt_of_lt_of_le hb h.grow)) he.2.2
theorem Inv.ext {c : Cx} {gh : Gh} {nt : Nat} {st : St} {a : Act} {w w' : World} (h : Inv c gh nt st a w) (he : Ext w w') : Inv c gh nt st a w' :=
 ⟨h.defers, h.size, fun t => TR_congr h.mem.rows (fun id A e b o hf => he.cell (h.mem.mine (.inl id) b o (by simp [live, e]) hf).1 o) _ (h.temps t), h.mem.ext he, h.fix⟩
theorem fp_map {gh : Gh} {bx : BxT} (f : AV → AV) (r : Nat ⊕ Nat) : fp gh (fun b => (bx b).map fun B => (B.1, fun o => f (B.2 o))) r = fp gh bx r := by
 cases r with
 | inl id => rfl
 | inr b =>
  funext x y
  simp only [fp]
  cases hb : bx b with
  | none => simp
  | some B => simp
theorem live_map {ar : ArT} {bx : BxT} (f : AV → AV) (r : Nat ⊕ Nat) : live ar (fun b => (bx b).map fun B => (B.1, fun o => f (B.2 o))) r ↔ live ar bx r := by
 cases r with
 | inl id => exact Iff.rfl
 | inr b => simp [live]
theorem map_some {bx : BxT} {f : AV → AV} {b sz : Nat} {g : Nat → AV} (e : (bx b).map (fun B => (B.1, fun o => f (B.2 o))) = some (sz, g)) : ∃ g', bx b = some (sz, g') ∧ g = fun o => f (g' o) := by
 cases hb : bx b with
 | none => simp [hb] at e
 | some B => rw [hb] at e; simp at e; obtain ⟨rfl, rfl⟩ := e; exact ⟨B.2, by cases B; rfl, rfl⟩
theorem map_ex {st : St} {f : AV → AV} {b : Nat} {B : Nat × (Nat → AV)} (e : (st.map f).bx b = some B) : ∃ B', st.bx b = some B' := by
 obtain ⟨sz, g⟩ := B
 obtain ⟨g', e', _⟩ := map_some (bx := st.bx) (f := f) e
 exact ⟨_, e'⟩
theorem Inv.map {c : Cx} {gh : Gh} {nt : Nat} {st : St} {a : Act} {w : World} (f : AV → AV) (hf : ∀ x v, TR c.sh gh st.ar st.bx w x v → TR c.sh gh st.ar st.bx w (f x) v)
  (h : Inv c gh nt st a w) : Inv c gh nt (st.map f) a w := by
 have hw : ∀ (x : AV) (v : Value), TR c.sh gh st.ar st.bx w x v → TR c.sh gh st.ar (st.map f).bx w x v := fun x v ht =>
  TR_weaken (fun _ _ e => e) (fun b B e => map_ex e) x ht
 exact ⟨h.defers, h.size, fun t => hw _ _ (hf _ _ (h.temps t)), {
  rows := h.mem.rows
  boxes := fun b sz g e => by
   obtain ⟨g', e', rfl⟩ := map_some e
   refine ⟨(h.mem.boxes b sz g' e').1, fun o ho => ?_⟩
   obtain ⟨v, hv, hfr, h1, ht⟩ := (h.mem.boxes b sz g' e').2 o ho
   exact ⟨v, hv, hfr, h1, hw _ _ (hf _ _ ht)⟩
  disj := fun r r' x y hn hl hl' hx => by
   have h1 : fp gh (st.map f).bx r = fp gh st.bx r := fp_map f r
   have h2 : fp gh (st.map f).bx r' = fp gh st.bx r' := fp_map f r'
   rw [h1] at hx; rw [h2]
   exact h.mem.disj r r' x y hn ((live_map f r).1 hl) ((live_map f r').1 hl') hx
  mine := fun r x y hl hx => by
   have h1 : fp gh (st.map f).bx r = fp gh st.bx r := fp_map f r
   rw [h1] at hx
   exact h.mem.mine r x y ((live_map f r).1 hl) hx
  grow := h.mem.grow, keep := h.mem.keep, keepB := h.mem.keepB, io := h.mem.io }, h.fix.weaken (fun id A e => ⟨A, e, rfl, rfl⟩) (fun b B e => by
   obtain ⟨g', e', hg⟩ := map_some (sz := B.1) (g := B.2) e; exact ⟨_, e', rfl⟩)⟩
theorem Inv.drop {c : Cx} {gh : Gh} {nt : Nat} {st : St} {a : Act} {w : World} {ar : ArT} {bx : BxT} (ha : ∀ id A, ar id = some A → st.ar id = some A)
  (hb : ∀ b B, bx b = some B → ∃ g0, st.bx b = some (B.1, g0) ∧ ∀ o, o < B.1 → B.2 o = g0 o) (h : Inv c gh nt st a w) : Inv c gh nt ⟨st.t, ar, bx⟩ a w := by
 have hw : ∀ (x : AV) (v : Value), TR c.sh gh st.ar st.bx w x v → TR c.sh gh ar bx w x v := fun x v ht => TR_weaken ha (fun b B e => by obtain ⟨g0, e', _⟩ := hb b B e; exact ⟨_, e'⟩) x ht
 have hl : ∀ r, live ar bx r → live st.ar st.bx r := by
  rintro (id | b) hr
  · obtain ⟨A, e⟩ := Option.isSome_iff_exists.1 hr; simp [live, ha _ _ e]
  · obtain ⟨A, e⟩ := Option.isSome_iff_exists.1 hr; obtain ⟨g0, e', _⟩ := hb _ _ e; simp [live, e']
 have hfp : ∀ r x y, fp gh bx r x y → fp gh st.bx r x y := by
  rintro (id | b) x y hr
  · exact hr
  · obtain ⟨B, e, hi⟩ := hr; obtain ⟨g0, e', _⟩ := hb _ _ e; exact ⟨_, e', hi⟩
 exact ⟨h.defers, h.size, fun t => hw _ _ (h.temps t), {
  rows := fun id A e => h.mem.rows id A (ha _ _ e)
  boxes := fun b sz g e => by
   obtain ⟨g0, e', hg⟩ := hb _ _ e
   refine ⟨(h.mem.boxes b sz g0 e').1, fun o ho => ?_⟩
   obtain ⟨v, hv, hfr, h1, ht⟩ := (h.mem.boxes b sz g0 e').2 o ho
   exact ⟨v, hv, hfr, h1, by have hgo : g o = g0 o := hg o ho; rw [hgo]; exact hw _ _ ht⟩
  disj := fun r r' x y hn h1 h2 hx hy => h.mem.disj r r' x y hn (hl _ h1) (hl _ h2) (hfp _ _ _ hx) (hfp _ _ _ hy)
  mine := fun r x y h1 hx => h.mem.mine r x y (hl _ h1) (hfp _ _ _ hx)
  grow := h.mem.grow, keep := h.mem.keep, keepB := h.mem.keepB, io := h.mem.io }, h.fix.weaken (fun id A e => ⟨A, ha id A e, rfl, rfl⟩) (fun b B e => by obtain ⟨g0, e', _⟩ := hb b B e; exact ⟨_, e', rfl⟩)⟩
theorem Inv.setT {c : Cx} {gh : Gh} {nt : Nat} {st : St} {a : Act} {w : World} {d : Nat} {x : AV} {v : Value} (h : Inv c gh nt st a w) (hd : d < nt)
  (hx : TR c.sh gh st.ar st.bx w x v) : Inv c gh nt (st.setT d x) (a.put (some d) v) w := by
 refine ⟨h.defers, by simp [Act.put, h.size], fun t => ?_, h.mem, h.fix⟩
 by_cases e : t = d
 · subst e
   have hs := h.size
   have : (a.put (some t) v).tmps.getD t undef = v := by
    simp [Act.put, Array.getD_eq_getD_getElem?, hs, hd]
   rw [this]
   show TR c.sh gh st.ar st.bx w (upd st.t t x t) v
   rw [upd_self]; exact hx
 · have : (a.put (some d) v).tmps.getD t undef = a.tmps.getD t undef := by
    have hne : d ≠ t := fun e' => e e'.symm
    simp [Act.put, Array.getD_eq_getD_getElem?, hne]
   rw [this]
   show TR c.sh gh st.ar st.bx w (upd st.t d x t) _
   rw [upd_ne _ _ e]; exact h.temps t
theorem Inv.put {c : Cx} {gh : Gh} {nt : Nat} {st : St} {a : Act} {w : World} {d : Option Nat} {x : AV} {v : Value} (h : Inv c gh nt st a w) (hd : ∀ k, d = some k → k < nt)
  (hx : TR c.sh gh st.ar st.bx w x v) : Inv c gh nt (st.put d x) (a.put d v) w := by
 cases d with
 | none => exact h
 | some k => exact h.setT (hd k rfl) hx
theorem Inv.newA {c : Cx} {gh : Gh} {nt : Nat} {st : St} {a : Act} {w : World} (id : Nat) (A : Arr) (hd : Option Addr × Nat) (F : Cells) (h : Inv c gh nt st a w)
  (hr : RO w c.sh (.own A.n A.sz A.g) (.slice hd.1 A.n hd.2) F)
  (hdis : ∀ r x y, r ≠ .inl id → live st.ar st.bx r → fp gh st.bx r x y → ¬ F x y)
  (hm : ∀ x y, F x y → x < w.heap.size ∧ (x < c.w0.heap.size → c.M x y)) (hlo : c.lim * 4096 ≤ id) :
  Inv c ⟨upd gh.hd id hd, upd gh.fa id F, gh.ba⟩ nt (st.newA id A) a w := by
 have hk := h.map (AV.killA id) (fun x v => TR_killA id x)
 have hw : ∀ (x : AV) (v : Value), TR c.sh gh st.ar st.bx w x v → TR c.sh ⟨upd gh.hd id hd, upd gh.fa id F, gh.ba⟩ (upd st.ar id (some A)) (st.map (AV.killA id)).bx w (x.killA id) v := fun x v ht =>
  TR_newA id hd F (some A) x (TR_weaken (fun _ _ e => e) (fun b B e => map_ex e) x ht)
 refine ⟨h.defers, h.size, fun t => hw _ _ (h.temps t), ?_, ⟨fun k hk => by simp only [upd_ne _ _ (show k ≠ id by omega)]; exact h.fix.hd k hk, h.fix.ba, fun k B hk e => ?_, fun b B hb e => ?_⟩⟩
 rotate_left
 · have e' : upd st.ar id (some A) k = some B := e
   rw [upd_ne _ _ (show k ≠ id by omega)] at e'
   exact h.fix.n k B hk e'
 · exact hk.fix.z b B hb e
 have hfr : ∀ r, r ≠ .inl id → fp ⟨upd gh.hd id hd, upd gh.fa id F, gh.ba⟩ (st.map (AV.killA id)).bx r = fp gh st.bx r := by
  rintro (k | b) hr
  · have : k ≠ id := fun e => hr (by rw [e])
    show upd gh.fa id F k = gh.fa k
    exact upd_ne _ _ this
  · exact fp_map (gh := gh) _ (.inr b)
 have hlr : ∀ r, r ≠ .inl id → live (upd st.ar id (some A)) (st.map (AV.killA id)).bx r → live st.ar st.bx r := by
  rintro (k | b) hr hl
  · have : k ≠ id := fun e => hr (by rw [e])
    simp only [live, upd_ne _ _ this] at hl; exact hl
  · exact (live_map (ar := st.ar) _ (.inr b)).1 hl
 have hfs : fp ⟨upd gh.hd id hd, upd gh.fa id F, gh.ba⟩ (st.map (AV.killA id)).bx (.inl id) = F := upd_self _ _ _
 exact {
  rows := fun k A' e => by
   by_cases ek : k = id
   · subst ek
     have e' : upd st.ar k (some A) k = some A' := e
     rw [upd_self] at e'; obtain rfl : A = A' := by simpa using e'
     simp only [upd_self]; exact hr
   · have e' : upd st.ar id (some A) k = some A' := e
     rw [upd_ne _ _ ek] at e'
     simp only [upd_ne _ _ ek]; exact h.mem.rows k A' e'
  boxes := fun b sz g e => by
   obtain ⟨g', e', rfl⟩ := map_some e
   refine ⟨(h.mem.boxes b sz g' e').1, fun o ho => ?_⟩
   obtain ⟨v, hv, hfr, h1, ht⟩ := (h.mem.boxes b sz g' e').2 o ho
   exact ⟨v, hv, hfr, h1, hw _ _ ht⟩
  disj := fun r r' x y hn h1 h2 hx hy => by
   by_cases er : r = .inl id
   · subst er
     have er' : r' ≠ .inl id := fun e => hn e.symm
     have hx' : fp ⟨upd gh.hd id hd, upd gh.fa id F, gh.ba⟩ (st.map (AV.killA id)).bx (.inl id) x y := hx
     have hy' : fp ⟨upd gh.hd id hd, upd gh.fa id F, gh.ba⟩ (st.map (AV.killA id)).bx r' x y := hy
     rw [hfs] at hx'; rw [hfr _ er'] at hy'
     exact hdis r' x y er' (hlr _ er' h2) hy' hx'
   · by_cases er' : r' = .inl id
     · subst er'
       have hx' : fp ⟨upd gh.hd id hd, upd gh.fa id F, gh.ba⟩ (st.map (AV.killA id)).bx r x y := hx
       have hy' : fp ⟨upd gh.hd id hd, upd gh.fa id F, gh.ba⟩ (st.map (AV.killA id)).bx (.inl id) x y := hy
       rw [hfs] at hy'; rw [hfr _ er] at hx'
       exact hdis r x y er (hlr _ er h1) hx' hy'
     · have hx' : fp ⟨upd gh.hd id hd, upd gh.fa id F, gh.ba⟩ (st.map (AV.killA id)).bx r x y := hx
       have hy' : fp ⟨upd gh.hd id hd, upd gh.fa id F, gh.ba⟩ (st.map (AV.killA id)).bx r' x y := hy
       rw [hfr _ er] at hx'; rw [hfr _ er'] at hy'
       exact h.mem.disj r r' x y hn (hlr _ er h1) (hlr _ er' h2) hx' hy'
  mine := fun r x y h1 hx => by
   by_cases er : r = .inl id
   · subst er
     have hx' : fp ⟨upd gh.hd id hd, upd gh.fa id F, gh.ba⟩ (st.map (AV.killA id)).bx (.inl id) x y := hx
     rw [hfs] at hx'; exact hm x y hx'
   · have hx' : fp ⟨upd gh.hd id hd, upd gh.fa id F, gh.ba⟩ (st.map (AV.killA id)).bx r x y := hx
     rw [hfr _ er] at hx'; exact h.mem.mine r x y (hlr _ er h1) hx'
  grow := h.mem.grow, keep := h.mem.keep, keepB := h.mem.keepB, io := h.mem.io }
theorem Inv.newB {c : Cx} {gh : Gh} {nt : Nat} {st : St} {a : Act} {w : World} (b sz : Nat) (g : Nat → AV) (ad : Addr) (h : Inv c gh nt st a w) (hs : ad.spot = none)
  (hg : ∀ o, o < sz → ∃ v, cellAt w ad.block (ad.off + o) = some v ∧ frozAt w ad.block (ad.off + o) = false ∧ v.oneCell' = true ∧ TR c.sh gh st.ar st.bx w (g o) v)
  (hdis : ∀ r x y, r ≠ .inr b → live st.ar st.bx r → fp gh st.bx r x y → ¬ In ad sz x y)
  (hm : ∀ x y, In ad sz x y → x < w.heap.size ∧ (x < c.w0.heap.size → c.M x y)) (hlo : c.lim ≤ b) :
  Inv c ⟨gh.hd, gh.fa, upd gh.ba b ad⟩ nt (st.newB b sz g) a w := by
 have hw : ∀ (x : AV) (v : Value), TR c.sh gh st.ar st.bx w x v → TR c.sh ⟨gh.hd, gh.fa, upd gh.ba b ad⟩ st.ar (upd (st.map (AV.killB b)).bx b (some (sz, fun o => (g o).killB b))) w (x.killB b) v := fun x v ht =>
  TR_newB b ad _ x (TR_weaken (fun _ _ e => e) (fun b' B e => map_ex e) x ht)
 refine ⟨h.defers, h.size, fun t => hw _ _ (h.temps t), ?_, ⟨h.fix.hd, fun k hk => by simp only [upd_ne _ _ (show k ≠ b by omega)]; exact h.fix.ba k hk, h.fix.n, fun k B hk e => ?_⟩⟩
 rotate_left
 · have e' : upd (st.map (AV.killB b)).bx b (some (sz, fun o => (g o).killB b)) k = some B := e
   rw [upd_ne _ _ (show k ≠ b by omega)] at e'
   obtain ⟨g', e'', hg⟩ := map_some (sz := B.1) (g := B.2) e'
   exact h.fix.z k (B.1, g') hk e''
 have hfr : ∀ r, r ≠ .inr b → fp ⟨gh.hd, gh.fa, upd gh.ba b ad⟩ (upd (st.map (AV.killB b)).bx b (some (sz, fun o => (g o).killB b))) r = fp gh st.bx r := by
  rintro (k | k) hr
  · rfl
  · have : k ≠ b := fun e => hr (by rw [e])
    have h1 := fp_map (gh := gh) (bx := st.bx) (AV.killB b) (.inr k)
    rw [← h1]
    simp only [fp, upd_ne _ _ this]
    rfl
 have hlr : ∀ r, r ≠ .inr b → live st.ar (upd (st.map (AV.killB b)).bx b (some (sz, fun o => (g o).killB b))) r → live st.ar st.bx r := by
  rintro (k | k) hr hl
  · exact hl
  · have : k ≠ b := fun e => hr (by rw [e])
    simp only [live, upd_ne _ _ this] at hl
    exact (live_map (ar := st.ar) (AV.killB b) (.inr k)).1 hl
 have hfs : ∀ x y, fp ⟨gh.hd, gh.fa, upd gh.ba b ad⟩ (upd (st.map (AV.killB b)).bx b (some (sz, fun o => (g o).killB b))) (.inr b) x y → In ad sz x y := by
  rintro x y ⟨B, e, hi⟩
  rw [upd_self] at e; obtain rfl := by simpa using e
  simpa only [upd_self] using hi
 change Mem c ⟨gh.hd, gh.fa, upd gh.ba b ad⟩ st.ar (upd (st.map (AV.killB b)).bx b (some (sz, fun o => (g o).killB b))) w
 exact {
  rows := h.mem.rows
  boxes := fun k sz' g' e => by
   by_cases ek : k = b
   · subst ek
     have e' : upd (st.map (AV.killB k)).bx k (some (sz, fun o => (g o).killB k)) k = some (sz', g') := e
     rw [upd_self] at e'; obtain ⟨rfl, rfl⟩ : sz = sz' ∧ (fun o => (g o).killB k) = g' := by simpa using e'
     simp only [upd_self]
     refine ⟨hs, fun o ho => ?_⟩
     obtain ⟨v, hv, hf, h1, ht⟩ := hg o ho
     exact ⟨v, hv, hf, h1, hw _ _ ht⟩
   · have e' : upd (st.map (AV.killB b)).bx b (some (sz, fun o => (g o).killB b)) k = some (sz', g') := e
     rw [upd_ne _ _ ek] at e'
     obtain ⟨g'', e'', rfl⟩ := map_some e'
     simp only [upd_ne _ _ ek]
     refine ⟨(h.mem.boxes k sz' g'' e'').1, fun o ho => ?_⟩
     obtain ⟨v, hv, hf, h1, ht⟩ := (h.mem.boxes k sz' g'' e'').2 o ho
     exact ⟨v, hv, hf, h1, hw _ _ ht⟩
  disj := fun r r' x y hn h1 h2 hx hy => by
   by_cases er : r = .inr b
   · subst er
     have er' : r' ≠ .inr b := fun e => hn e.symm
     have hy' := hy
     rw [show fp _ _ r' = _ from hfr _ er'] at hy'
     exact hdis r' x y er' (hlr _ er' h2) hy' (hfs x y hx)
   · have hx' := hx
     rw [show fp _ _ r = _ from hfr _ er] at hx'
     by_cases er' : r' = .inr b
     · subst er'
       exact hdis r x y er (hlr _ er h1) hx' (hfs x y hy)
     · have hy' := hy
       rw [show fp _ _ r' = _ from hfr _ er'] at hy'
       exact h.mem.disj r r' x y hn (hlr _ er h1) (hlr _ er' h2) hx' hy'
  mine := fun r x y h1 hx => by
   by_cases er : r = .inr b
   · subst er
     exact hm x y (hfs x y hx)
   · have hx' := hx
     rw [show fp _ _ r = _ from hfr _ er] at hx'; exact h.mem.mine r x y (hlr _ er h1) hx'
  grow := h.mem.grow, keep := h.mem.keep, keepB := h.mem.keepB, io := h.mem.io }
end Go.Fw
namespace Go.Fw
variable [Tok]
structure Chg (w w' : World) (D : Cells) : Prop where
 size : w.heap.size ≤ w'.heap.size
 cell : ∀ b o, b < w.heap.size → ¬ D b o → cellAt w' b o = cellAt w b o ∧ frozAt w' b o = frozAt w b o
 blk : ∀ b, b < w.heap.size → (∀ o, ¬ D b o) → w'.heap[b]? = w.heap[b]?
 io : Io w w'
theorem Chg.refl (w : World) (D : Cells) : Chg w w D := ⟨Nat.le_refl _, fun _ _ _ _ => ⟨rfl, rfl⟩, fun _ _ _ => rfl, Io.refl w⟩
theorem Chg.trans {w w' w'' : World} {D : Cells} (h : Chg w w' D) (h' : Chg w' w'' D) : Chg w w'' D :=
 ⟨Nat.le_trans h.size h'.size, fun b o hb hd => ⟨(h'.cell b o (Nat.lt_of_lt_of_le hb h.size) hd).1.trans (h.cell b o hb hd).1, (h'.cell b o (Nat.lt_of_lt_of_le hb h.size) hd).2.trans (h.cell b o hb hd).2⟩,
  fun b hb hd => (h'.blk b (Nat.lt_of_lt_of_le hb h.size) hd).trans (h.blk b hb hd), h.io.trans h'.io⟩
theorem setCell_size (w : World) (a : Addr) (v : Value) : (w.setCell a v).heap.size = w.heap.size := by simp [World.setCell]
theorem setCell_heap (w : World) (a : Addr) (v : Value) (b : Nat) : (w.setCell a v).heap[b]? = if b = a.block then (w.heap[b]?).map (fun
      | .cells c elem frozen => .cells (if a.spot.isSome then c else c.setIfInBounds a.off v) elem frozen
      | o => o) else w.heap[b]? := by
 simp only [World.setCell, Array.getElem?_modify]
 by_cases h : a.block = b
 · subst h; simp only [if_true]; rfl
 · have : ¬ b = a.block := fun e => h e.symm
   simp [h, this]
theorem cellAt_setCell (w : World) (bl of : Nat) (v : Value) (b o : Nat) :
  cellAt (w.setCell ⟨bl, of, none⟩ v) b o = if b = bl ∧ o = of then (cellAt w b o).map (fun _ => v) else cellAt w b o := by
 unfold cellAt World.cell?
 simp only [setCell_heap]
 by_cases hb : b = bl
 · subst hb
   simp only [if_true, true_and]
   cases hh : w.heap[b]? with
   | none => simp
   | some x =>
    cases x with
    | cells c e f =>
     simp only [Option.map_some, Option.isSome_none, Bool.false_eq_true, if_false]
     by_cases ho : o = of
     · subst ho
       simp only [if_true, Array.getElem?_setIfInBounds]
       by_cases hlt : o < c.size <;> simp [hlt]
     · have : of ≠ o := fun e => ho e.symm
       simp [ho, this]
    | _ => simp
 · simp [hb]
theorem frozAt_setCell (w : World) (a : Addr) (v : Value) (b o : Nat) : frozAt (w.setCell a v) b o = frozAt w b o := by
 unfold frozAt World.frozen?
 simp only [setCell_heap]
 by_cases hb : b = a.block
 · simp only [hb, if_true]
   cases hh : w.heap[a.block]? with
   | none => simp
   | some x => cases x <;> simp
 · simp [hb]
theorem setCell_chg (w : World) (bl of : Nat) (v : Value) : Chg w (w.setCell ⟨bl, of, none⟩ v) (fun b o => b = bl ∧ o = of) where
 size := by rw [setCell_size]; exact Nat.le_refl _
 cell b o hb hd := ⟨by rw [cellAt_setCell, if_neg hd], frozAt_setCell ..⟩
 blk b hb hd := by
  rw [setCell_heap, if_neg (fun e => hd of ⟨e, rfl⟩)]
 io := ⟨rfl, rfl, rfl⟩
theorem Mem.gen {c : Cx} {gh gh' : Gh} {ar ar' : ArT} {bx bx' : BxT} {w w' : World} {D G : Cells} (T : Nat ⊕ Nat → Prop) (h : Mem c gh ar bx w) (hC : Chg w w' D)
  (hD : ∀ b o, D b o → (∃ r, T r ∧ live ar bx r ∧ fp gh bx r b o) ∨ G b o)
  (hG : ∀ x y, G x y → (∀ r, ¬ T r → live ar bx r → ¬ fp gh bx r x y) ∧ x < w'.heap.size ∧ (x < c.w0.heap.size → c.M x y))
  (rowsOld : ∀ id A, ¬ T (.inl id) → ar' id = some A → ar id = some A ∧ gh'.hd id = gh.hd id ∧ gh'.fa id = gh.fa id)
  (boxesOld : ∀ b sz g, ¬ T (.inr b) → bx' b = some (sz, g) → ∃ g0, bx b = some (sz, g0) ∧ gh'.ba b = gh.ba b ∧ ∀ o, o < sz → ∀ v, cellAt w (gh.ba b).block ((gh.ba b).off + o) = some v → TR c.sh gh ar bx w (g0 o) v → TR c.sh gh' ar' bx' w' (g o) v)
  (rowsNew : ∀ id A, T (.inl id) → ar' id = some A → RO w' c.sh (.own A.n A.sz A.g) (.slice (gh'.hd id).1 A.n (gh'.hd id).2) (gh'.fa id))
  (boxesNew : ∀ b sz g, T (.inr b) → bx' b = some (sz, g) → (gh'.ba b).spot = none ∧ ∀ o, o < sz → ∃ v, cellAt w' (gh'.ba b).block ((gh'.ba b).off + o) = some v ∧ frozAt w' (gh'.ba b).block ((gh'.ba b).off + o) = false ∧ v.oneCell' = true ∧ TR c.sh gh' ar' bx' w' (g o) v)
  (fpNew : ∀ r x y, T r → live ar' bx' r → fp gh' bx' r x y → (∃ r', T r' ∧ live ar bx r' ∧ fp gh bx r' x y) ∨ G x y)
  (disjNew : ∀ r r' x y, T r → T r' → r ≠ r' → live ar' bx' r → live ar' bx' r' → fp gh' bx' r x y → ¬ fp gh' bx' r' x y) :
  Mem c gh' ar' bx' w' := by
 have hnT : ∀ r x y, ¬ T r → live ar' bx' r → fp gh' bx' r x y → live ar bx r ∧ fp gh bx r x y := by
  rintro (id | b) x y hT hl hf
  · obtain ⟨A, e⟩ := Option.isSome_iff_exists.1 hl
    obtain ⟨e1, _, e3⟩ := rowsOld id A hT e
    refine ⟨by simp [live, e1], ?_⟩
    have hf' : gh'.fa id x y := hf
    rw [e3] at hf'; exact hf'
  · obtain ⟨⟨sz, g⟩, e⟩ := Option.isSome_iff_exists.1 hl
    obtain ⟨g0, e1, e2, _⟩ := boxesOld b sz g hT e
    refine ⟨by simp [live, e1], ?_⟩
    obtain ⟨B, eB, hin⟩ := hf
    have : B = (sz, g) := by rw [e] at eB; exact (Option.some.inj eB).symm
    subst this
    rw [e2] at hin
    exact ⟨(sz, g0), e1, hin⟩
 have hag : ∀ r, ¬ T r → live ar bx r → Agree w w' (fp gh bx r) := fun r hT hl b o hf => by
  refine hC.cell b o (h.mine r b o hl hf).1 fun hd => ?_
  rcases hD b o hd with ⟨r', hT', hl', hf'⟩ | hg
  · exact h.disj r r' b o (fun e => hT (e ▸ hT')) hl hl' hf hf'
  · exact (hG b o hg).1 r hT hl hf
 have hDM : ∀ b o, D b o → b < c.w0.heap.size → c.M b o := fun b o hd hb => by
  rcases hD b o hd with ⟨r, _, hl, hf⟩ | hg
  · exact (h.mine r b o hl hf).2 hb
  · exact (hG b o hg).2.2 hb
 refine ⟨fun id A e => ?_, fun b sz g e => ?_, fun r r' x y hn hl hl' hx hy => ?_, fun r x y hl hx => ?_, Nat.le_trans h.grow hC.size, fun b o hb hm => ?_, fun b hb hm => ?_, ?_⟩
 · by_cases hT : T (.inl id)
   · exact rowsNew id A hT e
   · obtain ⟨e1, e2, e3⟩ := rowsOld id A hT e
     rw [e2, e3]
     exact RO_congr _ (hag (.inl id) hT (by simp [live, e1])) (h.rows id A e1)
 · by_cases hT : T (.inr b)
   · exact boxesNew b sz g hT e
   · obtain ⟨g0, e1, e2, e3⟩ := boxesOld b sz g hT e
     rw [e2]
     refine ⟨(h.boxes b sz g0 e1).1, fun o ho => ?_⟩
     obtain ⟨v, hv, hf, h1, ht⟩ := (h.boxes b sz g0 e1).2 o ho
     have hin : fp gh bx (.inr b) (gh.ba b).block ((gh.ba b).off + o) := ⟨(sz, g0), e1, rfl, by omega, by simp only; omega⟩
     have := hag (.inr b) hT (by simp [live, e1]) _ _ hin
     exact ⟨v, by rw [this.1]; exact hv, by rw [this.2]; exact hf, h1, e3 o ho v hv ht⟩
 · by_cases hT : T r
   · by_cases hT' : T r'
     · exact disjNew r r' x y hT hT' hn hl hl' hx hy
     · obtain ⟨hl1, hf1⟩ := hnT r' x y hT' hl' hy
       rcases fpNew r x y hT hl hx with ⟨r2, hT2, hl2, hf2⟩ | hg
       · exact h.disj r2 r' x y (fun e => hT' (e ▸ hT2)) hl2 hl1 hf2 hf1
       · exact (hG x y hg).1 r' hT' hl1 hf1
   · obtain ⟨hl1, hf1⟩ := hnT r x y hT hl hx
     by_cases hT' : T r'
     · rcases fpNew r' x y hT' hl' hy with ⟨r2, hT2, hl2, hf2⟩ | hg
       · exact h.disj r r2 x y (fun e => hT (e ▸ hT2)) hl1 hl2 hf1 hf2
       · exact (hG x y hg).1 r hT hl1 hf1
     · obtain ⟨hl2, hf2⟩ := hnT r' x y hT' hl' hy
       exact h.disj r r' x y hn hl1 hl2 hf1 hf2
 · by_cases hT : T r
   · rcases fpNew r x y hT hl hx with ⟨r2, hT2, hl2, hf2⟩ | hg
     · exact ⟨Nat.lt_of_lt_of_le (h.mine r2 x y hl2 hf2).1 hC.size, (h.mine r2 x y hl2 hf2).2⟩
     · exact (hG x y hg).2
   · obtain ⟨hl1, hf1⟩ := hnT r x y hT hl hx
     exact ⟨Nat.lt_of_lt_of_le (h.mine r x y hl1 hf1).1 hC.size, (h.mine r x y hl1 hf1).2⟩
 · have := hC.cell b o (Nat.lt_of_lt_of_le hb h.grow) (fun hd => hm (hDM b o hd hb))
   exact ⟨this.1.trans (h.keep b o hb hm).1, this.2.trans (h.keep b o hb hm).2⟩
 · exact (hC.blk b (Nat.lt_of_lt_of_le hb h.grow) (fun o hd => hm o (hDM b o hd hb))).trans (h.keepB b hb hm)
 · exact h.io.trans hC.io
omit [Tok] in
theorem mrg_true (x : AV) : ∀ y, mrg true x y = x := by
 induction x with
 | own n sz g ih =>
  intro y
  cases y with
  | own m sz' h => simp only [mrg, ih]; cases Nat.beq sz sz' <;> rfl
  | _ => rfl
 | sl n sz g ih =>
  intro y
  cases y with
  | sl m sz' h => simp only [mrg, ih]; cases Nat.beq sz sz' <;> rfl
  | _ => rfl
 | I k n => intro y; cases y with
  | I k' m => simp only [mrg]; cases (k == k') <;> rfl
  | _ => rfl
 | _ => intro y; cases y <;> rfl
omit [Tok] in
theorem mrg_false (x : AV) : ∀ y, mrg false x y = y := by
 induction x with
 | own n sz g ih =>
  intro y
  cases y with
  | own m sz' h =>
   simp only [mrg, ih]
   cases hb : Nat.beq sz sz'
   · rfl
   · have := Nat.eq_of_beq_eq_true hb; subst this; rfl
  | _ => rfl
 | sl n sz g ih =>
  intro y
  cases y with
  | sl m sz' h =>
   simp only [mrg, ih]
   cases hb : Nat.beq sz sz'
   · rfl
   · have := Nat.eq_of_beq_eq_true hb; subst this; rfl
  | _ => rfl
 | I k n => intro y; cases y with
  | I k' m =>
   simp only [mrg]
   cases hb : (k == k')
   · rfl
   · have := eq_of_beq hb; subst this; rfl
  | _ => rfl
 | _ => intro y; cases y <;> rfl
theorem upd2_self (g : Nat → Nat → AV) (i j : Nat) (v : AV) : upd2 g i j v i j = v := by simp [upd2, mrg_true]
theorem upd2_ne (g : Nat → Nat → AV) {i j i' j' : Nat} (v : AV) (h : ¬ (i' = i ∧ j' = j)) : upd2 g i j v i' j' = g i' j' := by
 unfold upd2
 cases hc : Nat.beq j' j
 · rfl
 · have := Nat.eq_of_beq_eq_true hc
   have h1 : ¬ i' = i := fun e => h ⟨e, this⟩
   simp [h1, mrg_false]
theorem RO_cut {w : World} {sh : AV → Value → Prop} {A : Arr} {ad A' : Option Addr} {cap a m : Nat} {F : Cells} (h : RO w sh (.own A.n A.sz A.g) (.slice ad A.n cap) F)
  (ham : a + m ≤ A.n) (hA : cap - a = 0 ∨ ∃ x, ad = some x ∧ A' = some ⟨x.block, x.off + a * A.sz, none⟩) :
  RO w sh (.own m A.sz (cut A a m)) (.slice A' m (cap - a)) F := by
 obtain ⟨A1, cap1, e, h1, h2, h3⟩ := h
 obtain ⟨rfl, rfl⟩ : ad = A1 ∧ cap = cap1 := by simpa using e
 refine ⟨A', cap - a, rfl, by omega, h2, ?_⟩
 by_cases hz : cap - a = 0
 · exact .inl hz
 · rcases hA with hA | ⟨x, rfl, rfl⟩
   · exact absurd hA hz
   · rcases h3 with h3 | ⟨y, ey, hs, hcs, Fs, hf1, hf2, hf3⟩
     · omega
     · obtain rfl : x = y := by simpa using ey
       have hmul : (cap - a) * A.sz + a * A.sz = cap * A.sz := by rw [← Nat.add_mul]; congr 1; omega
       refine .inr ⟨_, rfl, rfl, fun i hi => ?_, fun i j => Fs (a + i) j, fun i j b o hi hj hb => ?_, fun i j i' j' b o hi hj hi' hj' hn hb => ?_, fun i hi j hj => ?_⟩
       · have := hcs (a * A.sz + i) (by omega)
         simp only [Nat.add_assoc] at this ⊢
         exact this
       · have := hf1 (a + i) j b o (by omega) hj hb
         refine ⟨this.1, fun hin => this.2 ⟨hin.1, ?_, ?_⟩⟩
         · have := hin.2.1; simp only at this; omega
         · have := hin.2.2; simp only at this; omega
       · exact hf2 (a + i) j (a + i') j' b o (by omega) hj (by omega) hj' (fun e => hn ⟨by omega, e.2⟩) hb
       · obtain ⟨u, hu, hr⟩ := hf3 (a + i) (by omega) j hj
         refine ⟨u, ?_, ?_⟩
         · have e1 : x.off + a * A.sz + (i * A.sz + j) = x.off + ((a + i) * A.sz + j) := by rw [Nat.add_mul]; omega
           simp only [e1]; exact hu
         · have : cut A a m i j = A.g (a + i) j := by simp [cut, hi, mrg_true]
           rw [this]; exact hr
theorem RO_upd {w w' : World} {sh : AV → Value → Prop} {n sz i j : Nat} {g : Nat → Nat → AV} {ad : Addr} {cap : Nat} {F F' : Cells} {x : AV} {D : Cells} {Z : Cells → Prop}
  (h : RO w sh (.own n sz g) (.slice (some ad) n cap) F) (hi : i < n) (hj : j < sz)
  (hag : ∀ b o, F b o → ¬ D b o → cellAt w' b o = cellAt w b o ∧ frozAt w' b o = frozAt w b o)
  (hx : ∀ Fij : Cells, (∀ b o, Fij b o → F b o ∧ ¬ In ad (cap * sz) b o) → (∃ v, cellAt w ad.block (ad.off + (i * sz + j)) = some v ∧ RO w sh (g i j) v Fij) →
   ∃ (X F2 : Cells) (u : Value), (∀ b o, X b o → Fij b o) ∧ (∀ b o, F2 b o → (Fij b o ∧ ¬ X b o) ∨ F' b o) ∧ (∀ b o, D b o → Fij b o ∨ (b = ad.block ∧ o = ad.off + (i * sz + j))) ∧
    cellAt w' ad.block (ad.off + (i * sz + j)) = some u ∧ frozAt w' ad.block (ad.off + (i * sz + j)) = false ∧ u.oneCell' = true ∧ RO w' sh x u F2 ∧ Z X)
  (hF' : ∀ b o, F' b o → ¬ F b o) :
  ∃ X : Cells, Z X ∧ (∀ b o, X b o → F b o) ∧ RO w' sh (.own n sz (upd2 g i j x)) (.slice (some ad) n cap) (fun b o => (F b o ∧ ¬ X b o) ∨ F' b o) := by
 obtain ⟨A1, cap1, e, h1, h2, h3⟩ := h
 obtain ⟨rfl, rfl⟩ : some ad = A1 ∧ cap = cap1 := by simpa using e
 rcases h3 with h3 | ⟨y, ey, hs, hcs, Fs, hf1, hf2, hf3⟩
 · omega
 obtain rfl : ad = y := by simpa using ey
 obtain ⟨v0, hv0, hr0⟩ := hf3 i hi j hj
 obtain ⟨X, F2, u, hX, hF2, hD, hc, hfz, hone, hr2, hZ⟩ := hx (Fs i j) (fun b o hb => hf1 i j b o hi hj hb) ⟨v0, hv0, hr0⟩
 refine ⟨X, hZ, fun b o hb => (hf1 i j b o hi hj (hX b o hb)).1, _, _, rfl, h1, h2, ?_⟩
 have hij := cell_lt hi hj h1
 have hDin : ∀ k, k < cap * sz → k ≠ i * sz + j → ¬ D ad.block (ad.off + k) := fun k hk hne hd => by
  rcases hD _ _ hd with hd | ⟨_, hd⟩
  · exact (hf1 i j _ _ hi hj hd).2 ⟨rfl, by omega, by omega⟩
  · omega
 have hXin : ∀ k, k < cap * sz → ¬ X ad.block (ad.off + k) := fun k hk hd => (hf1 i j _ _ hi hj (hX _ _ hd)).2 ⟨rfl, by omega, by omega⟩
 have hFs' : ∀ i' j' b o, (if i' = i ∧ j' = j then F2 else Fs i' j') b o → (i' = i ∧ j' = j ∧ F2 b o) ∨ (¬ (i' = i ∧ j' = j) ∧ Fs i' j' b o) := fun i' j' b o hb => by
  by_cases hc' : i' = i ∧ j' = j
  · rw [if_pos hc'] at hb; exact .inl ⟨hc'.1, hc'.2, hb⟩
  · rw [if_neg hc'] at hb; exact .inr ⟨hc', hb⟩
 refine .inr ⟨ad, rfl, hs, fun k hk => ?_, fun i' j' => if i' = i ∧ j' = j then F2 else Fs i' j', fun i' j' b o hi' hj' hb => ?_, fun i1 j1 i2 j2 b o hi1 hj1 hi2 hj2 hn hb hb' => ?_, fun i' hi' j' hj' => ?_⟩
 · by_cases hk' : k = i * sz + j
   · subst hk'; exact ⟨.inl ⟨(hcs _ hk).1, hXin _ hk⟩, ⟨u, hc, hone⟩, hfz⟩
   · have h5 := hcs k hk
     have h6 := hag _ _ h5.1 (hDin k hk hk')
     exact ⟨.inl ⟨h5.1, hXin _ hk⟩, by rw [h6.1]; exact h5.2.1, by rw [h6.2]; exact h5.2.2⟩
 · rcases hFs' i' j' b o hb with ⟨_, _, hb⟩ | ⟨hne, hb⟩
   · rcases hF2 b o hb with ⟨hb, hnx⟩ | hb
     · exact ⟨.inl ⟨(hf1 i j b o hi hj hb).1, hnx⟩, (hf1 i j b o hi hj hb).2⟩
     · refine ⟨.inr hb, fun hin => hF' b o hb ?_⟩
       have := hcs (o - ad.off) (by have := hin.2.2; have := hin.2.1; omega)
       have e1 : ad.off + (o - ad.off) = o := by have := hin.2.1; omega
       rw [e1, ← hin.1] at this; exact this.1
   · exact ⟨.inl ⟨(hf1 i' j' b o hi' hj' hb).1, fun hx' => hf2 i' j' i j b o hi' hj' hi hj hne hb (hX b o hx')⟩, (hf1 i' j' b o hi' hj' hb).2⟩
 · rcases hFs' i1 j1 b o hb with ⟨e1, e2, hb⟩ | ⟨hne1, hb⟩
   · rcases hFs' i2 j2 b o hb' with ⟨e3, e4, hb'⟩ | ⟨hne2, hb'⟩
     · exact hn ⟨by omega, by omega⟩
     · rcases hF2 b o hb with ⟨hb, _⟩ | hb
       · exact hf2 i j i2 j2 b o hi hj hi2 hj2 (fun e => hne2 ⟨e.1.symm, e.2.symm⟩) hb hb'
       · exact hF' b o hb (hf1 i2 j2 b o hi2 hj2 hb').1
   · rcases hFs' i2 j2 b o hb' with ⟨e3, e4, hb'⟩ | ⟨hne2, hb'⟩
     · rcases hF2 b o hb' with ⟨hb2, _⟩ | hb2
       · exact hf2 i j i1 j1 b o hi hj hi1 hj1 (fun e => hne1 ⟨e.1.symm, e.2.symm⟩) hb2 hb
       · exact hF' b o hb2 (hf1 i1 j1 b o hi1 hj1 hb).1
     · exact hf2 i1 j1 i2 j2 b o hi1 hj1 hi2 hj2 hn hb hb'
 · by_cases hc' : i' = i ∧ j' = j
   · obtain ⟨rfl, rfl⟩ := hc'
     simp only [and_self, if_true, upd2_self]
     exact ⟨u, hc, hr2⟩
   · simp only [if_neg hc', upd2_ne _ _ hc']
     obtain ⟨v, hv, hr⟩ := hf3 i' hi' j' hj'
     have hne : i' * sz + j' ≠ i * sz + j := fun e => by
      apply hc'
      have e1 : (i' * sz + j') / sz = i' := by rw [Nat.mul_comm, Nat.mul_add_div h2, Nat.div_eq_of_lt hj', Nat.add_zero]
      have e2 : (i * sz + j) / sz = i := by rw [Nat.mul_comm, Nat.mul_add_div h2, Nat.div_eq_of_lt hj, Nat.add_zero]
      have : i' = i := by rw [← e1, ← e2, e]
      subst this; exact ⟨rfl, by omega⟩
     have hlt := cell_lt hi' hj' h1
     have h6 := hag _ _ (hcs _ hlt).1 (hDin _ hlt hne)
     refine ⟨v, by rw [h6.1]; exact hv, RO_congr _ (fun b o hb => ?_) hr⟩
     refine hag b o (hf1 i' j' b o hi' hj' hb).1 fun hd => ?_
     rcases hD b o hd with hd | ⟨rfl, rfl⟩
     · exact hf2 i' j' i j b o hi' hj' hi hj hc' hb hd
     · exact (hf1 i' j' _ _ hi' hj' hb).2 ⟨rfl, by omega, by omega⟩
theorem place_up {w : World} {i j n sz n3 sz3 cap3 : Nat} {g h3 : Nat → Nat → AV} {ad1 : Addr} {A3 : Option Addr} {p : List (Nat × Nat)} {a b : Nat} {v : Value} (hg : g i j = .own n3 sz3 h3) (hi : i < n) (hj : j < sz)
  (hc : cellAt w ad1.block (ad1.off + (i * sz + j)) = some (.slice A3 n3 cap3)) (h : placeV w A3 n3 sz3 h3 p a b v) : placeV w (some ad1) n sz g ((i, j) :: p) a b v := by
 cases p with
 | nil =>
  intro n' sz' h' e'
  simp only [atP, hg, AV.own.injEq] at e'
  obtain ⟨rfl, rfl, rfl⟩ := e'
  obtain ⟨hi', hj', ad3, rfl, e3⟩ := h
  exact ⟨hi', hj', ad3, cap3, ⟨hi, hj, ad1, rfl, hc⟩, e3⟩
 | cons q r =>
  intro n' sz' h' e'
  simp only [atP, hg] at e'
  obtain ⟨hi', hj', ad3, cap', hp3, e3⟩ := h n' sz' h' e'
  refine ⟨hi', hj', ad3, cap', ⟨hi, hj, ad1, rfl, _, hc, ?_⟩, e3⟩
  rw [hg]; exact ⟨_, _, rfl, hp3⟩
theorem place_down {w : World} {i j n sz : Nat} {g : Nat → Nat → AV} {A : Option Addr} {p : List (Nat × Nat)} {a b : Nat} {v : Value} (h : placeV w A n sz g ((i, j) :: p) a b v)
  (hat : ∃ n' sz' h, atP g ((i, j) :: p) = .own n' sz' h) : i < n ∧ j < sz ∧ ∃ ad1, A = some ad1 ∧ ∃ n3 sz3 h3 A3 cap3, g i j = .own n3 sz3 h3 ∧ cellAt w ad1.block (ad1.off + (i * sz + j)) = some (.slice A3 n3 cap3) ∧
   placeV w A3 n3 sz3 h3 p a b v ∧ (p = [] ∨ ∃ n' sz' h, atP h3 p = .own n' sz' h) ∧ (p ≠ [] → atP g ((i, j) :: p) = atP h3 p) ∧ (p = [] → atP g ((i, j) :: p) = .own n3 sz3 h3) := by
 obtain ⟨n', sz', h', hat⟩ := hat
 obtain ⟨hqi, hqj, ad2, cap2, hpv, hpl⟩ := h n' sz' h' hat
 cases p with
 | nil =>
  obtain ⟨hi, hj, ad, rfl, hc⟩ := hpv
  have hat' := hat
  simp only [atP] at hat
  exact ⟨hi, hj, ad, rfl, n', sz', h', _, _, hat, hc, ⟨hqi, hqj, ad2, rfl, hpl⟩, .inl rfl, fun h => absurd rfl h, fun _ => hat'⟩
 | cons q r =>
  obtain ⟨hi, hj, ad, rfl, u, hc, hm⟩ := hpv
  have hat' := hat
  simp only [atP] at hat
  cases hg : g i j with
  | own n3 sz3 h3 =>
   rw [hg] at hm hat
   simp only at hm hat
   obtain ⟨A3, cap3, rfl, hpv3⟩ := hm
   refine ⟨hi, hj, ad, rfl, n3, sz3, h3, A3, cap3, rfl, hc, fun n4 sz4 h4 e4 => ?_, .inr ⟨_, _, _, hat⟩, fun _ => by simp only [atP, hg], fun h => by simp at h⟩
   rw [hat] at e4
   obtain ⟨rfl, rfl, rfl⟩ : n' = n4 ∧ sz' = sz4 ∧ h' = h4 := by simpa using e4
   exact ⟨hqi, hqj, ad2, cap2, hpv3, hpl⟩
  | _ => rw [hg] at hat; simp at hat
theorem RO_setP {w w' : World} {sh : AV → Value → Prop} {F' D : Cells} {x : AV} {Z : Cells → Prop} {q : Nat × Nat} {ad : Addr} : ∀ (p : List (Nat × Nat)) {n sz : Nat} {g : Nat → Nat → AV} {A : Option Addr} {cap : Nat} {F : Cells},
  RO w sh (.own n sz g) (.slice A n cap) F → placeV w A n sz g p q.1 q.2 (.pointer (some ad)) → (p = [] ∨ ∃ n' sz' h, atP g p = .own n' sz' h) →
  (∀ b o, F b o → ¬ D b o → cellAt w' b o = cellAt w b o ∧ frozAt w' b o = frozAt w b o) →
  (∀ b o, D b o → b = ad.block ∧ o = ad.off) →
  (∀ Fij : Cells, (∀ b o, Fij b o → F b o) → frozAt w ad.block ad.off = false → (∃ v, cellAt w ad.block ad.off = some v ∧ RO w sh (atP g (p ++ [q])) v Fij) →
   ∃ (X F2 : Cells) (u : Value), (∀ b o, X b o → Fij b o) ∧ (∀ b o, F2 b o → (Fij b o ∧ ¬ X b o) ∨ F' b o) ∧ cellAt w' ad.block ad.off = some u ∧ frozAt w' ad.block ad.off = false ∧ u.oneCell' = true ∧ RO w' sh x u F2 ∧ Z X) →
  (∀ b o, F' b o → ¬ F b o) →
  F ad.block ad.off ∧ (∃ X : Cells, Z X ∧ (∀ b o, X b o → F b o) ∧ RO w' sh (.own n sz (setP g (p ++ [q]) x)) (.slice A n cap) (fun b o => (F b o ∧ ¬ X b o) ∨ F' b o)) ∧
   (∀ k v, placeV w A n sz g p q.1 k v → placeV w' A n sz (setP g (p ++ [q]) x) p q.1 k v) ∧ (p = [] ∨ ∃ n' sz' h, atP (setP g (p ++ [q]) x) p = .own n' sz' h ∧ ∃ h0, atP g p = .own n' sz' h0) := by
 intro p
 induction p with
 | nil =>
  intro n sz g A cap F hr hp _ hag hD hx hF'
  obtain ⟨hi, hj, ad', rfl, e⟩ := hp
  obtain rfl : ad = _ := by simpa using e
  have hr' := hr
  obtain ⟨A1, cap1, e, h1, h2, h3⟩ := hr
  obtain ⟨rfl, rfl⟩ : some ad' = A1 ∧ cap = cap1 := by simpa using e
  rcases h3 with h3 | ⟨y, ey, hs, hcs, _⟩
  · omega
  obtain rfl : ad' = y := by simpa using ey
  have hc0 := hcs _ (cell_lt hi hj h1)
  refine ⟨hc0.1, ?_, fun k v hv => hv, .inl rfl⟩
  refine RO_upd (D := D) (Z := Z) hr' hi hj hag (fun Fij hFij hv => ?_) hF'
  obtain ⟨X, F2, u, hX, hF2, hc, hf, ho, hr2, hZ⟩ := hx Fij (fun b o hb => (hFij b o hb).1) hc0.2.2 hv
  exact ⟨X, F2, u, hX, hF2, fun b o hd => .inr (hD b o hd), hc, hf, ho, hr2, hZ⟩
 | cons ij p ih =>
  obtain ⟨i, j⟩ := ij
  intro n sz g A cap F hr hp hat hag hD hx hF'
  have hat : ∃ n' sz' h, atP g ((i, j) :: p) = .own n' sz' h := by rcases hat with hat | hat; exact absurd hat (by simp); exact hat
  obtain ⟨hi, hj, ad1, rfl, n3, sz3, h3', A3, cap3, hg, hc, hpl', hat', hatc, hatn⟩ := place_down hp hat
  have hr' := hr
  obtain ⟨A1, cap1, e, h1, h2, h3⟩ := hr
  obtain ⟨rfl, rfl⟩ : some ad1 = A1 ∧ cap = cap1 := by simpa using e
  have hset : setP g ((i, j) :: p ++ [q]) x = upd2 g i j (.own n3 sz3 (setP h3' (p ++ [q]) x)) := by
   cases p with
   | nil => simp [setP, hg]
   | cons a b => simp [setP, hg]
  have hatq : atP g ((i, j) :: p ++ [q]) = atP h3' (p ++ [q]) := by
   cases p with
   | nil => simp [atP, hg]
   | cons a b => simp [atP, hg]
  rcases h3 with h3 | ⟨y, ey, hs, hcs, Fs, hf1, hf2, hf3⟩
  · omega
  obtain rfl : ad1 = y := by simpa using ey
  have inner : ∀ Fij : Cells, (∀ b o, Fij b o → F b o ∧ ¬ In ad1 (cap * sz) b o) → RO w sh (.own n3 sz3 h3') (.slice A3 n3 cap3) Fij → _ := fun Fij hFij hro =>
   ih (F := Fij) hro hpl' hat' (fun b o hb hd => hag b o (hFij b o hb).1 hd) hD
    (fun Fij' hsub hfz hv => by rw [hatq] at hx; exact hx Fij' (fun b o hb => (hFij b o (hsub b o hb)).1) hfz hv)
    (fun b o hb hb' => hF' b o hb (hFij b o hb').1)
  obtain ⟨u0, hu0, hro0⟩ := hf3 i hi j hj
  rw [hc] at hu0
  obtain rfl : _ = u0 := by simpa using hu0
  rw [hg] at hro0
  have hin0 := inner (Fs i j) (fun b o hb => hf1 i j b o hi hj hb) hro0
  have hnd : ¬ D ad1.block (ad1.off + (i * sz + j)) := fun hd => by
   obtain ⟨e1, e2⟩ := hD _ _ hd
   exact (hf1 i j _ _ hi hj hin0.1).2 ⟨e1.symm, by omega, by have := cell_lt hi hj h1; omega⟩
  have hcell := hcs _ (cell_lt hi hj h1)
  have hk := hag _ _ hcell.1 hnd
  refine ⟨(hf1 i j _ _ hi hj hin0.1).1, ?_, ?_, ?_⟩
  · rw [hset]
    refine RO_upd (D := D) (Z := Z) hr' hi hj hag (fun Fij hFij hv => ?_) hF'
    obtain ⟨v, hv, hro⟩ := hv
    rw [hc] at hv
    obtain rfl : _ = v := by simpa using hv
    rw [hg] at hro
    obtain ⟨hin, ⟨X, hZ, hX, hro'⟩, _⟩ := inner Fij hFij hro
    refine ⟨X, _, _, hX, fun b o hb => hb, fun b o hd => .inl ?_, by rw [hk.1]; exact hc, by rw [hk.2]; exact hcell.2.2, rfl, hro', hZ⟩
    obtain ⟨rfl, rfl⟩ := hD b o hd
    exact hin
  · intro k v hv
    obtain ⟨_, _, ad1', e1, n4, sz4, h4, A4, cap4, hg4, hc4, hpl4, _⟩ := place_down hv hat
    obtain rfl : ad1 = ad1' := by simpa using e1
    rw [hc] at hc4
    rw [hg] at hg4
    obtain ⟨rfl, rfl, rfl⟩ : n3 = n4 ∧ sz3 = sz4 ∧ h3' = h4 := by simpa using hg4
    obtain ⟨rfl, rfl⟩ : A3 = A4 ∧ cap3 = cap4 := by simpa using hc4
    have := hin0.2.2.1 k v hpl4
    rw [hset]
    exact place_up (upd2_self _ _ _ _) hi hj (by rw [hk.1]; exact hc) this
  · right
    rw [hset]
    rcases hin0.2.2.2 with rfl | ⟨n', sz', h', e', h0, e0⟩
    · exact ⟨n3, sz3, setP h3' ([] ++ [q]) x, by simp only [atP, upd2_self], h3', by simp only [atP]; exact hg⟩
    · cases p with
      | nil => simp [atP] at e'
      | cons a b => exact ⟨n', sz', h', by simp only [atP, upd2_self]; exact e', h0, by simp only [atP, hg]; exact e0⟩
end Go.Fw
namespace Go.Fw
variable [Tok]
def Free (c : Cx) (gh : Gh) (ar : ArT) (bx : BxT) (w : World) (F : Cells) : Prop :=
 ∀ x y, F x y → (∀ r, live ar bx r → ¬ fp gh bx r x y) ∧ x < w.heap.size ∧ (x < c.w0.heap.size → c.M x y)
theorem Free.none {c : Cx} {gh : Gh} {ar : ArT} {bx : BxT} {w : World} : Free c gh ar bx w (fun _ _ => False) := fun _ _ h => h.elim
theorem Free.mono {c : Cx} {gh : Gh} {ar : ArT} {bx : BxT} {w : World} {F G : Cells} (h : Free c gh ar bx w F) (hg : ∀ x y, G x y → F x y) : Free c gh ar bx w G := fun x y hx => h x y (hg x y hx)
theorem notOwn_iff {x : AV} : x.notOwn = true ↔ ∀ n sz g, x ≠ .own n sz g := by
 cases x <;> simp [AV.notOwn]
theorem atP_setP {x : AV} (hx : x.notOwn = true) : ∀ (p p2 : List (Nat × Nat)) {g : Nat → Nat → AV} {n sz : Nat} {h : Nat → Nat → AV},
  atP (setP g p x) p2 = .own n sz h → ∃ h0, atP g p2 = .own n sz h0 := by
 intro p
 induction p with
 | nil => intro p2 g n sz h e; exact ⟨h, by simpa [setP] using e⟩
 | cons ij p ih =>
  obtain ⟨i, j⟩ := ij
  intro p2 g n sz h e
  cases p with
  | nil =>
   simp only [setP] at e
   cases p2 with
   | nil => simp [atP] at e
   | cons ij2 p2 =>
    obtain ⟨i2, j2⟩ := ij2
    by_cases he : i2 = i ∧ j2 = j
    · obtain ⟨rfl, rfl⟩ := he
      cases p2 with
      | nil => simp only [atP, upd2_self] at e; exact absurd e (notOwn_iff.1 hx _ _ _)
      | cons a b =>
       simp only [atP, upd2_self] at e
       cases x <;> first | (simp [AV.notOwn] at hx; done) | (simp at e)
    · cases p2 with
      | nil => simp only [atP, upd2_ne _ _ he] at e; exact ⟨h, by simpa [atP] using e⟩
      | cons a b => simp only [atP, upd2_ne _ _ he] at e ⊢; exact ⟨h, e⟩
  | cons a b =>
   simp only [setP] at e
   cases p2 with
   | nil => simp [atP] at e
   | cons ij2 p2 =>
    obtain ⟨i2, j2⟩ := ij2
    by_cases he : i2 = i ∧ j2 = j
    · obtain ⟨rfl, rfl⟩ := he
      cases p2 with
      | nil =>
       simp only [atP, upd2_self] at e ⊢
       cases hg : g i2 j2 with
       | own n1 sz1 h1 => rw [hg] at e; simp only at e; obtain ⟨rfl, rfl, rfl⟩ : n1 = n ∧ sz1 = sz ∧ _ = h := by simpa using e
                          exact ⟨_, rfl⟩
       | _ => rw [hg] at e; simp at e
      | cons a2 b2 =>
       simp only [atP, upd2_self] at e ⊢
       cases hg : g i2 j2 with
       | own n1 sz1 h1 => rw [hg] at e; simp only at e ⊢; exact ih _ e
       | _ => rw [hg] at e; simp at e
    · cases p2 with
      | nil => simp only [atP, upd2_ne _ _ he] at e; exact ⟨h, by simpa [atP] using e⟩
      | cons a2 b2 => simp only [atP, upd2_ne _ _ he] at e ⊢; exact ⟨h, e⟩
theorem pathV_setP {w : World} {x : AV} (hx : x.notOwn = true) : ∀ (p p2 : List (Nat × Nat)) {A : Option Addr} {n sz : Nat} {g : Nat → Nat → AV} {v : Value},
  pathV w A n sz g p2 v → pathV w A n sz (setP g p x) p2 v := by
 intro p
 induction p with
 | nil => intro p2 A n sz g v h; simpa [setP] using h
 | cons ij p ih =>
  obtain ⟨i, j⟩ := ij
  intro p2 A n sz g v h
  cases p2 with
  | nil => exact h.elim
  | cons ij2 p2 =>
   obtain ⟨i2, j2⟩ := ij2
   cases p2 with
   | nil => exact h
   | cons a2 b2 =>
    obtain ⟨hi, hj, ad, rfl, u, hc, hm⟩ := h
    refine ⟨hi, hj, ad, rfl, u, hc, ?_⟩
    cases p with
    | nil =>
     simp only [setP]
     by_cases he : i2 = i ∧ j2 = j
     · obtain ⟨rfl, rfl⟩ := he
       rw [upd2_self]
       cases x <;> first | trivial | (simp [AV.notOwn] at hx)
     · rw [upd2_ne _ _ he]; exact hm
    | cons a b =>
     simp only [setP]
     by_cases he : i2 = i ∧ j2 = j
     · obtain ⟨rfl, rfl⟩ := he
       rw [upd2_self]
       cases hg : g i2 j2 with
       | own n1 sz1 h1 =>
        rw [hg] at hm
        obtain ⟨A1, cap, rfl, hp⟩ := hm
        exact ⟨A1, cap, rfl, ih _ hp⟩
       | _ => trivial
     · rw [upd2_ne _ _ he]; exact hm
theorem placeV_setP {w : World} {x : AV} (hx : x.notOwn = true) (p p2 : List (Nat × Nat)) {A : Option Addr} {n sz : Nat} {g : Nat → Nat → AV} {i j : Nat} {v : Value}
  (h : placeV w A n sz g p2 i j v) : placeV w A n sz (setP g p x) p2 i j v := by
 cases p2 with
 | nil => exact h
 | cons a b =>
  intro n' sz' h' e
  obtain ⟨h0, e0⟩ := atP_setP hx p _ e
  obtain ⟨hi, hj, ad, cap, hp, hv⟩ := h n' sz' h0 e0
  exact ⟨hi, hj, ad, cap, pathV_setP hx p _ hp, hv⟩
theorem TR_setP {sh : AV → Value → Prop} {gh : Gh} {fa' : Nat → Cells} {ar : ArT} {bx : BxT} {w : World} {id : Nat} {A : Arr} {y : AV} (hy : y.notOwn = true) (p : List (Nat × Nat)) (e : ar id = some A) (x : AV) :
  ∀ {v : Value}, TR sh gh ar bx w x v → TR sh ⟨gh.hd, fa', gh.ba⟩ (upd ar id (some ⟨A.n, A.sz, setP A.g p y⟩)) bx w x v := by
 have key : ∀ k B, upd ar id (some ⟨A.n, A.sz, setP A.g p y⟩) k = some B → (k = id ∧ B = ⟨A.n, A.sz, setP A.g p y⟩) ∨ (ar k = some B) := fun k B hk => by
  by_cases ek : k = id
  · subst ek; rw [upd_self] at hk; exact .inl ⟨rfl, by simpa using hk.symm⟩
  · rw [upd_ne _ _ ek] at hk; exact .inr hk
 induction x with
 | rf k =>
  intro v h B hB
  rcases key k B hB with ⟨rfl, rfl⟩ | hB
  · exact h A e
  · exact h B hB
 | rs k a m =>
  intro v h B hB
  rcases key k B hB with ⟨rfl, rfl⟩ | hB
  · exact h A e
  · exact h B hB
 | rn k p2 =>
  intro v h B n sz g hB hat
  rcases key k B hB with ⟨rfl, rfl⟩ | hB
  · obtain ⟨h0, e0⟩ := atP_setP hy p p2 hat
    exact pathV_setP hy p p2 (h A n sz h0 e e0)
  · exact h B n sz g hB hat
 | pe k p2 i j =>
  intro v h B hB
  rcases key k B hB with ⟨rfl, rfl⟩ | hB
  · exact placeV_setP hy p p2 (h A e)
  · exact h B hB
 | ag sz g ih => rintro v ⟨vs, rfl, hs, hv⟩; exact ⟨vs, rfl, hs, fun j hj => ⟨(hv j hj).1, ih j (hv j hj).2⟩⟩
 | tup sz g ih => rintro v ⟨vs, rfl, hs, hv⟩; exact ⟨vs, rfl, hs, fun j hj => ih j (hv j hj)⟩
 | clo f sz g ih => rintro v ⟨vs, rfl, hs, hv⟩; exact ⟨vs, rfl, hs, fun j hj => ih j (hv j hj)⟩
 | _ => intro v h; exact h
def Holds (c : Cx) (gh gh' : Gh) (st st' : St) (w : World) : Prop := ∀ (x : AV) (v : Value), TR c.sh gh st.ar st.bx w x v → TR c.sh gh' st'.ar st'.bx w x v
theorem Holds.refl {c : Cx} {gh : Gh} {st : St} {w : World} : Holds c gh gh st st w := fun _ _ h => h
theorem Holds.trans {c : Cx} {gh gh' gh'' : Gh} {st st' st'' : St} {w : World} (h : Holds c gh gh' st st' w) (h' : Holds c gh' gh'' st' st'' w) : Holds c gh gh'' st st'' w := fun x v t => h' x v (h x v t)
structure Took (c : Cx) (gh gh' : Gh) (nt : Nat) (st st' : St) (a : Act) (w : World) (FL : Cells) (y : AV) (v : Value) (F : Cells) : Prop where
 inv : Inv c gh' nt st' a w
 own : RO w c.sh y v F
 free : Free c gh' st'.ar st'.bx w (fun b o => FL b o ∨ F b o)
 apart : ∀ b o, F b o → ¬ FL b o
 holds : Holds c gh gh' st st' w
 ba : gh'.ba = gh.ba
 bx : st'.bx = st.bx
 hd : gh'.hd = gh.hd
theorem Took.same {c : Cx} {gh : Gh} {nt : Nat} {st : St} {a : Act} {w : World} {FL : Cells} {y : AV} {v : Value} (h : Inv c gh nt st a w) (hFL : Free c gh st.ar st.bx w FL)
  (hy : RO w c.sh y v (fun _ _ => False)) : Took c gh gh nt st st a w FL y v (fun _ _ => False) :=
 ⟨h, hy, hFL.mono fun x y hx => hx.elim id False.elim, fun _ _ h => h.elim, .refl, rfl, rfl, rfl⟩
theorem Inv.setA_none {c : Cx} {gh : Gh} {nt : Nat} {st : St} {a : Act} {w : World} (id : Nat) (h : Inv c gh nt st a w) : Inv c gh nt (st.setA id none) a w :=
 h.drop (fun k A e => by
  by_cases ek : k = id
  · subst ek; rw [upd_self] at e; simp at e
  · rw [upd_ne _ _ ek] at e; exact e) (fun _ B e => ⟨B.2, e, fun _ _ => rfl⟩)
theorem live_none {st : St} {id : Nat} {r : Nat ⊕ Nat} (h : live (st.setA id none).ar (st.setA id none).bx r) : live st.ar st.bx r ∧ r ≠ .inl id := by
 rcases r with k | b
 · have h' : (upd st.ar id none k).isSome := h
   by_cases ek : k = id
   · subst ek; rw [upd_self] at h'; simp at h'
   · rw [upd_ne _ _ ek] at h'; exact ⟨h', fun e => ek (by simpa using e)⟩
 · exact ⟨h, by simp⟩
theorem holds_none {c : Cx} {gh : Gh} {st : St} {w : World} (id : Nat) : Holds c gh gh st (st.setA id none) w := fun x v t =>
 TR_weaken (fun k A e => by
  by_cases ek : k = id
  · subst ek; have e' : upd st.ar k none k = some A := e; rw [upd_self] at e'; simp at e'
  · have e' : upd st.ar id none k = some A := e; rw [upd_ne _ _ ek] at e'; exact e') (fun b B e => ⟨B, e⟩) x t
theorem takeRow {c : Cx} {gh : Gh} {nt : Nat} {st : St} {a : Act} {w : World} {FL : Cells} {id : Nat} {A : Arr} {y : AV} {v : Value} (h : Inv c gh nt st a w) (hFL : Free c gh st.ar st.bx w FL)
  (e : st.ar id = some A) (hy : RO w c.sh y v (gh.fa id)) : Took c gh gh nt st (st.setA id none) a w FL y v (gh.fa id) := by
 have hl : live st.ar st.bx (.inl id) := by simp [live, e]
 refine ⟨h.setA_none id, hy, fun x y hx => ?_, fun b o hb hfl => (hFL b o hfl).1 (.inl id) hl hb, holds_none id, rfl, rfl, rfl⟩
 rcases hx with hx | hx
 · exact ⟨fun r hr hf => (hFL x y hx).1 r (live_none hr).1 (by cases r <;> exact hf), (hFL x y hx).2⟩
 · exact ⟨fun r hr hf => h.mem.disj r (.inl id) x y (live_none hr).2 (live_none hr).1 hl (by cases r <;> exact hf) hx, h.mem.mine (.inl id) x y hl hx⟩
theorem path_place {w : World} {q : Nat × Nat} {n sz : Nat} {g : Nat → Nat → AV} {v : Value} : ∀ (p0 : List (Nat × Nat)) {A0 : Option Addr} {N0 S0 : Nat} {G0 : Nat → Nat → AV}, atP G0 (p0 ++ [q]) = .own n sz g → pathV w A0 N0 S0 G0 (p0 ++ [q]) v →
  ∃ ad : Addr, placeV w A0 N0 S0 G0 p0 q.1 q.2 (.pointer (some ad)) ∧ (p0 = [] ∨ ∃ n' sz' h, atP G0 p0 = .own n' sz' h) ∧ cellAt w ad.block ad.off = some v := by
 intro p0
 induction p0 with
 | nil =>
  intro A0 N0 S0 G0 hat hpv
  obtain ⟨hi, hj, ad, rfl, hc⟩ := hpv
  exact ⟨_, ⟨hi, hj, ad, rfl, rfl⟩, .inl rfl, hc⟩
 | cons ij p0 ih =>
  obtain ⟨i, j⟩ := ij
  intro A0 N0 S0 G0 hat hpv
  have hpv' : pathV w A0 N0 S0 G0 ((i, j) :: (p0 ++ [q])) v := hpv
  have hat' : atP G0 ((i, j) :: (p0 ++ [q])) = .own n sz g := hat
  obtain ⟨q1, q2, hq⟩ : ∃ q1 q2, p0 ++ [q] = q1 :: q2 := by cases p0 with
   | nil => exact ⟨_, _, rfl⟩
   | cons a b => exact ⟨_, _, rfl⟩
  rw [hq] at hpv' hat'
  obtain ⟨hi, hj, ad, rfl, u, hc, hm⟩ := hpv'
  simp only [atP] at hat'
  cases hg : G0 i j with
  | own n3 sz3 h3 =>
   rw [hg] at hm hat'
   simp only at hm hat'
   obtain ⟨A3, cap3, rfl, hpv3⟩ := hm
   rw [← hq] at hpv3 hat'
   obtain ⟨ad', hpl, hat0, hcell⟩ := ih hat' hpv3
   refine ⟨ad', place_up hg hi hj hc hpl, ?_, hcell⟩
   cases p0 with
   | nil => exact .inr ⟨n3, sz3, h3, by simp only [atP]; exact hg⟩
   | cons a b =>
    rcases hat0 with hat0 | ⟨n', sz', h', e'⟩
    · simp at hat0
    · exact .inr ⟨n', sz', h', by simp only [atP, hg]; exact e'⟩
  | _ => rw [hg] at hat'; simp at hat'
theorem takeC_sound {c : Cx} {gh : Gh} {nt : Nat} {st st' : St} {a : Act} {w : World} {FL : Cells} {x y : AV} {v : Value} (h : Inv c gh nt st a w) (hFL : Free c gh st.ar st.bx w FL)
  (hx : TR c.sh gh st.ar st.bx w x v) (e : st.takeC x = some (y, st')) : ∃ gh' F, Took c gh gh' nt st st' a w FL y v F := by
 cases x with
 | rf id =>
  simp only [St.takeC, Option.map_eq_some_iff, Prod.mk.injEq] at e
  obtain ⟨A, hA, rfl, rfl⟩ := e
  exact ⟨gh, _, takeRow h hFL hA (by rw [hx A hA]; exact h.mem.rows id A hA)⟩
 | rs id p m =>
  simp only [St.takeC, Option.map_eq_some_iff, Prod.mk.injEq] at e
  obtain ⟨A, hA, rfl, rfl⟩ := e
  obtain ⟨h1, A', rfl, h2⟩ := hx A hA
  exact ⟨gh, _, takeRow h hFL hA (RO_cut (h.mem.rows id A hA) h1 h2)⟩
 | rn id p =>
  simp only [St.takeC] at e
  cases hA : st.ar id with
  | none => rw [hA] at e; simp at e
  | some A =>
   rw [hA] at e
   simp only at e
   cases hat : atP A.g p with
   | own n sz g =>
    rw [hat] at e
    simp only [Option.some.injEq, Prod.mk.injEq] at e
    obtain ⟨rfl, rfl⟩ := e
    have hrow := h.mem.rows id A hA
    have hpv := hx A n sz g hA hat
    have hl : live st.ar st.bx (.inl id) := by simp [live, hA]
    obtain ⟨p0, q, rfl⟩ : ∃ p0 q, p = p0 ++ [q] := by
     cases hp : p.reverse with
     | nil => have : p = [] := by simpa using hp
              subst this; exact hpv.elim
     | cons q r => exact ⟨r.reverse, q, by rw [← List.reverse_reverse p, hp]; simp⟩
    obtain ⟨ad, hplace, hat0, hcell⟩ : ∃ ad : Addr, placeV w (gh.hd id).1 A.n A.sz A.g p0 q.1 q.2 (.pointer (some ad)) ∧ (p0 = [] ∨ ∃ n' sz' h, atP A.g p0 = .own n' sz' h) ∧ cellAt w ad.block ad.off = some v :=
     path_place p0 hat hpv
    obtain ⟨hinF, ⟨X, ⟨hZ, _⟩, hX, hro⟩, _⟩ := RO_setP (w' := w) (D := fun _ _ => False) (F' := fun _ _ => False) (x := .bad) (Z := fun X => RO w c.sh (.own n sz g) v X ∧ True) p0 hrow hplace hat0
     (fun _ _ _ _ => ⟨rfl, rfl⟩) (fun _ _ h => h.elim) (fun Fij _ hfz ⟨u, hu, hr⟩ => by
      rw [hcell] at hu
      obtain rfl : v = u := by simpa using hu
      rw [hat] at hr
      exact ⟨Fij, fun _ _ => False, v, fun _ _ h => h, fun _ _ h => h.elim, hcell, hfz, by obtain ⟨_, _, rfl, _⟩ := hr; rfl, trivial, hr, trivial⟩) (fun _ _ h => h.elim)
    have hro' : RO w c.sh (.own A.n A.sz (setP A.g (p0 ++ [q]) .bad)) (.slice (gh.hd id).1 A.n (gh.hd id).2) (fun b o => gh.fa id b o ∧ ¬ X b o) := RO_mono _ (fun b o hb => hb.elim (fun h => h) False.elim) hro
    refine ⟨⟨gh.hd, upd gh.fa id (fun b o => gh.fa id b o ∧ ¬ X b o), gh.ba⟩, X, ?_⟩
    have hT : Holds c gh ⟨gh.hd, upd gh.fa id (fun b o => gh.fa id b o ∧ ¬ X b o), gh.ba⟩ st (st.setA id (some ⟨A.n, A.sz, setP A.g (p0 ++ [q]) .bad⟩)) w := fun x v t => TR_setP (by rfl) _ hA x t
    have hlv : ∀ r, live (st.setA id (some ⟨A.n, A.sz, setP A.g (p0 ++ [q]) .bad⟩)).ar (st.setA id (some ⟨A.n, A.sz, setP A.g (p0 ++ [q]) .bad⟩)).bx r → live st.ar st.bx r := by
     rintro (k | b) hr
     · by_cases ek : k = id
       · subst ek; exact hl
       · have : upd st.ar id (some ⟨A.n, A.sz, setP A.g (p0 ++ [q]) .bad⟩) k = st.ar k := upd_ne _ _ ek
         have hr' : (upd st.ar id (some ⟨A.n, A.sz, setP A.g (p0 ++ [q]) .bad⟩) k).isSome := hr
         rw [this] at hr'; exact hr'
     · exact hr
    have hfp : ∀ r x y, fp ⟨gh.hd, upd gh.fa id (fun b o => gh.fa id b o ∧ ¬ X b o), gh.ba⟩ (st.setA id (some ⟨A.n, A.sz, setP A.g (p0 ++ [q]) .bad⟩)).bx r x y → fp gh st.bx r x y ∧ ¬ (r = .inl id ∧ X x y) := by
     rintro (k | b) x y hf
     · by_cases ek : k = id
       · subst ek
         have hf' : upd gh.fa k (fun b o => gh.fa k b o ∧ ¬ X b o) k x y := hf
         rw [upd_self] at hf'; exact ⟨hf'.1, fun h => hf'.2 h.2⟩
       · have hf' : upd gh.fa id (fun b o => gh.fa id b o ∧ ¬ X b o) k x y := hf
         rw [upd_ne _ _ ek] at hf'; exact ⟨hf', fun h => ek (by simpa using h.1)⟩
     · exact ⟨hf, fun h => by simp at h⟩
    refine ⟨⟨h.defers, h.size, fun t => hT _ _ (h.temps t), ?_, ⟨h.fix.hd, h.fix.ba, (h.fix.weaken (ar' := upd st.ar id (some ⟨A.n, A.sz, setP A.g (p0 ++ [q]) .bad⟩)) (fun k B e => by
     by_cases ek : k = id
     · subst ek; rw [upd_self] at e; obtain rfl := Option.some.inj e; exact ⟨A, hA, rfl, rfl⟩
     · rw [upd_ne _ _ ek] at e; exact ⟨B, e, rfl, rfl⟩) (fun b B e => ⟨B, e, rfl⟩)).n, h.fix.z⟩⟩, hZ, fun x y hx => ?_, fun b o hb hfl => (hFL b o hfl).1 (.inl id) hl (hX b o hb), hT, rfl, rfl, rfl⟩
    · refine h.mem.gen (D := fun _ _ => False) (G := fun _ _ => False) (· = .inl id) (Chg.refl w _) (fun _ _ h => h.elim) (fun _ _ h => h.elim) ?_ ?_ ?_ ?_ ?_ ?_
      · intro k B hk e
        have ek : k ≠ id := fun e => hk (by rw [e])
        have e' : upd st.ar id (some ⟨A.n, A.sz, setP A.g (p0 ++ [q]) .bad⟩) k = some B := e
        rw [upd_ne _ _ ek] at e'
        exact ⟨e', rfl, upd_ne _ _ ek⟩
      · intro b sz g _ e
        exact ⟨g, e, rfl, fun o _ v _ t => hT _ _ t⟩
      · intro k B hk e
        obtain rfl : k = id := by simpa using hk
        have e' : upd st.ar k (some ⟨A.n, A.sz, setP A.g (p0 ++ [q]) .bad⟩) k = some B := e
        rw [upd_self] at e'
        obtain rfl := Option.some.inj e'
        simp only [upd_self]; exact hro'
      · intro b sz g hk; simp at hk
      · rintro r x y rfl hlr hf
        exact .inl ⟨_, rfl, hl, (hfp _ x y hf).1⟩
      · rintro r r' x y rfl rfl hn; exact absurd rfl hn
    · rcases hx with hx | hx
      · exact ⟨fun r hr hf => (hFL x y hx).1 r (hlv r hr) (hfp r x y hf).1, (hFL x y hx).2⟩
      · refine ⟨fun r hr hf => ?_, h.mem.mine (.inl id) x y hl (hX x y hx)⟩
        by_cases er : r = .inl id
        · exact (hfp r x y hf).2 ⟨er, hx⟩
        · exact h.mem.disj r (.inl id) x y er (hlv r hr) hl (hfp r x y hf).1 (hX x y hx)
   | _ => rw [hat] at e; simp at e
 | nsl sz g =>
  simp only [St.takeC] at e
  cases hs : Nat.blt 0 sz with
  | false => rw [hs] at e; simp at e
  | true =>
   rw [hs] at e
   simp only [cond_true, Option.some.injEq, Prod.mk.injEq] at e
   obtain ⟨rfl, rfl⟩ := e
   have hs' : 0 < sz := Nat.le_of_ble_eq_true hs
   exact ⟨gh, _, Took.same h hFL ⟨none, 0, hx, Nat.le_refl _, hs', .inl rfl⟩⟩
 | sln n sz g =>
  simp only [St.takeC, Option.some.injEq, Prod.mk.injEq] at e
  obtain ⟨rfl, rfl⟩ := e
  obtain ⟨x, cap, rfl, h1, h2⟩ := hx
  exact ⟨gh, _, Took.same h hFL ⟨_, _, rfl, ⟨h1, fun h => by simp at h⟩, h2⟩⟩
 | sl n sz g => simp only [St.takeC, Option.some.injEq, Prod.mk.injEq] at e; obtain ⟨rfl, rfl⟩ := e; exact ⟨gh, _, Took.same h hFL hx⟩
 | I k n => simp only [St.takeC, Option.some.injEq, Prod.mk.injEq] at e; obtain ⟨rfl, rfl⟩ := e; exact ⟨gh, _, Took.same h hFL hx⟩
 | B k => simp only [St.takeC, Option.some.injEq, Prod.mk.injEq] at e; obtain ⟨rfl, rfl⟩ := e; exact ⟨gh, _, Took.same h hFL hx⟩
 | S k => simp only [St.takeC, Option.some.injEq, Prod.mk.injEq] at e; obtain ⟨rfl, rfl⟩ := e; exact ⟨gh, _, Took.same h hFL hx⟩
 | nlp => simp only [St.takeC, Option.some.injEq, Prod.mk.injEq] at e; obtain ⟨rfl, rfl⟩ := e; exact ⟨gh, _, Took.same h hFL hx⟩
 | gv bs => simp only [St.takeC, Option.some.injEq, Prod.mk.injEq] at e; obtain ⟨rfl, rfl⟩ := e; exact ⟨gh, _, Took.same h hFL hx⟩
 | _ => simp [St.takeC] at e
end Go.Fw
namespace Go.Fw
variable [Tok]
def Par (w : World) (sh : AV → Value → Prop) (n : Nat) (g : Nat → AV) (vs : Nat → Value) (F : Cells) : Prop :=
 ∃ Fs : Nat → Cells, (∀ j b o, j < n → Fs j b o → F b o) ∧ (∀ j k b o, j < n → k < n → j ≠ k → Fs j b o → ¬ Fs k b o) ∧ ∀ j, j < n → RO w sh (g j) (vs j) (Fs j)
theorem Par.mono {w : World} {sh : AV → Value → Prop} {n : Nat} {g : Nat → AV} {vs : Nat → Value} {F G : Cells} (h : Par w sh n g vs F) (hg : ∀ b o, F b o → G b o) : Par w sh n g vs G := by
 obtain ⟨Fs, h1, h2, h3⟩ := h
 exact ⟨Fs, fun j b o hj hb => hg b o (h1 j b o hj hb), h2, h3⟩
theorem Par.congr {w w' : World} {sh : AV → Value → Prop} {n : Nat} {g : Nat → AV} {vs : Nat → Value} {F : Cells} (h : Par w sh n g vs F) (ha : Agree w w' F) : Par w' sh n g vs F := by
 obtain ⟨Fs, h1, h2, h3⟩ := h
 exact ⟨Fs, h1, h2, fun j hj => RO_congr _ (ha.mono fun b o hb => h1 j b o hj hb) (h3 j hj)⟩
theorem Par.ext {w : World} {sh : AV → Value → Prop} {n : Nat} {g g' : Nat → AV} {vs vs' : Nat → Value} {F : Cells} (h : Par w sh n g vs F) (hg : ∀ j, j < n → g' j = g j) (hv : ∀ j, j < n → vs' j = vs j) : Par w sh n g' vs' F := by
 obtain ⟨Fs, h1, h2, h3⟩ := h
 exact ⟨Fs, h1, h2, fun j hj => by rw [hg j hj, hv j hj]; exact h3 j hj⟩
structure TookL (c : Cx) (gh gh' : Gh) (nt : Nat) (st st' : St) (a : Act) (w : World) (FL F : Cells) : Prop where
 inv : Inv c gh' nt st' a w
 free : Free c gh' st'.ar st'.bx w (fun b o => FL b o ∨ F b o)
 apart : ∀ b o, F b o → ¬ FL b o
 holds : Holds c gh gh' st st' w
 ba : gh'.ba = gh.ba
 bx : st'.bx = st.bx
 hd : gh'.hd = gh.hd
omit [Tok] in
theorem lstG_zero (x : AV) (l : List AV) : lstG (x :: l) 0 = x := by simp [lstG]
omit [Tok] in
theorem lstG_succ (x : AV) (l : List AV) (j : Nat) : lstG (x :: l) (j + 1) = lstG l j := by simp [lstG]
theorem takeL_sound {c : Cx} {nt : Nat} {a : Act} {w : World} {g : Nat → AV} {vs : Nat → Value} : ∀ (js : List Nat) {gh : Gh} {st st' : St} {FL : Cells} {l : List AV},
  Inv c gh nt st a w → Free c gh st.ar st.bx w FL → (∀ j, j ∈ js → TR c.sh gh st.ar st.bx w (g j) (vs j)) → st.takeL g js = some (l, st') →
  l.length = js.length ∧ ∃ gh' F, TookL c gh gh' nt st st' a w FL F ∧ Par w c.sh l.length (lstG l) (fun k => vs (js.getD k 0)) F := by
 intro js
 induction js with
 | nil =>
  intro gh st st' FL l h hFL hv e
  simp only [St.takeL, Option.some.injEq, Prod.mk.injEq] at e
  obtain ⟨rfl, rfl⟩ := e
  exact ⟨rfl, gh, fun _ _ => False, ⟨h, hFL.mono fun x y hx => hx.elim id False.elim, fun _ _ h => h.elim, .refl, rfl, rfl, rfl⟩,
   fun _ _ _ => False, fun _ _ _ hj _ => absurd hj (by simp), fun _ _ _ _ hj => absurd hj (by simp), fun _ hj => absurd hj (by simp)⟩
 | cons j js ih =>
  intro gh st st' FL l h hFL hv e
  simp only [St.takeL] at e
  cases e1 : st.takeC (g j) with
  | none => rw [e1] at e; simp at e
  | some r =>
   obtain ⟨y, st1⟩ := r
   rw [e1] at e
   simp only at e
   cases e2 : St.takeL st1 g js with
   | none => rw [e2] at e; simp at e
   | some r2 =>
    obtain ⟨ys, st2⟩ := r2
    rw [e2] at e
    simp only [Option.some.injEq, Prod.mk.injEq] at e
    obtain ⟨rfl, rfl⟩ := e
    obtain ⟨gh1, F1, t1⟩ := takeC_sound h hFL (hv j (by simp)) e1
    obtain ⟨hlen, gh2, F2, t2, Fs, hs1, hs2, hs3⟩ := ih t1.inv t1.free (fun k hk => t1.holds _ _ (hv k (by simp [hk]))) e2
    refine ⟨by simp [hlen], gh2, fun b o => F1 b o ∨ F2 b o, ⟨t2.inv, t2.free.mono fun x y hx => ?_, fun b o hb => ?_, t1.holds.trans t2.holds, t2.ba.trans t1.ba, t2.bx.trans t1.bx, t2.hd.trans t1.hd⟩, ?_⟩
    · rcases hx with hx | hx | hx
      · exact .inl (.inl hx)
      · exact .inl (.inr hx)
      · exact .inr hx
    · rcases hb with hb | hb
      · exact t1.apart b o hb
      · exact fun hfl => t2.apart b o hb (.inl hfl)
    · refine ⟨fun k => match k with | 0 => F1 | k + 1 => Fs k, fun k b o hk hb => ?_, fun k m b o hk hm hn hb hb' => ?_, fun k hk => ?_⟩
      · cases k with
        | zero => exact .inl hb
        | succ k => exact .inr (hs1 k b o (by simpa using hk) hb)
      · cases k with
        | zero =>
         cases m with
         | zero => exact hn rfl
         | succ m => exact t2.apart b o (hs1 m b o (by simpa using hm) hb') (.inr hb)
        | succ k =>
         cases m with
         | zero => exact t2.apart b o (hs1 k b o (by simpa using hk) hb) (.inr hb')
         | succ m => exact hs2 k m b o (by simpa using hk) (by simpa using hm) (by omega) hb hb'
      · cases k with
        | zero => simp only [lstG_zero]; simpa using t1.own
        | succ k => simp only [lstG_succ]; simpa using hs3 k (by simpa using hk)
theorem takeR_range {c : Cx} {nt : Nat} {a : Act} {w : World} {g : Nat → AV} {vs : Nat → Value} (n : Nat) {gh : Gh} {st st' : St} {FL : Cells} {l : List AV}
  (h : Inv c gh nt st a w) (hFL : Free c gh st.ar st.bx w FL) (hv : ∀ j, j < n → TR c.sh gh st.ar st.bx w (g j) (vs j)) (e : st.takeL g (List.range n) = some (l, st')) :
  l.length = n ∧ ∃ gh' F, TookL c gh gh' nt st st' a w FL F ∧ Par w c.sh n (lstG l) vs F := by
 obtain ⟨hl, gh', F, t, hp⟩ := takeL_sound (List.range n) h hFL (fun j hj => hv j (by simpa using hj)) e
 have hl' : l.length = n := by simpa using hl
 refine ⟨hl', gh', F, t, ?_⟩
 rw [hl'] at hp
 exact hp.ext (fun _ _ => rfl) (fun j hj => by simp [List.getD_eq_getElem?_getD, hj])
def RV (w : World) (sh : AV → Value → Prop) (x : AV) (v : Value) (F : Cells) : Prop :=
 match x with
 | .ag sz g => ∃ vs, v = .agg vs ∧ vs.size = sz ∧ (∀ j, j < sz → (vs.getD j undef).oneCell' = true) ∧ Par w sh sz g (fun j => vs.getD j undef) F
 | .nbx sz g => ∃ ad : Addr, v = .pointer (some ad) ∧ ad.spot = none ∧ (∀ b o, In ad sz b o → F b o) ∧
   ∃ vs : Nat → Value, (∀ j, j < sz → cellAt w ad.block (ad.off + j) = some (vs j) ∧ frozAt w ad.block (ad.off + j) = false ∧ (vs j).oneCell' = true) ∧ Par w sh sz g vs (fun b o => F b o ∧ ¬ In ad sz b o)
 | x => RO w sh x v F
def RR (w : World) (sh : AV → Value → Prop) (x : AV) (v : Value) (F : Cells) : Prop :=
 match x with
 | .tup n g => ∃ vs, v = .tuple vs ∧ vs.size = n ∧ ∃ Fs : Nat → Cells, (∀ j b o, j < n → Fs j b o → F b o) ∧ (∀ j k b o, j < n → k < n → j ≠ k → Fs j b o → ¬ Fs k b o) ∧
   ∀ j, j < n → RV w sh (g j) (vs.getD j undef) (Fs j)
 | x => RV w sh x v F
theorem RV.of_RO {w : World} {sh : AV → Value → Prop} {x : AV} {v : Value} {F : Cells} (h : RO w sh x v F) (h1 : ∀ sz g, x ≠ .ag sz g) (h2 : ∀ sz g, x ≠ .nbx sz g) : RV w sh x v F := by
 cases x <;> first | exact h | exact absurd rfl (h1 _ _) | exact absurd rfl (h2 _ _)
structure TookV (c : Cx) (gh gh' : Gh) (nt : Nat) (st st' : St) (a : Act) (w : World) (FL F : Cells) : Prop where
 inv : Inv c gh' nt st' a w
 free : Free c gh' st'.ar st'.bx w (fun b o => FL b o ∨ F b o)
 apart : ∀ b o, F b o → ¬ FL b o
 holds : Holds c gh gh' st st' w
 ba : gh'.ba = gh.ba
 hd : gh'.hd = gh.hd
theorem TookL.v {c : Cx} {gh gh' : Gh} {nt : Nat} {st st' : St} {a : Act} {w : World} {FL F : Cells} (h : TookL c gh gh' nt st st' a w FL F) : TookV c gh gh' nt st st' a w FL F := ⟨h.inv, h.free, h.apart, h.holds, h.ba, h.hd⟩
theorem Inv.setB_none {c : Cx} {gh : Gh} {nt : Nat} {st : St} {a : Act} {w : World} (b : Nat) (h : Inv c gh nt st a w) : Inv c gh nt (st.setB b none) a w :=
 h.drop (fun _ _ e => e) (fun k A e => by
  by_cases ek : k = b
  · subst ek; rw [upd_self] at e; simp at e
  · rw [upd_ne _ _ ek] at e; exact ⟨A.2, e, fun _ _ => rfl⟩)
theorem holds_noneB {c : Cx} {gh : Gh} {st : St} {w : World} (b : Nat) : Holds c gh gh st (st.setB b none) w := fun x v t =>
 TR_weaken (fun _ _ e => e) (fun k B e => by
  by_cases ek : k = b
  · subst ek; have e' : upd st.bx k none k = some B := e; rw [upd_self] at e'; simp at e'
  · have e' : upd st.bx b none k = some B := e; rw [upd_ne _ _ ek] at e'; exact ⟨B, e'⟩) x t
theorem live_noneB {st : St} {gh : Gh} {b : Nat} {r : Nat ⊕ Nat} {x y : Nat} (h : live (st.setB b none).ar (st.setB b none).bx r) (hf : fp gh (st.setB b none).bx r x y) : live st.ar st.bx r ∧ r ≠ .inr b ∧ fp gh st.bx r x y := by
 rcases r with k | k
 · exact ⟨h, by simp, hf⟩
 · obtain ⟨B, e, hin⟩ := hf
   have e' : upd st.bx b none k = some B := e
   by_cases ek : k = b
   · subst ek; rw [upd_self] at e'; simp at e'
   · rw [upd_ne _ _ ek] at e'
     exact ⟨by simp [live, e'], fun e2 => ek (by simpa using e2), B, e', hin⟩
theorem takeA_sound {c : Cx} {gh : Gh} {nt : Nat} {st st' : St} {a : Act} {w : World} {FL : Cells} {x y : AV} {v : Value} (h : Inv c gh nt st a w) (hFL : Free c gh st.ar st.bx w FL)
  (hx : TR c.sh gh st.ar st.bx w x v) (e : st.takeA x = some (y, st')) : ∃ gh' F, TookV c gh gh' nt st st' a w FL F ∧ RV w c.sh y v F := by
 have base : ∀ {x y : AV} {st' : St}, TR c.sh gh st.ar st.bx w x v → st.takeC x = some (y, st') → (∀ sz g, y ≠ .ag sz g) → (∀ sz g, y ≠ .nbx sz g) → ∃ gh' F, TookV c gh gh' nt st st' a w FL F ∧ RV w c.sh y v F := by
  intro x y st' hx e h1 h2
  obtain ⟨gh', F, t⟩ := takeC_sound h hFL hx e
  exact ⟨gh', F, ⟨t.inv, t.free, t.apart, t.holds, t.ba, t.hd⟩, .of_RO t.own h1 h2⟩
 have hcell : ∀ {x y : AV} {st' : St}, st.takeC x = some (y, st') → (∀ sz g, y ≠ .ag sz g) ∧ (∀ sz g, y ≠ .nbx sz g) := by
  intro x y st' e
  cases x <;> simp only [St.takeC] at e
  case rf id => simp only [Option.map_eq_some_iff, Prod.mk.injEq] at e; obtain ⟨A, _, rfl, _⟩ := e; simp
  case rs id a m => simp only [Option.map_eq_some_iff, Prod.mk.injEq] at e; obtain ⟨A, _, rfl, _⟩ := e; simp
  case rn id p =>
   split at e
   · split at e
     · simp only [Option.some.injEq, Prod.mk.injEq] at e; obtain ⟨rfl, _⟩ := e; simp
     · simp at e
   · simp at e
  case nsl sz g => cases hs : Nat.blt 0 sz <;> rw [hs] at e <;> simp at e; obtain ⟨rfl, _⟩ := e; simp
  all_goals first | (simp at e; done) | (simp only [Option.some.injEq, Prod.mk.injEq] at e; obtain ⟨rfl, _⟩ := e; simp)
 cases x with
 | ag sz g =>
  simp only [St.takeA, Option.map_eq_some_iff, Prod.mk.injEq] at e
  obtain ⟨⟨l, st1⟩, e1, rfl, rfl⟩ := e
  obtain ⟨vs, rfl, hs, hv⟩ := hx
  obtain ⟨hl, gh', F, t, hp⟩ := takeR_range (vs := fun j => vs.getD j undef) sz h hFL (fun j hj => (hv j hj).2) e1
  exact ⟨gh', F, t.v, vs, rfl, hs, fun j hj => (hv j hj).1, hp⟩
 | pb b o =>
  cases o with
  | zero =>
   simp only [St.takeA] at e
   cases hB : st.bx b with
   | none => rw [hB] at e; simp at e
   | some B =>
    obtain ⟨sz, g⟩ := B
    rw [hB] at e
    simp only [Option.map_eq_some_iff, Prod.mk.injEq] at e
    obtain ⟨⟨l, st1⟩, e1, rfl, rfl⟩ := e
    obtain ⟨hsp, hbx⟩ := h.mem.boxes b sz g hB
    have hv : v = .pointer (some ⟨(gh.ba b).block, (gh.ba b).off, none⟩) := hx (sz, g) hB
    let vs : Nat → Value := fun o => (cellAt w (gh.ba b).block ((gh.ba b).off + o)).getD undef
    have hvs : ∀ o, o < sz → cellAt w (gh.ba b).block ((gh.ba b).off + o) = some (vs o) ∧ frozAt w (gh.ba b).block ((gh.ba b).off + o) = false ∧ (vs o).oneCell' = true ∧ TR c.sh gh st.ar st.bx w (g o) (vs o) := fun o ho => by
     obtain ⟨v, h1, h2, h4, h3⟩ := hbx o ho
     have : vs o = v := by simp only [vs, h1]; rfl
     rw [this]; exact ⟨h1, h2, h4, h3⟩
    obtain ⟨hl, gh', F, t, hp⟩ := takeR_range sz h hFL (fun j hj => (hvs j hj).2.2.2) e1
    have hB1 : st1.bx b = some (sz, g) := by rw [t.bx]; exact hB
    have hlv : live st1.ar st1.bx (.inr b) := by simp [live, hB1]
    have hin : ∀ x y, In (gh.ba b) sz x y → fp gh' st1.bx (.inr b) x y := fun x y hxy => ⟨(sz, g), hB1, by rw [t.ba]; exact hxy⟩
    have hdis : ∀ x y, F x y → ¬ In (gh.ba b) sz x y := fun x y hF hi => (t.free x y (.inr hF)).1 _ hlv (hin x y hi)
    refine ⟨gh', fun x y => F x y ∨ In (gh.ba b) sz x y, ⟨t.inv.setB_none b, fun x y hx => ?_, fun x y hx hfl => ?_, t.holds.trans (holds_noneB b), t.ba, t.hd⟩, ?_⟩
    · rcases hx with hx | hx | hx
      · exact ⟨fun r hr hf => (t.free x y (.inl hx)).1 r (live_noneB hr hf).1 (live_noneB hr hf).2.2, (t.free x y (.inl hx)).2⟩
      · exact ⟨fun r hr hf => (t.free x y (.inr hx)).1 r (live_noneB hr hf).1 (live_noneB hr hf).2.2, (t.free x y (.inr hx)).2⟩
      · exact ⟨fun r hr hf => t.inv.mem.disj _ _ x y (live_noneB hr hf).2.1 (live_noneB hr hf).1 hlv (live_noneB hr hf).2.2 (hin x y hx), t.inv.mem.mine _ x y hlv (hin x y hx)⟩
    · rcases hx with hx | hx
      · exact t.apart x y hx hfl
      · exact (t.free x y (.inl hfl)).1 _ hlv (hin x y hx)
    · refine ⟨⟨(gh.ba b).block, (gh.ba b).off, none⟩, hv, rfl, fun x y hx => .inr hx, vs, fun j hj => ⟨(hvs j hj).1, (hvs j hj).2.1, (hvs j hj).2.2.1⟩, hp.mono fun x y hx => ⟨.inl hx, hdis x y hx⟩⟩
  | succ o => simp [St.takeA, St.takeC] at e
 | _ => simp only [St.takeA] at e; exact base hx e (hcell e).1 (hcell e).2
theorem takeT_sound {c : Cx} {nt : Nat} {a : Act} {w : World} {g : Nat → AV} {vs : Nat → Value} : ∀ (js : List Nat) {gh : Gh} {st st' : St} {FL : Cells} {l : List AV},
  Inv c gh nt st a w → Free c gh st.ar st.bx w FL → (∀ j, j ∈ js → TR c.sh gh st.ar st.bx w (g j) (vs j)) → st.takeT g js = some (l, st') →
  l.length = js.length ∧ ∃ gh' F, TookV c gh gh' nt st st' a w FL F ∧
   ∃ Fs : Nat → Cells, (∀ j b o, j < l.length → Fs j b o → F b o) ∧ (∀ j k b o, j < l.length → k < l.length → j ≠ k → Fs j b o → ¬ Fs k b o) ∧ ∀ j, j < l.length → RV w c.sh (lstG l j) (vs (js.getD j 0)) (Fs j) := by
 intro js
 induction js with
 | nil =>
  intro gh st st' FL l h hFL hv e
  simp only [St.takeT, Option.some.injEq, Prod.mk.injEq] at e
  obtain ⟨rfl, rfl⟩ := e
  exact ⟨rfl, gh, fun _ _ => False, ⟨h, hFL.mono fun x y hx => hx.elim id False.elim, fun _ _ h => h.elim, .refl, rfl, rfl⟩,
   fun _ _ _ => False, fun _ _ _ hj _ => absurd hj (by simp), fun _ _ _ _ hj => absurd hj (by simp), fun _ hj => absurd hj (by simp)⟩
 | cons j js ih =>
  intro gh st st' FL l h hFL hv e
  simp only [St.takeT] at e
  cases e1 : st.takeA (g j) with
  | none => rw [e1] at e; simp at e
  | some r =>
   obtain ⟨y, st1⟩ := r
   rw [e1] at e
   simp only at e
   cases e2 : St.takeT st1 g js with
   | none => rw [e2] at e; simp at e
   | some r2 =>
    obtain ⟨ys, st2⟩ := r2
    rw [e2] at e
    simp only [Option.some.injEq, Prod.mk.injEq] at e
    obtain ⟨rfl, rfl⟩ := e
    obtain ⟨gh1, F1, t1, hy⟩ := takeA_sound h hFL (hv j (by simp)) e1
    obtain ⟨hlen, gh2, F2, t2, Fs, hs1, hs2, hs3⟩ := ih t1.inv t1.free (fun k hk => t1.holds _ _ (hv k (by simp [hk]))) e2
    refine ⟨by simp [hlen], gh2, fun b o => F1 b o ∨ F2 b o, ⟨t2.inv, t2.free.mono fun x y hx => ?_, fun b o hb => ?_, t1.holds.trans t2.holds, t2.ba.trans t1.ba, t2.hd.trans t1.hd⟩, ?_⟩
    · rcases hx with hx | hx | hx
      · exact .inl (.inl hx)
      · exact .inl (.inr hx)
      · exact .inr hx
    · rcases hb with hb | hb
      · exact t1.apart b o hb
      · exact fun hfl => t2.apart b o hb (.inl hfl)
    · refine ⟨fun k => match k with | 0 => F1 | k + 1 => Fs k, fun k b o hk hb => ?_, fun k m b o hk hm hn hb hb' => ?_, fun k hk => ?_⟩
      · cases k with
        | zero => exact .inl hb
        | succ k => exact .inr (hs1 k b o (by simpa using hk) hb)
      · cases k with
        | zero =>
         cases m with
         | zero => exact hn rfl
         | succ m => exact t2.apart b o (hs1 m b o (by simpa using hm) hb') (.inr hb)
        | succ k =>
         cases m with
         | zero => exact t2.apart b o (hs1 k b o (by simpa using hk) hb) (.inr hb')
         | succ m => exact hs2 k m b o (by simpa using hk) (by simpa using hm) (by omega) hb hb'
      · cases k with
        | zero => simp only [lstG_zero]; simpa using hy
        | succ k => simp only [lstG_succ]; simpa using hs3 k (by simpa using hk)
theorem takeR_sound {c : Cx} {gh : Gh} {nt : Nat} {st st' : St} {a : Act} {w : World} {FL : Cells} {x y : AV} {v : Value} (h : Inv c gh nt st a w) (hFL : Free c gh st.ar st.bx w FL)
  (hx : TR c.sh gh st.ar st.bx w x v) (e : st.takeR x = some (y, st')) : ∃ gh' F, TookV c gh gh' nt st st' a w FL F ∧ RR w c.sh y v F := by
 have base : ∀ {x y : AV} {st' : St}, TR c.sh gh st.ar st.bx w x v → st.takeA x = some (y, st') → (∀ n g, x ≠ .tup n g) → ∃ gh' F, TookV c gh gh' nt st st' a w FL F ∧ RR w c.sh y v F := by
  intro x y st' hx e hne
  obtain ⟨gh', F, t, hy⟩ := takeA_sound h hFL hx e
  refine ⟨gh', F, t, ?_⟩
  cases y with
  | tup n g => exact hy.elim
  | _ => exact hy
 cases x with
 | tup n g =>
  simp only [St.takeR, Option.map_eq_some_iff, Prod.mk.injEq] at e
  obtain ⟨⟨l, st1⟩, e1, rfl, rfl⟩ := e
  obtain ⟨vs, rfl, hs, hv⟩ := hx
  obtain ⟨hl, gh', F, t, Fs, h1, h2, h3⟩ := takeT_sound (vs := fun j => vs.getD j undef) (List.range n) h hFL (fun j hj => hv j (by simpa using hj)) e1
  have hl' : l.length = n := by simpa using hl
  rw [hl'] at h1 h2 h3
  refine ⟨gh', F, t, vs, rfl, hs, Fs, h1, h2, fun j hj => ?_⟩
  have := h3 j hj
  simpa [List.getD_eq_getElem?_getD, hj] using this
 | _ => simp only [St.takeR] at e; exact base hx e (by simp)
theorem refd_TR {c : Cx} {gh : Gh} {ar : ArT} {bx : BxT} {w : World} {base : Nat} {y : AV} {v : Value} {F : Cells} (h : RO w c.sh y v F) (hn : y.notOwn = true) : TR c.sh gh ar bx w (y.refd base) v := by
 cases y with
 | own n sz g => simp [AV.notOwn] at hn
 | bad => trivial
 | rf _ => exact h.elim
 | rs _ _ _ => exact h.elim
 | rn _ _ => exact h.elim
 | pb _ _ => exact h.elim
 | pe _ _ _ _ => exact h.elim
 | ag _ _ => exact h.elim
 | nbx _ _ => exact h.elim
 | tup _ _ => exact h.elim
 | clo _ _ _ => exact RS_TR _ h
 | _ => exact h
structure Laid (c : Cx) (gh gh' : Gh) (nt : Nat) (st st' : St) (a : Act) (w : World) (FL : Cells) (ids : Nat → Prop) : Prop where
 inv : Inv c gh' nt st' a w
 free : Free c gh' st'.ar st'.bx w FL
 holds : ∀ (x : AV) (v : Value), (∀ id, ids id → x.noA id) → TR c.sh gh st.ar st.bx w x v → TR c.sh gh' st'.ar st'.bx w x v
 ba : gh'.ba = gh.ba
 bxs : ∀ b, (st'.bx b).map (·.1) = (st.bx b).map (·.1)
theorem layC_sound {c : Cx} {gh : Gh} {nt : Nat} {st : St} {a : Act} {w : World} {FL F : Cells} {y : AV} {v : Value} {base : Nat} (hlo : c.lim * 4096 ≤ base) (h : Inv c gh nt st a w)
  (hy : RO w c.sh y v F) (hF : Free c gh st.ar st.bx w (fun b o => FL b o ∨ F b o)) (hap : ∀ b o, F b o → ¬ FL b o) :
  ∃ gh', Laid c gh gh' nt st (st.layC base y) a w FL (· = base) ∧ TR c.sh gh' (st.layC base y).ar (st.layC base y).bx w (y.refd base) v := by
 cases hn : y.notOwn with
 | true =>
  have : st.layC base y = st := by cases y <;> first | rfl | (simp [AV.notOwn] at hn)
  rw [this]
  exact ⟨gh, ⟨h, hF.mono fun x y hx => .inl hx, fun x v _ ht => ht, rfl, fun _ => rfl⟩, refd_TR hy hn⟩
 | false =>
  cases y with
  | own n sz g =>
   obtain ⟨A, cap, rfl, hrest⟩ := hy
   have hro : RO w c.sh (.own n sz g) (.slice A n cap) F := ⟨A, cap, rfl, hrest⟩
   have hinv := h.newA base ⟨n, sz, g⟩ (A, cap) F hro (fun r x y hr hl hf hFx => (hF x y (.inr hFx)).1 r hl hf) (fun x y hx => (hF x y (.inr hx)).2) hlo
   refine ⟨_, ⟨hinv, fun x y hx => ⟨fun r hl hf => ?_, (hF x y (.inl hx)).2⟩, fun x v hk ht => ?_, rfl, fun b => ?_⟩, ?_⟩
   · by_cases er : r = .inl base
     · subst er
       have hf' : upd gh.fa base F base x y := hf
       rw [upd_self] at hf'
       exact hap x y hf' hx
     · have h1 : live st.ar st.bx r := by
        rcases r with k | b
        · have ek : k ≠ base := fun e => er (by rw [e])
          have hl' : (upd st.ar base (some ⟨n, sz, g⟩) k).isSome := hl
          rw [upd_ne _ _ ek] at hl'; exact hl'
        · exact (live_map (ar := st.ar) _ (.inr b)).1 hl
       have h2 : fp gh st.bx r x y := by
        rcases r with k | b
        · have ek : k ≠ base := fun e => er (by rw [e])
          have hf' : upd gh.fa base F k x y := hf
          rw [upd_ne _ _ ek] at hf'; exact hf'
        · have := fp_map (gh := gh) (bx := st.bx) (AV.killA base) (.inr b)
          rw [← this]; exact hf
       exact (hF x y (.inl hx)).1 r h1 h2
   · have := TR_newA (id := base) (A, cap) F (some ⟨n, sz, g⟩) x (TR_weaken (bx' := (st.map (AV.killA base)).bx) (fun _ _ e => e) (fun b B e => map_ex e) x ht)
     exact TR_unkillA x (hk base rfl) this
   · show ((st.bx b).map _).map _ = _
     cases st.bx b <;> rfl
   · intro A' e
     have e' : upd st.ar base (some ⟨n, sz, g⟩) base = some A' := e
     rw [upd_self] at e'
     obtain rfl := Option.some.inj e'
     show _ = Value.slice (upd gh.hd base (A, cap) base).1 n (upd gh.hd base (A, cap) base).2
     rw [upd_self]
  | _ => simp [AV.notOwn] at hn
theorem RS_noA {w : World} {ok : Cells} {id : Nat} (x : AV) : ∀ {v : Value}, RS w ok x v → x.noA id := by
 induction x with
 | clo f n g ih => rintro v ⟨vs, e, hs, hc⟩ j hj; exact (hc j hj).elim (fun h => by rw [h]; trivial) (fun h => ih j h)
 | _ => intro v h; first | trivial | exact h.elim
theorem RS_noB {w : World} {ok : Cells} {b : Nat} (x : AV) : ∀ {v : Value}, RS w ok x v → x.noB b := by
 induction x with
 | clo f n g ih => rintro v ⟨vs, e, hs, hc⟩ j hj; exact (hc j hj).elim (fun h => by rw [h]; trivial) (fun h => ih j h)
 | _ => intro v h; first | trivial | exact h.elim
theorem refd_noA {y : AV} {base id : Nat} (h : base ≠ id) {w : World} {c : Cx} {v : Value} {F : Cells} (hy : RO w c.sh y v F) : (y.refd base).noA id := by
 cases y with
 | clo f n g => exact RS_noA (.clo f n g) hy
 | own n sz g => exact h
 | _ => first | trivial | (exact hy.elim)
theorem layL_sound {c : Cx} {nt : Nat} {a : Act} {w : World} {g : Nat → AV} {vs : Nat → Value} {base : Nat} (hlo : c.lim * 4096 ≤ base) : ∀ (js : List Nat) {gh : Gh} {st : St} {FL : Cells} {Fs : Nat → Cells},
  js.Nodup → Inv c gh nt st a w → (∀ j, j ∈ js → RO w c.sh (g j) (vs j) (Fs j)) → Free c gh st.ar st.bx w (fun b o => FL b o ∨ ∃ j, j ∈ js ∧ Fs j b o) →
  (∀ j b o, j ∈ js → Fs j b o → ¬ FL b o) → (∀ j k b o, j ∈ js → k ∈ js → j ≠ k → Fs j b o → ¬ Fs k b o) →
  ∃ gh', Laid c gh gh' nt st (st.layL base g js) a w FL (fun id => ∃ j, j ∈ js ∧ id = base + j) ∧ ∀ j, j ∈ js → TR c.sh gh' (st.layL base g js).ar (st.layL base g js).bx w ((g j).refd (base + j)) (vs j) := by
 intro js
 induction js with
 | nil => intro gh st FL Fs _ h _ hF _ _; exact ⟨gh, ⟨h, hF.mono fun _ _ h => .inl h, fun x v _ ht => ht, rfl, fun _ => rfl⟩, fun j hj => absurd hj (by simp)⟩
 | cons j js ih =>
  intro gh st FL Fs hnd h hro hF hap hdj
  obtain ⟨hj, hnd⟩ := List.nodup_cons.1 hnd
  obtain ⟨gh1, l1, t1⟩ := layC_sound (base := base + j) (FL := fun b o => FL b o ∨ ∃ k, k ∈ js ∧ Fs k b o) (by omega) h (hro j (by simp))
   (hF.mono fun x y hx => by
    rcases hx with (hx | ⟨k, hk, hx⟩) | hx
    · exact .inl hx
    · exact .inr ⟨k, by simp [hk], hx⟩
    · exact .inr ⟨j, by simp, hx⟩)
   (fun b o hb hfl => by
    rcases hfl with hfl | ⟨k, hk, hfl⟩
    · exact hap j b o (by simp) hb hfl
    · exact hdj j k b o (by simp) (by simp [hk]) (fun e => hj (e ▸ hk)) hb hfl)
  obtain ⟨gh2, l2, t2⟩ := ih hnd l1.inv (fun k hk => hro k (by simp [hk])) l1.free (fun k b o hk => hap k b o (by simp [hk])) (fun k m b o hk hm => hdj k m b o (by simp [hk]) (by simp [hm]))
  refine ⟨gh2, ⟨l2.inv, l2.free, fun x v hk ht => l2.holds x v (fun id ⟨k, hk', e⟩ => hk id ⟨k, by simp [hk'], e⟩) (l1.holds x v (fun id e => hk id ⟨j, by simp, e⟩) ht), l2.ba.trans l1.ba, fun b => (l2.bxs b).trans (l1.bxs b)⟩, fun k hk => ?_⟩
  rcases List.mem_cons.1 hk with rfl | hk
  · exact l2.holds _ _ (fun id ⟨m, hm, e⟩ => refd_noA (fun e' => hj (by rw [show k = m by omega]; exact hm)) (hro k (by simp))) t1
  · exact t2 k hk
end Go.Fw
namespace Go.Fw
variable [Tok]
structure LaidV (c : Cx) (gh gh' : Gh) (nt : Nat) (st st' : St) (a : Act) (w : World) (FL : Cells) (ids bs : Nat → Prop) : Prop where
 inv : Inv c gh' nt st' a w
 free : Free c gh' st'.ar st'.bx w FL
 holds : ∀ (x : AV) (v : Value), (∀ id, ids id → x.noA id) → (∀ b, bs b → x.noB b) → TR c.sh gh st.ar st.bx w x v → TR c.sh gh' st'.ar st'.bx w x v
theorem Laid.v {c : Cx} {gh gh' : Gh} {nt : Nat} {st st' : St} {a : Act} {w : World} {FL : Cells} {ids : Nat → Prop} (h : Laid c gh gh' nt st st' a w FL ids) (bs : Nat → Prop) : LaidV c gh gh' nt st st' a w FL ids bs :=
 ⟨h.inv, h.free, fun x v h1 _ ht => h.holds x v h1 ht⟩
theorem refd_noB {c : Cx} {y : AV} {base b : Nat} {w : World} {v : Value} {F : Cells} (hy : RO w c.sh y v F) : (y.refd base).noB b := by
 cases y with
 | clo f n g => exact RS_noB (.clo f n g) hy
 | _ => first | trivial | (exact hy.elim)
theorem layA_sound {c : Cx} {gh : Gh} {nt : Nat} {st : St} {a : Act} {w : World} {FL F : Cells} {y : AV} {v : Value} {base : Nat} (hlo : c.lim * 4096 ≤ base) (h : Inv c gh nt st a w)
  (hy : RV w c.sh y v F) (hF : Free c gh st.ar st.bx w (fun b o => FL b o ∨ F b o)) (hap : ∀ b o, F b o → ¬ FL b o) :
  ∃ gh', LaidV c gh gh' nt st (st.layA base y) a w FL (fun id => (∃ j, j < y.cellsN ∧ id = base + j) ∨ ∃ sz g, y = .nbx sz g ∧ ∃ j, j < sz ∧ id = base + j) (fun b => ∃ sz g, y = .nbx sz g ∧ b = base / 4096) ∧
   TR c.sh gh' (st.layA base y).ar (st.layA base y).bx w (y.refA base) v := by
 have one : ∀ {y : AV}, RO w c.sh y v F → (∀ sz g, y ≠ .ag sz g) → (∀ sz g, y ≠ .nbx sz g) →
   ∃ gh', LaidV c gh gh' nt st (st.layC base y) a w FL (fun id => (∃ j, j < y.cellsN ∧ id = base + j) ∨ ∃ sz g, y = .nbx sz g ∧ ∃ j, j < sz ∧ id = base + j) (fun b => ∃ sz g, y = .nbx sz g ∧ b = base / 4096) ∧ TR c.sh gh' (st.layC base y).ar (st.layC base y).bx w (y.refd base) v := by
  intro y hro h1 h2
  obtain ⟨gh', l, t⟩ := layC_sound (base := base) hlo h hro hF hap
  refine ⟨gh', ⟨l.inv, l.free, fun x v hk _ ht => l.holds x v (fun id e => hk id (.inl ⟨0, ?_, by omega⟩)) ht⟩, t⟩
  cases y <;> first | exact Nat.one_pos | exact absurd rfl (h1 _ _)
 cases y with
 | ag sz g =>
  obtain ⟨vs, rfl, hs, ho, Fs, h1, h2, h3⟩ := hy
  obtain ⟨gh', l, t⟩ := layL_sound (vs := fun j => vs.getD j undef) (base := base) (g := g) (FL := FL) (Fs := Fs) hlo (List.range sz) List.nodup_range h (fun j hj => h3 j (by simpa using hj))
   (hF.mono fun x y hx => by
    rcases hx with hx | ⟨j, hj, hx⟩
    · exact .inl hx
    · exact .inr (h1 j x y (by simpa using hj) hx))
   (fun j b o hj hb => hap b o (h1 j b o (by simpa using hj) hb)) (fun j k b o hj hk hn => h2 j k b o (by simpa using hj) (by simpa using hk) hn)
  refine ⟨gh', ⟨l.inv, l.free, fun x v hk _ ht => l.holds x v (fun id ⟨j, hj, e⟩ => hk id (.inl ⟨j, by simpa [AV.cellsN] using hj, e⟩)) ht⟩, vs, rfl, hs, fun j hj => ⟨ho j hj, t j (by simpa using hj)⟩⟩
 | nbx sz g =>
  obtain ⟨ad, rfl, hsp, hin, vs, hc, Fs, h1, h2, h3⟩ := hy
  obtain ⟨gh', l, t⟩ := layL_sound (vs := vs) (base := base) (g := g) (FL := fun b o => FL b o ∨ In ad sz b o) (Fs := Fs) hlo (List.range sz) List.nodup_range h (fun j hj => h3 j (by simpa using hj))
   (hF.mono fun x y hx => by
    rcases hx with (hx | hx) | ⟨j, hj, hx⟩
    · exact .inl hx
    · exact .inr (hin x y hx)
    · exact .inr (h1 j x y (by simpa using hj) hx).1)
   (fun j b o hj hb hfl => by
    rcases hfl with hfl | hfl
    · exact hap b o (h1 j b o (by simpa using hj) hb).1 hfl
    · exact (h1 j b o (by simpa using hj) hb).2 hfl)
   (fun j k b o hj hk hn => h2 j k b o (by simpa using hj) (by simpa using hk) hn)
  have hinv := l.inv.newB (base / 4096) sz (fun j => (g j).refd (base + j)) ad hsp (fun o ho => ⟨vs o, (hc o ho).1, (hc o ho).2.1, (hc o ho).2.2, t o (by simpa using ho)⟩)
   (fun r x y hr hl hf hi => (l.free x y (.inr hi)).1 r hl hf) (fun x y hi => (l.free x y (.inr hi)).2) (by omega)
  refine ⟨_, ⟨hinv, fun x y hx => ⟨fun r hl hf => ?_, (l.free x y (.inl hx)).2⟩, fun x v hk hb ht => ?_⟩, ?_⟩
  · by_cases er : r = .inr (base / 4096)
    · subst er
      obtain ⟨B, e, hi⟩ := hf
      have e' : upd _ (base / 4096) (some (sz, _)) (base / 4096) = some B := e
      rw [upd_self] at e'
      obtain rfl := Option.some.inj e'
      have hi' : In (upd gh'.ba (base / 4096) ad (base / 4096)) sz x y := hi
      rw [upd_self] at hi'
      exact hap x y (hin x y hi') hx
    · have h4 : live (st.layL base g (List.range sz)).ar (st.layL base g (List.range sz)).bx r := by
       rcases r with k | b
       · exact hl
       · have ek : b ≠ base / 4096 := fun e => er (by rw [e])
         have hl' : (upd ((st.layL base g (List.range sz)).map (AV.killB (base / 4096))).bx (base / 4096) (some (sz, fun o => ((g o).refd (base + o)).killB (base / 4096))) b).isSome := hl
         rw [upd_ne _ _ ek] at hl'
         exact (live_map (ar := (st.layL base g (List.range sz)).ar) _ (.inr b)).1 hl'
      have h5 : fp gh' (st.layL base g (List.range sz)).bx r x y := by
       rcases r with k | b
       · exact hf
       · have ek : b ≠ base / 4096 := fun e => er (by rw [e])
         obtain ⟨B, e, hi⟩ := hf
         have e' : upd ((st.layL base g (List.range sz)).map (AV.killB (base / 4096))).bx (base / 4096) (some (sz, fun o => ((g o).refd (base + o)).killB (base / 4096))) b = some B := e
         rw [upd_ne _ _ ek] at e'
         have hi' : In (upd gh'.ba (base / 4096) ad b) B.1 x y := hi
         rw [upd_ne _ _ ek] at hi'
         obtain ⟨sz', g'⟩ := B
         obtain ⟨g'', e'', _⟩ := map_some e'
         exact ⟨_, e'', hi'⟩
      exact (l.free x y (.inl hx)).1 r h4 h5
  · have h4 := l.holds x v (fun id ⟨j, hj, e⟩ => hk id (.inr ⟨sz, g, rfl, j, by simpa using hj, e⟩)) ht
    have h5 := TR_newB (base / 4096) ad (some (sz, fun o => ((g o).refd (base + o)).killB (base / 4096))) x (TR_weaken (bx' := ((st.layL base g (List.range sz)).map (AV.killB (base / 4096))).bx) (fun _ _ e => e) (fun b B e => map_ex e) x h4)
    exact TR_unkillB x (hb _ ⟨sz, g, rfl, rfl⟩) h5
  · intro B e
    show _ = Value.pointer (some ⟨(upd gh'.ba (base / 4096) ad (base / 4096)).block, (upd gh'.ba (base / 4096) ad (base / 4096)).off + 0, none⟩)
    rw [upd_self]
    cases ad; simp at hsp; subst hsp; rfl
 | _ => exact one hy (by simp) (by simp)
theorem refA_noA {c : Cx} {y : AV} {base id : Nat} {w : World} {v : Value} {F : Cells} (hy : RV w c.sh y v F) (h : ∀ j, j < y.cellsN → base + j ≠ id) : (y.refA base).noA id := by
 cases y with
 | ag sz g =>
  obtain ⟨vs, rfl, hs, ho, Fs, h1, h2, h3⟩ := hy
  exact fun j hj => refd_noA (h j hj) (h3 j hj)
 | nbx sz g => trivial
 | _ => exact refd_noA (h 0 Nat.one_pos) hy
theorem layT_sound {c : Cx} {nt : Nat} {a : Act} {w : World} {n : Nat} {g : Nat → AV} {vs : Nat → Value} {base : Nat} (hlo : c.lim * 4096 ≤ base) (hfit : ∀ j, j < n → (g j).cellsN ≤ 64 ∧ ∀ sz h, g j ≠ .nbx sz h) : ∀ (js : List Nat) {gh : Gh} {st : St} {FL : Cells} {Fs : Nat → Cells},
  js.Nodup → (∀ j, j ∈ js → j < n) → Inv c gh nt st a w → (∀ j, j ∈ js → RV w c.sh (g j) (vs j) (Fs j)) → Free c gh st.ar st.bx w (fun b o => FL b o ∨ ∃ j, j ∈ js ∧ Fs j b o) →
  (∀ j b o, j ∈ js → Fs j b o → ¬ FL b o) → (∀ j k b o, j ∈ js → k ∈ js → j ≠ k → Fs j b o → ¬ Fs k b o) →
  ∃ gh', LaidV c gh gh' nt st (st.layT base g js) a w FL (fun id => ∃ j, j ∈ js ∧ ∃ k, k < (g j).cellsN ∧ id = base + 64 * j + k) (fun _ => False) ∧ ∀ j, j ∈ js → TR c.sh gh' (st.layT base g js).ar (st.layT base g js).bx w ((g j).refA (base + 64 * j)) (vs j) := by
 intro js
 induction js with
 | nil => intro gh st FL Fs _ _ h _ hF _ _; exact ⟨gh, ⟨h, hF.mono fun _ _ h => .inl h, fun x v _ _ ht => ht⟩, fun j hj => absurd hj (by simp)⟩
 | cons j js ih =>
  intro gh st FL Fs hnd hn h hro hF hap hdj
  obtain ⟨hj, hnd⟩ := List.nodup_cons.1 hnd
  obtain ⟨gh1, l1, t1⟩ := layA_sound (base := base + 64 * j) (FL := fun b o => FL b o ∨ ∃ k, k ∈ js ∧ Fs k b o) (by omega) h (hro j (by simp))
   (hF.mono fun x y hx => by
    rcases hx with (hx | ⟨k, hk, hx⟩) | hx
    · exact .inl hx
    · exact .inr ⟨k, by simp [hk], hx⟩
    · exact .inr ⟨j, by simp, hx⟩)
   (fun b o hb hfl => by
    rcases hfl with hfl | ⟨k, hk, hfl⟩
    · exact hap j b o (by simp) hb hfl
    · exact hdj j k b o (by simp) (by simp [hk]) (fun e => hj (e ▸ hk)) hb hfl)
  obtain ⟨gh2, l2, t2⟩ := ih hnd (fun k hk => hn k (by simp [hk])) l1.inv (fun k hk => hro k (by simp [hk])) l1.free (fun k b o hk => hap k b o (by simp [hk])) (fun k m b o hk hm => hdj k m b o (by simp [hk]) (by simp [hm]))
  have hfj := hfit j (hn j (by simp))
  refine ⟨gh2, ⟨l2.inv, l2.free, fun x v hk hb ht => l2.holds x v (fun id ⟨k, hk', e⟩ => hk id ⟨k, by simp [hk'], e⟩) (fun _ h => h.elim) (l1.holds x v (fun id e => ?_) (fun b ⟨sz, h, e, _⟩ => absurd e (hfj.2 _ _)) ht)⟩, fun k hk => ?_⟩
  · rcases e with ⟨k, hk', e⟩ | ⟨sz, h, e, _⟩
    · exact hk id ⟨j, by simp, k, hk', e⟩
    · exact absurd e (hfj.2 _ _)
  · rcases List.mem_cons.1 hk with rfl | hk
    · refine l2.holds _ _ (fun id ⟨m, hm, i, hi, e⟩ => refA_noA (hro k (by simp)) fun i' hi' e' => ?_) (fun _ h => h.elim) t1
      have h1 := (hfit m (hn m (by simp [hm]))).1
      have : k = m := by omega
      exact hj (this ▸ hm)
    · exact t2 k hk
theorem fits_tup {n : Nat} {g : Nat → AV} (h : (AV.tup n g).fits = true) : ∀ j, j < n → (g j).cellsN ≤ 64 ∧ ∀ sz h, g j ≠ .nbx sz h := by
 intro j hj
 simp only [AV.fits, List.all_eq_true, List.mem_range] at h
 have := h j hj
 generalize g j = y at this
 cases y with
 | ag sz g => exact ⟨Nat.le_of_ble_eq_true this, by simp⟩
 | nbx sz g => simp at this
 | _ => exact ⟨by simp [AV.cellsN], by simp⟩
theorem not_tup {y : AV} (h : ∀ n g, y ≠ .tup n g) {w : World} {sh : AV → Value → Prop} {v : Value} {F : Cells} {st : St} {base : Nat} : (RR w sh y v F → RV w sh y v F) ∧ st.layR base y = st.layA base y ∧ y.refR base = y.refA base := by
 cases y <;> first | exact ⟨fun h => h, rfl, rfl⟩ | exact absurd rfl (h _ _)
theorem layR_sound {c : Cx} {gh : Gh} {nt : Nat} {st : St} {a : Act} {w : World} {F : Cells} {y : AV} {v : Value} {base : Nat} (hlo : c.lim * 4096 ≤ base) (h : Inv c gh nt st a w)
  (hy : RR w c.sh y v F) (hfit : y.fits = true) (hF : Free c gh st.ar st.bx w F) :
  ∃ gh', Inv c gh' nt (st.layR base y) a w ∧ TR c.sh gh' (st.layR base y).ar (st.layR base y).bx w (y.refR base) v := by
 have base' : ∀ {y : AV}, RV w c.sh y v F → ∃ gh', Inv c gh' nt (st.layA base y) a w ∧ TR c.sh gh' (st.layA base y).ar (st.layA base y).bx w (y.refA base) v := by
  intro y hy
  obtain ⟨gh', l, t⟩ := layA_sound (base := base) (FL := fun _ _ => False) hlo h hy (hF.mono fun x y hx => hx.elim False.elim id) (fun _ _ _ h => h)
  exact ⟨gh', l.inv, t⟩
 by_cases ht : ∃ n g, y = .tup n g
 · obtain ⟨n, g, rfl⟩ := ht
   obtain ⟨vs, rfl, hs, Fs, h1, h2, h3⟩ := hy
   obtain ⟨gh', l, t⟩ := layT_sound hlo (fits_tup hfit) (vs := fun j => vs.getD j undef) (base := base) (FL := fun _ _ => False) (Fs := Fs) (List.range n) List.nodup_range (fun j hj => by simpa using hj) h (fun j hj => h3 j (by simpa using hj))
    (hF.mono fun x y hx => by
     rcases hx with hx | ⟨j, hj, hx⟩
     · exact hx.elim
     · exact h1 j x y (by simpa using hj) hx)
    (fun _ _ _ _ _ h => h) (fun j k b o hj hk => h2 j k b o (by simpa using hj) (by simpa using hk))
   exact ⟨gh', l.inv, vs, rfl, hs, fun j hj => t j (by simpa using hj)⟩
 · have hn : ∀ n g, y ≠ .tup n g := fun n g e => ht ⟨n, g, e⟩
   obtain ⟨h1, h2, h3⟩ := not_tup hn (w := w) (sh := c.sh) (v := v) (F := F) (st := st) (base := base)
   rw [h2, h3]
   exact base' (h1 hy)
end Go.Fw
