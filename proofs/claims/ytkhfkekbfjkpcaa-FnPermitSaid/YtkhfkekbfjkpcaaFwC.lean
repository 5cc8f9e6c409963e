/- What relates the by-value interpreter's states to the model's memory: definitions and first lemmas. -/
import Derived.Test.YtkhfkekbfjkpcaaFwB
import Derived.WalkKit
set_option linter.unusedVariables false
set_option linter.unusedSectionVars false
namespace Go.Fw

abbrev Cells := Nat → Nat → Prop
def In (a : Addr) (m : Nat) : Cells := fun b o => b = a.block ∧ a.off ≤ o ∧ o < a.off + m
abbrev cellAt (w : World) (b o : Nat) : Option Value := w.cell? ⟨b, o, none⟩
abbrev frozAt (w : World) (b o : Nat) : Bool := w.frozen? ⟨b, o, none⟩

theorem add_eq {a : Addr} (h : a.spot = none) (n : Nat) : a.add n = ⟨a.block, a.off + n, none⟩ := by
  unfold Addr.add
  split
  · subst n; cases a; simp at h; subst h; rfl
  · rfl

/-- Bytes that are lent for good: which value they are, and what they are. -/
class Tok where
  val : Value
  bs : List Int
variable [Tok]
/-- What is only read: at the world in which the call began. -/
def RS (w : World) (ok : Cells) : AV → Value → Prop
  | .bad, v => v.oneCell' = true
  | .I k n, v => v = .int k n
  | .B x, v => v = .bool x
  | .S x, v => v = .string x
  | .nlp, v => v = .pointer none
  | .nsl _ _, v => v = .slice none 0 0
  | .sl n sz g, v => ∃ A cap, v = .slice A n cap ∧ (n ≤ cap ∧ (A = none → cap = 0)) ∧ (n = 0 ∨ ∃ a, A = some a ∧ a.spot = none ∧
      ∀ i, i < n → ∀ j, j < sz → ok a.block (a.off + (i * sz + j)) ∧ ∃ u, cellAt w a.block (a.off + (i * sz + j)) = some u ∧ RS w ok (g i j) u)
  | .sln n sz g, v => ∃ x cap, v = .slice (some x) n cap ∧ n ≤ cap ∧ (n = 0 ∨ ∃ a, some x = some a ∧ a.spot = none ∧
      ∀ i, i < n → ∀ j, j < sz → ok a.block (a.off + (i * sz + j)) ∧ ∃ u, cellAt w a.block (a.off + (i * sz + j)) = some u ∧ RS w ok (g i j) u)
  | .sp sz g, v => ∃ a, v = .pointer (some a) ∧ a.spot = none ∧ ∀ j, j < sz → ok a.block (a.off + j) ∧ ∃ u, cellAt w a.block (a.off + j) = some u ∧ RS w ok (g j) u
  | .gv bs, v => v = Tok.val ∧ bs = Tok.bs ∧ ∃ A cap, v = .slice A bs.length cap ∧ (bs.length ≤ cap ∧ (A = none → cap = 0)) ∧ (bs.length = 0 ∨ ∃ a, A = some a ∧ a.spot = none ∧
      ∀ i, i < bs.length → ∀ j, j < 1 → ok a.block (a.off + (i * 1 + j)) ∧ ∃ u, cellAt w a.block (a.off + (i * 1 + j)) = some u ∧ u = .int .u8 (bs.getD i 0))
  | _, _ => False

/-- What is one's own, in the world that stands: its cells lie in F. -/
def RO (w : World) (sh : AV → Value → Prop) : AV → Value → Cells → Prop
  | .own n sz g, v, F => ∃ A cap, v = .slice A n cap ∧ n ≤ cap ∧ 0 < sz ∧ (cap = 0 ∨ ∃ a, A = some a ∧ a.spot = none ∧
      (∀ i, i < cap * sz → F a.block (a.off + i) ∧ (∃ u, cellAt w a.block (a.off + i) = some u ∧ u.oneCell' = true) ∧ frozAt w a.block (a.off + i) = false) ∧
      ∃ Fs : Nat → Nat → Cells, (∀ i j b o, i < n → j < sz → Fs i j b o → F b o ∧ ¬ In a (cap * sz) b o) ∧
        (∀ i j i' j' b o, i < n → j < sz → i' < n → j' < sz → ¬ (i = i' ∧ j = j') → Fs i j b o → ¬ Fs i' j' b o) ∧
        ∀ i, i < n → ∀ j, j < sz → ∃ u, cellAt w a.block (a.off + (i * sz + j)) = some u ∧ RO w sh (g i j) u (Fs i j))
  | .bad, _, _ => True
  | x, v, _ => sh x v

/-- The header of a slice that lies at a path. -/
def pathV (w : World) (a : Option Addr) (n sz : Nat) (g : Nat → Nat → AV) : List (Nat × Nat) → Value → Prop
  | [], _ => False
  | [(i, j)], v => i < n ∧ j < sz ∧ ∃ ad, a = some ad ∧ cellAt w ad.block (ad.off + (i * sz + j)) = some v
  | (i, j) :: p, v => i < n ∧ j < sz ∧ ∃ ad, a = some ad ∧ ∃ u, cellAt w ad.block (ad.off + (i * sz + j)) = some u ∧
      match g i j with
      | .own n' sz' h => ∃ A cap, u = .slice A n' cap ∧ pathV w A n' sz' h p v
      | _ => True

/-- A place: of an element of the row that lies at a path ([]: of the row itself). -/
def placeV (w : World) (a : Option Addr) (n sz : Nat) (g : Nat → Nat → AV) (p : List (Nat × Nat)) (i j : Nat) (v : Value) : Prop :=
  match p with
  | [] => i < n ∧ j < sz ∧ ∃ ad, a = some ad ∧ v = .pointer (some ⟨ad.block, ad.off + (i * sz + j), none⟩)
  | p => ∀ n' sz' h, atP g p = .own n' sz' h → i < n' ∧ j < sz' ∧ ∃ ad cap, pathV w a n sz g p (.slice (some ad) n' cap) ∧ v = .pointer (some ⟨ad.block, ad.off + (i * sz' + j), none⟩)

structure Gh where
  hd : Nat → Option Addr × Nat
  fa : Nat → Cells
  ba : Nat → Addr

abbrev ArT := Nat → Option Arr
abbrev BxT := Nat → Option (Nat × (Nat → AV))

/-- A temporary's value. -/
def TR (sh : AV → Value → Prop) (gh : Gh) (ar : ArT) (bx : BxT) (w : World) : AV → Value → Prop
  | .bad, _ => True
  | .rf id, v => ∀ A, ar id = some A → v = .slice (gh.hd id).1 A.n (gh.hd id).2
  | .rs id a m, v => ∀ A, ar id = some A → a + m ≤ A.n ∧ ∃ A', v = .slice A' m ((gh.hd id).2 - a) ∧ ((gh.hd id).2 - a = 0 ∨ ∃ ad, (gh.hd id).1 = some ad ∧ A' = some ⟨ad.block, ad.off + a * A.sz, none⟩)
  | .rn id p, v => ∀ A n sz g, ar id = some A → atP A.g p = .own n sz g → pathV w (gh.hd id).1 A.n A.sz A.g p v
  | .pb b o, v => ∀ B, bx b = some B → v = .pointer (some ⟨(gh.ba b).block, (gh.ba b).off + o, none⟩)
  | .pe id p i j, v => ∀ A, ar id = some A → placeV w (gh.hd id).1 A.n A.sz A.g p i j v
  | .ag sz g, v => ∃ vs, v = .agg vs ∧ vs.size = sz ∧ ∀ j, j < sz → (vs.getD j undef).oneCell' = true ∧ TR sh gh ar bx w (g j) (vs.getD j undef)
  | .tup n g, v => ∃ vs, v = .tuple vs ∧ vs.size = n ∧ ∀ j, j < n → TR sh gh ar bx w (g j) (vs.getD j undef)
  | .clo f n g, v => ∃ vs, v = .func (.func f) #[] vs ∧ vs.size = n ∧ ∀ j, j < n → TR sh gh ar bx w (g j) (vs.getD j undef)
  | .own _ _ _, _ => False
  | .nbx _ _, _ => False
  | x, v => sh x v

theorem RS_gv {w : World} {ok : Cells} {bs : List Int} {v : Value} (h : RS w ok (.gv bs) v) : RS w ok (.sl bs.length 1 (gvG bs)) v := by
  obtain ⟨_, _, A, cap, e, h1, h2⟩ := h
  refine ⟨A, cap, e, h1, h2.imp (fun h => h) fun ⟨a, ea, hs, hc⟩ => ⟨a, ea, hs, fun i hi j hj => ?_⟩⟩
  obtain ⟨h3, u, h4, h5⟩ := hc i hi j hj
  obtain rfl : j = 0 := by omega
  exact ⟨h3, u, h4, h5⟩
/-- The context of one call: the world in which it began; the cells that it may write. -/
structure Cx where
  w0 : World
  M : Cells
  tok : RS w0 (fun b o => b < w0.heap.size ∧ ¬ M b o) (.gv Tok.bs) Tok.val
  lo : Bool
  hd0 : Nat → Option Addr × Nat
  ba0 : Nat → Addr
  n0 : Nat → Nat
  s0 : Nat → Nat
  z0 : Nat → Nat
/-- What was handed in keeps its name: below this. -/
def Cx.lim (c : Cx) : Nat := bif c.lo then 64 else 0
def Cx.ok (c : Cx) : Cells := fun b o => b < c.w0.heap.size ∧ ¬ c.M b o
abbrev Cx.sh (c : Cx) : AV → Value → Prop := RS c.w0 c.ok

/-- What the table and the boxes hold: each has its cells. -/
def live (ar : ArT) (bx : BxT) : Nat ⊕ Nat → Prop
  | .inl id => (ar id).isSome
  | .inr b => (bx b).isSome
def fp (gh : Gh) (bx : BxT) : Nat ⊕ Nat → Cells
  | .inl id => gh.fa id
  | .inr b => fun x y => ∃ B, bx b = some B ∧ In (gh.ba b) B.1 x y

/-- What a call leaves as it is, beside the memory. -/
def Io (w w' : World) : Prop := w'.os = w.os ∧ w'.output = w.output ∧ w'.tape = w.tape
theorem Io.refl (w : World) : Io w w := ⟨rfl, rfl, rfl⟩
theorem Io.trans {w w' w'' : World} (h : Io w w') (h' : Io w' w'') : Io w w'' := ⟨h'.1.trans h.1, h'.2.1.trans h.2.1, h'.2.2.trans h.2.2⟩

structure Mem (c : Cx) (gh : Gh) (ar : ArT) (bx : BxT) (w : World) : Prop where
  rows : ∀ id A, ar id = some A → RO w c.sh (.own A.n A.sz A.g) (.slice (gh.hd id).1 A.n (gh.hd id).2) (gh.fa id)
  boxes : ∀ b sz g, bx b = some (sz, g) → (gh.ba b).spot = none ∧ ∀ o, o < sz → ∃ v, cellAt w (gh.ba b).block ((gh.ba b).off + o) = some v ∧ frozAt w (gh.ba b).block ((gh.ba b).off + o) = false ∧ v.oneCell' = true ∧ TR c.sh gh ar bx w (g o) v
  disj : ∀ r r' x y, r ≠ r' → live ar bx r → live ar bx r' → fp gh bx r x y → ¬ fp gh bx r' x y
  mine : ∀ r x y, live ar bx r → fp gh bx r x y → x < w.heap.size ∧ (x < c.w0.heap.size → c.M x y)
  grow : c.w0.heap.size ≤ w.heap.size
  keep : ∀ b o, b < c.w0.heap.size → ¬ c.M b o → cellAt w b o = cellAt c.w0 b o ∧ frozAt w b o = frozAt c.w0 b o
  keepB : ∀ b, b < c.w0.heap.size → (∀ o, ¬ c.M b o) → w.heap[b]? = c.w0.heap[b]?
  io : Io c.w0 w

structure Fix (c : Cx) (gh : Gh) (ar : ArT) (bx : BxT) : Prop where
  hd : ∀ id, id < c.lim * 4096 → gh.hd id = c.hd0 id
  ba : ∀ b, b < c.lim → gh.ba b = c.ba0 b
  n : ∀ id A, id < c.lim * 4096 → ar id = some A → A.n = c.n0 id ∧ A.sz = c.s0 id
  z : ∀ b B, b < c.lim → bx b = some B → B.1 = c.z0 b

structure Inv (c : Cx) (gh : Gh) (nt : Nat) (st : St) (a : Act) (w : World) : Prop where
  defers : a.defers = []
  size : a.tmps.size = nt
  temps : ∀ t, TR c.sh gh st.ar st.bx w (st.t t) (a.tmps.getD t undef)
  mem : Mem c gh st.ar st.bx w
  fix : Fix c gh st.ar st.bx

/-! ### Worlds that agree -/
def Agree (w w' : World) (F : Cells) : Prop := ∀ b o, F b o → cellAt w' b o = cellAt w b o ∧ frozAt w' b o = frozAt w b o
theorem Agree.mono {w w' : World} {F G : Cells} (h : Agree w w' F) (hg : ∀ b o, G b o → F b o) : Agree w w' G := fun b o x => h b o (hg b o x)
theorem Agree.refl (w : World) (F : Cells) : Agree w w F := fun _ _ _ => ⟨rfl, rfl⟩

theorem RO_congr {w w' : World} {sh : AV → Value → Prop} (x : AV) : ∀ {v : Value} {F : Cells}, Agree w w' F → RO w sh x v F → RO w' sh x v F := by
  induction x with
  | own n sz g ih =>
    intro v F ha h
    obtain ⟨A, cap, rfl, h1, h2, h3⟩ := h
    refine ⟨A, cap, rfl, h1, h2, ?_⟩
    rcases h3 with h3 | ⟨a, rfl, hs, hc, Fs, hf1, hf2, hf3⟩
    · exact .inl h3
    · refine .inr ⟨a, rfl, hs, fun i hi => ?_, Fs, hf1, hf2, fun i hi j hj => ?_⟩
      · obtain ⟨x1, x2, x3⟩ := hc i hi
        have := ha _ _ x1
        exact ⟨x1, by rw [this.1]; exact x2, by rw [this.2]; exact x3⟩
      · obtain ⟨u, hu, hr⟩ := hf3 i hi j hj
        have hcell : i * sz + j < cap * sz := by
          have : (i + 1) * sz ≤ cap * sz := Nat.mul_le_mul_right _ (by omega)
          rw [Nat.add_mul] at this
          omega
        refine ⟨u, by rw [(ha _ _ (hc _ hcell).1).1]; exact hu, ih i j (ha.mono fun b o hb => (hf1 i j b o hi hj hb).1) hr⟩
  | _ => intro v F ha h; first | exact h | trivial

theorem RO_mono {w : World} {sh : AV → Value → Prop} (x : AV) : ∀ {v : Value} {F G : Cells}, (∀ b o, F b o → G b o) → RO w sh x v F → RO w sh x v G := by
  intro v F G hg h
  cases x with
  | own n sz g =>
    obtain ⟨A, cap, rfl, h1, h2, h3⟩ := h
    refine ⟨A, cap, rfl, h1, h2, ?_⟩
    rcases h3 with h3 | ⟨a, rfl, hs, hc, Fs, hf1, hf2, hf3⟩
    · exact .inl h3
    · exact .inr ⟨a, rfl, hs, fun i hi => ⟨hg _ _ (hc i hi).1, (hc i hi).2⟩, Fs, fun i j b o hi hj hb => ⟨hg _ _ (hf1 i j b o hi hj hb).1, (hf1 i j b o hi hj hb).2⟩, hf2, hf3⟩
  | _ => first | exact h | trivial

theorem cell_lt {i j n cap sz : Nat} (hi : i < n) (hj : j < sz) (h : n ≤ cap) : i * sz + j < cap * sz := by
  have : (i + 1) * sz ≤ cap * sz := Nat.mul_le_mul_right _ (by omega)
  rw [Nat.add_mul] at this
  omega

/-- A row's header leads on to what lies at a path. -/
theorem RO_path {w : World} {sh : AV → Value → Prop} : ∀ (p : List (Nat × Nat)) {A : Option Addr} {n cap sz : Nat} {g : Nat → Nat → AV} {F : Cells} {v : Value} {n' sz' : Nat} {h : Nat → Nat → AV},
    RO w sh (.own n sz g) (.slice A n cap) F → atP g p = .own n' sz' h → pathV w A n sz g p v → ∃ F', RO w sh (.own n' sz' h) v F' ∧ ∀ b o, F' b o → F b o := by
  intro p
  induction p with
  | nil => intro A n cap sz g F v n' sz' h hr ha hp; exact hp.elim
  | cons ij p ih =>
    obtain ⟨i, j⟩ := ij
    intro A n cap sz g F v n' sz' h hr ha hp
    obtain ⟨A1, cap1, e, h1, h2, h3⟩ := hr
    obtain ⟨rfl, -, rfl⟩ : A = A1 ∧ n = n ∧ cap = cap1 := by simpa using e
    cases p with
    | nil =>
      obtain ⟨hi, hj, ad, rfl, hc⟩ := hp
      rcases h3 with h3 | ⟨a, ea, hs, hcs, Fs, hf1, hf2, hf3⟩
      · omega
      · obtain rfl : ad = a := by simpa using ea
        obtain ⟨u, hu, hro⟩ := hf3 i hi j hj
        rw [hc] at hu
        obtain rfl : v = u := by simpa using hu
        simp only [atP] at ha
        rw [ha] at hro
        exact ⟨_, hro, fun b o hb => (hf1 i j b o hi hj hb).1⟩
    | cons q p' =>
      obtain ⟨hi, hj, ad, rfl, u, hc, hm⟩ := hp
      rcases h3 with h3 | ⟨a, ea, hs, hcs, Fs, hf1, hf2, hf3⟩
      · omega
      · obtain rfl : ad = a := by simpa using ea
        obtain ⟨u', hu, hro⟩ := hf3 i hi j hj
        rw [hc] at hu
        obtain rfl : u = u' := by simpa using hu
        simp only [atP] at ha
        generalize hg : g i j = x at ha hm hro
        cases x with
        | own n2 sz2 h2' =>
          simp only at ha hm
          obtain ⟨A2, cap2, rfl, hpv⟩ := hm
          obtain ⟨F', hr', hsub⟩ := ih hro ha hpv
          exact ⟨F', hr', fun b o hb => (hf1 i j b o hi hj (hsub b o hb)).1⟩
        | _ => simp at ha

end Go.Fw
