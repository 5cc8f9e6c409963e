/- The by-value interpreter: regions whose order is open. The by-value interpreter: code. The by-value interpreter: what a function gives. The by-value interpreter: what is given back of what was handed in. The by-value interpreter: a function's beginning. -/
import Derived.Test.YtndmnbgcneaggaaGreatDoorFxB
import Derived.Deep.LoopGhost
set_option linter.unusedVariables false
set_option linter.unusedSectionVars false
set_option linter.unusedSimpArgs false
namespace Go.Fw
variable [Tok]
def Keeps {α : Type} (P : Program) (s : Sem α) : Prop := ∀ w v w', s.run P w = .ok v w' → w' = w
def Never {α : Type} (P : Program) (s : Sem α) : Prop := ∀ w v w', s.run P w ≠ .ok v w'
section
variable {P : Program}
theorem Never.keeps {α : Type} {s : Sem α} (h : Never P s) : Keeps P s := fun w v w' e => absurd e (h w v w')
theorem keeps_pure {α : Type} (x : α) : Keeps P (pure x : Sem α) := fun w v w' e => by
 simp at e; exact e.2.symm
theorem keeps_bind {α β : Type} {s : Sem α} {f : α → Sem β} (h : Keeps P s) (hf : ∀ x, Keeps P (f x)) : Keeps P (s >>= f) := fun w v w' e => by
 rw [Sem.run_bind] at e
 cases hr : s.run P w with
 | ok x w1 => rw [hr] at e; simp only [Result.andThen_ok] at e; exact (hf x _ _ _ e).trans (h _ _ _ hr)
 | halt x w1 => rw [hr] at e; simp [Result.andThen] at e
theorem never_bind {α β : Type} {s : Sem α} {f : α → Sem β} (hf : ∀ x, Never P (f x)) : Never P (s >>= f) := fun w v w' e => by
 rw [Sem.run_bind] at e
 cases hr : s.run P w with
 | ok x w1 => rw [hr] at e; simp only [Result.andThen_ok] at e; exact hf x _ _ _ e
 | halt x w1 => rw [hr] at e; simp [Result.andThen] at e
theorem never_halt {α : Type} (h : Halt) : Never P (.halt h : Sem α) := fun w v w' e => by simp [Sem.run] at e
theorem never_panicB {α : Type} (x y : Int) (b : Bool) (c : BoundsCode) : Never P (runtimePanic (.bounds x y b c) : Sem α) := by
 unfold runtimePanic
 exact never_bind fun p => never_halt _
theorem never_bounds {α : Type} (k : IntKind) (x y : Int) (b : BoundsCode) : Never P (boundsPanic k x y b : Sem α) := by
 unfold boundsPanic
 split
 · exact never_bind fun _ => never_panicB _ _ _ _
 · exact never_bind fun _ => never_panicB _ _ _ _
theorem keeps_program : Keeps P program := fun w v w' e => by simp [program, Sem.run] at e; exact e.2.symm
theorem keeps_load (a : Addr) (m : Mode) : Keeps P (load a m) := fun w v w' e => by
 simp only [load, Sem.run] at e
 split at e
 · simp only [Sem.run, Result.ok.injEq] at e; exact e.2.symm
 · split at e
   · simp only [Sem.run, Result.ok.injEq] at e; exact e.2.symm
   · simp at e
theorem keeps_typeInfo (t : TypeId) : Keeps P (typeInfo t) := by
 unfold typeInfo
 refine keeps_bind keeps_program fun p => ?_
 split
 · exact keeps_pure _
 · exact (never_halt _).keeps
theorem keeps_underlying (t : TypeId) : Keeps P (underlying t) := by
 unfold underlying
 refine keeps_bind keeps_program fun p => ?_
 split
 · exact keeps_pure _
 · exact (never_halt _).keeps
theorem keeps_sizeOf (t : TypeId) : Keeps P (sizeOf t) := keeps_bind (keeps_typeInfo t) fun _ => keeps_pure _
theorem keeps_isAgg (t : TypeId) : Keeps P (isAgg t) := by
 unfold isAgg
 refine keeps_bind (keeps_underlying t) fun d => ?_
 split <;> exact keeps_pure _
theorem keeps_asIntOf (v : Value) : Keeps P (asIntOf v) := by
 unfold asIntOf
 split
 · exact keeps_pure _
 · exact (never_halt _).keeps
 · exact (never_halt _).keeps
theorem keeps_sureAddr (v : Value) : Keeps P (Instr.sureAddr v) := by
 unfold Instr.sureAddr
 split
 · exact keeps_pure _
 · exact (never_halt _).keeps
theorem keeps_loadCells (a : Addr) : ∀ (n i : Nat) (acc : Array Value), Keeps P (loadCellsFrom a i n acc) := by
 intro n
 induction n with
 | zero => intro i acc; exact keeps_pure _
 | succ n ih => intro i acc; exact keeps_bind (keeps_load _ _) fun v => ih _ _
theorem keeps_loadAt (t : TypeId) (x : Value) : Keeps P (Instr.loadAt t x) := by
 unfold Instr.loadAt
 refine keeps_bind (keeps_sureAddr x) fun ad => ?_
 unfold loadVar
 refine keeps_bind (keeps_isAgg t) fun b => ?_
 cases b with
 | true => exact keeps_bind (keeps_sizeOf t) fun n => keeps_bind (keeps_loadCells _ _ _ _) fun _ => keeps_pure _
 | false => exact keeps_load _ _
theorem keeps_sliceBound (v : Value) (y : Nat) (c : BoundsCode) : Keeps P (Instr.sliceBound v y c) := by
 unfold Instr.sliceBound
 refine keeps_bind (keeps_asIntOf v) fun ki => ?_
 dsimp only
 split
 · exact keeps_pure _
 · exact (never_bounds _ _ _ _).keeps
theorem keeps_map {α β : Type} {s : Sem α} {f : α → β} (h : Keeps P s) : Keeps P (f <$> s) := keeps_bind (f := fun a => (pure (f a) : Sem β)) h fun _ => keeps_pure _
theorem keeps_asAddr (v : Value) : Keeps P (asAddr v) := by
 unfold asAddr
 split
 · exact keeps_pure _
 · exact (never_bind fun p => never_halt _).keeps
 · exact (never_halt _).keeps
theorem keeps_sliceBounds (b : Bool) (n c : Nat) (lo hi mx : Option Value) : Keeps P (Instr.sliceBounds b n c lo hi mx) := by
 unfold Instr.sliceBounds
 repeat' first
 | exact keeps_pure _
 | exact keeps_typeInfo _
 | exact keeps_sizeOf _
 | exact keeps_isAgg _
 | exact keeps_underlying _
 | exact keeps_sliceBound _ _ _
 | exact keeps_asIntOf _
 | exact keeps_sureAddr _
 | exact keeps_asAddr _
 | exact (never_halt _).keeps
 | exact (never_bounds _ _ _ _).keeps
 | exact keeps_map (keeps_sizeOf _)
 | refine keeps_bind ?_ fun _ => ?_
 | split
 | dsimp only
theorem keeps_slice (t : TypeId) (x : Value) (lo hi mx : Option Value) : Keeps P (Instr.slice t x lo hi mx) := by
 unfold Instr.slice
 repeat' first
 | exact keeps_pure _
 | exact keeps_typeInfo _
 | exact keeps_sizeOf _
 | exact keeps_isAgg _
 | exact keeps_underlying _
 | exact keeps_sliceBound _ _ _
 | exact keeps_asIntOf _
 | exact keeps_sureAddr _
 | exact keeps_asAddr _
 | exact keeps_sliceBounds _ _ _ _ _ _
 | exact (never_halt _).keeps
 | exact (never_bounds _ _ _ _).keeps
 | exact keeps_map (keeps_sizeOf _)
 | refine keeps_bind ?_ fun _ => ?_
 | split
 | dsimp only
theorem keeps_sliceAt (t : TypeId) (x : Value) (lo hi mx : Option Value) : Keeps P (Instr.sliceAt t x lo hi mx) := by
 unfold Instr.sliceAt
 refine keeps_bind (keeps_underlying _) fun d => ?_
 split
 · repeat' first
   | exact keeps_pure _
   | exact keeps_typeInfo _
   | exact keeps_sizeOf _
   | exact keeps_isAgg _
   | exact keeps_underlying _
   | exact keeps_sliceBound _ _ _
   | exact keeps_asIntOf _
   | exact keeps_sureAddr _
   | exact keeps_asAddr _
   | exact keeps_sliceBounds _ _ _ _ _ _
   | exact (never_halt _).keeps
   | exact (never_bounds _ _ _ _).keeps
   | exact keeps_map (keeps_sizeOf _)
   | refine keeps_bind ?_ fun _ => ?_
   | split
   | dsimp only
 · exact keeps_slice _ _ _ _ _
theorem keeps_indexAt (t : TypeId) (x i : Value) : Keeps P (Instr.indexAt t x i) := by
 unfold Instr.indexAt
 repeat' first
 | exact keeps_pure _
 | exact keeps_typeInfo _
 | exact keeps_sizeOf _
 | exact keeps_isAgg _
 | exact keeps_underlying _
 | exact keeps_sliceBound _ _ _
 | exact keeps_asIntOf _
 | exact keeps_sureAddr _
 | exact keeps_asAddr _
 | exact keeps_sliceBounds _ _ _ _ _ _
 | exact (never_halt _).keeps
 | exact (never_bounds _ _ _ _).keeps
 | exact keeps_map (keeps_sizeOf _)
 | refine keeps_bind ?_ fun _ => ?_
 | split
 | dsimp only
theorem keeps_getObj (r : Nat) : Keeps P (getObj r) := fun w v w' e => by
 simp only [getObj, Sem.run] at e
 split at e
 · simp at e
 · simp only [Sem.run, Result.ok.injEq] at e; exact e.2.symm
 · simp at e
theorem keeps_shape (r : Nat) : Keeps P (shape r) := fun w v w' e => by
 simp only [shape, Sem.run, Result.ok.injEq] at e; exact e.2.symm
theorem keeps_extract (x : Value) (i : Nat) : Keeps P (Instr.extract x i) := by
 unfold Instr.extract
 repeat' first
 | exact keeps_pure _
 | exact keeps_typeInfo _
 | exact keeps_sizeOf _
 | exact keeps_isAgg _
 | exact keeps_underlying _
 | exact keeps_sliceBound _ _ _
 | exact keeps_asIntOf _
 | exact keeps_sureAddr _
 | exact keeps_asAddr _
 | exact keeps_sliceBounds _ _ _ _ _ _
 | exact (never_halt _).keeps
 | exact (never_bounds _ _ _ _).keeps
 | exact keeps_map (keeps_sizeOf _)
 | refine keeps_bind ?_ fun _ => ?_
 | split
 | dsimp only
theorem keeps_viewAt (r : Nat) : Keeps P (viewAt r) := by
 unfold viewAt
 repeat' first
 | exact keeps_pure _
 | exact keeps_shape _
 | exact keeps_getObj _
 | refine keeps_bind ?_ fun _ => ?_
 | split
theorem keeps_fieldPlace (a : Addr) (f : Field) : Keeps P (fieldPlace a f) := by
 unfold fieldPlace partAt byteOf noView
 repeat' first
 | exact keeps_pure _
 | exact keeps_sizeOf _
 | exact keeps_program
 | exact keeps_shape _
 | exact keeps_viewAt _
 | exact (never_halt _).keeps
 | refine keeps_bind ?_ fun _ => ?_
 | split
 | dsimp only
theorem keeps_fieldAt (t : TypeId) (x : Value) (i : Nat) : Keeps P (Instr.fieldAt t x i) := by
 unfold Instr.fieldAt
 repeat' first
 | exact keeps_pure _
 | exact keeps_underlying _
 | exact keeps_fieldPlace _ _
 | exact keeps_sureAddr _
 | exact (never_halt _).keeps
 | refine keeps_bind ?_ fun _ => ?_
 | split
 | dsimp only
theorem keeps_len (ts : Array TypeId) (t : TypeId) (xs : Array Value) : Keeps P (Builtin.len_ ts t xs) := by
 unfold Builtin.len_
 repeat' first
 | exact keeps_pure _
 | exact keeps_typeInfo _
 | exact keeps_getObj _
 | exact keeps_sizeOf _
 | exact keeps_isAgg _
 | exact keeps_underlying _
 | exact keeps_sliceBound _ _ _
 | exact keeps_asIntOf _
 | exact keeps_sureAddr _
 | exact keeps_asAddr _
 | exact keeps_sliceBounds _ _ _ _ _ _
 | exact (never_halt _).keeps
 | exact (never_bounds _ _ _ _).keeps
 | exact keeps_map (keeps_sizeOf _)
 | refine keeps_bind ?_ fun _ => ?_
 | split
 | dsimp only
def PureS {α : Type} (P : Program) (s : Sem α) : Prop := ∀ w v w', s.run P w = .ok v w' → w' = w ∧ ∀ w2, s.run P w2 = .ok v w2
theorem Never.pureS {α : Type} {s : Sem α} (h : Never P s) : PureS P s := fun w v w' e => absurd e (h w v w')
theorem pureS_pure {α : Type} (x : α) : PureS P (pure x : Sem α) := fun w v w' e => by
 simp at e; exact ⟨e.2.symm, fun w2 => by simp [e.1]⟩
theorem pureS_bind {α β : Type} {s : Sem α} {f : α → Sem β} (h : PureS P s) (hf : ∀ x, PureS P (f x)) : PureS P (s >>= f) := fun w v w' e => by
 rw [Sem.run_bind] at e
 cases hr : s.run P w with
 | ok x w1 =>
  rw [hr] at e; simp only [Result.andThen_ok] at e
  obtain ⟨h1, h2⟩ := h _ _ _ hr
  obtain ⟨h3, h4⟩ := hf x _ _ _ e
  exact ⟨h3.trans h1, fun w2 => by rw [Sem.run_bind, h2, Result.andThen_ok, h4]⟩
 | halt x w1 => rw [hr] at e; simp [Result.andThen] at e
theorem pureS_program : PureS P program := fun w v w' e => by
 simp [program, Sem.run] at e; exact ⟨e.2.symm, fun w2 => by simp [program, Sem.run, e.1]⟩
theorem pureS_typeInfo (t : TypeId) : PureS P (typeInfo t) := by
 unfold typeInfo
 refine pureS_bind pureS_program fun p => ?_
 split
 · exact pureS_pure _
 · exact (never_halt _).pureS
theorem pureS_underlying (t : TypeId) : PureS P (underlying t) := by
 unfold underlying
 refine pureS_bind pureS_program fun p => ?_
 split
 · exact pureS_pure _
 · exact (never_halt _).pureS
theorem pureS_sizeOf (t : TypeId) : PureS P (sizeOf t) := pureS_bind (pureS_typeInfo t) fun _ => pureS_pure _
theorem pureS_asIntOf (v : Value) : PureS P (asIntOf v) := by
 unfold asIntOf
 split
 · exact pureS_pure _
 · exact (never_halt _).pureS
 · exact (never_halt _).pureS
theorem pureS_sureAddr (v : Value) : PureS P (Instr.sureAddr v) := by
 unfold Instr.sureAddr
 split
 · exact pureS_pure _
 · exact (never_halt _).pureS
theorem pureS_asBool (x : Value) : PureS P (asBool x) := by
 unfold asBool
 split
 · exact pureS_pure _
 · exact (never_halt _).pureS
theorem pureS_extract (x : Value) (i : Nat) : PureS P (Instr.extract x i) := by
 unfold Instr.extract
 split
 · split
   · exact pureS_pure _
   · exact (never_halt _).pureS
 · exact (never_halt _).pureS
theorem pureS_indexAt (t : TypeId) (x i : Value) : PureS P (Instr.indexAt t x i) := by
 unfold Instr.indexAt
 repeat' first
 | exact pureS_pure _
 | exact pureS_typeInfo _
 | exact pureS_sizeOf _
 | exact pureS_underlying _
 | exact pureS_asIntOf _
 | exact pureS_sureAddr _
 | exact (never_halt _).pureS
 | exact (never_bounds _ _ _ _).pureS
 | refine pureS_bind ?_ fun _ => ?_
 | split
 | dsimp only
theorem pureS_panicE {α : Type} (e : String) : PureS P (runtimePanic (.error e) : Sem α) := by
 unfold runtimePanic
 exact (never_bind fun p => never_halt _).pureS
theorem pureS_binI (op : BinOp) (t : TypeId) (xo yo : Operand) (k k' : IntKind) (m n : Int) : PureS P (do eqGuard op t xo yo (.int k m) (.int k' n); binOp op t (.int k m) (.int k' n) : Sem Value) := by
 refine pureS_bind (fun w v w' e => ?_) fun _ => ?_
 · have h := fun w2 => eqGuard_run (P := P) (w := w2) (op := op) (t := t) (xo := xo) (yo := yo) (u := .int k m) (v := .int k' n) (by simp) (by simp)
   rw [h] at e
   simp only [Result.ok.injEq] at e
   exact ⟨e.2.symm, fun w2 => by rw [h]⟩
 · unfold binOp
   cases op <;> dsimp only <;> (repeat' first
    | exact pureS_pure _
    | exact pureS_panicE _
    | exact (never_halt _).pureS
    | (unfold Op.shift; split)
    | (unfold Op.intDiv; split)
    | unfold Op.intArith
    | unfold Op.intBits
    | unfold Op.intCmp
    | split
    | dsimp only)
theorem pureS_binS (op : BinOp) (t : TypeId) (xo yo : Operand) (m n : ByteArray) : PureS P (do eqGuard op t xo yo (.string m) (.string n); binOp op t (.string m) (.string n) : Sem Value) := by
 refine pureS_bind (fun w v w' e => ?_) fun _ => ?_
 · have h := fun w2 => eqGuard_run (P := P) (w := w2) (op := op) (t := t) (xo := xo) (yo := yo) (u := .string m) (v := .string n) (by simp) (by simp)
   rw [h] at e
   simp only [Result.ok.injEq] at e
   exact ⟨e.2.symm, fun w2 => by rw [h]⟩
 · unfold binOp
   cases op <;> dsimp only <;> unfold Op.stringOp <;> dsimp only <;> (repeat' first
    | exact pureS_pure _
    | exact (never_halt _).pureS
    | split
    | dsimp only)
theorem pureS_len {ts : Array TypeId} {t u : TypeId} {xs : Array Value} (h0 : ts[0]? = some t) (h : (∃ e, P.underlying t = some (.slice e)) ∨ P.underlying t = some .string) : PureS P (Builtin.len_ ts u xs) := by
 unfold Builtin.len_
 rw [h0]
 split
 · rename_i p' t' x hx
   simp only [Prod.mk.injEq, Option.some.injEq] at hx
   obtain ⟨rfl, hx⟩ := hx
   intro w v w' e
   rcases h with ⟨e1, h⟩ | h
   · simp only [Sem.run_bind, run_underlying h, Result.andThen_ok] at e ⊢
     cases x <;> first | exact pureS_pure _ _ _ _ e | exact absurd e ((never_halt _) _ _ _)
   · simp only [Sem.run_bind, run_underlying h, Result.andThen_ok] at e ⊢
     cases x <;> first | exact pureS_pure _ _ _ _ e | exact absurd e ((never_halt _) _ _ _)
 · exact (never_halt _).pureS
theorem pureS_fieldAt {s : TypeId} {x : Value} {f : Nat} {fs : Array Field} {fd : Field} (hu : P.underlying s = some (.struct fs)) (hf : fs[f]? = some fd) (hz : ¬ P.cellsOf fd.type = 0) : PureS P (Instr.fieldAt s x f) := by
 intro w v w' e
 have hp : ∀ a, PureS P (fieldPlace a fd) := fun a w v w' e => by
  unfold fieldPlace at e ⊢
  cases hi : P.info? fd.type with
  | none =>
   simp [sizeOf, typeInfo, hi, Sem.run_bind, stuck, Sem.run, Result.andThen] at e
  | some i =>
   have hs : ∀ w2, (sizeOf fd.type).run P w2 = .ok (P.cellsOf fd.type) w2 := fun w2 => by
    simp [sizeOf, typeInfo, hi, Sem.run_bind, Program.cellsOf]
   simp only [Sem.run_bind, hs, Result.andThen_ok, hz, if_false, Sem.run_pure, Result.ok.injEq] at e ⊢
   exact ⟨e.2.symm, fun w2 => ⟨e.1, trivial⟩⟩
 have h1 : PureS P (do let a ← Instr.sureAddr x; pure (.pointer (some (← fieldPlace a fd))) : Sem Value) := pureS_bind (pureS_sureAddr x) fun ad => pureS_bind (hp ad) fun _ => pureS_pure _
 have h2 : ∀ w2, (Instr.fieldAt s x f).run P w2 = (do let a ← Instr.sureAddr x; pure (.pointer (some (← fieldPlace a fd))) : Sem Value).run P w2 := fun w2 => by
  unfold Instr.fieldAt
  simp only [Sem.run_bind, run_underlying hu, Result.andThen_ok, hf]
 rw [h2] at e
 obtain ⟨h3, h4⟩ := h1 _ _ _ e
 exact ⟨h3, fun w2 => by rw [h2]; exact h4 w2⟩
section
variable {c : Cx} {gh : Gh} {nt : Nat} {st : St} {a : Act}
theorem pure_run {w : World} (h : Inv c gh nt st a w) {o : Oper} (hp : pureAt P st o = true) {w' : World} {n : Next} (e : (execOp a.eval o).run P w = .ok n w') :
  w' = w ∧ ∃ v, n = .value v ∧ ∀ w2, (execOp a.eval o).run P w2 = .ok (.value v) w2 := by
 have val : ∀ {s : Sem Value}, PureS P s → (do pure (.value (← s)) : Sem Next).run P w = .ok n w' → w' = w ∧ ∃ v, n = .value v ∧ ∀ w2, (do pure (.value (← s)) : Sem Next).run P w2 = .ok (.value v) w2 := fun {s} hk e => by
  rw [Sem.run_bind] at e
  cases hr : s.run P w with
  | ok x w1 =>
   rw [hr] at e
   simp only [Result.andThen_ok, Sem.run_pure, Result.ok.injEq] at e
   obtain ⟨h1, h2⟩ := hk _ _ _ hr
   exact ⟨e.2.symm.trans h1, x, e.1.symm, fun w2 => by rw [Sem.run_bind, h2, Result.andThen_ok, Sem.run_pure]⟩
  | halt x w1 => rw [hr] at e; simp [Result.andThen] at e
 unfold pureAt at hp
 unfold execOp at e ⊢
 cases hop : o.op with
 | move x => simp only [hop] at e ⊢; exact val (pureS_pure _) e
 | assign x => simp only [hop] at e ⊢; exact val (pureS_pure _) e
 | indexAddr t x i => simp only [hop] at e ⊢; exact val (pureS_indexAt _ _ _) e
 | extract x i => simp only [hop] at e ⊢; exact val (pureS_extract _ _) e
 | pick x y z =>
  simp only [hop] at e ⊢
  rw [Sem.run_bind] at e
  cases hr : (asBool (a.eval x)).run P w with
  | ok b w1 =>
   rw [hr] at e
   simp only [Result.andThen_ok, Sem.run_pure, Result.ok.injEq] at e
   obtain ⟨h1, h2⟩ := pureS_asBool _ _ _ _ hr
   exact ⟨e.2.symm.trans h1, _, e.1.symm, fun w2 => by rw [Sem.run_bind, h2, Result.andThen_ok, Sem.run_pure]⟩
  | halt b w1 => rw [hr] at e; simp [Result.andThen] at e
 | fieldAddr t x f =>
  simp only [hop] at e hp ⊢
  split at hp
  · rename_i fs hu
    split at hp
    · rename_i fd hf
      exact val (pureS_fieldAt hu hf (by intro h0; rw [h0] at hp; simp at hp)) e
    · simp at hp
  · simp at hp
 | nilCheck x =>
  simp only [hop] at e hp ⊢
  have ht := get_TR (P := P) h 0 x
  have hv : ∃ ad, a.eval x = .pointer (some ad) := by
   split at hp
   · rename_i b o' hx
     rw [hx] at ht
     obtain ⟨B, hB⟩ := Option.isSome_iff_exists.1 hp
     exact ⟨_, ht B hB⟩
   · rename_i id i j hx
     rw [hx] at ht
     obtain ⟨A, hA⟩ := Option.isSome_iff_exists.1 hp
     obtain ⟨_, _, ad, _, hv⟩ := ht A hA
     exact ⟨_, hv⟩
   · rename_i sz g hx
     rw [hx] at ht
     obtain ⟨ad, hv, _⟩ := ht
     exact ⟨ad, hv⟩
   · simp at hp
  obtain ⟨ad, hv⟩ := hv
  rw [hv] at e ⊢
  exact val (pureS_pure _) e
 | binOp op t x y z =>
  simp only [hop] at e hp ⊢
  split at hp
  · rename_i hx hy
    have h1 := TR_I (hx ▸ get_TR (P := P) h t x)
    have h2 := TR_I (hy ▸ get_TR (P := P) h t y)
    rw [h1, h2] at e ⊢
    exact val (pureS_binI op t x y _ _ _ _) e
  · rename_i hx hy
    have h1 := TR_S (hx ▸ get_TR (P := P) h t x)
    have h2 := TR_S (hy ▸ get_TR (P := P) h t y)
    rw [h1, h2] at e ⊢
    exact val (pureS_binS op t x y _ _) e
  · simp at hp
 | call c =>
  simp only [hop] at e hp ⊢
  split at hp
  · rename_i hc
    split at hp
    · rename_i t ht
      have hl : (∃ e, P.underlying t = some (.slice e)) ∨ P.underlying t = some .string := by
       split at hp
       · exact .inl ⟨_, by assumption⟩
       · exact .inr (by assumption)
       · simp at hp
      simp only [resolve, hc, Sem.run_bind, Sem.run_pure, Result.andThen_ok, invoke, builtin] at e ⊢
      obtain ⟨h1, v, h2, h3⟩ := val (pureS_len (u := o.type) (xs := c.args.map a.eval) ht hl) (by simp only [Sem.run_bind, Sem.run_pure]; exact e)
      exact ⟨h1, v, h2, fun w2 => by have := h3 w2; simp only [Sem.run_bind, Sem.run_pure] at this; exact this⟩
    · simp at hp
  · simp at hp
 | _ => rw [hop] at hp; simp at hp
end
def Ext0 (w w' : World) : Prop := w.heap.size ≤ w'.heap.size ∧ ∀ b, b < w.heap.size → w'.heap[b]? = w.heap[b]?
theorem Ext0.refl (w : World) : Ext0 w w := ⟨Nat.le_refl _, fun _ _ => rfl⟩
theorem Ext0.trans {w w' w'' : World} (h : Ext0 w w') (h' : Ext0 w' w'') : Ext0 w w'' := ⟨Nat.le_trans h.1 h'.1, fun b hb => (h'.2 b (Nat.lt_of_lt_of_le hb h.1)).trans (h.2 b hb)⟩
def GrowS {α : Type} (P : Program) (s : Sem α) : Prop := ∀ w v w', s.run P w = .ok v w' → Ext0 w w'
theorem PureS.grow {α : Type} {s : Sem α} (h : PureS P s) : GrowS P s := fun w v w' e => by rw [(h _ _ _ e).1]; exact .refl w
theorem growS_bind {α β : Type} {s : Sem α} {f : α → Sem β} (h : GrowS P s) (hf : ∀ x, GrowS P (f x)) : GrowS P (s >>= f) := fun w v w' e => by
 rw [Sem.run_bind] at e
 cases hr : s.run P w with
 | ok x w1 => rw [hr] at e; simp only [Result.andThen_ok] at e; exact (h _ _ _ hr).trans (hf x _ _ _ e)
 | halt x w1 => rw [hr] at e; simp [Result.andThen] at e
theorem growS_newObj (o : Obj) : GrowS P (newObj o) := fun w v w' e => by
 simp only [newObj, Sem.run, Result.ok.injEq] at e
 obtain ⟨_, rfl⟩ := e
 exact ⟨by simp, fun b hb => by simp [Array.getElem?_push, Nat.ne_of_lt hb]⟩
theorem growS_newVar (t : TypeId) (v : Value) : GrowS P (newVar t v) := growS_bind (growS_newObj _) fun _ => (pureS_pure _).grow
theorem growS_newRow (t : TypeId) (v : Array Value) : GrowS P (newRow t v) := growS_bind (growS_newObj _) fun _ => (pureS_pure _).grow
theorem pureS_zeroValue (t : TypeId) : PureS P (zeroValue t) := by
 unfold zeroValue
 refine pureS_bind (pureS_typeInfo t) fun i => ?_
 split
 · exact pureS_pure _
 · exact (never_halt _).pureS
theorem growS_alloc (t : TypeId) : GrowS P (Instr.alloc t true (.tuple #[])) := by
 unfold Instr.alloc
 refine growS_bind (pureS_zeroValue t).grow fun z => ?_
 exact growS_bind (growS_newVar t z) fun _ => (pureS_pure _).grow
theorem growS_box (t : TypeId) (v : Value) : GrowS P (Instr.box t v) := growS_bind (growS_newVar t v) fun _ => (pureS_pure _).grow
theorem growS_buildSlice (t : TypeId) (n : Nat) (ps : Array (Nat × Value)) : GrowS P (Instr.buildSlice t n ps) := by
 unfold Instr.buildSlice
 repeat' first
 | exact (pureS_pure _).grow
 | exact (pureS_underlying _).grow
 | exact (pureS_sizeOf _).grow
 | exact (pureS_zeroValue _).grow
 | exact (never_halt _).pureS.grow
 | exact growS_newRow _ _
 | refine growS_bind ?_ fun _ => ?_
 | split
 | dsimp only
theorem grow_run {o : Oper} (hs : growOp o = true) {ρ : Operand → Value} {w w' : World} {n : Next} (e : (execOp ρ o).run P w = .ok n w') : Ext0 w w' ∧ ∃ v, n = .value v := by
 have val : ∀ {s : Sem Value}, GrowS P s → (do pure (.value (← s)) : Sem Next).run P w = .ok n w' → Ext0 w w' ∧ ∃ v, n = .value v := fun {s} hk e => by
  rw [Sem.run_bind] at e
  cases hr : s.run P w with
  | ok x w1 =>
   rw [hr] at e
   simp only [Result.andThen_ok, Sem.run_pure, Result.ok.injEq] at e
   exact ⟨e.2 ▸ hk _ _ _ hr, x, e.1.symm⟩
  | halt x w1 => rw [hr] at e; simp [Result.andThen] at e
 unfold growOp at hs
 unfold execOp at e
 cases hop : o.op with
 | alloc t => simp only [hop] at e; exact val (growS_alloc _) e
 | box t x => simp only [hop] at e; exact val (growS_box _ _) e
 | buildSlice t m ps => simp only [hop] at e; exact val (growS_buildSlice _ _ _) e
 | _ => rw [hop] at hs; simp at hs
def StabS {α : Type} (P : Program) (s : Sem α) : Prop := ∀ w v w', s.run P w = .ok v w' → w' = w ∧ ∀ w2, Ext0 w w2 → s.run P w2 = .ok v w2
theorem PureS.stab {α : Type} {s : Sem α} (h : PureS P s) : StabS P s := fun w v w' e => ⟨(h _ _ _ e).1, fun w2 _ => (h _ _ _ e).2 w2⟩
theorem stabS_bind {α β : Type} {s : Sem α} {f : α → Sem β} (h : StabS P s) (hf : ∀ x, StabS P (f x)) : StabS P (s >>= f) := fun w v w' e => by
 rw [Sem.run_bind] at e
 cases hr : s.run P w with
 | ok x w1 =>
  rw [hr] at e; simp only [Result.andThen_ok] at e
  obtain ⟨h1, h2⟩ := h _ _ _ hr
  subst h1
  obtain ⟨h3, h4⟩ := hf x _ _ _ e
  exact ⟨h3, fun w2 hx => by rw [Sem.run_bind, h2 w2 hx, Result.andThen_ok, h4 w2 hx]⟩
 | halt x w1 => rw [hr] at e; simp [Result.andThen] at e
theorem seen_none {w : World} {at_ : Addr} {u : TypeId} {k : Addr} {b : Bool} (h : w.heap[at_.block]? = none) : ∀ x, w.seen P at_ u k b ≠ .ok x := by
 intro x e
 unfold World.seen at e
 simp only [bind, Except.bind, pure, Except.pure, throw, throwThe, MonadExceptOf.throw, h] at e
 repeat' split at e
 all_goals simp at e
theorem viewLoad_ext {w w2 : World} (hx : Ext0 w w2) {at_ : Addr} {u : TypeId} {k : Addr} {b : Bool} {x : Value × List Addr} (e : w.viewLoad P at_ u k b = .ok x) : w2.viewLoad P at_ u k b = .ok x := by
 by_cases hb : at_.block < w.heap.size
 · have h := hx.2 _ hb
   rw [← e]
   unfold World.viewLoad World.seen
   rw [h]
 · exfalso
   have h0 : w.heap[at_.block]? = none := Array.getElem?_eq_none (Nat.le_of_not_lt hb)
   unfold World.viewLoad at e
   cases hs : w.seen P at_ u k b with
   | ok y => exact seen_none h0 y hs
   | error y => rw [hs] at e; simp [bind, Except.bind] at e
theorem stabS_load (a : Addr) (m : Mode) : StabS P (load a m) := fun w v w' e => by
 refine ⟨keeps_load a m _ _ _ e, fun w2 hx => ?_⟩
 simp only [load, Sem.run] at e ⊢
 by_cases hb : a.block < w.heap.size
 · have h := hx.2 _ hb
   have hc : w2.cell? a = w.cell? a := by unfold World.cell?; rw [h]
   rw [hc]
   split at e
   · simp only [Sem.run, Result.ok.injEq] at e ⊢; exact ⟨e.1, trivial⟩
   · unfold World.farLoad at e ⊢
     rw [h]
     split at e
     · rename_i r hf
       split at hf
       · rename_i at_ u hv
         split at hf
         · rename_i r' hr
           rw [viewLoad_ext hx hr]
           simp only [Except.ok.injEq] at hf
           subst hf
           simp only [Sem.run, Result.ok.injEq] at e ⊢; exact ⟨e.1, trivial⟩
         · simp at hf
       · simp at hf
     · simp at e
 · have h0 : w.heap[a.block]? = none := Array.getElem?_eq_none (Nat.le_of_not_lt hb)
   have hc : w.cell? a = none := by unfold World.cell?; rw [h0]
   rw [hc] at e
   simp only [World.farLoad, h0] at e
   simp at e
theorem stabS_loadCells (a : Addr) : ∀ (n i : Nat) (acc : Array Value), StabS P (loadCellsFrom a i n acc) := by
 intro n
 induction n with
 | zero => intro i acc; exact (pureS_pure _).stab
 | succ n ih => intro i acc; exact stabS_bind (stabS_load _ _) fun v => ih _ _
theorem pureS_isAgg (t : TypeId) : PureS P (isAgg t) := by
 unfold isAgg
 refine pureS_bind (pureS_underlying t) fun d => ?_
 split <;> exact pureS_pure _
theorem stabS_loadAt (t : TypeId) (x : Value) : StabS P (Instr.loadAt t x) := by
 unfold Instr.loadAt
 refine stabS_bind (pureS_sureAddr x).stab fun ad => ?_
 unfold loadVar
 refine stabS_bind (pureS_isAgg t).stab fun b => ?_
 cases b with
 | true => exact stabS_bind (pureS_sizeOf t).stab fun n => stabS_bind (stabS_loadCells _ _ _ _) fun _ => (pureS_pure _).stab
 | false => exact stabS_load _ _
theorem load_stab {o : Oper} (hs : loadOp o = true) {ρ : Operand → Value} {w w' : World} {n : Next} (e : (execOp ρ o).run P w = .ok n w') : w' = w ∧ ∀ w2, Ext0 w w2 → (execOp ρ o).run P w2 = .ok n w2 := by
 unfold loadOp at hs
 unfold execOp at e ⊢
 cases hop : o.op with
 | load t x => simp only [hop] at e ⊢; exact stabS_bind (stabS_loadAt _ _) (fun _ => (pureS_pure _).stab) _ _ _ e
 | _ => rw [hop] at hs; simp at hs
theorem still_run {o : Oper} (hs : stillOp o = true) {ρ : Operand → Value} {w w' : World} {n : Next} (e : (execOp ρ o).run P w = .ok n w') : w' = w ∧ ∃ v, n = .value v := by
 have val : ∀ {s : Sem Value}, Keeps P s → (do pure (.value (← s)) : Sem Next).run P w = .ok n w' → w' = w ∧ ∃ v, n = .value v := fun {s} hk e => by
  rw [Sem.run_bind] at e
  cases hr : s.run P w with
  | ok x w1 =>
   rw [hr] at e
   simp only [Result.andThen_ok, Sem.run_pure, Result.ok.injEq] at e
   exact ⟨e.2.symm.trans (hk _ _ _ hr), x, e.1.symm⟩
  | halt x w1 => rw [hr] at e; simp [Result.andThen] at e
 unfold stillOp at hs
 unfold execOp at e
 cases hop : o.op with
 | move x => simp only [hop] at e; exact val (keeps_pure _) e
 | assign x => simp only [hop] at e; exact val (keeps_pure _) e
 | load t x => simp only [hop] at e; exact val (keeps_loadAt _ _) e
 | fieldAddr t x f => simp only [hop] at e; exact val (keeps_fieldAt _ _ _) e
 | indexAddr t x i => simp only [hop] at e; exact val (keeps_indexAt _ _ _) e
 | slice t x l h m => simp only [hop] at e; exact val (keeps_sliceAt _ _ _ _ _) e
 | extract x i => simp only [hop] at e; exact val (keeps_extract _ _) e
 | call c =>
  simp only [hop] at e hs
  split at hs
  · rename_i hc
    simp only [resolve, hc, Sem.run_bind, Sem.run_pure, Result.andThen_ok, invoke, builtin] at e
    exact val (keeps_len c.argTypes o.type (c.args.map ρ)) (by simp only [Sem.run_bind, Sem.run_pure]; exact e)
  · simp at hs
 | _ => rw [hop] at hs; simp at hs
end
section
variable {P : Program} {ops : Array Oper} {Q : Exit → Act → World → Prop}
def YieldsAt (P : Program) (ops : Array Oper) (o : Oper) (v : Value) (a : Act) (w : World) : Prop :=
 (Region.wanted o (yielded ops a.tmps) = true ∧ (execOp a.eval o).run P w = .ok (.value v) w) ∨
 (Region.wanted o (yielded ops a.tmps) = false ∧ v = undef)
theorem YieldsAt.wpOp {i : Nat} {o : Oper} {v : Value} {a : Act} {w : World} (hi : ops[i]? = some o) (hy : YieldsAt P ops o v a w)
  {K : Act → World → Prop} (h : K (a.put o.dst v) w) : wpOp P ops Q i K a w := by
 unfold Go.wpOp
 simp only [hi]
 rcases hy with ⟨hw, hv⟩ | ⟨hw, rfl⟩
 · simp only [hw, if_true, Oper.wp, hv, Oper.upon]; exact .inl h
 · simp only [hw, Bool.false_eq_true, if_false]; exact h
theorem YieldsAt.of_same {o : Oper} {v : Value} {a a' : Act} {w : World} (hy : YieldsAt P ops o v a w) (he : execOp a'.eval o = execOp a.eval o)
  (hw : Region.wanted o (yielded ops a'.tmps) = Region.wanted o (yielded ops a.tmps)) : YieldsAt P ops o v a' w := by
 unfold YieldsAt at *
 rw [he, hw]
 exact hy
def Ylds (P : Program) (ops : Array Oper) (R : World → World → Prop) (o : Oper) (v : Value) (a : Act) (w : World) : Prop := ∀ w', R w w' → YieldsAt P ops o v a w'
def Only (P : Program) (R : World → World → Prop) (oj : Oper) : Prop := (∀ w w', R w w') ∨ ∀ (ρ : Operand → Value) w n w', (execOp ρ oj).run P w = .ok n w' → R w w' ∧ ∃ v, n = .value v
theorem wpOp_still {j : Nat} {R : World → World → Prop} (hrefl : ∀ w, R w w) (htr : ∀ {w w' w''}, R w w' → R w' w'' → R w w'') {oi oj : Oper} {v : Value} (hj : ops[j]? = some oj) (hap : oi.apart ops oj = true) (hsi : ∀ cs b, oi.op ≠ .select cs b) (hsj : Only P R oj) (hsel : ∀ cs b, oj.op ≠ .select cs b)
  (hQ : ∀ c a w, ¬ Q (.panic c) a w) (hL : ¬ LetsOut Q) {K : Act → World → Prop} {a : Act} {w : World} (hy : Ylds P ops R oi v a w) (h : wpOp P ops Q j K (a.put oi.dst v) w) :
  wpOp P ops Q j (fun a' w' => Ylds P ops R oi v a' w' ∧ K (a'.put oi.dst v) w') a w := by
 obtain ⟨h1, h2, h3⟩ := Oper.apart_spec hap
 have keep0 : ∀ (a : Act) w, YieldsAt P ops oi v a w → ∀ u, YieldsAt P ops oi v (a.put oj.dst u) w := fun a w hy u =>
  hy.of_same (execOp_put oi hsi a oj.dst u h3) (wanted_put oi a oj.dst u h3)
 have keep : ∀ (a : Act) w', R w w' → Ylds P ops R oi v a w → ∀ u, Ylds P ops R oi v (a.put oj.dst u) w' := fun a w' hr hy u w'' hr' => keep0 a w'' (hy w'' (htr hr hr')) u
 unfold wpOp at *
 simp only [hj] at *
 rw [wanted_put oj a oi.dst v h1] at h
 split
 · rename_i hw
   simp only [hw, if_true] at h
   rcases h with h | ⟨_, hlets⟩
   case inr => exact absurd hlets hL
   refine .inl ?_
   unfold Oper.wp at *
   rw [execOp_put oj hsel a oi.dst v h1] at h
   cases hr : (execOp a.eval oj).run P w with
   | ok n w' =>
    rcases hsj with hp | hsj
    · rw [hr] at h
      cases n with
      | value u => exact ⟨keep a w' (hp _ _) hy u, by rw [← Act.put_comm a v u h2]; exact h⟩
      | skip => exact ⟨keep a w' (hp _ _) hy undef, by rw [← Act.put_comm a v undef h2]; exact h⟩
      | defer d =>
       have hy' : Ylds P ops R oi v ({ a with defers := d :: a.defers } : Act) w := fun w' hr => (hy w' hr).of_same rfl rfl
       refine ⟨keep _ w' (hp _ _) hy' undef, ?_⟩
       rw [← Act.put_comm _ v undef h2, ← Act.put_defers]; exact h
      | enter f args =>
       refine Calls.mono h fun e w'' he => ?_
       cases e with
       | returned u => exact ⟨keep a w'' (hp _ _) hy u, by rw [← Act.put_comm a v u h2]; exact he⟩
       | panicked c => exact absurd he (hQ _ _ _)
       | outgrown => exact absurd he hL
      | row r args => exact Rows.mono h fun u w'' he => ⟨keep a w'' (hp _ _) hy u, by rw [← Act.put_comm a v u h2]; exact he⟩
      | _ => exact h.elim
    · obtain ⟨hR, u, rfl⟩ := hsj _ _ _ _ hr
      rw [hr] at h
      simp only [Oper.upon] at h ⊢
      exact ⟨keep a w' hR hy u, by rw [← Act.put_comm a v u h2]; exact h⟩
   | halt x w' =>
    rw [hr] at h
    cases x <;> simp only [Oper.upon] at h
    exact absurd h (hQ _ _ _)
 · rename_i hw
   simp only [hw] at h
   exact ⟨keep a w (hrefl w) hy _, by rw [← Act.put_comm a v undef h2]; exact h⟩
theorem wpAny_still {i : Nat} {R : World → World → Prop} (hrefl : ∀ w, R w w) (htr : ∀ {w w' w''}, R w w' → R w' w'' → R w w'') {oi : Oper} {v : Value} {dep : Nat → Bool} (hi : ops[i]? = some oi) (hsel : Region.noSelect ops = true) (hQ : ∀ c a w, ¬ Q (.panic c) a w) (hL : ¬ LetsOut Q)
  (hdep : ∀ j oj, ops[j]? = some oj → dep j = true → ∃ e ∈ oj.after, Region.binds .any e = true ∧ (e.on = i ∨ dep e.on = true)) :
  ∀ (fuel : Nat) (listed : Array Bool) (a : Act) (w : World),
   (∀ j oj, ops[j]? = some oj → j ≠ i → dep j = false → listed.getD j true = false → oi.apart ops oj = true ∧ Only P R oj) →
   (∀ j, dep j = true → listed.getD j false = false) →
   i ∈ Region.ready .any ops listed → Ylds P ops R oi v a w →
   wpAny P .any ops Q fuel (listed.setIfInBounds i true) (a.put oi.dst v) w → wpAny P .any ops Q (fuel + 1) listed a w := by
 intro fuel
 induction fuel with
 | zero =>
  intro listed a w _ _ hr hy H
  refine ⟨fun h => (by rw [h] at hr; cases hr), fun j hj => ?_⟩
  by_cases hji : j = i
  · subst hji; exact (hy _ (hrefl _)).wpOp hi H
  · have := ready_mono hj hji
    rw [H.1] at this
    cases this
 | succ fuel ih =>
  intro listed a w hfree hun hr hy H
  refine ⟨fun h => (by rw [h] at hr; cases hr), fun j hj => ?_⟩
  by_cases hji : j = i
  · subst hji; exact (hy _ (hrefl _)).wpOp hi H
  · have h1 := H.2 j (ready_mono hj hji)
    obtain ⟨hjun, oj, hoj, hall⟩ := mem_ready.1 hj
    have hil : listed.getD i false = false := by
     have h0 := (mem_ready.1 hr).1
     rcases Nat.lt_or_ge i listed.size with h' | h'
     · simp [h'] at h0 ⊢; exact h0
     · simp [Array.getElem?_eq_none h']
    have hnd : dep j = false := by
     cases hd : dep j with
     | false => rfl
     | true =>
      obtain ⟨e, he, hb, hon⟩ := hdep j oj hoj hd
      have h2 := hall e he hb
      rcases hon with hon | hon
      · rw [hon, hil] at h2; cases h2
      · rw [hun _ hon] at h2; cases h2
    obtain ⟨hap, hsj⟩ := hfree j oj hoj hji hnd hjun
    have h2 := wpOp_still hrefl htr hoj hap (fun cs b => Region.noSelect_spec hsel i oi cs b hi) hsj (fun cs b => Region.noSelect_spec hsel j oj cs b hoj) hQ hL hy h1
    refine wpOp_mono (fun a' w' h3 => ?_) h2
    obtain ⟨hy', h3⟩ := h3
    refine ih (listed.setIfInBounds j true) a' w' (fun k ok hk hki hdk hunk => ?_) (fun k hdk => ?_) (ready_mono hr (Ne.symm hji)) hy' ?_
    · refine hfree k ok hk hki hdk ?_
      by_cases hjk : j = k
      · subst hjk; exact hjun
      · rw [getD_set_ne true hjk] at hunk; exact hunk
    · have hne : j ≠ k := fun e => by subst e; rw [hnd] at hdk; cases hdk
      rw [getD_set_ne false hne]; exact hun k hdk
    · rw [Array.setIfInBounds_comm _ _ hji]
      exact h3
end
section
variable {R : Type} {P : Program}
theorem K2_nat {c : Bool} {y : AV} {K : AV → Option R} : K2 c (K y) = (K2 c (some y)).bind K := by cases c <;> rfl
theorem loadK_nat {st : St} {t : TypeId} {x : AV} {K : AV → Option R} : loadK P st t x K = (loadK P st t x some).bind K := by
 unfold loadK
 cases x with
 | pb b o => simp only; cases st.bx b with
  | some B => exact K2_nat
  | none => rfl
 | pe id p i j => simp only; cases st.ar id with
  | some A => exact K2_nat
  | none => rfl
 | sp sz g => exact K2_nat
 | _ => rfl
theorem indexAddrK_nat {st : St} {t : TypeId} {x : AV} {n : Int} {K : AV → Option R} : indexAddrK P st t x n K = (indexAddrK P st t x n some).bind K := by
 have k2 : ∀ {c d : Bool} {y : AV}, K2 c (K2 d (K y)) = (K2 c (K2 d (some y))).bind K := fun {c d y} => by cases c <;> cases d <;> rfl
 unfold indexAddrK
 cases P.underlying t with
 | none => rfl
 | some u =>
  cases u with
  | slice e =>
   simp only
   cases x with
   | sl m sz g => exact k2
   | sln m sz g => exact k2
   | gv bs => exact k2
   | rf id => simp only; cases st.ar id with
    | some A => exact k2
    | none => rfl
   | rs id a m => simp only; cases st.ar id with
    | some A => exact k2
    | none => rfl
   | rn id p => simp only; cases st.ar id with
    | some A => simp only; cases atP A.g p with
     | own m sz g => exact k2
     | _ => rfl
    | none => rfl
   | _ => rfl
  | _ => rfl
def rdV (P : Program) (Γ : Orc) (st : St) (o : Oper) : Option AV :=
 match o.op with
 | .move x | .assign x => some (st.get P o.type x)
 | .load t a => loadK P st t (st.get P o.type a) some
 | .fieldAddr t x f => match fieldOf P t f with
  | some (off, fs, _) => K2 (Nat.blt 0 fs) <| match st.get P o.type x with
   | .pb b o' => K2 (st.bx b).isSome (some (.pb b (o' + off)))
   | .pe id p i j => K2 (match st.ar id with | some A => Nat.blt (j + off) (A.szAt p) | none => false) (some (.pe id p i (j + off)))
   | .sp sz g => K2 (Nat.ble off sz) (some (.sp (sz - off) (fun j => g (off + j))))
   | _ => none
  | none => none
 | .indexAddr t x i => match st.get P o.type i with
  | .I _ n => indexAddrK P st t (st.get P t x) n some
  | _ => none
 | .extract x k => match st.get P o.type x with
  | .tup n g => K2 (Nat.blt k n) (some (g k))
  | _ => none
 | .call c => match c.callee with
  | .builtin .len => K2 (Nat.beq c.args.size 1 && Nat.beq c.argTypes.size 1) <| match P.underlying (c.argTypes.getD 0 0) with
   | some .string => match st.get P (c.argTypes.getD 0 0) (c.args.getD 0 (.const undef)) with
    | .S s => some (.I .i64 s.size)
    | _ => none
   | some (.slice _) => match st.rowsOf (st.get P (c.argTypes.getD 0 0) (c.args.getD 0 (.const undef))) with
    | some A => some (.I .i64 A.n)
    | none => none
   | _ => none
  | .value (.func f) => match P.funcs[f]? with
   | some fn => (Γ f ((List.range c.args.size).map fun i => st.get P (c.argTypes.getD i 0) (c.args.getD i (.const undef))) []).bind fun r => some (vwR P fn.resultTypes.toList r.1)
   | none => none
  | _ => none
 | _ => none
theorem passL_sc (q : Pas) : ∀ (xs : List AV) (m : List Bool), xs.all sc1 = true → passL q m xs = some (xs.map fun _ => none, q) := by
 intro xs
 induction xs with
 | nil => intro m _; rfl
 | cons x xs ih =>
  intro m h
  rw [List.all_cons, Bool.and_eq_true] at h
  have e : passX q (m.headD false) x = some (none, q) := by cases x <;> first | rfl | simp [sc1] at h
  simp only [passL, e, ih _ h.2, List.map_cons]
theorem lent_sc (st : St) : ∀ xs : List AV, xs.all sc1 = true → lent st (xs.map fun _ => none) xs = xs := by
 intro xs
 induction xs with
 | nil => intro _; rfl
 | cons x xs ih =>
  intro h
  rw [List.all_cons, Bool.and_eq_true] at h
  have e : st.borA x = x := by cases x <;> first | rfl | simp [sc1] at h
  simp only [List.map_cons, lent, e, ih h.2]
theorem vw_sc {t : TypeId} (h : scT P t = true) (x : AV) : sc1 (vwR P [t] x) = true := by
 unfold scT at h
 show sc1 (vwA P t x) = true
 unfold vwA
 cases hu : P.underlying t with
 | none => rw [hu] at h; simp at h
 | some u =>
  rw [hu] at h
  cases u with
  | int k => simp [vwC, hu, sc1]
  | bool => simp [vwC, hu, sc1]
  | string => simp [vwC, hu, sc1]
  | _ => simp at h
theorem backS_nil (st : St) (base : Nat) (ys : List AV) (b : Bool) : (bif b then some st else backS st st base ys []) = some st := by
 cases b
 · cases ys <;> rfl
 · rfl
theorem rd_form {C : Cfg} {Γ : Orc} {st : St} {o : Oper} {K : St → Option R} (hk : rdKind P o = true) (ha : rdArgs P st o = true) : evOp P C Γ o st K = (rdV P Γ st o).bind fun v => K (st.put o.dst v) := by
 unfold rdKind at hk
 rw [Bool.and_eq_true] at hk
 have hk := hk.2
 cases hop : o.op with
 | move x => simp only [evOp, rdV, hop]; rfl
 | assign x => simp only [evOp, rdV, hop]; rfl
 | load t a => simp only [evOp, rdV, hop]; exact loadK_nat
 | fieldAddr t x f =>
  simp only [evOp, rdV, hop]
  cases fieldOf P t f with
  | none => rfl
  | some z =>
   obtain ⟨off, fs, ft⟩ := z
   simp only
   have k2 : ∀ {c d : Bool} {y : AV}, K2 c (K2 d (K (st.put o.dst y))) = (K2 c (K2 d (some y))).bind fun v => K (st.put o.dst v) := fun {c d y} => by cases c <;> cases d <;> rfl
   have k0 : ∀ {c : Bool}, (K2 c none : Option R) = (K2 c (none : Option AV)).bind fun v => K (st.put o.dst v) := fun {c} => by cases c <;> rfl
   cases st.get P o.type x with
   | pb b o' => exact k2
   | pe id p i j => exact k2
   | sp sz g => exact k2
   | _ => exact k0
 | indexAddr t x i =>
  simp only [evOp, rdV, hop]
  cases st.get P o.type i with
  | I k n => exact indexAddrK_nat
  | _ => rfl
 | extract x k =>
  simp only [evOp, rdV, hop]
  cases st.get P o.type x with
  | tup n g => exact K2_nat (K := fun v => K (st.put o.dst v))
  | _ => rfl
 | call c =>
  rw [hop] at hk
  simp only at hk
  simp only [evOp, rdV, hop, opCall]
  cases hc : c.callee with
  | builtin bi =>
   rw [hc] at hk
   cases bi with
   | len =>
    simp only
    have k1 : ∀ {c : Bool} {y : AV}, K2 c (K (st.put o.dst y)) = (K2 c (some y)).bind fun v => K (st.put o.dst v) := fun {c y} => by cases c <;> rfl
    have k0 : ∀ {c : Bool}, (K2 c none : Option R) = (K2 c (none : Option AV)).bind fun v => K (st.put o.dst v) := fun {c} => by cases c <;> rfl
    cases P.underlying (c.argTypes.getD 0 0) with
    | none => exact k0
    | some u =>
     cases u with
     | string =>
      simp only
      cases st.get P (c.argTypes.getD 0 0) (c.args.getD 0 (.const undef)) with
      | S s => exact k1
      | _ => exact k0
     | slice e =>
      simp only
      cases st.rowsOf (st.get P (c.argTypes.getD 0 0) (c.args.getD 0 (.const undef))) with
      | some A => exact k1
      | none => exact k0
     | _ => exact k0
   | _ => simp at hk
  | value v =>
   rw [hc] at hk
   cases v with
   | func f =>
    simp only at hk ⊢
    cases hf : P.funcs[f]? with
    | none => rw [hf] at hk; simp at hk
    | some fn =>
     rw [hf] at hk
     simp only at hk
     have hsc : ((List.range c.args.size).map fun i => st.get P (c.argTypes.getD i 0) (c.args.getD i (.const undef))).all sc1 = true := by
      unfold rdArgs at ha
      rw [hop] at ha
      simp only [hc] at ha
      rw [List.all_map]; exact ha
     obtain ⟨t, ht, hsT⟩ : ∃ t, fn.resultTypes.toList = [t] ∧ scT P t = true := by
      revert hk
      cases hr : fn.resultTypes.toList with
      | nil => simp
      | cons t l =>
       cases l with
       | nil => intro hk; exact ⟨t, rfl, hk⟩
       | cons _ _ => simp
     generalize ((List.range c.args.size).map fun i => st.get P (c.argTypes.getD i 0) (c.args.getD i (.const undef))) = xs at hsc ⊢
     simp only [St.get, callK, hf, List.range_zero, List.map_nil, List.append_nil]
     rw [passL_sc _ _ _ hsc]
     simp only [lent_sc st _ hsc]
     show K2 (Nat.ble 0 64) _ = _
     rw [show Nat.ble 0 64 = true from rfl]
     show Option.bind _ _ = _
     cases Γ f xs [] with
     | none => rfl
     | some r =>
      simp only [Option.bind_some]
      rw [backS_nil]
      simp only
      have h1 := vw_sc (P := P) hsT r.1
      rw [ht]
      cases hx : vwR P [t] r.1 with
      | I k n => rfl
      | B b => rfl
      | S s => rfl
      | _ => rw [hx] at h1; simp [sc1] at h1
   | _ => simp at hk
  | _ => rw [hc] at hk; simp at hk
 | _ => rw [hop] at hk; simp at hk
theorem get_loc {st1 st2 : St} {t : TypeId} {x : Operand} (h : ∀ d, x = .tmp d → st1.t d = st2.t d) : st1.get P t x = st2.get P t x := by
 cases x with
 | tmp d => exact h d rfl
 | _ => rfl
theorem map_get_loc {st1 st2 : St} {c : Call} (h : ∀ x ∈ c.args.toList, ∀ d, x = .tmp d → st1.t d = st2.t d) (i : Nat) : st1.get P (c.argTypes.getD i 0) (c.args.getD i (.const undef)) = st2.get P (c.argTypes.getD i 0) (c.args.getD i (.const undef)) := by
 by_cases hi : i < c.args.size
 · have : c.args.getD i (.const undef) = c.args[i] := by simp [Array.getD_eq_getD_getElem?, hi]
   rw [this]
   exact get_loc (h _ (by simp))
 · have : c.args.getD i (.const undef) = .const undef := by simp [Array.getD_eq_getD_getElem?, hi]
   rw [this]; rfl
theorem rdV_loc {Γ : Orc} {ops : Array Oper} {st1 st2 : St} {o : Oper} (hk : rdKind P o = true) (ha : st1.ar = st2.ar) (hb : st1.bx = st2.bx) (ht : ∀ d ∈ o.looksAt ops, st1.t d = st2.t d) :
  rdV P Γ st1 o = rdV P Γ st2 o ∧ rdArgs P st1 o = rdArgs P st2 o := by
 obtain ⟨t1, a1, b1⟩ := st1
 obtain ⟨t2, a2, b2⟩ := st2
 simp only at ha hb ht
 subst ha hb
 have hop : ∀ x ∈ o.op.operands.toList, ∀ d, x = .tmp d → t1 d = t2 d := fun x hx d e => by
  refine ht d ?_
  unfold Oper.looksAt
  refine List.mem_append.2 (.inl (List.mem_filterMap.2 ⟨x, hx, ?_⟩))
  rw [e]
 unfold rdKind at hk
 rw [Bool.and_eq_true] at hk
 have hk := hk.2
 have g : ∀ (x : Operand) (t : TypeId), x ∈ o.op.operands.toList → (⟨t1, a1, b1⟩ : St).get P t x = (⟨t2, a1, b1⟩ : St).get P t x := fun x t hx => get_loc (hop x hx)
 unfold rdV rdArgs
 cases ho : o.op with
 | move x => rw [ho] at g; simp only; rw [g x _ (by simp [Op.operands])]; exact ⟨rfl, trivial⟩
 | assign x => rw [ho] at g; simp only; rw [g x _ (by simp [Op.operands])]; exact ⟨rfl, trivial⟩
 | load t a => rw [ho] at g; simp only; rw [g a _ (by simp [Op.operands])]; exact ⟨rfl, trivial⟩
 | fieldAddr t x f => rw [ho] at g; simp only; rw [g x _ (by simp [Op.operands])]; exact ⟨rfl, trivial⟩
 | indexAddr t x i => rw [ho] at g; simp only; rw [g x _ (by simp [Op.operands]), g i _ (by simp [Op.operands])]; exact ⟨rfl, trivial⟩
 | extract x k => rw [ho] at g; simp only; rw [g x _ (by simp [Op.operands])]; exact ⟨rfl, trivial⟩
 | call c =>
  rw [ho] at hop hk
  simp only at hk ⊢
  have hargs : ∀ i, (⟨t1, a1, b1⟩ : St).get P (c.argTypes.getD i 0) (c.args.getD i (.const undef)) = (⟨t2, a1, b1⟩ : St).get P (c.argTypes.getD i 0) (c.args.getD i (.const undef)) :=
   fun i => map_get_loc (fun x hx d e => hop x (by show x ∈ (Array.append _ c.args).toList; rw [show ∀ a b : Array Operand, (Array.append a b).toList = a.toList ++ b.toList from fun a b => Array.toList_append]; exact List.mem_append.2 (.inr hx)) d e) i
  simp only [hargs]
  exact ⟨rfl, trivial⟩
 | _ => rw [ho] at hk; simp at hk
structure Bat (ops : Array Oper) (A : List Nat) (val : Nat → AV) (st : St) (S : Nat → Prop) (st' : St) : Prop where
 ar : st'.ar = st.ar
 bx : st'.bx = st.bx
 on : ∀ i, i ∈ A → S i → ∀ d, (ops[i]?).bind (·.dst) = some d → st'.t d = val i
 off : ∀ d, (∀ i, i ∈ A → S i → (ops[i]?).bind (·.dst) ≠ some d) → st'.t d = st.t d
theorem Bat.nil {ops : Array Oper} {A : List Nat} {val : Nat → AV} {st : St} {S : Nat → Prop} (h : ∀ i, i ∈ A → ¬ S i) : Bat ops A val st S st :=
 ⟨rfl, rfl, fun i hi hs => absurd hs (h i hi), fun _ _ => rfl⟩
theorem Bat.eq {ops : Array Oper} {A : List Nat} {val : Nat → AV} {st st1 st2 : St} {S : Nat → Prop} (h1 : Bat ops A val st S st1) (h2 : Bat ops A val st S st2) : st1 = st2 := by
 obtain ⟨t1, a1, b1⟩ := st1
 obtain ⟨t2, a2, b2⟩ := st2
 obtain rfl : a1 = a2 := h1.ar.trans h2.ar.symm
 obtain rfl : b1 = b2 := h1.bx.trans h2.bx.symm
 congr 1
 funext d
 by_cases h : ∃ i, i ∈ A ∧ S i ∧ (ops[i]?).bind (·.dst) = some d
 · obtain ⟨i, hi, hs, hd⟩ := h
   exact (h1.on i hi hs d hd).trans (h2.on i hi hs d hd).symm
 · have h' : ∀ i, i ∈ A → S i → (ops[i]?).bind (·.dst) ≠ some d := fun i hi hs hd => h ⟨i, hi, hs, hd⟩
   exact (h1.off d h').trans (h2.off d h').symm
theorem Bat.iff {ops : Array Oper} {A : List Nat} {val : Nat → AV} {st st1 : St} {S S' : Nat → Prop} (h : Bat ops A val st S st1) (hs : ∀ i, i ∈ A → (S i ↔ S' i)) : Bat ops A val st S' st1 :=
 ⟨h.ar, h.bx, fun i hi hs' => h.on i hi ((hs i hi).2 hs'), fun d hd => h.off d fun i hi hs' => hd i hi ((hs i hi).1 hs')⟩
theorem Bat.put {ops : Array Oper} {A : List Nat} {val : Nat → AV} {st st1 : St} {S : Nat → Prop} {j : Nat} {oj : Oper} (h : Bat ops A val st S st1) (hj : ops[j]? = some oj) (hjA : j ∈ A) (hdis : ∀ i, i ∈ A → i ≠ j → ∀ d, oj.dst = some d → (ops[i]?).bind (·.dst) ≠ some d) :
  Bat ops A val st (fun i => S i ∨ i = j) (st1.put oj.dst (val j)) := by
 have hb : (ops[j]?).bind (·.dst) = oj.dst := by rw [hj]; rfl
 cases hd : oj.dst with
 | none =>
  refine ⟨h.ar, h.bx, fun i hi hs d he => ?_, fun d hn => h.off d fun i hi hs => hn i hi (.inl hs)⟩
  rcases hs with hs | rfl
  · exact h.on i hi hs d he
  · rw [hb, hd] at he; simp at he
 | some dj =>
  refine ⟨h.ar, h.bx, fun i hi hs d he => ?_, fun d hn => ?_⟩
  · by_cases hij : i = j
    · subst hij
      rw [hb, hd] at he
      obtain rfl := Option.some.inj he
      exact upd_self _ _ _
    · have hne : d ≠ dj := fun e => hdis i hi hij dj hd (by rw [he, e])
      have hs' : S i := hs.resolve_right hij
      exact (upd_ne _ _ hne).trans (h.on i hi hs' d he)
  · have hne : d ≠ dj := fun e => hn j hjA (.inr rfl) (by rw [hb, hd, e])
    exact (upd_ne _ _ hne).trans (h.off d fun i hi hs => hn i hi (.inl hs))
theorem Bat.read {Γ : Orc} {ops : Array Oper} {A : List Nat} {val : Nat → AV} {st st1 st2 : St} {S S' : Nat → Prop} {oj : Oper} (hk : rdKind P oj = true) (h1 : Bat ops A val st S st1) (h2 : Bat ops A val st S' st2)
  (hl : ∀ i, i ∈ A → ∀ d, (ops[i]?).bind (·.dst) = some d → d ∈ oj.looksAt ops → (S i ∧ S' i) ∨ (¬ S i ∧ ¬ S' i)) : rdV P Γ st1 oj = rdV P Γ st2 oj ∧ rdArgs P st1 oj = rdArgs P st2 oj := by
 refine rdV_loc (ops := ops) hk (h1.ar.trans h2.ar.symm) (h1.bx.trans h2.bx.symm) fun d hd => ?_
 by_cases h : ∃ i, i ∈ A ∧ S i ∧ (ops[i]?).bind (·.dst) = some d
 · obtain ⟨i, hi, hs, he⟩ := h
   rcases hl i hi d he hd with ⟨_, hs'⟩ | ⟨hn, _⟩
   · exact (h1.on i hi hs d he).trans (h2.on i hi hs' d he).symm
   · exact absurd hs hn
 · have h' : ∀ i, i ∈ A → S i → (ops[i]?).bind (·.dst) ≠ some d := fun i hi hs hd => h ⟨i, hi, hs, hd⟩
   have h'' : ∀ i, i ∈ A → S' i → (ops[i]?).bind (·.dst) ≠ some d := fun i hi hs he => by
    rcases hl i hi d he hd with ⟨hs', _⟩ | ⟨_, hn⟩
    · exact h ⟨i, hi, hs', he⟩
    · exact absurd hs hn
   exact (h1.off d h').trans (h2.off d h'').symm
end
section
variable {P : Program}
theorem ascB_spec : ∀ {A : List Nat}, ascB A = true → A.Pairwise (· < ·) := by
 intro A
 induction A with
 | nil => intro _; exact .nil
 | cons x l ih =>
  intro h
  unfold ascB at h
  rw [Bool.and_eq_true, List.all_eq_true] at h
  exact .cons (fun y hy => Nat.le_of_ble_eq_true (h.1 y hy)) (ih h.2)
structure BtOk (P : Program) (ops : Array Oper) (listed : Array Bool) (A : List Nat) (j : Nat) (oj : Oper) (dep : Nat → Bool) : Prop where
 op : ops[j]? = some oj
 un : listed.getD j true = false
 kind : rdKind P oj = true
 pre : ∀ e ∈ oj.after, Region.binds .any e = true → e.on < j ∧ (listed.getD e.on false = true ∨ e.on ∈ A)
 pair : ∀ k, k ∈ A → k ≠ j → ∃ ok, ops[k]? = some ok ∧ ok.dst ≠ oj.dst ∧ ((∀ d, ok.dst = some d → d ∉ oj.looksAt ops) ∨ ∃ e ∈ oj.after, Region.binds .any e = true ∧ e.on = k)
 dep1 : ∀ m om, ops[m]? = some om → dep m = true → listed.getD m true = false ∧ ∃ e ∈ om.after, Region.binds .any e = true ∧ (e.on = j ∨ dep e.on = true)
 dep2 : ∀ m om, ops[m]? = some om → dep m = false → listed.getD m true = true ∨ m ∈ A
theorem okBt_spec {ops : Array Oper} {listed : Array Bool} {A : List Nat} (h : okBt P ops listed A = true) : A.Pairwise (· < ·) ∧ ∀ j, j ∈ A → ∃ oj dep, BtOk P ops listed A j oj dep := by
 unfold okBt at h
 rw [Bool.and_eq_true, List.all_eq_true] at h
 refine ⟨ascB_spec h.1, fun j hj => ?_⟩
 have h2 := h.2 j hj
 split at h2
 · rename_i oj ho
   simp only [Bool.and_eq_true, Bool.not_eq_true', List.all_eq_true] at h2
   obtain ⟨⟨⟨⟨h3, h4⟩, h5⟩, h6⟩, h7⟩ := h2
   unfold depOk at h7
   dsimp only at h7
   generalize depM ops j (List.range ops.size) (depM ops j (List.range ops.size) 0) = m at h7
   rw [List.all_eq_true] at h7
   refine ⟨oj, fun k => m.testBit k, ho, h3, h4, fun e he hb => ?_, fun k hk hne => ?_, fun k ok hk hd => ?_, fun k ok hk hd => ?_⟩
   · have := Array.all_eq_true'.1 h5 e he
     simp only [hb, Bool.not_true, Bool.false_or, Bool.and_eq_true, Bool.or_eq_true, List.contains_iff_mem] at this
     exact ⟨Nat.le_of_ble_eq_true this.1, this.2⟩
   · have := h6 k hk
     rw [Bool.or_eq_true] at this
     rcases this with this | this
     · exact absurd (beq_eq.1 this) hne
     · split at this
       · rename_i ok hok
         simp only [Bool.and_eq_true, Bool.not_eq_true', Bool.or_eq_true] at this
         refine ⟨ok, hok, fun e => by rw [e] at this; simp at this, ?_⟩
         rcases this.2 with h8 | h8
         · left
           intro d hd
           rw [hd] at h8
           simp only [Bool.not_eq_true'] at h8
           intro hm
           rw [← List.contains_iff_mem] at hm
           rw [hm] at h8; simp at h8
         · right
           unfold waitsOn at h8
           obtain ⟨e, he, hb⟩ := Array.any_eq_true'.1 h8
           rw [Bool.and_eq_true] at hb
           exact ⟨e, he, hb.1, beq_eq.1 hb.2⟩
       · simp at this
   · have h8 := h7 k (List.mem_range.2 (Array.getElem?_eq_some_iff.1 hk).1)
     rw [hk] at h8
     simp only [hd, cond_true, Bool.and_eq_true, Bool.not_eq_true'] at h8
     obtain ⟨e, he, hb⟩ := Array.any_eq_true'.1 h8.2
     simp only [Bool.and_eq_true, Bool.or_eq_true] at hb
     exact ⟨h8.1, e, he, hb.1, hb.2.imp (fun h => beq_eq.1 h) id⟩
   · have h8 := h7 k (List.mem_range.2 (Array.getElem?_eq_some_iff.1 hk).1)
     rw [hk] at h8
     simp only [hd, cond_false, Bool.or_eq_true, List.contains_iff_mem] at h8
     exact h8
 · simp at h2
theorem batchA_spec {ops : Array Oper} {listed : Array Bool} {i : Nat} {rest : List Nat} (h : batchA P ops listed = i :: rest) : okBt P ops listed (i :: rest) = true := by
 unfold batchA at h
 dsimp only at h
 generalize prune ops listed _ = A at h
 cases hb : okBt P ops listed A with
 | false => rw [hb] at h; simp at h
 | true => rw [hb] at h; simp only [cond_true] at h; rw [h] at hb; exact hb
theorem Bat.val {ops : Array Oper} {A : List Nat} {val val' : Nat → AV} {st st1 : St} {S : Nat → Prop} (h : Bat ops A val st S st1) (hv : ∀ i, i ∈ A → S i → val i = val' i) : Bat ops A val' st S st1 :=
 ⟨h.ar, h.bx, fun i hi hs d hd => (h.on i hi hs d hd).trans (hv i hi hs), h.off⟩
theorem chain {R : Type} {r : R} {C : Cfg} {Γ : Orc} {ops : Array Oper} {K : St → Option R} {listed0 : Array Bool} {A : List Nat} {st : St} (hA : A.Nodup) (hok : ∀ j, j ∈ A → ∃ oj dep, BtOk P ops listed0 A j oj dep) :
  ∀ (B pre : List Nat) (n : Nat) (val0 : Nat → AV) (listed : Array Bool) (stc : St), A = pre ++ B → Bat ops A val0 st (· ∈ pre) stc → evDraw P C Γ ops K n listed B stc = some r →
  B.length ≤ n ∧ ∃ val : Nat → AV, (∀ i, i ∈ pre → val i = val0 i) ∧ (∀ B1 j B2, B = B1 ++ j :: B2 → ∃ stj oj, ops[j]? = some oj ∧ Bat ops A val st (· ∈ pre ++ B1) stj ∧ rdArgs P stj oj = true ∧ rdV P Γ stj oj = some (val j)) ∧
   ∃ stf, Bat ops A val st (fun _ => True) stf ∧ evDraw P C Γ ops K (n - B.length) (B.foldl (fun l i => l.setIfInBounds i true) listed) [] stf = some r := by
 intro B
 induction B with
 | nil =>
  intro pre n val0 listed stc hp hb e
  refine ⟨Nat.zero_le _, val0, fun _ _ => rfl, fun B1 j B2 h => by simp at h, stc, hb.iff fun i hi => ?_, e⟩
  rw [hp, List.append_nil] at hi
  exact ⟨fun _ => trivial, fun _ => hi⟩
 | cons j B ih =>
  intro pre n val0 listed stc hp hb e
  cases n with
  | zero => simp [evDraw] at e
  | succ n =>
   have hjA : j ∈ A := by rw [hp]; simp
   obtain ⟨oj, dep, hO⟩ := hok j hjA
   simp only [evDraw, hO.op] at e
   obtain ⟨ha, e⟩ := K2_some e
   rw [rd_form hO.kind ha] at e
   cases hv : rdV P Γ stc oj with
   | none => rw [hv] at e; simp at e
   | some v =>
    rw [hv] at e
    simp only [Option.bind_some] at e
    have hjp : j ∉ pre := fun h => by
     rw [hp] at hA
     exact (List.nodup_append.1 hA).2.2 j h j (by simp) rfl
    have hb1 : Bat ops A (upd val0 j v) st (· ∈ pre) stc := hb.val fun i hi hs => (upd_ne _ _ (fun e => hjp (by rw [← e]; exact hs))).symm
    have hb2 := hb1.put hO.op hjA (fun i hi hne d hd he => by
     obtain ⟨oi, h1, h2, _⟩ := hO.pair i hi hne
     rw [h1] at he
     exact h2 (by rw [hd]; exact he))
    rw [upd_self] at hb2
    obtain ⟨h1, val, h2, h3, stf, h4, h5⟩ := ih (pre ++ [j]) n (upd val0 j v) (listed.setIfInBounds j true) _ (by rw [hp]; simp) (hb2.iff fun i hi => by simp) e
    refine ⟨by simp; omega, val, fun i hi => (h2 i (by simp [hi])).trans (upd_ne _ _ (fun e => hjp (by rw [← e]; exact hi))), fun B1 k B2 h => ?_, stf, h4, ?_⟩
    · cases B1 with
      | nil =>
       simp only [List.nil_append, List.cons.injEq] at h
       obtain ⟨rfl, rfl⟩ := h
       have hvj : val j = v := (h2 j (by simp)).trans (upd_self _ _ _)
       refine ⟨stc, oj, hO.op, ?_, ha, by rw [hvj]; exact hv⟩
       rw [List.append_nil]
       exact hb1.val fun i hi hs => (h2 i (by simp [show i ∈ pre from hs])).symm
      | cons b B1 =>
       simp only [List.cons_append, List.cons.injEq] at h
       obtain ⟨rfl, rfl⟩ := h
       obtain ⟨stj, ok, q1, q2, q3, q4⟩ := h3 B1 k B2 rfl
       exact ⟨stj, ok, q1, q2.iff fun i hi => by simp, q3, q4⟩
    · rw [List.foldl_cons, List.length_cons]
      have : n + 1 - (B.length + 1) = n - B.length := by omega
      rw [this]; exact h5
theorem count_set {l : Array Bool} {j : Nat} (hj : j < l.size) (hl : l.getD j true = false) : ∀ {A : List Nat}, A.Nodup → j ∈ A →
  (A.filter fun i => !(l.setIfInBounds j true).getD i true).length + 1 = (A.filter fun i => !l.getD i true).length := by
 intro A
 induction A with
 | nil => intro _ h; simp at h
 | cons x A ih =>
  intro hn hm
  rw [List.nodup_cons] at hn
  by_cases hx : x = j
  · subst hx
    have same : ∀ i, i ∈ A → (!(l.setIfInBounds x true).getD i true) = !l.getD i true := fun i hi => by
     have hne : x ≠ i := fun e => hn.1 (by rw [e]; exact hi)
     rw [getD_set_ne true hne]
    have hx1 : (l.setIfInBounds x true).getD x true = true := by simp [hj]
    rw [List.filter_cons, List.filter_cons, hx1, hl]
    simp only [Bool.not_true, Bool.not_false, if_true, Bool.false_eq_true, if_false, List.length_cons]
    rw [List.filter_congr same]
  · have hm' : j ∈ A := by
     rcases List.mem_cons.1 hm with h | h
     · exact absurd h.symm hx
     · exact h
    have e1 : (l.setIfInBounds j true).getD x true = l.getD x true := getD_set_ne true (fun e => hx e.symm)
    rw [List.filter_cons, List.filter_cons, e1]
    have := ih hn.2 hm'
    split <;> simp_all <;> omega
end
section
variable {c : Cx} {gh : Gh} {nt : Nat} {st : St} {a : Act} {w : World} {P : Program} {R : Type} {r : R}
theorem Inv.seeT' {d : Nat} {x : AV} (h : Inv c gh nt st a w) (hx : TR c.sh gh st.ar st.bx w x (a.tmps.getD d undef)) : Inv c gh nt (st.setT d x) a w := by
 refine ⟨h.defers, h.size, fun t => ?_, h.mem, h.fix⟩
 by_cases e : t = d
 · subst e
   show TR c.sh gh st.ar st.bx w (upd st.t t x t) _
   rw [upd_self]; exact hx
 · show TR c.sh gh st.ar st.bx w (upd st.t d x t) _
   rw [upd_ne _ _ e]; exact h.temps t
theorem put_skip {o : Option Nat} (h : Inv c gh nt st a w) (hd : ∀ k, o = some k → k < nt) : Inv c gh nt (st.put o skipV) (a.put o undef) w := h.put hd ⟨#[], rfl, rfl, fun j hj => absurd hj (Nat.not_lt_zero _)⟩
theorem tup0_not {ops : Array Oper} {j d : Nat} {g : Nat → AV} (h : Inv c gh nt st a w) (hdj : (ops[j]?).bind (·.dst) = some d) (hx : st.t d = .tup 0 g) : yielded ops a.tmps j = none := by
 have ht := h.temps d
 rw [hx] at ht
 obtain ⟨vs, e, _⟩ := ht
 rw [Array.getD_eq_getD_getElem?] at e
 unfold yielded
 rw [hdj]
 simp only [Option.bind_some]
 cases hq : a.tmps[d]? with
 | none => rfl
 | some v => rw [hq] at e; simp only [Option.getD_some] at e; subst e; rfl
theorem evOps1_sound {C : Cfg} {Γ : Orc} {ops : Array Oper} {Q : Exit → Act → World → Prop} {Kc : Act → World → Prop} (hΓ : OrcOk P C Γ) (hops : ∀ (i : Nat) (o : Oper), ops[i]? = some o → ∀ k, o.dst = some k → k < nt) {i : Nat} {K : St → Option R}
  (h : Inv c gh nt st a w) (e : evOps P C Γ ops [i] st K = some r) (hK : ∀ st' gh' a' w', Inv c gh' nt st' a' w' → K st' = some r → Kc a' w') : wpOp P ops Q i Kc a w := by
 unfold wpOp
 unfold evOps at e
 split at e
 · rename_i hi
   rw [hi]
   exact hK _ _ _ _ h e
 · rename_i o hi
   rw [hi]
   simp only [evOps] at e ⊢
   have hd := hops i o hi
   split at e
   · rename_i hg
     have hw : Region.wanted o (yielded ops a.tmps) = true := by simp [Region.wanted, hg]
     rw [if_pos hw]
     exact .inl (evOp_sound hΓ h hd e fun st' gh' a' w' h' e' => hK _ _ _ _ h' e')
   · rename_i j want hg
     split at e
     · rename_i d hdj
       split at e
       · rename_i x hx
         have ht := h.temps d
         rw [hx] at ht
         have ht := TR_B ht
         have hget : a.tmps[d]? = some (.bool x) := by
          rw [Array.getD_eq_getD_getElem?] at ht
          cases hq : a.tmps[d]? with
          | none => rw [hq] at ht; simp [undef] at ht
          | some v => rw [hq] at ht; simp at ht; rw [ht]
         have hy : yielded ops a.tmps j = some x := by simp [yielded, hdj, hget]
         have hI : Inv c gh nt (st.setT d (.B x)) a w := h.seeT' (by rw [ht]; rfl)
         have hbad : Inv c gh nt ((st.setT d (.B x)).put o.dst skipV) (a.put o.dst undef) w := put_skip hI hd
         cases x with
         | true =>
          simp only [cond_true] at e
          cases want with
          | true =>
           simp only [cond_true] at e
           have hw : Region.wanted o (yielded ops a.tmps) = true := by simp [Region.wanted, hg, hy]
           rw [if_pos hw]
           exact .inl (evOp_sound hΓ hI hd e fun st' gh' a' w' h' e' => hK _ _ _ _ h' e')
          | false =>
           simp only [cond_false] at e
           have hw : ¬ Region.wanted o (yielded ops a.tmps) = true := by simp [Region.wanted, hg, hy]
           rw [if_neg hw]
           exact hK _ _ _ _ hbad e
         | false =>
          simp only [cond_false] at e
          cases want with
          | true =>
           simp only [cond_true] at e
           have hw : ¬ Region.wanted o (yielded ops a.tmps) = true := by simp [Region.wanted, hg, hy]
           rw [if_neg hw]
           exact hK _ _ _ _ hbad e
          | false =>
           simp only [cond_false] at e
           have hw : Region.wanted o (yielded ops a.tmps) = true := by simp [Region.wanted, hg, hy]
           rw [if_pos hw]
           exact .inl (evOp_sound hΓ hI hd e fun st' gh' a' w' h' e' => hK _ _ _ _ h' e')
       · rename_i g hx
         have hy := tup0_not h hdj hx
         have hw : ¬ Region.wanted o (yielded ops a.tmps) = true := by simp [Region.wanted, hg, hy]
         rw [if_neg hw]
         exact hK _ _ _ _ (put_skip h hd) e
       · simp at e
     · simp at e
theorem freeOp_spec {ops : Array Oper} {listed : Array Bool} {i : Nat} (h : freeOp P st ops listed i = true) : ∃ (oi : Oper) (dep : Nat → Bool), ops[i]? = some oi ∧ (pureAt P st oi = true ∨ stillOp oi = true) ∧
  (∀ j oj, ops[j]? = some oj → dep j = true → ∃ e ∈ oj.after, Region.binds .any e = true ∧ (e.on = i ∨ dep e.on = true)) ∧
  (∀ j oj, ops[j]? = some oj → j ≠ i → dep j = false → listed.getD j true = false → oi.apart ops oj = true ∧ ((pureAt P st oi = true ∨ stillOp oj = true) ∨ loadOp oi = true ∧ growOp oj = true)) ∧
  (∀ j, dep j = true → j < ops.size → listed.getD j true = false) := by
 unfold freeOp at h
 dsimp only at h
 generalize depM ops i (List.range ops.size) (depM ops i (List.range ops.size) 0) = m at h
 split at h
 · rename_i oi hi
   rw [Bool.and_eq_true, List.all_eq_true, Bool.or_eq_true] at h
   obtain ⟨hs, hall⟩ := h
   refine ⟨oi, fun j => m.testBit j, hi, hs, fun j oj hj hd => ?_, fun j oj hj hne hd hl => ?_, fun j hd hlt => ?_⟩
   · have h1 := hall j (List.mem_range.2 (Array.getElem?_eq_some_iff.1 hj).1)
     rw [hj] at h1
     simp only [hd, cond_true, Bool.and_eq_true] at h1
     obtain ⟨e, he, hb⟩ := Array.any_eq_true'.1 h1.2
     simp only [Bool.and_eq_true, Bool.or_eq_true] at hb
     exact ⟨e, he, hb.1, hb.2.imp (fun h => beq_eq.1 h) id⟩
   · have h1 := hall j (List.mem_range.2 (Array.getElem?_eq_some_iff.1 hj).1)
     rw [hj] at h1
     simp only [hd, cond_false, Bool.or_eq_true, hl, Bool.false_eq_true, or_false, Bool.and_eq_true] at h1
     rcases h1 with h1 | h1
     · exact absurd (beq_eq.1 h1) hne
     · exact h1
   · have h1 := hall j (List.mem_range.2 hlt)
     have hj : ops[j]? = some ops[j] := by simp [hlt]
     rw [hj] at h1
     simp only [hd, cond_true, Bool.and_eq_true, Bool.not_eq_true'] at h1
     exact h1.1
 · simp at h
theorem allOf_mem {F : Nat → Option R} : ∀ (l : List Nat), allOf F l = some r → ∀ i ∈ l, F i = some r := by
 intro l
 induction l with
 | nil => intro e; simp [allOf] at e
 | cons i l ih =>
  intro e
  cases l with
  | nil => intro k hk; simp at hk; subst hk; exact e
  | cons j l =>
   simp only [allOf, and2] at e
   by_cases hx : F i = allOf F (j :: l)
   · simp only [hx, decide_true, cond_true] at e
     intro k hk
     rcases List.mem_cons.1 hk with rfl | hk
     · exact hx.trans e
     · exact ih e k hk
   · simp [hx] at e
theorem foldl_set : ∀ {A : List Nat} {l : Array Bool}, (A.foldl (fun l i => l.setIfInBounds i true) l).size = l.size ∧ ∀ m, (A.foldl (fun l i => l.setIfInBounds i true) l)[m]? = if m ∈ A ∧ m < l.size then some true else l[m]? := by
 intro A
 induction A with
 | nil => intro l; exact ⟨rfl, fun m => by simp⟩
 | cons x A ih =>
  intro l
  rw [List.foldl_cons]
  obtain ⟨h1, h2⟩ := ih (l := l.setIfInBounds x true)
  rw [Array.size_setIfInBounds] at h1 h2
  refine ⟨h1, fun m => ?_⟩
  rw [h2 m]
  by_cases hm : m ∈ A ∧ m < l.size
  · rw [if_pos hm, if_pos ⟨List.mem_cons_of_mem _ hm.1, hm.2⟩]
  · rw [if_neg hm]
    by_cases hx : m = x
    · subst hx
      by_cases hl : m < l.size
      · rw [if_pos ⟨by simp, hl⟩]; simp [hl]
      · rw [if_neg (fun h => hl h.2)]; simp [hl]
    · rw [if_neg (fun h => (List.mem_cons.1 h.1).elim hx (fun h' => hm ⟨h', h.2⟩)), Array.getElem?_setIfInBounds_ne (fun e => hx e.symm)]
theorem batch_any {C : Cfg} {Γ : Orc} {ops : Array Oper} {Q : Exit → Act → World → Prop} (hΓ : OrcOk P C Γ) (hops : ∀ (i : Nat) (o : Oper), ops[i]? = some o → ∀ k, o.dst = some k → k < nt) {listed0 : Array Bool} {A : List Nat}
  (hA : A.Pairwise (· < ·)) (hok : ∀ j, j ∈ A → ∃ oj dep, BtOk P ops listed0 A j oj dep) (hsz : listed0.size = ops.size) {val : Nat → AV}
  (hval : ∀ B1 j B2, A = B1 ++ j :: B2 → ∃ stj oj, ops[j]? = some oj ∧ Bat ops A val st (· ∈ B1) stj ∧ rdArgs P stj oj = true ∧ rdV P Γ stj oj = some (val j))
  {stf : St} (hf : Bat ops A val st (fun _ => True) stf) {n : Nat} (fin : ∀ gh a w, Inv c gh nt stf a w → wpAny P .any ops Q n (A.foldl (fun l i => l.setIfInBounds i true) listed0) a w) :
  ∀ (k : Nat) (listed : Array Bool) (gh : Gh) (a : Act) (w : World) (st' : St), listed.size = ops.size → (∀ m, m ∉ A → listed[m]? = listed0[m]?) → (A.filter fun i => !listed.getD i true).length = k →
   (∀ j oj dep, j ∈ A → listed.getD j true = false → BtOk P ops listed0 A j oj dep → ∀ m om, ops[m]? = some om → dep m = true → listed.getD m true = false) →
   Inv c gh nt st' a w → Bat ops A val st (fun i => listed.getD i true = true) st' → wpAny P .any ops Q (n + k) listed a w := by
 have hnd : A.Nodup := hA.imp (fun h => Nat.ne_of_lt h)
 have hlt : ∀ j, j ∈ A → j < ops.size := fun j hj => by
  obtain ⟨oj, dep, hO⟩ := hok j hj
  exact (Array.getElem?_eq_some_iff.1 hO.op).1
 intro k
 induction k with
 | zero =>
  intro listed gh a w st' hs hn hc hd hI hB
  have hall : ∀ i, i ∈ A → listed.getD i true = true := fun i hi => by
   have := List.filter_eq_nil_iff.1 (List.eq_nil_of_length_eq_zero hc) i hi
   simpa using this
  have e1 : listed = A.foldl (fun l i => l.setIfInBounds i true) listed0 := by
   refine Array.ext_getElem? fun m => ?_
   rw [foldl_set.2 m]
   by_cases hm : m ∈ A
   · have hm2 := hlt m hm
     rw [if_pos ⟨hm, by rw [hsz]; exact hm2⟩]
     have := hall m hm
     have hm3 : m < listed.size := by rw [hs]; exact hm2
     simp [hm3] at this ⊢; exact this
   · rw [if_neg (fun h => hm h.1)]; exact hn m hm
  have e2 : st' = stf := hB.eq (hf.iff fun i hi => ⟨fun _ => hall i hi, fun _ => trivial⟩)
  subst e2
  rw [e1]; exact fin _ _ _ hI
 | succ k ih =>
  intro listed gh a w st' hs hn hc hd hI hB
  have hex : ∃ i, i ∈ A ∧ listed.getD i true = false := by
   cases hfl : A.filter (fun i => !listed.getD i true) with
   | nil => rw [hfl] at hc; simp at hc
   | cons x l =>
    have := List.mem_filter.1 (by rw [hfl]; exact List.mem_cons_self .. : x ∈ A.filter (fun i => !listed.getD i true))
    exact ⟨x, this.1, by simpa using this.2⟩
  have hfalse : ∀ {m : Nat}, m < ops.size → listed.getD m true = false → listed.getD m false = false := fun {m} hm h => by
   have hm' : m < listed.size := by rw [hs]; exact hm
   simp [hm'] at h ⊢; exact h
  have htrue : ∀ {m : Nat}, listed.getD m false = true → listed.getD m true = true := fun {m} h => by
   by_cases hm : m < listed.size
   · simp [hm] at h ⊢; exact h
   · simp [hm]
  obtain ⟨j0, hj0A, hj0u, hleast⟩ : ∃ j, j ∈ A ∧ listed.getD j true = false ∧ ∀ i, i ∈ A → i < j → listed.getD i true = true := by
   have key : ∀ m i, i ≤ m → i ∈ A → listed.getD i true = false → ∃ j, j ∈ A ∧ listed.getD j true = false ∧ ∀ i, i ∈ A → i < j → listed.getD i true = true := by
    intro m
    induction m with
    | zero => intro i hi hiA hu; exact ⟨i, hiA, hu, fun x _ hx => by omega⟩
    | succ m ihm =>
     intro i hi hiA hu
     by_cases hx : ∃ x, x ∈ A ∧ x < i ∧ listed.getD x true = false
     · obtain ⟨x, h1, h2, h3⟩ := hx
       exact ihm x (by omega) h1 h3
     · exact ⟨i, hiA, hu, fun x h1 h2 => by
        cases h : listed.getD x true with
        | true => rfl
        | false => exact absurd ⟨x, h1, h2, h⟩ hx⟩
   obtain ⟨i, h1, h2⟩ := hex
   exact key i i (Nat.le_refl _) h1 h2
  obtain ⟨o0, dep0, hO0⟩ := hok j0 hj0A
  have hready : j0 ∈ Region.ready .any ops listed := mem_ready.2 ⟨hj0u, o0, hO0.op, fun e he hb => by
   obtain ⟨h1, h2⟩ := hO0.pre e he hb
   by_cases hm : e.on ∈ A
   · have h3 := hleast e.on hm h1
     have hm2 : e.on < listed.size := by rw [hs]; exact hlt _ hm
     simp [hm2] at h3 ⊢; exact h3
   · have h3 := h2.resolve_right hm
     rw [Array.getD_eq_getD_getElem?, hn _ hm, ← Array.getD_eq_getD_getElem?]; exact h3⟩
  refine ⟨fun h0 => (by rw [h0] at hready; cases hready), fun j hj => ?_⟩
  obtain ⟨hju, oj, hoj, hall⟩ := mem_ready.1 hj
  have hjlt : j < ops.size := (Array.getElem?_eq_some_iff.1 hoj).1
  have hnot : ∀ j' oj' dep', j' ∈ A → listed.getD j' true = false → BtOk P ops listed0 A j' oj' dep' → dep' j = false := fun j' oj' dep' h1 h2 h3 => by
   cases hdj : dep' j with
   | false => rfl
   | true =>
    obtain ⟨_, e, he, hb, hon⟩ := h3.dep1 j oj hoj hdj
    have h4 := hall e he hb
    rcases hon with hon | hon
    · rw [hon, hfalse (hlt _ h1) h2] at h4; cases h4
    · have hlt2 : e.on < ops.size := by
       by_cases hq : e.on < listed.size
       · rw [← hs]; exact hq
       · simp [hq] at h4
      have h5 := hd j' oj' dep' h1 h2 h3 e.on ops[e.on] (by simp [hlt2]) hon
      rw [hfalse hlt2 h5] at h4; cases h4
  have hjA : j ∈ A := by
   by_cases hm : j ∈ A
   · exact hm
   · exfalso
     rcases hO0.dep2 j oj hoj (hnot j0 o0 dep0 hj0A hj0u hO0) with h1 | h1
     · rw [Array.getD_eq_getD_getElem?, ← hn j hm, ← Array.getD_eq_getD_getElem?, hju] at h1; cases h1
     · exact hm h1
  obtain ⟨oj', dep, hO⟩ := hok j hjA
  obtain rfl : oj = oj' := Option.some.inj (hoj.symm.trans hO.op)
  obtain ⟨B1, B2, hAB⟩ := List.append_of_mem hjA
  obtain ⟨stj, oj', h1, h2, h3, h4⟩ := hval B1 j B2 hAB
  obtain rfl : oj = oj' := Option.some.inj (hoj.symm.trans h1)
  have hB1 : ∀ i, i ∈ A → i < j → i ∈ B1 := fun i hi hlt' => by
   rw [hAB] at hi
   rcases List.mem_append.1 hi with hi | hi
   · exact hi
   · rw [hAB] at hA
     rcases List.mem_cons.1 hi with rfl | hi
     · omega
     · have := (List.pairwise_cons.1 (List.pairwise_append.1 hA).2.1).1 i hi
       omega
  obtain ⟨r1, r2⟩ := Bat.read (Γ := Γ) hO.kind h2 hB fun i hi d hd hlook => by
   by_cases hij : i = j
   · subst hij
     right
     refine ⟨fun hm => ?_, by rw [hju]; simp⟩
     rw [hAB] at hnd
     exact (List.nodup_append.1 hnd).2.2 i hm i (by simp) rfl
   · left
     obtain ⟨oi, q1, q2, q3⟩ := hO.pair i hi hij
     rw [q1] at hd
     rcases q3 with q3 | ⟨e, he, hb, hon⟩
     · exact absurd hlook (q3 d hd)
     · have h5 := hall e he hb
       have h6 := (hO.pre e he hb).1
       rw [hon] at h5 h6
       exact ⟨hB1 i hi h6, htrue h5⟩
  rw [h4] at r1
  rw [h3] at r2
  have hput := hB.put hoj hjA (fun i hi hne d hd he => by
   obtain ⟨oi, q1, q2, _⟩ := hO.pair i hi hne
   rw [q1] at he
   exact q2 (by rw [hd]; exact he))
  have hgn : oj.guard = none := by
   have := hO.kind
   unfold rdKind at this
   rw [Bool.and_eq_true, Option.isNone_iff_eq_none] at this
   exact this.1
  let K : St → Option Unit := fun s => by classical exact if s = st'.put oj.dst (val j) then some () else none
  have he : evOps P C Γ ops [j] st' K = some () := by
   unfold evOps
   rw [hoj]
   simp only [hgn, evOps]
   rw [rd_form hO.kind r2.symm, ← r1]
   simp [K]
  refine evOps1_sound (R := Unit) (r := ()) hΓ hops hI he fun st2 gh2 a2 w2 hI2 hK2 => ?_
  have e2 : st2 = st'.put oj.dst (val j) := by
   simp only [K] at hK2
   split at hK2
   · assumption
   · simp at hK2
  subst e2
  have hset : ∀ i, i ≠ j → (listed.setIfInBounds j true).getD i true = listed.getD i true := fun i hi => getD_set_ne true (fun e => hi e.symm)
  have hjs : j < listed.size := by rw [hs]; exact hjlt
  have hself : (listed.setIfInBounds j true).getD j true = true := by simp [hjs]
  refine ih (listed.setIfInBounds j true) gh2 a2 w2 _ (by simpa using hs) (fun m hm => ?_) ?_ (fun j' oj' dep' g1 g2 g3 m om g4 g5 => ?_) hI2 (hput.iff fun i hi => ?_)
  · rw [Array.getElem?_setIfInBounds_ne (fun e => hm (by rw [← e]; exact hjA))]; exact hn m hm
  · have := count_set hjs hju hnd hjA
    omega
  · have hj'j : j' ≠ j := fun e => by rw [e, hself] at g2; cases g2
    rw [hset j' hj'j] at g2
    have hmj : m ≠ j := fun e => by
     rw [e] at g5
     rw [hnot j' oj' dep' g1 g2 g3] at g5; cases g5
    rw [hset m hmj]
    exact hd j' oj' dep' g1 g2 g3 m om g4 g5
  · by_cases hij : i = j
    · subst hij; exact ⟨fun _ => hself, fun _ => .inr rfl⟩
    · rw [hset i hij]; exact ⟨fun h => h.resolve_right hij, fun h => .inl h⟩
theorem evDraw_sound {C : Cfg} {Γ : Orc} {ops : Array Oper} (hΓ : OrcOk P C Γ) (hops : ∀ (i : Nat) (o : Oper), ops[i]? = some o → ∀ k, o.dst = some k → k < nt) (hsel : Region.noSelect ops = true) {K : St → Option R} : ∀ (n : Nat) (listed : Array Bool) {gh : Gh} {st : St} {a : Act} {w : World}, listed.size = ops.size →
  Inv c gh nt st a w → evDraw P C Γ ops K n listed [] st = some r → wpAny P .any ops (fun ex a w => match ex with | .normal => ∃ st' gh', Inv c gh' nt st' a w ∧ K st' = some r | _ => False) n listed a w := by
 intro n
 induction n using Nat.strongRecOn with
 | ind n ihs =>
 cases n with
 | zero =>
  intro listed gh st a w hls h e
  simp only [evDraw] at e
  split at e
  · rename_i hr; exact ⟨hr, st, gh, h, e⟩
  · simp at e
 | succ n =>
  have ih := ihs n (Nat.lt_succ_self n)
  intro listed gh st a w hls h e
  simp only [evDraw] at e
  split at e
  · rename_i hr; exact wpAny_done hr ⟨st, gh, h, e⟩ _
  · rename_i rs hne
    split at e
    · rename_i i hf
      have hfree := List.find?_some hf
      have hmem : i ∈ Region.ready .any ops listed := List.mem_of_find?_eq_some hf
      obtain ⟨oi, dep, hi, hs, hdep, hfr, hun⟩ := freeOp_spec hfree
      have h1 := evOps1_sound (Q := fun ex a w => match ex with | .normal => ∃ st' gh', Inv c gh' nt st' a w ∧ K st' = some r | _ => False) (Kc := fun a' w' => wpAny P .any ops (fun ex a w => match ex with | .normal => ∃ st' gh', Inv c gh' nt st' a w ∧ K st' = some r | _ => False) n (listed.setIfInBounds i true) a' w') hΓ hops h e (fun st' gh' a' w' h' e' => ih _ (by simpa using hls) h' e')
      have hQ : ∀ c' a w, ¬ (fun ex a w => match ex with | .normal => ∃ st' gh', Inv c gh' nt st' a w ∧ K st' = some r | _ => False : Exit → Act → World → Prop) (.panic c') a w := fun _ _ _ h => h
      have hL : ¬ LetsOut (fun ex a w => match ex with | .normal => ∃ st' gh', Inv c gh' nt st' a w ∧ K st' = some r | _ => False : Exit → Act → World → Prop) := fun ⟨_, _, h⟩ => h
      unfold wpOp at h1
      rw [hi] at h1
      simp only at h1
      have hd' : ∀ j, dep j = true → listed.getD j false = false := fun j hj => by
       rcases Nat.lt_or_ge j listed.size with h' | h'
       · rcases Nat.lt_or_ge j ops.size with h'' | h''
         · have := hun j hj h''
           simp [h'] at this ⊢; exact this
         · omega
       · simp [Array.getElem?_eq_none h']
      split at h1
      · rename_i hw
        rcases h1 with h1 | h1
        · unfold Oper.wp at h1
          cases hr : (execOp a.eval oi).run P w with
          | ok nx w' =>
           by_cases hp : pureAt P st oi = true
           · obtain ⟨rfl, u, rfl, h3⟩ := pure_run h hp hr
             rw [hr] at h1
             exact wpAny_still (R := fun _ _ => True) (fun _ => trivial) (fun _ _ => trivial) hi hsel hQ hL hdep n listed a _ (fun j oj h1 h2 h3 h4 => ⟨(hfr j oj h1 h2 h3 h4).1, .inl fun _ _ => trivial⟩) hd' hmem (fun w2 _ => .inl ⟨hw, h3 w2⟩) h1
           · by_cases hl : loadOp oi = true
             · obtain ⟨rfl, h3⟩ := load_stab hl hr
               obtain ⟨_, u, rfl⟩ := still_run (hs.resolve_left hp) hr
               rw [hr] at h1
               exact wpAny_still (R := Ext0) Ext0.refl Ext0.trans hi hsel hQ hL hdep n listed a _ (fun j oj h1 h2 h3 h4 => by
                obtain ⟨hap, hj⟩ := hfr j oj h1 h2 h3 h4
                refine ⟨hap, .inr fun ρ w n w' e => ?_⟩
                rcases hj with (hj | hj) | ⟨_, hj⟩
                · exact absurd hj hp
                · obtain ⟨rfl, hv⟩ := still_run hj e; exact ⟨.refl _, hv⟩
                · exact grow_run hj e) hd' hmem (fun w2 hx => .inl ⟨hw, h3 w2 hx⟩) h1
             · obtain ⟨rfl, u, rfl⟩ := still_run (hs.resolve_left hp) hr
               rw [hr] at h1
               exact wpAny_still (R := fun w w' => w' = w) (fun _ => rfl) (fun h h' => h'.trans h) hi hsel hQ hL hdep n listed a _ (fun j oj h1 h2 h3 h4 => by
                obtain ⟨hap, hj⟩ := hfr j oj h1 h2 h3 h4
                refine ⟨hap, .inr fun ρ w n w' e => ?_⟩
                rcases hj with (hj | hj) | ⟨hj, _⟩
                · exact absurd hj hp
                · exact still_run hj e
                · exact absurd hj hl) hd' hmem (fun w2 hx => by subst hx; exact .inl ⟨hw, hr⟩) h1
          | halt x w' =>
           rw [hr] at h1
           cases x <;> exact h1.elim
        · exact absurd h1.2 hL
      · rename_i hw
        have hy : ∀ w2, YieldsAt P ops oi undef a w2 := fun w2 => .inr ⟨by simpa using hw, rfl⟩
        exact wpAny_still (R := fun _ _ => True) (fun _ => trivial) (fun _ _ => trivial) hi hsel hQ hL hdep n listed a _ (fun j oj h1 h2 h3 h4 => ⟨(hfr j oj h1 h2 h3 h4).1, .inl fun _ _ => trivial⟩) hd' hmem (fun w2 _ => hy w2) h1
    · split at e
      · rename_i i rest hbt
        obtain ⟨hA, hok⟩ := okBt_spec (batchA_spec hbt)
        have hnd : (i :: rest).Nodup := hA.imp (fun h => Nat.ne_of_lt h)
        have e0 : evDraw P C Γ ops K (n + 1) listed (i :: rest) st = some r := by simp only [evDraw]; exact e
        obtain ⟨hlen, val, _, hval, stf, hBf, hfin⟩ := chain hnd hok (i :: rest) [] (n + 1) (fun _ => .bad) listed st rfl (.nil fun _ _ h => by simp at h) e0
        have hm : n + 1 - (i :: rest).length < n + 1 := by simp at hlen ⊢; omega
        have hun : ∀ j, j ∈ i :: rest → listed.getD j true = false := fun j hj => by obtain ⟨oj, dep, hO⟩ := hok j hj; exact hO.un
        have hcnt : ((i :: rest).filter fun j => !listed.getD j true).length = (i :: rest).length := by
         rw [List.filter_eq_self.2 (fun j hj => by rw [hun j hj]; rfl)]
        have := batch_any (Q := fun ex a w => match ex with | .normal => ∃ st' gh', Inv c gh' nt st' a w ∧ K st' = some r | _ => False) hΓ hops hA hok hls (st := st) (fun B1 j B2 hB => by
          obtain ⟨stj, oj, q1, q2, q3, q4⟩ := hval B1 j B2 hB
          exact ⟨stj, oj, q1, q2.iff fun k hk => by simp, q3, q4⟩) hBf (n := n + 1 - (i :: rest).length) (fun gh' a' w' hI => ihs _ hm _ (by rw [foldl_set.1]; exact hls) hI hfin)
         (i :: rest).length listed gh a w st hls (fun _ _ => rfl) hcnt (fun j oj dep hj hu hO m om hm hd => (hO.dep1 m om hm hd).1) h (.nil fun j hj hs => by rw [hun j hj] at hs; cases hs)
        rwa [Nat.sub_add_cancel hlen] at this
      · refine ⟨fun h0 => absurd h0 (by intro h; exact hne h), fun i hi => ?_⟩
        exact evOps1_sound hΓ hops h (allOf_mem _ e i hi) fun st' gh' a' w' h' e' => ih _ (by simpa using hls) h' e'
end
end Go.Fw
namespace Go.Fw
variable [Tok]
section
variable {c : Cx} {gh : Gh} {nt : Nat} {st : St} {a : Act} {w : World} {P : Program} {R : Type} {r : R}
theorem Inv.seeT {d : Nat} {x : AV} (h : Inv c gh nt st a w) (hx : TR c.sh gh st.ar st.bx w x (a.tmps.getD d undef)) : Inv c gh nt (st.setT d x) a w := by
 refine ⟨h.defers, h.size, fun t => ?_, h.mem, h.fix⟩
 by_cases e : t = d
 · subst e
   show TR c.sh gh st.ar st.bx w (upd st.t t x t) _
   rw [upd_self]; exact hx
 · show TR c.sh gh st.ar st.bx w (upd st.t d x t) _
   rw [upd_ne _ _ e]; exact h.temps t
theorem evOps_sound {C : Cfg} {Γ : Orc} {ops : Array Oper} {Q : Exit → Act → World → Prop} (hΓ : OrcOk P C Γ) (hops : ∀ (i : Nat) (o : Oper), ops[i]? = some o → ∀ k, o.dst = some k → k < nt) : ∀ (l : List Nat) {K : St → Option R} {gh : Gh} {st : St} {a : Act} {w : World},
  Inv c gh nt st a w → evOps P C Γ ops l st K = some r → (∀ st' gh' a' w', Inv c gh' nt st' a' w' → K st' = some r → Q .normal a' w') → wpOps P ops Q l a w := by
 intro l
 induction l with
 | nil => intro K gh st a w h e hK; exact hK _ _ _ _ h e
 | cons i rest ih =>
  intro K gh st a w h e hK
  unfold wpOps
  unfold evOps at e
  split at e
  · rename_i hi
    rw [hi]
    exact ih h e hK
  · rename_i o hi
    rw [hi]
    simp only
    have hd := hops i o hi
    split at e
    · rename_i hg
      have hw : Region.wanted o (yielded ops a.tmps) = true := by simp [Region.wanted, hg]
      rw [if_pos hw]
      exact .inl (evOp_sound hΓ h hd e fun st' gh' a' w' h' e' => ih h' e' hK)
    · rename_i j want hg
      split at e
      · rename_i d hdj
        split at e
        · rename_i x hx
          have ht := h.temps d
          rw [hx] at ht
          have ht := TR_B ht
          have hget : a.tmps[d]? = some (.bool x) := by
           rw [Array.getD_eq_getD_getElem?] at ht
           cases hq : a.tmps[d]? with
           | none => rw [hq] at ht; simp [undef] at ht
           | some v => rw [hq] at ht; simp at ht; rw [ht]
          have hy : yielded ops a.tmps j = some x := by simp [yielded, hdj, hget]
          have hI : Inv c gh nt (st.setT d (.B x)) a w := h.seeT (by rw [ht]; rfl)
          cases x with
          | true =>
           simp only [cond_true] at e
           cases want with
           | true =>
            simp only [cond_true] at e
            have hw : Region.wanted o (yielded ops a.tmps) = true := by simp [Region.wanted, hg, hy]
            rw [if_pos hw]
            exact .inl (evOp_sound hΓ hI hd e fun st' gh' a' w' h' e' => ih h' e' hK)
           | false =>
            simp only [cond_false] at e
            have hw : ¬ Region.wanted o (yielded ops a.tmps) = true := by simp [Region.wanted, hg, hy]
            rw [if_neg hw]
            exact ih (put_skip hI hd) e hK
          | false =>
           simp only [cond_false] at e
           cases want with
           | true =>
            simp only [cond_true] at e
            have hw : ¬ Region.wanted o (yielded ops a.tmps) = true := by simp [Region.wanted, hg, hy]
            rw [if_neg hw]
            exact ih (put_skip hI hd) e hK
           | false =>
            simp only [cond_false] at e
            have hw : Region.wanted o (yielded ops a.tmps) = true := by simp [Region.wanted, hg, hy]
            rw [if_pos hw]
            exact .inl (evOp_sound hΓ hI hd e fun st' gh' a' w' h' e' => ih h' e' hK)
        · rename_i g hx
          have hy := tup0_not h hdj hx
          have hw : ¬ Region.wanted o (yielded ops a.tmps) = true := by simp [Region.wanted, hg, hy]
          rw [if_neg hw]
          exact ih (put_skip h hd) e hK
        · simp at e
      · simp at e
theorem homeG_sound {id : Nat} {x : AV} {v : Value} {st' : St} (h : Inv c gh nt st a w) (hx : TR c.sh gh st.ar st.bx w x v) (e : st.homeG id x = some st') :
  ∃ gh', Inv c gh' nt st' a w ∧ gh'.ba = gh.ba ∧ TR c.sh gh' st'.ar st'.bx w (.rf id) v ∧ (∀ b, (st'.bx b).map (·.1) = (st.bx b).map (·.1)) := by
 unfold St.homeG at e
 split at e
 · rename_i n sz g st1 ht
   obtain ⟨hk, e⟩ := K2_some e
   obtain rfl := Option.some.inj e
   have hid : 262144 ≤ id := Nat.le_of_ble_eq_true hk
   obtain ⟨gh1, F, hT⟩ := takeC_sound (FL := fun _ _ => False) h .none hx ht
   obtain ⟨gh2, l, t⟩ := layC_sound (base := id) (FL := fun _ _ => False) (by have := lim_le c; omega) hT.inv hT.own (hT.free.mono fun x y hx => hx.imp (fun h => h) (fun h => h)) (fun _ _ _ h => h)
   exact ⟨gh2, l.inv, l.ba.trans hT.ba, t, fun b => by rw [l.bxs b, hT.bx]⟩
 · simp at e
theorem home_sound {id : Nat} {x : AV} {v : Value} {st' : St} (h : Inv c gh nt st a w) (hx : TR c.sh gh st.ar st.bx w x v) (e : st.home id x = some st') :
  ∃ gh', Inv c gh' nt st' a w ∧ gh'.ba = gh.ba ∧ TR c.sh gh' st'.ar st'.bx w (.rf id) v ∧ (∀ b, (st'.bx b).map (·.1) = (st.bx b).map (·.1)) := by
 unfold St.home at e
 split at e
 · rename_i k
   cases hb : Nat.beq k id with
   | true =>
    rw [hb] at e
    simp only [cond_true, Option.some.injEq] at e
    subst e
    have := beq_eq.1 hb
    subst this
    exact ⟨gh, h, rfl, hx, fun _ => rfl⟩
   | false =>
    rw [hb] at e
    simp only [cond_false] at e
    exact homeG_sound h hx e
 · exact homeG_sound h hx e
theorem homesT_sound : ∀ (l : List (Nat × Nat)) {gh : Gh} {st st' : St}, Inv c gh nt st a w → st.homesT l = some st' → ∃ gh', Inv c gh' nt st' a w := by
 intro l
 induction l with
 | nil => intro gh st st' h e; simp only [St.homesT, Option.some.injEq] at e; subst e; exact ⟨gh, h⟩
 | cons p l ih =>
  obtain ⟨d, id⟩ := p
  intro gh st st' h e
  simp only [St.homesT] at e
  split at e
  · rename_i st1 h1
    obtain ⟨gh1, h1, _, t1, _⟩ := home_sound h (h.temps d) h1
    exact ih (h1.seeT t1) e
  · simp at e
theorem Inv.seeB {b sz o : Nat} {cs : Nat → AV} {x : AV} {v : Value} (h : Inv c gh nt st a w) (e : st.bx b = some (sz, cs)) (hv : cellAt w (gh.ba b).block ((gh.ba b).off + o) = some v) (hx : TR c.sh gh st.ar st.bx w x v) :
  Inv c gh nt (st.setB b (some (sz, upd cs o x))) a w := by
 have hw : ∀ (x : AV) (v : Value), TR c.sh gh st.ar st.bx w x v → TR c.sh gh st.ar (upd st.bx b (some (sz, upd cs o x))) w x v := fun y v ht =>
  TR_weaken (fun _ _ e => e) (fun k B e' => by
   by_cases ek : k = b
   · subst ek; exact ⟨_, e⟩
   · rw [upd_ne _ _ ek] at e'; exact ⟨B, e'⟩) y ht
 have hw' : ∀ (y : AV) (v : Value), TR c.sh gh st.ar st.bx w y v → TR c.sh gh st.ar (st.setB b (some (sz, upd cs o x))).bx w y v := fun y v ht =>
  TR_weaken (fun _ _ e => e) (fun k B e' => by
   have e2 : upd st.bx b (some (sz, upd cs o x)) k = some B := e'
   by_cases ek : k = b
   · subst ek; exact ⟨_, e⟩
   · rw [upd_ne _ _ ek] at e2; exact ⟨B, e2⟩) y ht
 have hl : ∀ r, live st.ar (st.setB b (some (sz, upd cs o x))).bx r → live st.ar st.bx r := by
  rintro (k | k) hr
  · exact hr
  · have hr' : (upd st.bx b (some (sz, upd cs o x)) k).isSome := hr
    by_cases ek : k = b
    · subst ek; simp [live, e]
    · rw [upd_ne _ _ ek] at hr'; exact hr'
 have hf : ∀ r x' y', fp gh (st.setB b (some (sz, upd cs o x))).bx r x' y' → fp gh st.bx r x' y' := by
  rintro (k | k) x' y' hr
  · exact hr
  · obtain ⟨B, eB, hi⟩ := hr
    have eB' : upd st.bx b (some (sz, upd cs o x)) k = some B := eB
    by_cases ek : k = b
    · subst ek
      rw [upd_self] at eB'
      obtain rfl := Option.some.inj eB'
      exact ⟨_, e, hi⟩
    · rw [upd_ne _ _ ek] at eB'; exact ⟨B, eB', hi⟩
 refine ⟨h.defers, h.size, fun t => hw' _ _ (h.temps t), ?_, h.fix.weaken (fun id A e => ⟨A, e, rfl, rfl⟩) (fun k B e' => by
   have e2 : upd st.bx b (some (sz, upd cs o x)) k = some B := e'
   by_cases ek : k = b
   · subst ek; rw [upd_self] at e2; obtain rfl := Option.some.inj e2; exact ⟨_, e, rfl⟩
   · rw [upd_ne _ _ ek] at e2; exact ⟨B, e2, rfl⟩)⟩
 exact {
  rows := h.mem.rows
  boxes := fun k sz' g' e' => by
   have e2 : upd st.bx b (some (sz, upd cs o x)) k = some (sz', g') := e'
   by_cases ek : k = b
   · subst ek
     rw [upd_self] at e2
     obtain ⟨rfl, rfl⟩ : sz = sz' ∧ upd cs o x = g' := by simpa using e2
     refine ⟨(h.mem.boxes k sz cs e).1, fun m hm => ?_⟩
     obtain ⟨u, hu, hfz, h1, ht⟩ := (h.mem.boxes k sz cs e).2 m hm
     by_cases em : m = o
     · subst em
       rw [hv] at hu
       obtain rfl := Option.some.inj hu
       exact ⟨v, hv, hfz, h1, by rw [upd_self]; exact hw' _ _ hx⟩
     · exact ⟨u, hu, hfz, h1, by rw [upd_ne _ _ em]; exact hw' _ _ ht⟩
   · rw [upd_ne _ _ ek] at e2
     refine ⟨(h.mem.boxes k sz' g' e2).1, fun m hm => ?_⟩
     obtain ⟨u, hu, hfz, h1, ht⟩ := (h.mem.boxes k sz' g' e2).2 m hm
     exact ⟨u, hu, hfz, h1, hw' _ _ ht⟩
  disj := fun r r' x' y' hn h1 h2 hx hy => h.mem.disj r r' x' y' hn (hl _ h1) (hl _ h2) (hf _ _ _ hx) (hf _ _ _ hy)
  mine := fun r x' y' h1 hx => h.mem.mine r x' y' (hl _ h1) (hf _ _ _ hx)
  grow := h.mem.grow, keep := h.mem.keep, keepB := h.mem.keepB, io := h.mem.io }
theorem homesB_sound : ∀ (l : List (Nat × Nat × Nat)) {gh : Gh} {st st' : St}, Inv c gh nt st a w → st.homesB l = some st' → ∃ gh', Inv c gh' nt st' a w := by
 intro l
 induction l with
 | nil => intro gh st st' h e; simp only [St.homesB, Option.some.injEq] at e; subst e; exact ⟨gh, h⟩
 | cons p l ih =>
  obtain ⟨b, o, id⟩ := p
  intro gh st st' h e
  simp only [St.homesB] at e
  split at e
  · rename_i sz cs hB
    obtain ⟨ho, e⟩ := K2_some e
    have ho : o < sz := Nat.le_of_ble_eq_true ho
    split at e
    · rename_i st1 h1
      obtain ⟨u, hu, _, _, ht⟩ := (h.mem.boxes b sz cs hB).2 o ho
      obtain ⟨gh1, h1, hba, t1, hbx⟩ := home_sound h ht h1
      split at e
      · rename_i sz' cs' hB'
        exact ih (h1.seeB hB' (by rw [hba]; exact hu) t1) e
      · simp at e
    · simp at e
  · simp at e
theorem selT_or (f : Nat → AV) : ∀ (l : List Nat) (d : Nat), selT f l d = f d ∨ selT f l d = .bad := by
 intro l
 induction l with
 | nil => intro d; exact .inr rfl
 | cons k l ih =>
  intro d
  by_cases e : d = k
  · subst e; exact .inl (upd_self _ _ _)
  · have : selT f (k :: l) d = selT f l d := upd_ne _ _ e
    rw [this]; exact ih d
theorem selO_or {α : Type} (f : Nat → Option α) : ∀ (l : List Nat) (d : Nat), selO f l d = f d ∨ selO f l d = none := by
 intro l
 induction l with
 | nil => intro d; exact .inr rfl
 | cons k l ih =>
  intro d
  by_cases e : d = k
  · subst e; exact .inl (upd_self _ _ _)
  · have : selO f (k :: l) d = selO f l d := upd_ne _ _ e
    rw [this]; exact ih d
theorem TR_nn {sh : AV → Value → Prop} {ar ar' : ArT} {bx bx' : BxT} (ha : ∀ id A, ar' id = some A → ∃ A0, ar id = some A0 ∧ A0.n = A.n ∧ A0.sz = A.sz) (hb : ∀ b B, bx' b = some B → ∃ B', bx b = some B') (x : AV) :
  ∀ {v : Value}, TR sh gh ar bx w x v → TR sh gh ar' bx' w x.nn v := by
 induction x with
 | rf id => intro v h A e; obtain ⟨A0, e0, h1, h2⟩ := ha id A e; rw [← h1]; exact h A0 e0
 | rs id a m => intro v h A e; obtain ⟨A0, e0, h1, h2⟩ := ha id A e; rw [← h1, ← h2]; exact h A0 e0
 | rn id p => intro v h; trivial
 | pb b o => intro v h B e; obtain ⟨B0, e0⟩ := hb b B e; exact h B0 e0
 | pe id p i j =>
  intro v h
  cases p with
  | nil => intro A e; obtain ⟨A0, e0, h1, h2⟩ := ha id A e; have := h A0 e0; simp only [placeV] at this ⊢; rw [← h1, ← h2]; exact this
  | cons q p => trivial
 | ag sz g ih => rintro v ⟨vs, e, hs, hc⟩; exact ⟨vs, e, hs, fun j hj => ⟨(hc j hj).1, by rw [tabG_lt hj]; exact ih j (hc j hj).2⟩⟩
 | tup sz g ih => rintro v ⟨vs, e, hs, hc⟩; exact ⟨vs, e, hs, fun j hj => by rw [tabG_lt hj]; exact ih j (hc j hj)⟩
 | clo f n g ih => rintro v ⟨vs, e, hs, hc⟩; exact ⟨vs, e, hs, fun j hj => by rw [tabG_lt hj]; exact ih j (hc j hj)⟩
 | _ => intro v h; exact h
theorem Inv.nn {ar : ArT} {bx : BxT} {t : Nat → AV} (ha : ∀ id A, ar id = some A → ∃ A0, st.ar id = some A0 ∧ A = A0.cn)
  (hb : ∀ b B, bx b = some B → ∃ g0, st.bx b = some (B.1, g0) ∧ ∀ o, o < B.1 → B.2 o = (g0 o).nn) (ht : ∀ d, t d = (st.t d).nn ∨ t d = .bad) (h : Inv c gh nt st a w) : Inv c gh nt ⟨t, ar, bx⟩ a w := by
 have hw : ∀ (x : AV) (v : Value), TR c.sh gh st.ar st.bx w x v → TR c.sh gh ar bx w x.nn v := fun x v ht => TR_nn (fun id A e => by obtain ⟨A0, e0, rfl⟩ := ha id A e; exact ⟨A0, e0, rfl, rfl⟩) (fun b B e => by obtain ⟨g0, e', _⟩ := hb b B e; exact ⟨_, e'⟩) x ht
 have hl : ∀ r, live ar bx r → live st.ar st.bx r := by
  rintro (id | b) hr
  · obtain ⟨A, e⟩ := Option.isSome_iff_exists.1 hr; obtain ⟨A0, e0, _⟩ := ha _ _ e; simp [live, e0]
  · obtain ⟨A, e⟩ := Option.isSome_iff_exists.1 hr; obtain ⟨g0, e', _⟩ := hb _ _ e; simp [live, e']
 have hfp : ∀ r x y, fp gh bx r x y → fp gh st.bx r x y := by
  rintro (id | b) x y hr
  · exact hr
  · obtain ⟨B, e, hi⟩ := hr; obtain ⟨g0, e', _⟩ := hb _ _ e; exact ⟨_, e', hi⟩
 exact ⟨h.defers, h.size, fun d => by
  rcases ht d with e | e
  · show TR c.sh gh ar bx w (t d) _
    rw [e]; exact hw _ _ (h.temps d)
  · show TR c.sh gh ar bx w (t d) _
    rw [e]; trivial, {
  rows := fun id A e => by
   obtain ⟨A0, e0, rfl⟩ := ha _ _ e
   exact RO_cn (.own A0.n A0.sz A0.g) (h.mem.rows id A0 e0)
  boxes := fun b sz g e => by
   obtain ⟨g0, e', hg⟩ := hb _ _ e
   refine ⟨(h.mem.boxes b sz g0 e').1, fun o ho => ?_⟩
   obtain ⟨v, hv, hfr, h1, ht⟩ := (h.mem.boxes b sz g0 e').2 o ho
   exact ⟨v, hv, hfr, h1, by have hgo : g o = (g0 o).nn := hg o ho; rw [hgo]; exact hw _ _ ht⟩
  disj := fun r r' x y hn h1 h2 hx hy => h.mem.disj r r' x y hn (hl _ h1) (hl _ h2) (hfp _ _ _ hx) (hfp _ _ _ hy)
  mine := fun r x y h1 hx => h.mem.mine r x y (hl _ h1) (hfp _ _ _ hx)
  grow := h.mem.grow, keep := h.mem.keep, keepB := h.mem.keepB, io := h.mem.io }, h.fix.weaken (fun id A e => by obtain ⟨A0, e0, rfl⟩ := ha _ _ e; exact ⟨A0, e0, rfl, rfl⟩) (fun b B e => by obtain ⟨g0, e', _⟩ := hb _ _ e; exact ⟨_, e', rfl⟩)⟩
theorem focus_sound {F : Foc} {st' : St} (h : Inv c gh nt st a w) (e : st.focus F = some st') : ∃ gh', Inv c gh' nt st' a w := by
 unfold St.focus at e
 split at e
 · rename_i st1 h1
   split at e
   · rename_i st2 h2
     simp only [Option.some.injEq] at e
     subst e
     obtain ⟨gh1, i1⟩ := homesT_sound _ h h1
     obtain ⟨gh2, i2⟩ := homesB_sound _ i1 h2
     refine ⟨gh2, i2.nn (fun id A e => ?_) (fun b B e => ?_) (fun d => selT_or (fun d => (st2.t d).nn) F.ts d)⟩
     · rcases selO_or (fun id => (st2.ar id).map Arr.cn) F.as id with h | h
       · rw [h] at e
         obtain ⟨A0, e0, rfl⟩ := Option.map_eq_some_iff.1 e
         exact ⟨A0, e0, rfl⟩
       · rw [h] at e; simp at e
     · rcases selO_or (fun b => (st2.bx b).map fun B => (B.1, tabG B.1 (fun o => (B.2 o).nn))) F.bs b with h | h
       · rw [h] at e
         obtain ⟨B0, e0, rfl⟩ := Option.map_eq_some_iff.1 e
         exact ⟨B0.2, e0, fun o ho => tabG_lt ho⟩
       · rw [h] at e; simp at e
   · simp at e
 · simp at e
theorem cutK_sound {C : Cfg} {f id : Nat} {K : Ex → St → Option R} (h : Inv c gh nt st a w) (e : cutK C f id K st = some r) : ∃ gh' st', Inv c gh' nt st' a w ∧ K .normal st' = some r := by
 unfold cutK at e
 cases hc : C.cut f id with
 | false => rw [hc] at e; exact ⟨gh, st, h, e⟩
 | true =>
  rw [hc] at e
  simp only [cond_true] at e
  split at e
  · rename_i st' hf
    obtain ⟨gh', h'⟩ := focus_sound h hf
    exact ⟨gh', st', h', e⟩
  · simp at e
def toExit : Ex → Exit
 | .normal => .normal
 | .exit id => .exit id
 | .ret => .ret
theorem evL_sound {F : Foc} {body : (Ex → St → Option R) → St → Option R} {cd : Code} {K : Ex → St → Option R} {Q : Exit → Act → World → Prop}
  (hb : ∀ (K' : Ex → St → Option R) (gh : Gh) (st : St) (a : Act) (w : World) (Q' : Exit → Act → World → Prop), Inv c gh nt st a w → body K' st = some r → (∀ ex st' gh' a' w', Inv c gh' nt st' a' w' → K' ex st' = some r → Q' (toExit ex) a' w') → cd.wp P Q' a w)
  (hK : ∀ ex st' gh' a' w', Inv c gh' nt st' a' w' → K ex st' = some r → Q (toExit ex) a' w') {n : Nat} (h : Inv c gh nt st a w) (e : evL F body K n st = some r) : (Code.loop cd).wp P Q a w := by
 refine wp_loop_ghost (fun n a w => ∃ gh st, Inv c gh nt st a w ∧ evL F body K n st = some r) n ⟨gh, st, h, e⟩ ?_
 rintro m a w ⟨gh, st, h, e⟩
 cases m with
 | zero => simp [evL] at e
 | succ m =>
  simp only [evL] at e
  split at e
  · rename_i st' hf
    obtain ⟨gh', h'⟩ := focus_sound h hf
    refine hb _ gh' st' a w _ h' e fun ex st2 gh2 a2 w2 h2 e2 => ?_
    cases ex with
    | normal => exact ⟨m, Nat.lt_succ_self m, gh2, st2, h2, e2⟩
    | exit id => exact hK (.exit id) st2 gh2 a2 w2 h2 e2
    | ret => exact hK .ret st2 gh2 a2 w2 h2 e2
  · simp at e
theorem evC_sound {C : Cfg} {Γ : Orc} {N f : Nat} (hΓ : OrcOk P C Γ) : ∀ (cd : Code) (K : Ex → St → Option R) (gh : Gh) (st : St) (a : Act) (w : World) (Q : Exit → Act → World → Prop), dstOk nt cd = true → Inv c gh nt st a w → evC P C Γ N f cd K st = some r →
  (∀ ex st' gh' a' w', Inv c gh' nt st' a' w' → K ex st' = some r → Q (toExit ex) a' w') → cd.wp P Q a w := by
 intro cd
 induction cd with
 | skip => intro K gh st a w Q _ h e hK; exact wp_skip (hK .normal st gh a w h e)
 | label l => intro K gh st a w Q _ h e hK; exact wp_label (hK .normal st gh a w h e)
 | region id ops draw =>
  intro K gh st a w Q hd h e hK
  have hops : ∀ (i : Nat) (o : Oper), ops[i]? = some o → ∀ k, o.dst = some k → k < nt := fun i o hi k hk => by
   simp only [dstOk] at hd
   have := Array.all_eq_true_iff_forall_mem.1 hd o (Array.mem_of_getElem? hi)
   rw [hk] at this
   exact Nat.le_of_ble_eq_true this
  cases draw with
  | true =>
   simp only [evC] at e
   obtain ⟨hk, e⟩ := K2_some e
   rw [Bool.and_eq_true] at hk
   refine Code.wp_mono (Q := fun ex a w => match ex with | .normal => ∃ st' gh', Inv c gh' nt st' a w ∧ cutK C f id K st' = some r | _ => False) (fun ex a' w' hq => ?_) (wp_region_any hk.1 (evDraw_sound hΓ hops hk.2 _ _ (by simp) (h.ext ⟨Nat.le_refl _, fun _ _ => rfl, rfl, rfl, rfl⟩) e))
   cases ex with
   | normal =>
    obtain ⟨st', gh', h', e'⟩ := hq
    obtain ⟨gh2, st2, h2, e2⟩ := cutK_sound h' e'
    exact hK .normal st2 gh2 a' w' h2 e2
   | _ => exact hq.elim
  | false =>
   refine wp_region (evOps_sound hΓ (fun i o hi k hk => ?_) _ h e fun st' gh' a' w' h' e' => by
    obtain ⟨gh2, st2, h2, e2⟩ := cutK_sound h' e'
    exact hK .normal st2 gh2 a' w' h2 e2)
   simp only [dstOk] at hd
   have := Array.all_eq_true_iff_forall_mem.1 hd o (Array.mem_of_getElem? hi)
   rw [hk] at this
   exact Nat.le_of_ble_eq_true this
 | seq x y ihx ihy =>
  intro K gh st a w Q hd h e hK
  simp only [dstOk, Bool.and_eq_true] at hd
  refine wp_seq (ihx _ gh st a w _ hd.1 h e fun ex st' gh' a' w' h' e' => ?_)
  cases ex with
  | normal => exact ihy K gh' st' a' w' Q hd.2 h' e' hK
  | exit id => exact hK (.exit id) st' gh' a' w' h' e'
  | ret => exact hK .ret st' gh' a' w' h' e'
 | cond cn x y ihx ihy =>
  intro K gh st a w Q hd h e hK
  simp only [dstOk, Bool.and_eq_true] at hd
  simp only [evC] at e
  split at e
  · rename_i b hb
    have h1 := get_TR (P := P) h 0 cn
    rw [hb] at h1
    refine wp_cond (TR_B h1) ?_
    cases b with
    | true => exact ihx K gh st a w Q hd.1 h e hK
    | false => exact ihy K gh st a w Q hd.2 h e hK
  · simp at e
 | block id x ih =>
  intro K gh st a w Q hd h e hK
  refine wp_block (ih _ gh st a w _ hd h e fun ex st' gh' a' w' h' e' => ?_)
  cases ex with
  | normal => exact hK .normal st' gh' a' w' h' e'
  | exit k =>
   simp only at e'
   show (if k = id then Q .normal a' w' else Q (.exit k) a' w')
   cases hb : Nat.beq k id with
   | true =>
    rw [hb] at e'
    rw [if_pos (beq_eq.1 hb)]
    exact hK .normal st' gh' a' w' h' e'
   | false =>
    rw [hb] at e'
    rw [if_neg (fun e2 : k = id => by rw [e2] at hb; simp at hb)]
    exact hK (.exit k) st' gh' a' w' h' e'
  | ret => exact hK .ret st' gh' a' w' h' e'
 | loop x ih =>
  intro K gh st a w Q hd h e hK
  exact evL_sound (cd := x) (fun K' gh st a w Q' h' e' hK' => ih K' gh st a w Q' hd h' e' hK') hK h e
 | exit id => intro K gh st a w Q _ h e hK; exact wp_exit (hK (.exit id) st gh a w h e)
 | ret => intro K gh st a w Q _ h e hK; exact wp_ret (hK .ret st gh a w h e)
 | _ => intro K gh st a w Q _ h e hK; simp [evC] at e
end
end Go.Fw
namespace Go.Fw
variable [Tok]
theorem ow_ow (x : AV) : x.ow.ow = x.ow := by
 induction x with
 | own n sz g ih => simp only [AV.ow]; congr 1; funext i; exact tabG_congr fun j hj => by rw [tabG_lt hj]; exact ih i j
 | ag sz g ih => simp only [AV.ow]; congr 1; exact tabG_congr fun j hj => by rw [tabG_lt hj]; exact ih j
 | nbx sz g ih => simp only [AV.ow]; congr 1; exact tabG_congr fun j hj => by rw [tabG_lt hj]; exact ih j
 | tup sz g ih => simp only [AV.ow]; congr 1; exact tabG_congr fun j hj => by rw [tabG_lt hj]; exact ih j
 | _ => rfl
theorem asG_ow (y : AV) (i j : Nat) : ∃ z : AV, asG y.ow i j = z.ow := by
 cases y with
 | own n sz g =>
  simp only [AV.ow, asG]
  by_cases hj : j < sz
  · exact ⟨g i j, tabG_lt hj⟩
  · exact ⟨.bad, tabG_ge hj⟩
 | _ => exact ⟨.bad, rfl⟩
theorem like_ow (x : AV) : ∀ y : AV, (x.like y.ow).ow = x.like y.ow := by
 induction x with
 | own n sz g ih =>
  intro y
  have hi : ∀ i, tabG sz (fun j => (tabG sz (fun j => (g 0 j).like (asG y.ow i j)) j).ow) = tabG sz (fun j => (g 0 j).like (asG y.ow i j)) := fun i => tabG_congr fun j hj => by
   obtain ⟨z, hz⟩ := asG_ow y i j
   rw [tabG_lt hj, hz]; exact ih 0 j z
  show AV.own (asN y.ow) sz (fun i => tabG sz (fun j => (tabG sz (fun j => (g 0 j).like (asG y.ow i j)) j).ow)) = AV.own (asN y.ow) sz (fun i => tabG sz (fun j => (g 0 j).like (asG y.ow i j)))
  exact congrArg _ (funext hi)
 | _ => intro y; rfl
theorem like_like (x : AV) : ∀ y : AV, x.like (x.like y) = x.like y := by
 induction x with
 | own n sz g ih =>
  intro y
  have hi : ∀ i, tabG sz (fun j => (g 0 j).like (tabG sz (fun j => (g 0 j).like (asG y i j)) j)) = tabG sz (fun j => (g 0 j).like (asG y i j)) := fun i => tabG_congr fun j hj => by rw [tabG_lt hj]; exact ih 0 j _
  show AV.own (asN y) sz (fun i => tabG sz (fun j => (g 0 j).like (tabG sz (fun j => (g 0 j).like (asG y i j)) j))) = AV.own (asN y) sz (fun i => tabG sz (fun j => (g 0 j).like (asG y i j)))
  exact congrArg _ (funext hi)
 | _ => intro y; rfl
section
variable {c : Cx} {gh : Gh} {nt : Nat} {st : St} {a : Act} {w : World} {P : Program} {R : Type} {r : R}
theorem vwC_ow : ∀ (d : Nat) (t : TypeId) (z : AV), vwC P d t ((vwC P d t z).ow) = (vwC P d t z).ow := by
 intro d
 induction d with
 | zero =>
  intro t z
  cases hu : P.underlying t with
  | none => simp only [vwC, hu, AV.ow]
  | some ty => cases ty <;> simp only [vwC, hu, AV.ow, asI, asB, asS]
 | succ d ih =>
  intro t z
  cases hu : P.underlying t with
  | none => simp only [vwC, hu, AV.ow]
  | some ty =>
   cases ty with
   | slice e =>
    have hi : ∀ i, tabG (P.cellsOf e) (fun j => vwC P d (cellT P 12 e j) (tabG (P.cellsOf e) (fun j => (tabG (P.cellsOf e) (fun j => vwC P d (cellT P 12 e j) (asG z i j)) j).ow) j)) =
      tabG (P.cellsOf e) (fun j => (tabG (P.cellsOf e) (fun j => vwC P d (cellT P 12 e j) (asG z i j)) j).ow) := fun i =>
     tabG_congr fun j hj => by rw [tabG_lt hj, tabG_lt hj]; exact ih _ _
    simp only [vwC, hu, AV.ow, asN, asG]
    exact congrArg _ (funext hi)
   | _ => simp only [vwC, hu, AV.ow, asI, asB, asS]
theorem vwP_ow (t : TypeId) (z : AV) : vwP P t ((vwP P t z).ow) = (vwP P t z).ow := by
 unfold vwP
 cases bytT P t with
 | true => rfl
 | false => exact vwC_ow 4 t z
theorem vwA_ow (t : TypeId) (z : AV) : vwA P t ((vwA P t z).ow) = (vwA P t z).ow := by
 have hC := @vwC_ow _ P 4
 unfold vwA
 cases hu : P.underlying t with
 | none => exact hC t z
 | some d =>
  cases d <;> first | exact hC t z | (simp only [AV.ow, asA]; congr 1; exact tabG_congr fun j hj => by rw [tabG_lt hj, tabG_lt hj]; first | exact hC _ _ | exact vwP_ow _ _)
theorem vwR_ow (ts : List TypeId) (z : AV) : vwR P ts ((vwR P ts z).ow) = (vwR P ts z).ow := by
 unfold vwR
 split
 · exact vwA_ow _ z
 · simp only [AV.ow, asA]; congr 1; exact tabG_congr fun j hj => by rw [tabG_lt hj, tabG_lt hj]; exact vwA_ow _ _
theorem vwS_RO {w0 : World} {ok : Cells} {d : Nat} {t : TypeId} {y : AV} {v : Value} {F : Cells} (hk : okS P t y = true) (h : RO w (RS w0 ok) y v F) : RO w (RS w0 ok) (vwC P d t y) v F := by
 unfold okS at hk
 split at hk
 · rename_i k k' n hu
   have := eq_of_beq hk
   subst this
   cases d <;> simp only [vwC, hu] <;> exact h
 · rename_i hu; cases d <;> simp only [vwC, hu] <;> exact h
 · rename_i hu; cases d <;> simp only [vwC, hu] <;> exact h
 · simp at hk
theorem vwC_RO {w0 : World} {ok : Cells} : ∀ (d : Nat) {t : TypeId} {y : AV} {v : Value} {F : Cells}, okC P d t y = true → RO w (RS w0 ok) y v F → RO w (RS w0 ok) (vwC P d t y) v F := by
 intro d
 induction d with
 | zero => intro t y v F hk h; exact vwS_RO hk h
 | succ d ih =>
  intro t y v F hk h
  simp only [okC] at hk
  split at hk
  · rename_i e hu
    split at hk
    · rename_i n sz g
      rw [Bool.and_eq_true] at hk
      have hs := beq_eq.1 hk.1
      subst hs
      have hall := @of_decide_eq_true _ (Classical.propDecidable _) hk.2
      simp only [vwC, hu, asN, asG]
      obtain ⟨A, cap, rfl, h1, h2, h3⟩ := h
      refine ⟨A, cap, rfl, h1, h2, h3.imp (fun h => h) fun ⟨a, e1, hs, hc, Fs, f1, f2, f3⟩ => ⟨a, e1, hs, hc, Fs, f1, f2, fun i hi j hj => ?_⟩⟩
      obtain ⟨u, hu', hr⟩ := f3 i hi j hj
      refine ⟨u, hu', ?_⟩
      show RO w (RS w0 ok) (tabG (P.cellsOf e) (fun j => vwC P d (cellT P 12 e j) (g i j)) j) u (Fs i j)
      rw [tabG_lt hj]
      exact ih (List.all_eq_true.1 (hall i) j (by simpa using hj)) hr
    · simp at hk
  · exact vwS_RO hk h
theorem okS_not {t : TypeId} {y : AV} (hk : okS P t y = true) : (∀ sz g, y ≠ .ag sz g) ∧ (∀ sz g, y ≠ .nbx sz g) ∧ ∀ n g, y ≠ .tup n g := by
 unfold okS at hk
 split at hk <;> simp at hk ⊢
theorem okC_not {d : Nat} {t : TypeId} {y : AV} (hk : okC P d t y = true) : (∀ sz g, y ≠ .ag sz g) ∧ (∀ sz g, y ≠ .nbx sz g) ∧ ∀ n g, y ≠ .tup n g := by
 cases d with
 | zero => exact okS_not hk
 | succ d =>
  simp only [okC] at hk
  split at hk
  · split at hk
    · simp
    · simp at hk
  · exact okS_not hk
theorem vwC_not (d : Nat) (t : TypeId) (y : AV) : (∀ sz g, vwC P d t y ≠ .ag sz g) ∧ (∀ sz g, vwC P d t y ≠ .nbx sz g) ∧ ∀ n g, vwC P d t y ≠ .tup n g := by
 cases d <;> unfold vwC <;> split <;> simp
theorem vwP_RO {w0 : World} {ok : Cells} {t : TypeId} {y : AV} {v : Value} {F : Cells} (hk : okP P t y = true) (h : RO w (RS w0 ok) y v F) : RO w (RS w0 ok) (vwP P t y) v F := by
 unfold okP at hk
 unfold vwP
 cases hb : bytT P t with
 | true =>
  rw [hb] at hk
  cases y <;> first | exact h | (simp [isGv] at hk)
 | false =>
  rw [hb] at hk
  exact vwC_RO 4 hk h
theorem vwA_RV {w0 : World} {ok : Cells} {t : TypeId} {y : AV} {v : Value} {F : Cells} (hk : okA P t y = true) (h : RV w (RS w0 ok) y v F) : RV w (RS w0 ok) (vwA P t y) v F := by
 have hC : okC P 4 t y = true → RV w (RS w0 ok) (vwC P 4 t y) v F := fun hk => by
  obtain ⟨n1, n2, _⟩ := okC_not hk
  have hro : RO w (RS w0 ok) y v F := by
   cases y <;> first | exact h | exact absurd rfl (n1 _ _) | exact absurd rfl (n2 _ _)
  exact RV.of_RO (vwC_RO 4 hk hro) (vwC_not 4 t y).1 (vwC_not 4 t y).2.1
 unfold okA at hk
 unfold vwA
 cases hu : P.underlying t with
 | none => rw [hu] at hk; exact hC hk
 | some d =>
  rw [hu] at hk
  cases d with
  | struct fs =>
   simp only at hk ⊢
   split at hk
   · rename_i sz g
     rw [Bool.and_eq_true] at hk
     have hs := beq_eq.1 hk.1
     subst hs
     obtain ⟨vs, e, hsz, ho, Fs, h1, h2, h3⟩ := h
     exact ⟨vs, e, hsz, ho, Fs, h1, h2, fun j hj => by rw [tabG_lt hj]; exact vwC_RO 4 (List.all_eq_true.1 hk.2 j (by simpa using hj)) (h3 j hj)⟩
   · simp at hk
  | pointer el =>
   simp only at hk ⊢
   split at hk
   · rename_i sz g
     rw [Bool.and_eq_true] at hk
     have hs := beq_eq.1 hk.1
     subst hs
     obtain ⟨ad, e, hsp, hin, vs, hc, Fs, h1, h2, h3⟩ := h
     exact ⟨ad, e, hsp, hin, vs, hc, Fs, h1, h2, fun j hj => by rw [tabG_lt hj]; exact vwP_RO (List.all_eq_true.1 hk.2 j (by simpa using hj)) (h3 j hj)⟩
   · simp at hk
  | _ => exact hC hk
theorem RR_tup {w : World} {sh : AV → Value → Prop} {n : Nat} {g : Nat → AV} {v : Value} {F : Cells} (h : RR w sh (.tup n g) v F) : ∃ vs, v = .tuple vs ∧ vs.size = n ∧ ∃ Fs : Nat → Cells, (∀ j b o, j < n → Fs j b o → F b o) ∧ (∀ j k b o, j < n → k < n → j ≠ k → Fs j b o → ¬ Fs k b o) ∧
      ∀ j, j < n → RV w sh (g j) (vs.getD j undef) (Fs j) := h
theorem RV_RR {w : World} {sh : AV → Value → Prop} {x : AV} {v : Value} {F : Cells} (h : RV w sh x v F) (hn : ∀ n g, x ≠ .tup n g) : RR w sh x v F := by
 cases x <;> first | exact h | exact absurd rfl (hn _ _)
theorem vwA_not_tup (t : TypeId) (y : AV) : ∀ n g, vwA P t y ≠ .tup n g := by
 intro n g
 unfold vwA
 split
 · simp
 · simp
 · exact (vwC_not 4 t y).2.2 n g
theorem okA_not_tup {t : TypeId} {y : AV} (hk : okA P t y = true) : ∀ n g, y ≠ .tup n g := by
 rintro n g rfl
 unfold okA at hk
 cases hu : P.underlying t with
 | none => rw [hu] at hk; exact (okC_not hk).2.2 n g rfl
 | some d =>
  rw [hu] at hk
  cases d with
  | struct fs => simp at hk
  | pointer el => simp at hk
  | _ => exact (okC_not hk).2.2 n g rfl
theorem vwR_RR {w0 : World} {ok : Cells} {ts : List TypeId} {y : AV} {v : Value} {F : Cells} (hk : okR P ts y = true) (h : RR w (RS w0 ok) y v F) : RR w (RS w0 ok) (vwR P ts y) v F := by
 unfold okR at hk
 unfold vwR
 split at hk
 · rename_i t
   have hn := okA_not_tup hk
   have hv : RV w (RS w0 ok) y v F := (not_tup hn (st := ⟨fun _ => .bad, fun _ => none, fun _ => none⟩) (base := 0)).1 h
   exact RV_RR (vwA_RV hk hv) (vwA_not_tup t y)
 · rename_i hts
   split at hk
   · rename_i n g
     rw [Bool.and_eq_true] at hk
     have hn := beq_eq.1 hk.1
     subst hn
     obtain ⟨vs, e, hs, Fs, h1, h2, h3⟩ := RR_tup h
     exact ⟨vs, e, hs, Fs, h1, h2, fun j hj => by rw [tabG_lt hj]; exact vwA_RV (List.all_eq_true.1 hk.2 j (by simpa using hj)) (h3 j hj)⟩
   · simp at hk
theorem like_RO {w0 w1 : World} {ok ok1 : Cells} (ht : RS w1 ok1 (.gv Tok.bs) Tok.val) (x : AV) : ∀ {y : AV} {v : Value} {F : Cells}, x.fit y = true → RO w (RS w0 ok) y v F → RO w (RS w1 ok1) (x.like y.ow) v F := by
 induction x with
 | I k n =>
  intro y v F hk h
  cases y with
  | I k' m => have := eq_of_beq hk; subst this; exact h
  | _ => simp [AV.fit] at hk
 | B b => intro y v F hk h; cases y <;> first | exact h | simp [AV.fit] at hk
 | S b => intro y v F hk h; cases y <;> first | exact h | simp [AV.fit] at hk
 | nlp => intro y v F hk h; cases y <;> first | exact h | simp [AV.fit] at hk
 | gv bs => intro y v F hk h; cases y <;> first | exact RO_ow ht (.gv _) h | simp [AV.fit] at hk
 | own n s g ih =>
  intro y v F hk h
  cases y with
  | own n' s' g' =>
   simp only [AV.fit, Bool.and_eq_true] at hk
   have hs := beq_eq.1 hk.1
   subst hs
   have hall := @of_decide_eq_true _ (Classical.propDecidable _) hk.2
   obtain ⟨A, cap, rfl, h1, h2, h3⟩ := h
   refine ⟨A, cap, rfl, h1, h2, h3.imp (fun h => h) fun ⟨a, e1, hs, hc, Fs, f1, f2, f3⟩ => ⟨a, e1, hs, hc, Fs, f1, f2, fun i hi j hj => ?_⟩⟩
   obtain ⟨u, hu', hr⟩ := f3 i hi j hj
   refine ⟨u, hu', ?_⟩
   show RO w (RS w1 ok1) (tabG s (fun j => (g 0 j).like (tabG s (fun j => (g' i j).ow) j)) j) u (Fs i j)
   rw [tabG_lt hj, tabG_lt hj]
   exact ih 0 j (List.all_eq_true.1 (hall i) j (by simpa using hj)) hr
  | _ => simp [AV.fit] at hk
 | _ => intro y v F hk h; trivial
def resF (tmps : Array Value) : ResultVar → Sem Value
 | .tmp t => pure (tmps.getD t undef)
 | .cell d t => do loadVar t (← asAddr (tmps.getD d undef))
theorem results_eq (fn : Func) (tmps : Array Value) : results fn tmps = (do
  let vs ← fn.results.mapM (resF tmps)
  pure (if h : vs.size = 1 then vs[0] else .tuple vs)) := by
 unfold results
 congr 1
theorem resOf_sound (h : Inv c gh nt st a w) : ∀ (l : List ResultVar) {xs : List AV}, resOf P st l = some xs →
  ∃ vs : List Value, (l.mapM (resF a.tmps)).run P w = .ok vs w ∧ vs.length = xs.length ∧ ∀ j, j < xs.length → TR c.sh gh st.ar st.bx w (lstG xs j) (vs.getD j undef) := by
 intro l
 induction l with
 | nil => intro xs e; simp only [resOf, Option.some.injEq] at e; subst e; exact ⟨[], by simp, rfl, fun j hj => absurd hj (by simp)⟩
 | cons x l ih =>
  intro xs e
  cases x with
  | tmp t =>
   simp only [resOf] at e
   split at e
   · rename_i ys hy
     simp only [Option.some.injEq] at e; subst e
     obtain ⟨vs, h1, h2, h3⟩ := ih hy
     refine ⟨a.tmps.getD t undef :: vs, ?_, by simp [h2], fun j hj => ?_⟩
     · simp only [List.mapM_cons, resF, Sem.run_bind, Sem.run_pure, Result.andThen_ok, h1]
     · cases j with
       | zero => exact h.temps t
       | succ j => exact h3 j (by simpa using hj)
   · simp at e
  | cell d ty =>
   simp only [resOf] at e
   split at e
   · rename_i y hy
     split at e
     · rename_i ys hys
       simp only [Option.some.injEq] at e; subst e
       obtain ⟨vs, h1, h2, h3⟩ := ih hys
       obtain ⟨y', v, ey, hr, ht⟩ := loadK_sound h hy (h.temps d)
       obtain rfl := Option.some.inj ey
       refine ⟨v :: vs, ?_, by simp [h2], fun j hj => ?_⟩
       · have hr' : (do loadVar ty (← asAddr (a.tmps.getD d undef)) : Sem Value).run P w = .ok v w := by
          cases hv : a.tmps.getD d undef with
          | pointer p =>
           rw [hv] at hr
           cases p with
           | none => simp [Instr.loadAt, Instr.sureAddr] at hr
           | some ad => simpa [Instr.loadAt, Instr.sureAddr, asAddr] using hr
          | _ => rw [hv] at hr; simp [Instr.loadAt, Instr.sureAddr] at hr
         simp only [List.mapM_cons, resF, Sem.run_bind, Sem.run_pure, Result.andThen_ok] at hr' ⊢
         rw [hr']
         simp only [Result.andThen_ok, h1]
       · cases j with
         | zero => exact ht
         | succ j => exact h3 j (by simpa using hj)
     · simp at e
   · simp at e
end
end Go.Fw
namespace Go.Fw
variable [Tok]
section
variable {c : Cx} {gh : Gh} {nt : Nat} {st : St} {a : Act} {w : World} {P : Program} {R : Type} {r : R}
def NameOk (c : Cx) (hv : Nat → Value) (k : Nat) : AV → Prop
 | .own n sz _ => hv k = .slice (c.hd0 (k * 4096)).1 n (c.hd0 (k * 4096)).2 ∧ c.n0 (k * 4096) = n ∧ c.s0 (k * 4096) = sz
 | .nbx sz _ => hv k = .pointer (some ⟨(c.ba0 k).block, (c.ba0 k).off + 0, none⟩)
 | _ => False
theorem exOut_sound {hv : Nat → Value} : ∀ (exts : List AV) {k : Nat} {gh : Gh} {st : St} {FL : Cells} {out : List AV}, k + exts.length ≤ c.lim → Inv c gh nt st a w → Free c gh st.ar st.bx w FL → exOut st k exts = some out →
  (∀ i x, exts[i]? = some x → NameOk c hv (k + i) x) →
  out.length = exts.length ∧ ∃ Fe : Nat → Cells, (∀ i x, (likeL exts (out.map AV.ow))[i]? = some x → RV w c.sh x (hv (k + i)) (Fe i)) ∧ (∀ i m b o, i < out.length → m < out.length → i ≠ m → Fe i b o → ¬ Fe m b o) ∧
   (∀ i b o, i < out.length → Fe i b o → ¬ FL b o) ∧ ∀ i b o, i < out.length → Fe i b o → b < w.heap.size ∧ (b < c.w0.heap.size → c.M b o) := by
 intro exts
 induction exts with
 | nil =>
  intro k gh st FL out _ h hFL e _
  simp only [exOut, Option.some.injEq] at e
  subst e
  exact ⟨rfl, fun _ _ _ => False, by simp [likeL], fun _ _ _ _ hi => absurd hi (by simp), fun _ _ _ hi => absurd hi (by simp), fun _ _ _ hi => absurd hi (by simp)⟩
 | cons x exts ih =>
  intro k gh st FL out hk h hFL e hn
  have hn0 := hn 0 x (by simp)
  simp only [Nat.add_zero] at hn0
  have hklt : k < c.lim := by simp at hk; omega
  have step : ∀ {y z : AV} {st' : St} {out' : List AV} {p : AV}, st.takeA p = some (y, st') → TR c.sh gh st.ar st.bx w p (hv k) → exOut st' (k + 1) exts = some out' →
    (∀ F, RV w c.sh y (hv k) F → RV w c.sh (x.likeE z.ow) (hv k) F) → out = z :: out' →
    out.length = (x :: exts).length ∧ ∃ Fe : Nat → Cells, (∀ i x', (likeL (x :: exts) (out.map AV.ow))[i]? = some x' → RV w c.sh x' (hv (k + i)) (Fe i)) ∧ (∀ i m b o, i < out.length → m < out.length → i ≠ m → Fe i b o → ¬ Fe m b o) ∧
     (∀ i b o, i < out.length → Fe i b o → ¬ FL b o) ∧ ∀ i b o, i < out.length → Fe i b o → b < w.heap.size ∧ (b < c.w0.heap.size → c.M b o) := by
   intro y z st' out' p ht hp he hz hout
   subst hout
   obtain ⟨gh1, F, hT, hrv⟩ := takeA_sound h hFL hp ht
   obtain ⟨q1, Fe, q4, q5, q6, q7⟩ := ih (by simp at hk; omega) hT.inv hT.free he (fun i x hi => by
    have := hn (i + 1) x (by simpa using hi)
    rwa [show k + (i + 1) = k + 1 + i by omega] at this)
   refine ⟨by simp [q1], fun i => match i with | 0 => F | i + 1 => Fe i, ?_, ?_, ?_, ?_⟩
   · intro i x' hi
     cases i with
     | zero => simp [likeL] at hi; subst hi; exact hz F hrv
     | succ i =>
      have := q4 i x' (by simpa [likeL] using hi)
      rwa [show k + 1 + i = k + (i + 1) by omega] at this
   · intro i m b o hi hm hne hb hb'
     cases i with
     | zero =>
      cases m with
      | zero => exact hne rfl
      | succ m => exact q6 m b o (by simpa using hm) hb' (.inr hb)
     | succ i =>
      cases m with
      | zero => exact q6 i b o (by simpa using hi) hb (.inr hb')
      | succ m => exact q5 i m b o (by simpa using hi) (by simpa using hm) (by omega) hb hb'
   · intro i b o hi hb
     cases i with
     | zero => exact hT.apart b o hb
     | succ i => exact fun hf => q6 i b o (by simpa using hi) hb (.inl hf)
   · intro i b o hi hb
     cases i with
     | zero => exact (hT.free b o (.inr hb)).2
     | succ i => exact q7 i b o (by simpa using hi) hb
  cases x with
  | own n sz g0 =>
   obtain ⟨hv0, hn1, hs1⟩ := hn0
   simp only [exOut] at e
   split at e
   · rename_i n' sz' g st' ht
     cases hfit : (AV.own n sz g0).fit (.own n' sz' g) with
     | false => rw [hfit] at e; simp at e
     | true =>
     rw [hfit] at e
     simp only [cond_true] at e
     split at e
     · rename_i out' he
       simp only [Option.some.injEq] at e
       have hA : ∃ A, st.ar (k * 4096) = some A ∧ A.n = n' ∧ A.sz = sz' ∧ A.g = g := by
        simp only [St.takeA, St.takeC, Option.map_eq_some_iff, Prod.mk.injEq, AV.own.injEq] at ht
        obtain ⟨A, hA, ⟨h1, h2, h3⟩, _⟩ := ht
        exact ⟨A, hA, h1, h2, h3⟩
       obtain ⟨A, hA, hAn, hAs, hAg⟩ := hA
       have hfx := h.fix.n (k * 4096) A (by omega) hA
       have hnn : n' = n := by omega
       have hss : sz' = sz := by omega
       subst hnn hss
       refine step (p := .rf (k * 4096)) (z := .own n' sz' g) ht ?_ he (fun F hrv => like_RO c.tok (.own n' sz' g0) hfit hrv) e.symm
       intro B hB
       rw [hA] at hB
       obtain rfl := Option.some.inj hB
       rw [hv0, h.fix.hd (k * 4096) (by omega), hAn]
     · simp at e
   · simp at e
  | nbx sz g0 =>
   have hv0 := hn0
   simp only [exOut] at e
   split at e
   · rename_i sz' h0 st' ht
     cases hk2 : (Nat.beq sz sz' && (List.range sz).all (fun j => (g0 j).fit (h0 j))) with
     | false => rw [hk2] at e; simp at e
     | true =>
      rw [hk2] at e
      simp only [cond_true] at e
      rw [Bool.and_eq_true] at hk2
      have hss := beq_eq.1 hk2.1
      subst hss
      split at e
      · rename_i out' he
        simp only [Option.some.injEq] at e
        refine step (p := .pb k 0) (z := .nbx sz h0) ht ?_ he (fun F hrv => ?_) e.symm
        · intro B hB
          have hv0' : hv k = .pointer (some ⟨(c.ba0 k).block, (c.ba0 k).off + 0, none⟩) := hv0
          rw [hv0', h.fix.ba k hklt]
        · obtain ⟨ad, e', hsp, hin, vs, hc, Fs, f1, f2, f3⟩ := hrv
          exact ⟨ad, e', hsp, hin, vs, hc, Fs, f1, f2, fun j hj => by rw [tabG_lt hj]; simp only [AV.ow, asA, tabG_lt hj]; exact like_RO c.tok _ (List.all_eq_true.1 hk2.2 j (by simpa using hj)) (f3 j hj)⟩
      · simp at e
   · simp at e
  | _ => exact hn0.elim
end
end Go.Fw
namespace Go.Fw
variable [Tok]
def hdr : Value → Option Addr × Nat
 | .slice A _ cap => (A, cap)
 | _ => (none, 0)
theorem init_inv {w : World} {M : Cells} {hv : Nat → Value} {Fe : Nat → Cells} {args exts : List AV} {vs : Array Value} {nt : Nat} (ht0 : RS w (okOf w M) (.gv Tok.bs) Tok.val) (h64 : exts.length ≤ 64) (hk : ∀ x, x ∈ exts → isExt x)
  (hH : Handed w (RS w (okOf w M)) M exts hv Fe) (hM : ∀ b o, M b o → b < w.heap.size) (hs : vs.size = args.length) (hnt : args.length ≤ nt)
  (ha : ∀ j, j < args.length → AR (RS w (okOf w M)) exts hv (args.getD j .bad) (vs.getD j undef)) :
  ∃ c gh, c.w0 = w ∧ c.M = M ∧ c.lim = 64 ∧ (∀ i x, exts[i]? = some x → NameOk c hv (0 + i) x) ∧ Inv c gh nt (initSt args exts) { tmps := vs ++ Array.replicate (nt - vs.size) undef, defers := [] } w := by
 have hlt : ∀ {k : Nat} {x : AV}, exts[k]? = some x → k < exts.length := fun h => (List.getElem?_eq_some_iff.1 h).1
 have hb : ∀ k, ∃ D : Addr × (Nat → Value) × (Nat → Cells), ∀ sz g, exts[k]? = some (.nbx sz g) → hv k = .pointer (some D.1) ∧ D.1.spot = none ∧ (∀ b o, In D.1 sz b o → Fe k b o) ∧
   (∀ j, j < sz → cellAt w D.1.block (D.1.off + j) = some (D.2.1 j) ∧ frozAt w D.1.block (D.1.off + j) = false ∧ (D.2.1 j).oneCell' = true) ∧
   (∀ j b o, j < sz → D.2.2 j b o → Fe k b o ∧ ¬ In D.1 sz b o) ∧ (∀ j i b o, j < sz → i < sz → j ≠ i → D.2.2 j b o → ¬ D.2.2 i b o) ∧ ∀ j, j < sz → RO w (RS w (okOf w M)) (g j) (D.2.1 j) (D.2.2 j) := by
  intro k
  by_cases hx : ∃ sz g, exts[k]? = some (.nbx sz g)
  · obtain ⟨sz, g, hx⟩ := hx
    obtain ⟨ad, e, hsp, hin, vs, hc, Fs, f1, f2, f3⟩ := hH.rel k _ hx
    refine ⟨⟨ad, vs, Fs⟩, fun sz' g' hx' => ?_⟩
    rw [hx] at hx'
    obtain ⟨rfl, rfl⟩ : sz = sz' ∧ g = g' := by simpa using hx'
    exact ⟨e, hsp, hin, hc, f1, f2, f3⟩
  · exact ⟨⟨default, fun _ => undef, fun _ _ _ => False⟩, fun sz g h => absurd ⟨sz, g, h⟩ hx⟩
 let D : Nat → Addr × (Nat → Value) × (Nat → Cells) := fun k => Classical.choose (hb k)
 have hD := fun k => Classical.choose_spec (hb k)
 let gh : Gh := ⟨fun id => match exts[id / 4096]? with | some (.own _ _ _) => hdr (hv (id / 4096)) | _ => hdr ((D (id / 4096)).2.1 (id % 4096)),
  fun id => match exts[id / 4096]? with | some (.own _ _ _) => Fe (id / 4096) | _ => (D (id / 4096)).2.2 (id % 4096), fun k => (D k).1⟩
 let c : Cx := { w0 := w, M := M, tok := ht0, lo := true, hd0 := gh.hd, ba0 := gh.ba, n0 := fun id => match initAr exts id with | some A => A.n | none => 0, s0 := fun id => match initAr exts id with | some A => A.sz | none => 0, z0 := fun b => match initBx exts b with | some B => B.1 | none => 0 }
 have harr : ∀ id A, initAr exts id = some A → (∃ n sz g, exts[id / 4096]? = some (.own n sz g) ∧ id % 4096 = 0 ∧ A = ⟨n, sz, g⟩) ∨ ∃ sz g n s h, exts[id / 4096]? = some (.nbx sz g) ∧ id % 4096 < sz ∧ g (id % 4096) = .own n s h ∧ A = ⟨n, s, h⟩ := by
  intro id A e
  unfold initAr at e
  split at e
  · rename_i n sz g hx
    cases hb : Nat.beq (id % 4096) 0 with
    | false => rw [hb] at e; simp at e
    | true => rw [hb] at e; simp only [cond_true, Option.some.injEq] at e; exact .inl ⟨n, sz, g, hx, beq_eq.1 hb, e.symm⟩
  · rename_i sz g hx
    cases hb : Nat.blt (id % 4096) sz with
    | false => rw [hb] at e; simp at e
    | true =>
     rw [hb] at e
     simp only [cond_true] at e
     split at e
     · rename_i n s h hg
       simp only [Option.some.injEq] at e
       exact .inr ⟨sz, g, n, s, h, hx, Nat.le_of_ble_eq_true hb, hg, e.symm⟩
     · simp at e
  · simp at e
 have hbxs : ∀ b sz g', initBx exts b = some (sz, g') → ∃ g, exts[b]? = some (.nbx sz g) ∧ g' = fun j => (g j).refd (b * 4096 + j) := by
  intro b sz g' e
  unfold initBx at e
  split at e
  · rename_i sz0 g hx
    simp only [Option.some.injEq, Prod.mk.injEq] at e
    obtain ⟨rfl, rfl⟩ := e
    exact ⟨g, hx, rfl⟩
  · simp at e
 have hhd0 : ∀ k n sz g, exts[k]? = some (.own n sz g) → gh.hd (k * 4096) = hdr (hv k) ∧ gh.fa (k * 4096) = Fe k := fun k n sz g hx => by
  have e1 : k * 4096 / 4096 = k := by omega
  simp only [gh, e1, hx]
  exact ⟨trivial, trivial⟩
 have hownv : ∀ k n sz g, exts[k]? = some (.own n sz g) → hv k = .slice (gh.hd (k * 4096)).1 n (gh.hd (k * 4096)).2 := fun k n sz g hx => by
  obtain ⟨A, cap, e, _⟩ := hH.rel k _ hx
  rw [(hhd0 k n sz g hx).1, e]; rfl
 have hrow : ∀ id A, initAr exts id = some A → RO w c.sh (.own A.n A.sz A.g) (.slice (gh.hd id).1 A.n (gh.hd id).2) (gh.fa id) := by
  intro id A e
  rcases harr id A e with ⟨n, sz, g, hx, h0, rfl⟩ | ⟨sz, g, n, s, h, hx, hj, hg, rfl⟩
  · have hr : RO w (RS w (okOf w M)) (.own n sz g) (hv (id / 4096)) (Fe (id / 4096)) := hH.rel _ _ hx
    have hid : id / 4096 * 4096 = id := by omega
    obtain ⟨q1, q2⟩ := hhd0 _ n sz g hx
    have q3 := hownv _ n sz g hx
    rw [hid] at q1 q2 q3
    rw [q2, ← q3]; exact hr
  · have hr := (hD (id / 4096) sz g hx).2.2.2.2.2.2 _ hj
    rw [hg] at hr
    have q1 : gh.hd id = hdr ((D (id / 4096)).2.1 (id % 4096)) := by simp only [gh, hx]
    have q2 : gh.fa id = (D (id / 4096)).2.2 (id % 4096) := by simp only [gh, hx]
    rw [q1, q2]
    have hr2 := hr
    obtain ⟨A, cap, e', hrest⟩ := hr2
    have q3 : Value.slice (hdr ((D (id / 4096)).2.1 (id % 4096))).1 n (hdr ((D (id / 4096)).2.1 (id % 4096))).2 = (D (id / 4096)).2.1 (id % 4096) := by
     show Value.slice (hdr ((Classical.choose (hb (id / 4096))).2.1 (id % 4096))).1 n (hdr ((Classical.choose (hb (id / 4096))).2.1 (id % 4096))).2 = (Classical.choose (hb (id / 4096))).2.1 (id % 4096)
     rw [e']; rfl
    rw [q3]; exact hr
 have hfa : ∀ id A, initAr exts id = some A → ∀ b o, gh.fa id b o → id / 4096 < exts.length ∧ Fe (id / 4096) b o := by
  intro id A e b o hf
  rcases harr id A e with ⟨n, sz, g, hx, h0, rfl⟩ | ⟨sz, g, n, s, h, hx, hj, hg, rfl⟩
  · have q2 : gh.fa id = Fe (id / 4096) := by simp only [gh, hx]
    rw [q2] at hf; exact ⟨hlt hx, hf⟩
  · have q2 : gh.fa id = (D (id / 4096)).2.2 (id % 4096) := by simp only [gh, hx]
    rw [q2] at hf
    exact ⟨hlt hx, ((hD (id / 4096) sz g hx).2.2.2.2.1 _ b o hj hf).1⟩
 have hfb : ∀ k x y, fp gh (initBx exts) (.inr k) x y → ∃ sz g, exts[k]? = some (.nbx sz g) ∧ In (D k).1 sz x y ∧ Fe k x y := by
  rintro k x y ⟨⟨sz, g'⟩, e, hin⟩
  obtain ⟨g, hx, _⟩ := hbxs k sz g' e
  exact ⟨sz, g, hx, hin, (hD k sz g hx).2.2.1 x y hin⟩
 have hone : ∀ r x y, live (initAr exts) (initBx exts) r → fp gh (initBx exts) r x y → ∃ k, k < exts.length ∧ Fe k x y ∧ match r with | .inl id => k = id / 4096 | .inr b => k = b := by
  rintro (id | b) x y hl hf
  · obtain ⟨A, e⟩ := Option.isSome_iff_exists.1 hl
    have := hfa id A e x y hf
    exact ⟨_, this.1, this.2, rfl⟩
  · obtain ⟨sz, g, hx, _, h⟩ := hfb b x y hf
    exact ⟨b, hlt hx, h, rfl⟩
 have hTR : ∀ (x : AV) (v : Value), AR (RS w (okOf w M)) exts hv x v → TR c.sh gh (initAr exts) (initBx exts) w x v := by
  intro x
  induction x with
  | rf id =>
   rintro v ⟨k, n, sz, g, rfl, hx, rfl⟩ A e
   rcases harr _ A e with ⟨n', sz', g', hx', h0, rfl⟩ | ⟨sz', g', n', s, h, hx', hj, hg, rfl⟩
   · have e1 : k * 4096 / 4096 = k := by omega
     rw [e1, hx] at hx'
     obtain ⟨rfl, rfl, rfl⟩ : n = n' ∧ sz = sz' ∧ g = g' := by simpa using hx'
     exact hownv k n sz g hx
   · have e1 : k * 4096 / 4096 = k := by omega
     rw [e1, hx] at hx'
     simp at hx'
  | pb k o =>
   rintro v ⟨rfl, ⟨sz, g, hx⟩, rfl⟩ B e
   have q := hD k sz g hx
   rw [q.1]
   have hsp := q.2.1
   show Value.pointer (some (D k).1) = Value.pointer (some ⟨(D k).1.block, (D k).1.off + 0, none⟩)
   have hsp' : (D k).1.spot = none := hsp
   cases hd : (D k).1
   rw [hd] at hsp'
   simp at hsp'
   simp [hsp']
  | ag sz g ih => rintro v ⟨vs, e, hs, hc⟩; exact ⟨vs, e, hs, fun j hj => ⟨(hc j hj).1, ih j _ (hc j hj).2⟩⟩
  | clo f n g ih => rintro v ⟨vs, e, hs, hc⟩; exact ⟨vs, e, hs, fun j hj => ih j _ (hc j hj)⟩
  | bad => intro v _; trivial
  | rs id p m => intro v h; exact h.elim
  | rn id p => intro v h; exact h.elim
  | pe id p i j => intro v h; exact h.elim
  | own n sz g => intro v h; exact h.elim
  | nbx sz g => intro v h; exact h.elim
  | tup n g => intro v h; exact h.elim
  | _ => intro v h; exact h
 refine ⟨c, gh, rfl, rfl, rfl, ?_, rfl, ?_, ?_, ?_, ⟨fun _ _ => rfl, fun _ _ => rfl, ?_, ?_⟩⟩
 · intro i x hx
   rw [Nat.zero_add]
   cases x with
   | own n sz g =>
    have e1 : i * 4096 / 4096 = i := by omega
    have e2 : i * 4096 % 4096 = 0 := by omega
    have e3 : initAr exts (i * 4096) = some ⟨n, sz, g⟩ := by
     unfold initAr
     rw [e1, hx]
     simp [e2]
    exact ⟨hownv i n sz g hx, by simp only [c, e3], by simp only [c, e3]⟩
   | nbx sz g =>
    have := hTR (.pb i 0) (hv i) ⟨rfl, ⟨sz, g, hx⟩, rfl⟩ (sz, fun j => (g j).refd (i * 4096 + j)) (by unfold initBx; rw [hx])
    exact this
   | _ => exact (hk _ (List.mem_of_getElem? hx)).elim
 · simp; omega
 · intro t
   by_cases ht : t < args.length
   · have : (vs ++ Array.replicate (nt - vs.size) undef).getD t undef = vs.getD t undef := by
      simp [Array.getD_eq_getD_getElem?, Array.getElem?_append_left, hs, ht]
     rw [this]
     exact hTR _ _ (ha t ht)
   · have : (initSt args exts).t t = .bad := by
      show args.getD t .bad = .bad
      simp [List.getD_eq_getElem?_getD, Nat.not_lt.1 ht]
     rw [this]; trivial
 · refine ⟨hrow, ?_, ?_, ?_, Nat.le_refl _, fun _ _ _ _ => ⟨rfl, rfl⟩, fun _ _ _ => rfl, Io.refl _⟩
   · intro b sz g' e
     obtain ⟨g, hx, rfl⟩ := hbxs b sz g' e
     obtain ⟨q1, q2, q3, q4, q5, q6, q7⟩ := hD b sz g hx
     have h4096 : sz ≤ 4096 := hk _ (List.mem_of_getElem? hx)
     refine ⟨q2, fun o ho => ⟨(D b).2.1 o, (q4 o ho).1, (q4 o ho).2.1, (q4 o ho).2.2, ?_⟩⟩
     have hr := q7 o ho
     cases hn : (g o).notOwn with
     | true => exact refd_TR (c := c) hr hn
     | false =>
      cases hg : g o with
      | own n s h =>
       rw [hg] at hr
       show TR c.sh gh (initAr exts) (initBx exts) w ((g o).refd (b * 4096 + o)) _
       rw [hg]
       intro A e'
       have e1 : (b * 4096 + o) / 4096 = b := by omega
       have e2 : (b * 4096 + o) % 4096 = o := by omega
       rcases harr _ A e' with ⟨n', sz', g', hx', h0, rfl⟩ | ⟨sz', g', n', s', h', hx', hj, hg', rfl⟩
       · rw [e1, hx] at hx'; simp at hx'
       · rw [e1, hx] at hx'
         obtain ⟨rfl, rfl⟩ : sz = sz' ∧ g = g' := by simpa using hx'
         rw [e2, hg] at hg'
         obtain ⟨rfl, rfl, rfl⟩ : n = n' ∧ s = s' ∧ h = h' := by simpa using hg'
         have q8 : gh.hd (b * 4096 + o) = hdr ((D b).2.1 o) := by simp only [gh, e1, e2, hx]
         rw [q8]
         obtain ⟨A', cap, ev, _⟩ := hr
         show (Classical.choose (hb b)).2.1 o = Value.slice (hdr ((Classical.choose (hb b)).2.1 o)).1 n (hdr ((Classical.choose (hb b)).2.1 o)).2
         rw [ev]; rfl
      | _ => rw [hg] at hn; simp [AV.notOwn] at hn
   · intro r r' x y hn hl hl' hx hy
     obtain ⟨k, hk1, hF, hkr⟩ := hone r x y hl hx
     obtain ⟨k', hk1', hF', hkr'⟩ := hone r' x y hl' hy
     by_cases hkk : k = k'
     · subst hkk
       rcases r with id | b <;> rcases r' with id' | b'
       · simp only at hkr hkr'
         obtain ⟨A, e⟩ := Option.isSome_iff_exists.1 hl
         obtain ⟨A', e'⟩ := Option.isSome_iff_exists.1 hl'
         have hne : id ≠ id' := fun e => hn (by rw [e])
         rcases harr id A e with ⟨n, sz, g, hx1, h0, _⟩ | ⟨sz, g, n, s, h, hx1, hj, hg, _⟩
         · rcases harr id' A' e' with ⟨n', sz', g', hx2, h0', _⟩ | ⟨sz', g', n', s', h', hx2, hj', hg', _⟩
           · omega
           · rw [← hkr', hkr, hx1] at hx2; simp at hx2
         · rcases harr id' A' e' with ⟨n', sz', g', hx2, h0', _⟩ | ⟨sz', g', n', s', h', hx2, hj', hg', _⟩
           · rw [← hkr', hkr, hx1] at hx2; simp at hx2
           · have hx3 := hx2
             rw [← hkr', hkr, hx1] at hx3
             obtain ⟨rfl, rfl⟩ : sz = sz' ∧ g = g' := by simpa using hx3
             have q2 : gh.fa id = (D (id / 4096)).2.2 (id % 4096) := by simp only [gh, hx1]
             have q2' : gh.fa id' = (D (id' / 4096)).2.2 (id' % 4096) := by simp only [gh, hx2]
             have hx' : gh.fa id x y := hx
             have hy' : gh.fa id' x y := hy
             rw [q2] at hx'
             rw [q2', ← hkr', hkr] at hy'
             exact (hD (id / 4096) sz g hx1).2.2.2.2.2.1 _ _ x y hj hj' (by omega) hx' hy'
       · simp only at hkr hkr'
         obtain ⟨A, e⟩ := Option.isSome_iff_exists.1 hl
         obtain ⟨sz0, g0, hx0, hin, _⟩ := hfb b' x y hy
         rcases harr id A e with ⟨n, sz, g, hx1, h0, _⟩ | ⟨sz, g, n, s, h, hx1, hj, hg, _⟩
         · rw [← hkr, hkr', hx0] at hx1; simp at hx1
         · have hx3 := hx1
           rw [← hkr, hkr', hx0] at hx3
           obtain ⟨rfl, rfl⟩ : sz0 = sz ∧ g0 = g := by simpa using hx3
           have q2 : gh.fa id = (D (id / 4096)).2.2 (id % 4096) := by simp only [gh, hx1]
           have hx' : gh.fa id x y := hx
           rw [q2, ← hkr, hkr'] at hx'
           exact ((hD b' sz0 g0 hx0).2.2.2.2.1 _ x y hj hx').2 hin
       · simp only at hkr hkr'
         obtain ⟨A, e⟩ := Option.isSome_iff_exists.1 hl'
         obtain ⟨sz0, g0, hx0, hin, _⟩ := hfb b x y hx
         rcases harr id' A e with ⟨n, sz, g, hx1, h0, _⟩ | ⟨sz, g, n, s, h, hx1, hj, hg, _⟩
         · rw [← hkr', hkr, hx0] at hx1; simp at hx1
         · have hx3 := hx1
           rw [← hkr', hkr, hx0] at hx3
           obtain ⟨rfl, rfl⟩ : sz0 = sz ∧ g0 = g := by simpa using hx3
           have q2 : gh.fa id' = (D (id' / 4096)).2.2 (id' % 4096) := by simp only [gh, hx1]
           have hy' : gh.fa id' x y := hy
           rw [q2, ← hkr', hkr] at hy'
           exact ((hD b sz0 g0 hx0).2.2.2.2.1 _ x y hj hy').2 hin
       · simp only at hkr hkr'
         exact hn (by rw [← hkr, ← hkr'])
     · exact hH.disj k k' x y hk1 hk1' hkk hF hF'
   · intro r x y hl hf
     obtain ⟨k, hk1, hF, _⟩ := hone r x y hl hf
     have := hH.mine k x y hk1 hF
     exact ⟨hM x y this, fun _ => this⟩
 · intro id A _ e
   have e' : initAr exts id = some A := e
   simp only [c, e']
   exact ⟨trivial, trivial⟩
 · intro b B _ e
   have e' : initBx exts b = some B := e
   simp only [c, e']
end Go.Fw
