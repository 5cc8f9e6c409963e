/- The by-value interpreter: regions whose order is open. -/
import Derived.Test.YtkhfkekbfjkpcaaFxB
set_option linter.unusedVariables false
set_option linter.unusedSectionVars false
set_option linter.unusedSimpArgs false
namespace Go.Fw
variable [Tok]

/-- What ends with the world as it was. -/
def Keeps {α : Type} (P : Program) (s : Sem α) : Prop := ∀ w v w', s.run P w = .ok v w' → w' = w
def Never {α : Type} (P : Program) (s : Sem α) : Prop := ∀ w v w', s.run P w ≠ .ok v w'
section
variable {P : Program}
theorem Never.keeps {α : Type} {s : Sem α} (h : Never P s) : Keeps P s := fun w v w' e => absurd e (h w v w')
theorem keeps_pure {α : Type} (x : α) : Keeps P (pure x : Sem α) := fun w v w' e => by
  simp at e; exact e.2.symm
theorem keeps_bind {α β : Type} {s : Sem α} {f : α → Sem β} (h : Keeps P s) (hf : ∀ x, Keeps P (f x)) : Keeps P (s >>= f) := fun w v w' e => by
  rw [Sem.run_bind] at e
  cases hr : s.run P w with
  | ok x w1 => rw [hr] at e; simp only [Result.andThen_ok] at e; exact (hf x _ _ _ e).trans (h _ _ _ hr)
  | halt x w1 => rw [hr] at e; simp [Result.andThen] at e
theorem never_bind {α β : Type} {s : Sem α} {f : α → Sem β} (hf : ∀ x, Never P (f x)) : Never P (s >>= f) := fun w v w' e => by
  rw [Sem.run_bind] at e
  cases hr : s.run P w with
  | ok x w1 => rw [hr] at e; simp only [Result.andThen_ok] at e; exact hf x _ _ _ e
  | halt x w1 => rw [hr] at e; simp [Result.andThen] at e
theorem never_halt {α : Type} (h : Halt) : Never P (.halt h : Sem α) := fun w v w' e => by simp [Sem.run] at e
theorem never_panicB {α : Type} (x y : Int) (b : Bool) (c : BoundsCode) : Never P (runtimePanic (.bounds x y b c) : Sem α) := by
  unfold runtimePanic
  exact never_bind fun p => never_halt _
theorem never_bounds {α : Type} (k : IntKind) (x y : Int) (b : BoundsCode) : Never P (boundsPanic k x y b : Sem α) := by
  unfold boundsPanic
  split
  · exact never_bind fun _ => never_panicB _ _ _ _
  · exact never_bind fun _ => never_panicB _ _ _ _
theorem keeps_program : Keeps P program := fun w v w' e => by simp [program, Sem.run] at e; exact e.2.symm
theorem keeps_load (a : Addr) (m : Mode) : Keeps P (load a m) := fun w v w' e => by
  simp only [load, Sem.run] at e
  split at e
  · simp only [Sem.run, Result.ok.injEq] at e; exact e.2.symm
  · split at e
    · simp only [Sem.run, Result.ok.injEq] at e; exact e.2.symm
    · simp at e
theorem keeps_typeInfo (t : TypeId) : Keeps P (typeInfo t) := by
  unfold typeInfo
  refine keeps_bind keeps_program fun p => ?_
  split
  · exact keeps_pure _
  · exact (never_halt _).keeps
theorem keeps_underlying (t : TypeId) : Keeps P (underlying t) := by
  unfold underlying
  refine keeps_bind keeps_program fun p => ?_
  split
  · exact keeps_pure _
  · exact (never_halt _).keeps
theorem keeps_sizeOf (t : TypeId) : Keeps P (sizeOf t) := keeps_bind (keeps_typeInfo t) fun _ => keeps_pure _
theorem keeps_isAgg (t : TypeId) : Keeps P (isAgg t) := by
  unfold isAgg
  refine keeps_bind (keeps_underlying t) fun d => ?_
  split <;> exact keeps_pure _
theorem keeps_asIntOf (v : Value) : Keeps P (asIntOf v) := by
  unfold asIntOf
  split
  · exact keeps_pure _
  · exact (never_halt _).keeps
  · exact (never_halt _).keeps
theorem keeps_sureAddr (v : Value) : Keeps P (Instr.sureAddr v) := by
  unfold Instr.sureAddr
  split
  · exact keeps_pure _
  · exact (never_halt _).keeps
theorem keeps_loadCells (a : Addr) : ∀ (n i : Nat) (acc : Array Value), Keeps P (loadCellsFrom a i n acc) := by
  intro n
  induction n with
  | zero => intro i acc; exact keeps_pure _
  | succ n ih => intro i acc; exact keeps_bind (keeps_load _ _) fun v => ih _ _
theorem keeps_loadAt (t : TypeId) (x : Value) : Keeps P (Instr.loadAt t x) := by
  unfold Instr.loadAt
  refine keeps_bind (keeps_sureAddr x) fun ad => ?_
  unfold loadVar
  refine keeps_bind (keeps_isAgg t) fun b => ?_
  cases b with
  | true => exact keeps_bind (keeps_sizeOf t) fun n => keeps_bind (keeps_loadCells _ _ _ _) fun _ => keeps_pure _
  | false => exact keeps_load _ _
theorem keeps_sliceBound (v : Value) (y : Nat) (c : BoundsCode) : Keeps P (Instr.sliceBound v y c) := by
  unfold Instr.sliceBound
  refine keeps_bind (keeps_asIntOf v) fun ki => ?_
  dsimp only
  split
  · exact keeps_pure _
  · exact (never_bounds _ _ _ _).keeps
theorem keeps_map {α β : Type} {s : Sem α} {f : α → β} (h : Keeps P s) : Keeps P (f <$> s) := keeps_bind (f := fun a => (pure (f a) : Sem β)) h fun _ => keeps_pure _
theorem keeps_asAddr (v : Value) : Keeps P (asAddr v) := by
  unfold asAddr
  split
  · exact keeps_pure _
  · exact (never_bind fun p => never_halt _).keeps
  · exact (never_halt _).keeps
theorem keeps_sliceBounds (b : Bool) (n c : Nat) (lo hi mx : Option Value) : Keeps P (Instr.sliceBounds b n c lo hi mx) := by
  unfold Instr.sliceBounds
  repeat' first
  | exact keeps_pure _
  | exact keeps_typeInfo _
  | exact keeps_sizeOf _
  | exact keeps_isAgg _
  | exact keeps_underlying _
  | exact keeps_sliceBound _ _ _
  | exact keeps_asIntOf _
  | exact keeps_sureAddr _
  | exact keeps_asAddr _
  | exact (never_halt _).keeps
  | exact (never_bounds _ _ _ _).keeps
  | exact keeps_map (keeps_sizeOf _)
  | refine keeps_bind ?_ fun _ => ?_
  | split
  | dsimp only
theorem keeps_slice (t : TypeId) (x : Value) (lo hi mx : Option Value) : Keeps P (Instr.slice t x lo hi mx) := by
  unfold Instr.slice
  repeat' first
  | exact keeps_pure _
  | exact keeps_typeInfo _
  | exact keeps_sizeOf _
  | exact keeps_isAgg _
  | exact keeps_underlying _
  | exact keeps_sliceBound _ _ _
  | exact keeps_asIntOf _
  | exact keeps_sureAddr _
  | exact keeps_asAddr _
  | exact keeps_sliceBounds _ _ _ _ _ _
  | exact (never_halt _).keeps
  | exact (never_bounds _ _ _ _).keeps
  | exact keeps_map (keeps_sizeOf _)
  | refine keeps_bind ?_ fun _ => ?_
  | split
  | dsimp only
theorem keeps_sliceAt (t : TypeId) (x : Value) (lo hi mx : Option Value) : Keeps P (Instr.sliceAt t x lo hi mx) := by
  unfold Instr.sliceAt
  refine keeps_bind (keeps_underlying _) fun d => ?_
  split
  · repeat' first
    | exact keeps_pure _
    | exact keeps_typeInfo _
    | exact keeps_sizeOf _
    | exact keeps_isAgg _
    | exact keeps_underlying _
    | exact keeps_sliceBound _ _ _
    | exact keeps_asIntOf _
    | exact keeps_sureAddr _
    | exact keeps_asAddr _
    | exact keeps_sliceBounds _ _ _ _ _ _
    | exact (never_halt _).keeps
    | exact (never_bounds _ _ _ _).keeps
    | exact keeps_map (keeps_sizeOf _)
    | refine keeps_bind ?_ fun _ => ?_
    | split
    | dsimp only
  · exact keeps_slice _ _ _ _ _
theorem keeps_indexAt (t : TypeId) (x i : Value) : Keeps P (Instr.indexAt t x i) := by
  unfold Instr.indexAt
  repeat' first
  | exact keeps_pure _
  | exact keeps_typeInfo _
  | exact keeps_sizeOf _
  | exact keeps_isAgg _
  | exact keeps_underlying _
  | exact keeps_sliceBound _ _ _
  | exact keeps_asIntOf _
  | exact keeps_sureAddr _
  | exact keeps_asAddr _
  | exact keeps_sliceBounds _ _ _ _ _ _
  | exact (never_halt _).keeps
  | exact (never_bounds _ _ _ _).keeps
  | exact keeps_map (keeps_sizeOf _)
  | refine keeps_bind ?_ fun _ => ?_
  | split
  | dsimp only
theorem keeps_getObj (r : Nat) : Keeps P (getObj r) := fun w v w' e => by
  simp only [getObj, Sem.run] at e
  split at e
  · simp at e
  · simp only [Sem.run, Result.ok.injEq] at e; exact e.2.symm
  · simp at e
theorem keeps_shape (r : Nat) : Keeps P (shape r) := fun w v w' e => by
  simp only [shape, Sem.run, Result.ok.injEq] at e; exact e.2.symm
theorem keeps_extract (x : Value) (i : Nat) : Keeps P (Instr.extract x i) := by
  unfold Instr.extract
  repeat' first
  | exact keeps_pure _
  | exact keeps_typeInfo _
  | exact keeps_sizeOf _
  | exact keeps_isAgg _
  | exact keeps_underlying _
  | exact keeps_sliceBound _ _ _
  | exact keeps_asIntOf _
  | exact keeps_sureAddr _
  | exact keeps_asAddr _
  | exact keeps_sliceBounds _ _ _ _ _ _
  | exact (never_halt _).keeps
  | exact (never_bounds _ _ _ _).keeps
  | exact keeps_map (keeps_sizeOf _)
  | refine keeps_bind ?_ fun _ => ?_
  | split
  | dsimp only
theorem keeps_viewAt (r : Nat) : Keeps P (viewAt r) := by
  unfold viewAt
  repeat' first
  | exact keeps_pure _
  | exact keeps_shape _
  | exact keeps_getObj _
  | refine keeps_bind ?_ fun _ => ?_
  | split
theorem keeps_fieldPlace (a : Addr) (f : Field) : Keeps P (fieldPlace a f) := by
  unfold fieldPlace partAt byteOf noView
  repeat' first
  | exact keeps_pure _
  | exact keeps_sizeOf _
  | exact keeps_program
  | exact keeps_shape _
  | exact keeps_viewAt _
  | exact (never_halt _).keeps
  | refine keeps_bind ?_ fun _ => ?_
  | split
  | dsimp only
theorem keeps_fieldAt (t : TypeId) (x : Value) (i : Nat) : Keeps P (Instr.fieldAt t x i) := by
  unfold Instr.fieldAt
  repeat' first
  | exact keeps_pure _
  | exact keeps_underlying _
  | exact keeps_fieldPlace _ _
  | exact keeps_sureAddr _
  | exact (never_halt _).keeps
  | refine keeps_bind ?_ fun _ => ?_
  | split
  | dsimp only
theorem keeps_len (ts : Array TypeId) (t : TypeId) (xs : Array Value) : Keeps P (Builtin.len_ ts t xs) := by
  unfold Builtin.len_
  repeat' first
  | exact keeps_pure _
  | exact keeps_typeInfo _
  | exact keeps_getObj _
  | exact keeps_sizeOf _
  | exact keeps_isAgg _
  | exact keeps_underlying _
  | exact keeps_sliceBound _ _ _
  | exact keeps_asIntOf _
  | exact keeps_sureAddr _
  | exact keeps_asAddr _
  | exact keeps_sliceBounds _ _ _ _ _ _
  | exact (never_halt _).keeps
  | exact (never_bounds _ _ _ _).keeps
  | exact keeps_map (keeps_sizeOf _)
  | refine keeps_bind ?_ fun _ => ?_
  | split
  | dsimp only
theorem keeps_asBool (x : Value) : Keeps P (asBool x) := by
  unfold asBool
  split
  · exact keeps_pure _
  · exact (never_halt _).keeps

/-- What ends with a value, whatever the world. -/
def PureS {α : Type} (P : Program) (s : Sem α) : Prop := ∀ w v w', s.run P w = .ok v w' → w' = w ∧ ∀ w2, s.run P w2 = .ok v w2
theorem Never.pureS {α : Type} {s : Sem α} (h : Never P s) : PureS P s := fun w v w' e => absurd e (h w v w')
theorem pureS_pure {α : Type} (x : α) : PureS P (pure x : Sem α) := fun w v w' e => by
  simp at e; exact ⟨e.2.symm, fun w2 => by simp [e.1]⟩
theorem pureS_bind {α β : Type} {s : Sem α} {f : α → Sem β} (h : PureS P s) (hf : ∀ x, PureS P (f x)) : PureS P (s >>= f) := fun w v w' e => by
  rw [Sem.run_bind] at e
  cases hr : s.run P w with
  | ok x w1 =>
    rw [hr] at e; simp only [Result.andThen_ok] at e
    obtain ⟨h1, h2⟩ := h _ _ _ hr
    obtain ⟨h3, h4⟩ := hf x _ _ _ e
    exact ⟨h3.trans h1, fun w2 => by rw [Sem.run_bind, h2, Result.andThen_ok, h4]⟩
  | halt x w1 => rw [hr] at e; simp [Result.andThen] at e
theorem pureS_program : PureS P program := fun w v w' e => by
  simp [program, Sem.run] at e; exact ⟨e.2.symm, fun w2 => by simp [program, Sem.run, e.1]⟩
theorem pureS_typeInfo (t : TypeId) : PureS P (typeInfo t) := by
  unfold typeInfo
  refine pureS_bind pureS_program fun p => ?_
  split
  · exact pureS_pure _
  · exact (never_halt _).pureS
theorem pureS_underlying (t : TypeId) : PureS P (underlying t) := by
  unfold underlying
  refine pureS_bind pureS_program fun p => ?_
  split
  · exact pureS_pure _
  · exact (never_halt _).pureS
theorem pureS_sizeOf (t : TypeId) : PureS P (sizeOf t) := pureS_bind (pureS_typeInfo t) fun _ => pureS_pure _
theorem pureS_asIntOf (v : Value) : PureS P (asIntOf v) := by
  unfold asIntOf
  split
  · exact pureS_pure _
  · exact (never_halt _).pureS
  · exact (never_halt _).pureS
theorem pureS_sureAddr (v : Value) : PureS P (Instr.sureAddr v) := by
  unfold Instr.sureAddr
  split
  · exact pureS_pure _
  · exact (never_halt _).pureS
theorem pureS_asBool (x : Value) : PureS P (asBool x) := by
  unfold asBool
  split
  · exact pureS_pure _
  · exact (never_halt _).pureS
theorem pureS_extract (x : Value) (i : Nat) : PureS P (Instr.extract x i) := by
  unfold Instr.extract
  split
  · split
    · exact pureS_pure _
    · exact (never_halt _).pureS
  · exact (never_halt _).pureS
theorem pureS_indexAt (t : TypeId) (x i : Value) : PureS P (Instr.indexAt t x i) := by
  unfold Instr.indexAt
  repeat' first
  | exact pureS_pure _
  | exact pureS_typeInfo _
  | exact pureS_sizeOf _
  | exact pureS_underlying _
  | exact pureS_asIntOf _
  | exact pureS_sureAddr _
  | exact (never_halt _).pureS
  | exact (never_bounds _ _ _ _).pureS
  | refine pureS_bind ?_ fun _ => ?_
  | split
  | dsimp only
theorem pureS_panicE {α : Type} (e : String) : PureS P (runtimePanic (.error e) : Sem α) := by
  unfold runtimePanic
  exact (never_bind fun p => never_halt _).pureS
theorem pureS_binI (op : BinOp) (t : TypeId) (xo yo : Operand) (k k' : IntKind) (m n : Int) : PureS P (do eqGuard op t xo yo (.int k m) (.int k' n); binOp op t (.int k m) (.int k' n) : Sem Value) := by
  refine pureS_bind (fun w v w' e => ?_) fun _ => ?_
  · have h := fun w2 => eqGuard_run (P := P) (w := w2) (op := op) (t := t) (xo := xo) (yo := yo) (u := .int k m) (v := .int k' n) (by simp) (by simp)
    rw [h] at e
    simp only [Result.ok.injEq] at e
    exact ⟨e.2.symm, fun w2 => by rw [h]⟩
  · unfold binOp
    cases op <;> dsimp only <;> (repeat' first
      | exact pureS_pure _
      | exact pureS_panicE _
      | exact (never_halt _).pureS
      | (unfold Op.shift; split)
      | (unfold Op.intDiv; split)
      | unfold Op.intArith
      | unfold Op.intBits
      | unfold Op.intCmp
      | split
      | dsimp only)
theorem pureS_binS (op : BinOp) (t : TypeId) (xo yo : Operand) (m n : ByteArray) : PureS P (do eqGuard op t xo yo (.string m) (.string n); binOp op t (.string m) (.string n) : Sem Value) := by
  refine pureS_bind (fun w v w' e => ?_) fun _ => ?_
  · have h := fun w2 => eqGuard_run (P := P) (w := w2) (op := op) (t := t) (xo := xo) (yo := yo) (u := .string m) (v := .string n) (by simp) (by simp)
    rw [h] at e
    simp only [Result.ok.injEq] at e
    exact ⟨e.2.symm, fun w2 => by rw [h]⟩
  · unfold binOp
    cases op <;> dsimp only <;> unfold Op.stringOp <;> dsimp only <;> (repeat' first
      | exact pureS_pure _
      | exact (never_halt _).pureS
      | split
      | dsimp only)
theorem pureS_len {ts : Array TypeId} {t u : TypeId} {xs : Array Value} (h0 : ts[0]? = some t) (h : (∃ e, P.underlying t = some (.slice e)) ∨ P.underlying t = some .string) : PureS P (Builtin.len_ ts u xs) := by
  unfold Builtin.len_
  rw [h0]
  split
  · rename_i p' t' x hx
    simp only [Prod.mk.injEq, Option.some.injEq] at hx
    obtain ⟨rfl, hx⟩ := hx
    intro w v w' e
    rcases h with ⟨e1, h⟩ | h
    · simp only [Sem.run_bind, run_underlying h, Result.andThen_ok] at e ⊢
      cases x <;> first | exact pureS_pure _ _ _ _ e | exact absurd e ((never_halt _) _ _ _)
    · simp only [Sem.run_bind, run_underlying h, Result.andThen_ok] at e ⊢
      cases x <;> first | exact pureS_pure _ _ _ _ e | exact absurd e ((never_halt _) _ _ _)
  · exact (never_halt _).pureS
theorem pureS_fieldAt {s : TypeId} {x : Value} {f : Nat} {fs : Array Field} {fd : Field} (hu : P.underlying s = some (.struct fs)) (hf : fs[f]? = some fd) (hz : ¬ P.cellsOf fd.type = 0) : PureS P (Instr.fieldAt s x f) := by
  intro w v w' e
  have hp : ∀ a, PureS P (fieldPlace a fd) := fun a w v w' e => by
    unfold fieldPlace at e ⊢
    cases hi : P.info? fd.type with
    | none =>
      simp [sizeOf, typeInfo, hi, Sem.run_bind, stuck, Sem.run, Result.andThen] at e
    | some i =>
      have hs : ∀ w2, (sizeOf fd.type).run P w2 = .ok (P.cellsOf fd.type) w2 := fun w2 => by
        simp [sizeOf, typeInfo, hi, Sem.run_bind, Program.cellsOf]
      simp only [Sem.run_bind, hs, Result.andThen_ok, hz, if_false, Sem.run_pure, Result.ok.injEq] at e ⊢
      exact ⟨e.2.symm, fun w2 => ⟨e.1, trivial⟩⟩
  have h1 : PureS P (do let a ← Instr.sureAddr x; pure (.pointer (some (← fieldPlace a fd))) : Sem Value) := pureS_bind (pureS_sureAddr x) fun ad => pureS_bind (hp ad) fun _ => pureS_pure _
  have h2 : ∀ w2, (Instr.fieldAt s x f).run P w2 = (do let a ← Instr.sureAddr x; pure (.pointer (some (← fieldPlace a fd))) : Sem Value).run P w2 := fun w2 => by
    unfold Instr.fieldAt
    simp only [Sem.run_bind, run_underlying hu, Result.andThen_ok, hf]
  rw [h2] at e
  obtain ⟨h3, h4⟩ := h1 _ _ _ e
  exact ⟨h3, fun w2 => by rw [h2]; exact h4 w2⟩

section
variable {c : Cx} {gh : Gh} {nt : Nat} {st : St} {a : Act}
/-- What asks the temporaries alone does so in whatever world. -/
theorem pure_run {w : World} (h : Inv c gh nt st a w) {o : Oper} (hp : pureAt P st o = true) {w' : World} {n : Next} (e : (execOp a.eval o).run P w = .ok n w') :
    w' = w ∧ ∃ v, n = .value v ∧ ∀ w2, (execOp a.eval o).run P w2 = .ok (.value v) w2 := by
  have val : ∀ {s : Sem Value}, PureS P s → (do pure (.value (← s)) : Sem Next).run P w = .ok n w' → w' = w ∧ ∃ v, n = .value v ∧ ∀ w2, (do pure (.value (← s)) : Sem Next).run P w2 = .ok (.value v) w2 := fun {s} hk e => by
    rw [Sem.run_bind] at e
    cases hr : s.run P w with
    | ok x w1 =>
      rw [hr] at e
      simp only [Result.andThen_ok, Sem.run_pure, Result.ok.injEq] at e
      obtain ⟨h1, h2⟩ := hk _ _ _ hr
      exact ⟨e.2.symm.trans h1, x, e.1.symm, fun w2 => by rw [Sem.run_bind, h2, Result.andThen_ok, Sem.run_pure]⟩
    | halt x w1 => rw [hr] at e; simp [Result.andThen] at e
  unfold pureAt at hp
  unfold execOp at e ⊢
  cases hop : o.op with
  | move x => simp only [hop] at e ⊢; exact val (pureS_pure _) e
  | assign x => simp only [hop] at e ⊢; exact val (pureS_pure _) e
  | indexAddr t x i => simp only [hop] at e ⊢; exact val (pureS_indexAt _ _ _) e
  | extract x i => simp only [hop] at e ⊢; exact val (pureS_extract _ _) e
  | pick x y z =>
    simp only [hop] at e ⊢
    rw [Sem.run_bind] at e
    cases hr : (asBool (a.eval x)).run P w with
    | ok b w1 =>
      rw [hr] at e
      simp only [Result.andThen_ok, Sem.run_pure, Result.ok.injEq] at e
      obtain ⟨h1, h2⟩ := pureS_asBool _ _ _ _ hr
      exact ⟨e.2.symm.trans h1, _, e.1.symm, fun w2 => by rw [Sem.run_bind, h2, Result.andThen_ok, Sem.run_pure]⟩
    | halt b w1 => rw [hr] at e; simp [Result.andThen] at e
  | fieldAddr t x f =>
    simp only [hop] at e hp ⊢
    split at hp
    · rename_i fs hu
      split at hp
      · rename_i fd hf
        exact val (pureS_fieldAt hu hf (by intro h0; rw [h0] at hp; simp at hp)) e
      · simp at hp
    · simp at hp
  | nilCheck x =>
    simp only [hop] at e hp ⊢
    have ht := get_TR (P := P) h 0 x
    have hv : ∃ ad, a.eval x = .pointer (some ad) := by
      split at hp
      · rename_i b o' hx
        rw [hx] at ht
        obtain ⟨B, hB⟩ := Option.isSome_iff_exists.1 hp
        exact ⟨_, ht B hB⟩
      · rename_i id i j hx
        rw [hx] at ht
        obtain ⟨A, hA⟩ := Option.isSome_iff_exists.1 hp
        obtain ⟨_, _, ad, _, hv⟩ := ht A hA
        exact ⟨_, hv⟩
      · rename_i sz g hx
        rw [hx] at ht
        obtain ⟨ad, hv, _⟩ := ht
        exact ⟨ad, hv⟩
      · simp at hp
    obtain ⟨ad, hv⟩ := hv
    rw [hv] at e ⊢
    exact val (pureS_pure _) e
  | binOp op t x y z =>
    simp only [hop] at e hp ⊢
    split at hp
    · rename_i hx hy
      have h1 := TR_I (hx ▸ get_TR (P := P) h t x)
      have h2 := TR_I (hy ▸ get_TR (P := P) h t y)
      rw [h1, h2] at e ⊢
      exact val (pureS_binI op t x y _ _ _ _) e
    · rename_i hx hy
      have h1 := TR_S (hx ▸ get_TR (P := P) h t x)
      have h2 := TR_S (hy ▸ get_TR (P := P) h t y)
      rw [h1, h2] at e ⊢
      exact val (pureS_binS op t x y _ _) e
    · simp at hp
  | call c =>
    simp only [hop] at e hp ⊢
    split at hp
    · rename_i hc
      split at hp
      · rename_i t ht
        have hl : (∃ e, P.underlying t = some (.slice e)) ∨ P.underlying t = some .string := by
          split at hp
          · exact .inl ⟨_, by assumption⟩
          · exact .inr (by assumption)
          · simp at hp
        simp only [resolve, hc, Sem.run_bind, Sem.run_pure, Result.andThen_ok, invoke, builtin] at e ⊢
        obtain ⟨h1, v, h2, h3⟩ := val (pureS_len (u := o.type) (xs := c.args.map a.eval) ht hl) (by simp only [Sem.run_bind, Sem.run_pure]; exact e)
        exact ⟨h1, v, h2, fun w2 => by have := h3 w2; simp only [Sem.run_bind, Sem.run_pure] at this; exact this⟩
      · simp at hp
    · simp at hp
  | _ => rw [hop] at hp; simp at hp
theorem pureAt_sel {o : Oper} (h : pureAt P st o = true) : ∀ cs b, o.op ≠ .select cs b := by
  intro cs b e
  unfold pureAt at h
  rw [e] at h
  simp at h
end

/-! ### What leaves all that was there as it is -/
def Ext0 (w w' : World) : Prop := w.heap.size ≤ w'.heap.size ∧ ∀ b, b < w.heap.size → w'.heap[b]? = w.heap[b]?
theorem Ext0.refl (w : World) : Ext0 w w := ⟨Nat.le_refl _, fun _ _ => rfl⟩
theorem Ext0.trans {w w' w'' : World} (h : Ext0 w w') (h' : Ext0 w' w'') : Ext0 w w'' := ⟨Nat.le_trans h.1 h'.1, fun b hb => (h'.2 b (Nat.lt_of_lt_of_le hb h.1)).trans (h.2 b hb)⟩
def GrowS {α : Type} (P : Program) (s : Sem α) : Prop := ∀ w v w', s.run P w = .ok v w' → Ext0 w w'
theorem PureS.grow {α : Type} {s : Sem α} (h : PureS P s) : GrowS P s := fun w v w' e => by rw [(h _ _ _ e).1]; exact .refl w
theorem growS_bind {α β : Type} {s : Sem α} {f : α → Sem β} (h : GrowS P s) (hf : ∀ x, GrowS P (f x)) : GrowS P (s >>= f) := fun w v w' e => by
  rw [Sem.run_bind] at e
  cases hr : s.run P w with
  | ok x w1 => rw [hr] at e; simp only [Result.andThen_ok] at e; exact (h _ _ _ hr).trans (hf x _ _ _ e)
  | halt x w1 => rw [hr] at e; simp [Result.andThen] at e
theorem growS_newObj (o : Obj) : GrowS P (newObj o) := fun w v w' e => by
  simp only [newObj, Sem.run, Result.ok.injEq] at e
  obtain ⟨_, rfl⟩ := e
  exact ⟨by simp, fun b hb => by simp [Array.getElem?_push, Nat.ne_of_lt hb]⟩
theorem growS_newVar (t : TypeId) (v : Value) : GrowS P (newVar t v) := growS_bind (growS_newObj _) fun _ => (pureS_pure _).grow
theorem growS_newRow (t : TypeId) (v : Array Value) : GrowS P (newRow t v) := growS_bind (growS_newObj _) fun _ => (pureS_pure _).grow
theorem pureS_zeroValue (t : TypeId) : PureS P (zeroValue t) := by
  unfold zeroValue
  refine pureS_bind (pureS_typeInfo t) fun i => ?_
  split
  · exact pureS_pure _
  · exact (never_halt _).pureS
theorem growS_alloc (t : TypeId) : GrowS P (Instr.alloc t true (.tuple #[])) := by
  unfold Instr.alloc
  refine growS_bind (pureS_zeroValue t).grow fun z => ?_
  exact growS_bind (growS_newVar t z) fun _ => (pureS_pure _).grow
theorem growS_box (t : TypeId) (v : Value) : GrowS P (Instr.box t v) := growS_bind (growS_newVar t v) fun _ => (pureS_pure _).grow
theorem growS_buildSlice (t : TypeId) (n : Nat) (ps : Array (Nat × Value)) : GrowS P (Instr.buildSlice t n ps) := by
  unfold Instr.buildSlice
  repeat' first
  | exact (pureS_pure _).grow
  | exact (pureS_underlying _).grow
  | exact (pureS_sizeOf _).grow
  | exact (pureS_zeroValue _).grow
  | exact (never_halt _).pureS.grow
  | exact growS_newRow _ _
  | refine growS_bind ?_ fun _ => ?_
  | split
  | dsimp only
theorem grow_run {o : Oper} (hs : growOp o = true) {ρ : Operand → Value} {w w' : World} {n : Next} (e : (execOp ρ o).run P w = .ok n w') : Ext0 w w' ∧ ∃ v, n = .value v := by
  have val : ∀ {s : Sem Value}, GrowS P s → (do pure (.value (← s)) : Sem Next).run P w = .ok n w' → Ext0 w w' ∧ ∃ v, n = .value v := fun {s} hk e => by
    rw [Sem.run_bind] at e
    cases hr : s.run P w with
    | ok x w1 =>
      rw [hr] at e
      simp only [Result.andThen_ok, Sem.run_pure, Result.ok.injEq] at e
      exact ⟨e.2 ▸ hk _ _ _ hr, x, e.1.symm⟩
    | halt x w1 => rw [hr] at e; simp [Result.andThen] at e
  unfold growOp at hs
  unfold execOp at e
  cases hop : o.op with
  | alloc t => simp only [hop] at e; exact val (growS_alloc _) e
  | box t x => simp only [hop] at e; exact val (growS_box _ _) e
  | buildSlice t m ps => simp only [hop] at e; exact val (growS_buildSlice _ _ _) e
  | _ => rw [hop] at hs; simp at hs

/-- What is so in each world that has grown. -/
def StabS {α : Type} (P : Program) (s : Sem α) : Prop := ∀ w v w', s.run P w = .ok v w' → w' = w ∧ ∀ w2, Ext0 w w2 → s.run P w2 = .ok v w2
theorem PureS.stab {α : Type} {s : Sem α} (h : PureS P s) : StabS P s := fun w v w' e => ⟨(h _ _ _ e).1, fun w2 _ => (h _ _ _ e).2 w2⟩
theorem stabS_bind {α β : Type} {s : Sem α} {f : α → Sem β} (h : StabS P s) (hf : ∀ x, StabS P (f x)) : StabS P (s >>= f) := fun w v w' e => by
  rw [Sem.run_bind] at e
  cases hr : s.run P w with
  | ok x w1 =>
    rw [hr] at e; simp only [Result.andThen_ok] at e
    obtain ⟨h1, h2⟩ := h _ _ _ hr
    subst h1
    obtain ⟨h3, h4⟩ := hf x _ _ _ e
    exact ⟨h3, fun w2 hx => by rw [Sem.run_bind, h2 w2 hx, Result.andThen_ok, h4 w2 hx]⟩
  | halt x w1 => rw [hr] at e; simp [Result.andThen] at e
theorem seen_none {w : World} {at_ : Addr} {u : TypeId} {k : Addr} {b : Bool} (h : w.heap[at_.block]? = none) : ∀ x, w.seen P at_ u k b ≠ .ok x := by
  intro x e
  unfold World.seen at e
  simp only [bind, Except.bind, pure, Except.pure, throw, throwThe, MonadExceptOf.throw, h] at e
  repeat' split at e
  all_goals simp at e
theorem viewLoad_ext {w w2 : World} (hx : Ext0 w w2) {at_ : Addr} {u : TypeId} {k : Addr} {b : Bool} {x : Value × List Addr} (e : w.viewLoad P at_ u k b = .ok x) : w2.viewLoad P at_ u k b = .ok x := by
  by_cases hb : at_.block < w.heap.size
  · have h := hx.2 _ hb
    rw [← e]
    unfold World.viewLoad World.seen
    rw [h]
  · exfalso
    have h0 : w.heap[at_.block]? = none := Array.getElem?_eq_none (Nat.le_of_not_lt hb)
    unfold World.viewLoad at e
    cases hs : w.seen P at_ u k b with
    | ok y => exact seen_none h0 y hs
    | error y => rw [hs] at e; simp [bind, Except.bind] at e
theorem stabS_load (a : Addr) (m : Mode) : StabS P (load a m) := fun w v w' e => by
  refine ⟨keeps_load a m _ _ _ e, fun w2 hx => ?_⟩
  simp only [load, Sem.run] at e ⊢
  by_cases hb : a.block < w.heap.size
  · have h := hx.2 _ hb
    have hc : w2.cell? a = w.cell? a := by unfold World.cell?; rw [h]
    rw [hc]
    split at e
    · simp only [Sem.run, Result.ok.injEq] at e ⊢; exact ⟨e.1, trivial⟩
    · unfold World.farLoad at e ⊢
      rw [h]
      split at e
      · rename_i r hf
        split at hf
        · rename_i at_ u hv
          split at hf
          · rename_i r' hr
            rw [viewLoad_ext hx hr]
            simp only [Except.ok.injEq] at hf
            subst hf
            simp only [Sem.run, Result.ok.injEq] at e ⊢; exact ⟨e.1, trivial⟩
          · simp at hf
        · simp at hf
      · simp at e
  · have h0 : w.heap[a.block]? = none := Array.getElem?_eq_none (Nat.le_of_not_lt hb)
    have hc : w.cell? a = none := by unfold World.cell?; rw [h0]
    rw [hc] at e
    simp only [World.farLoad, h0] at e
    simp at e
theorem stabS_loadCells (a : Addr) : ∀ (n i : Nat) (acc : Array Value), StabS P (loadCellsFrom a i n acc) := by
  intro n
  induction n with
  | zero => intro i acc; exact (pureS_pure _).stab
  | succ n ih => intro i acc; exact stabS_bind (stabS_load _ _) fun v => ih _ _
theorem pureS_isAgg (t : TypeId) : PureS P (isAgg t) := by
  unfold isAgg
  refine pureS_bind (pureS_underlying t) fun d => ?_
  split <;> exact pureS_pure _
theorem stabS_loadAt (t : TypeId) (x : Value) : StabS P (Instr.loadAt t x) := by
  unfold Instr.loadAt
  refine stabS_bind (pureS_sureAddr x).stab fun ad => ?_
  unfold loadVar
  refine stabS_bind (pureS_isAgg t).stab fun b => ?_
  cases b with
  | true => exact stabS_bind (pureS_sizeOf t).stab fun n => stabS_bind (stabS_loadCells _ _ _ _) fun _ => (pureS_pure _).stab
  | false => exact stabS_load _ _
theorem load_stab {o : Oper} (hs : loadOp o = true) {ρ : Operand → Value} {w w' : World} {n : Next} (e : (execOp ρ o).run P w = .ok n w') : w' = w ∧ ∀ w2, Ext0 w w2 → (execOp ρ o).run P w2 = .ok n w2 := by
  unfold loadOp at hs
  unfold execOp at e ⊢
  cases hop : o.op with
  | load t x => simp only [hop] at e ⊢; exact stabS_bind (stabS_loadAt _ _) (fun _ => (pureS_pure _).stab) _ _ _ e
  | _ => rw [hop] at hs; simp at hs

/-- What goes on with a value, and leaves the world. -/
theorem still_run {o : Oper} (hs : stillOp o = true) {ρ : Operand → Value} {w w' : World} {n : Next} (e : (execOp ρ o).run P w = .ok n w') : w' = w ∧ ∃ v, n = .value v := by
  have val : ∀ {s : Sem Value}, Keeps P s → (do pure (.value (← s)) : Sem Next).run P w = .ok n w' → w' = w ∧ ∃ v, n = .value v := fun {s} hk e => by
    rw [Sem.run_bind] at e
    cases hr : s.run P w with
    | ok x w1 =>
      rw [hr] at e
      simp only [Result.andThen_ok, Sem.run_pure, Result.ok.injEq] at e
      exact ⟨e.2.symm.trans (hk _ _ _ hr), x, e.1.symm⟩
    | halt x w1 => rw [hr] at e; simp [Result.andThen] at e
  unfold stillOp at hs
  unfold execOp at e
  cases hop : o.op with
  | move x => simp only [hop] at e; exact val (keeps_pure _) e
  | assign x => simp only [hop] at e; exact val (keeps_pure _) e
  | load t x => simp only [hop] at e; exact val (keeps_loadAt _ _) e
  | fieldAddr t x f => simp only [hop] at e; exact val (keeps_fieldAt _ _ _) e
  | indexAddr t x i => simp only [hop] at e; exact val (keeps_indexAt _ _ _) e
  | slice t x l h m => simp only [hop] at e; exact val (keeps_sliceAt _ _ _ _ _) e
  | extract x i => simp only [hop] at e; exact val (keeps_extract _ _) e
  | call c =>
    simp only [hop] at e hs
    split at hs
    · rename_i hc
      simp only [resolve, hc, Sem.run_bind, Sem.run_pure, Result.andThen_ok, invoke, builtin] at e
      exact val (keeps_len c.argTypes o.type (c.args.map ρ)) (by simp only [Sem.run_bind, Sem.run_pure]; exact e)
    · simp at hs
  | _ => rw [hop] at hs; simp at hs
end

section
variable {P : Program} {ops : Array Oper} {Q : Exit → Act → World → Prop}
/-- An operation's value, in this world. -/
def YieldsAt (P : Program) (ops : Array Oper) (o : Oper) (v : Value) (a : Act) (w : World) : Prop :=
  (Region.wanted o (yielded ops a.tmps) = true ∧ (execOp a.eval o).run P w = .ok (.value v) w) ∨
  (Region.wanted o (yielded ops a.tmps) = false ∧ v = undef)
theorem YieldsAt.wpOp {i : Nat} {o : Oper} {v : Value} {a : Act} {w : World} (hi : ops[i]? = some o) (hy : YieldsAt P ops o v a w)
    {K : Act → World → Prop} (h : K (a.put o.dst v) w) : wpOp P ops Q i K a w := by
  unfold Go.wpOp
  simp only [hi]
  rcases hy with ⟨hw, hv⟩ | ⟨hw, rfl⟩
  · simp only [hw, if_true, Oper.wp, hv, Oper.upon]; exact .inl h
  · simp only [hw, Bool.false_eq_true, if_false]; exact h
theorem YieldsAt.of_same {o : Oper} {v : Value} {a a' : Act} {w : World} (hy : YieldsAt P ops o v a w) (he : execOp a'.eval o = execOp a.eval o)
    (hw : Region.wanted o (yielded ops a'.tmps) = Region.wanted o (yielded ops a.tmps)) : YieldsAt P ops o v a' w := by
  unfold YieldsAt at *
  rw [he, hw]
  exact hy

theorem stillOp_sel {o : Oper} (h : stillOp o = true) : ∀ cs b, o.op ≠ .select cs b := by
  intro cs b e
  unfold stillOp at h
  rw [e] at h
  simp at h

/-- A value, in this world and in each that comes of it so. -/
def Ylds (P : Program) (ops : Array Oper) (R : World → World → Prop) (o : Oper) (v : Value) (a : Act) (w : World) : Prop := ∀ w', R w w' → YieldsAt P ops o v a w'
/-- An operation that does no more to the world. -/
def Only (P : Program) (R : World → World → Prop) (oj : Oper) : Prop := (∀ w w', R w w') ∨ ∀ (ρ : Operand → Value) w n w', (execOp ρ oj).run P w = .ok n w' → R w w' ∧ ∃ v, n = .value v
theorem wpOp_still {j : Nat} {R : World → World → Prop} (hrefl : ∀ w, R w w) (htr : ∀ {w w' w''}, R w w' → R w' w'' → R w w'') {oi oj : Oper} {v : Value} (hj : ops[j]? = some oj) (hap : oi.apart ops oj = true) (hsi : ∀ cs b, oi.op ≠ .select cs b) (hsj : Only P R oj) (hsel : ∀ cs b, oj.op ≠ .select cs b)
    (hQ : ∀ c a w, ¬ Q (.panic c) a w) (hL : ¬ LetsOut Q) {K : Act → World → Prop} {a : Act} {w : World} (hy : Ylds P ops R oi v a w) (h : wpOp P ops Q j K (a.put oi.dst v) w) :
    wpOp P ops Q j (fun a' w' => Ylds P ops R oi v a' w' ∧ K (a'.put oi.dst v) w') a w := by
  obtain ⟨h1, h2, h3⟩ := Oper.apart_spec hap
  have keep0 : ∀ (a : Act) w, YieldsAt P ops oi v a w → ∀ u, YieldsAt P ops oi v (a.put oj.dst u) w := fun a w hy u =>
    hy.of_same (execOp_put oi hsi a oj.dst u h3) (wanted_put oi a oj.dst u h3)
  have keep : ∀ (a : Act) w', R w w' → Ylds P ops R oi v a w → ∀ u, Ylds P ops R oi v (a.put oj.dst u) w' := fun a w' hr hy u w'' hr' => keep0 a w'' (hy w'' (htr hr hr')) u
  unfold wpOp at *
  simp only [hj] at *
  rw [wanted_put oj a oi.dst v h1] at h
  split
  · rename_i hw
    simp only [hw, if_true] at h
    rcases h with h | ⟨_, hlets⟩
    case inr => exact absurd hlets hL
    refine .inl ?_
    unfold Oper.wp at *
    rw [execOp_put oj hsel a oi.dst v h1] at h
    cases hr : (execOp a.eval oj).run P w with
    | ok n w' =>
      rcases hsj with hp | hsj
      · rw [hr] at h
        cases n with
        | value u => exact ⟨keep a w' (hp _ _) hy u, by rw [← Act.put_comm a v u h2]; exact h⟩
        | skip => exact ⟨keep a w' (hp _ _) hy undef, by rw [← Act.put_comm a v undef h2]; exact h⟩
        | defer d =>
          have hy' : Ylds P ops R oi v ({ a with defers := d :: a.defers } : Act) w := fun w' hr => (hy w' hr).of_same rfl rfl
          refine ⟨keep _ w' (hp _ _) hy' undef, ?_⟩
          rw [← Act.put_comm _ v undef h2, ← Act.put_defers]; exact h
        | enter f args =>
          refine Calls.mono h fun e w'' he => ?_
          cases e with
          | returned u => exact ⟨keep a w'' (hp _ _) hy u, by rw [← Act.put_comm a v u h2]; exact he⟩
          | panicked c => exact absurd he (hQ _ _ _)
          | outgrown => exact absurd he hL
        | row r args => exact Rows.mono h fun u w'' he => ⟨keep a w'' (hp _ _) hy u, by rw [← Act.put_comm a v u h2]; exact he⟩
        | _ => exact h.elim
      · obtain ⟨hR, u, rfl⟩ := hsj _ _ _ _ hr
        rw [hr] at h
        simp only [Oper.upon] at h ⊢
        exact ⟨keep a w' hR hy u, by rw [← Act.put_comm a v u h2]; exact h⟩
    | halt x w' =>
      rw [hr] at h
      cases x <;> simp only [Oper.upon] at h
      exact absurd h (hQ _ _ _)
  · rename_i hw
    simp only [hw] at h
    exact ⟨keep a w (hrefl w) hy _, by rw [← Act.put_comm a v undef h2]; exact h⟩

/-- One that hangs on no other that stands open, and that no other disturbs, may go ahead. -/
theorem wpAny_still {i : Nat} {R : World → World → Prop} (hrefl : ∀ w, R w w) (htr : ∀ {w w' w''}, R w w' → R w' w'' → R w w'') {oi : Oper} {v : Value} {dep : Nat → Bool} (hi : ops[i]? = some oi) (hsel : Region.noSelect ops = true) (hQ : ∀ c a w, ¬ Q (.panic c) a w) (hL : ¬ LetsOut Q)
    (hdep : ∀ j oj, ops[j]? = some oj → dep j = true → ∃ e ∈ oj.after, Region.binds .any e = true ∧ (e.on = i ∨ dep e.on = true)) :
    ∀ (fuel : Nat) (listed : Array Bool) (a : Act) (w : World),
      (∀ j oj, ops[j]? = some oj → j ≠ i → dep j = false → listed.getD j true = false → oi.apart ops oj = true ∧ Only P R oj) →
      (∀ j, dep j = true → listed.getD j false = false) →
      i ∈ Region.ready .any ops listed → Ylds P ops R oi v a w →
      wpAny P .any ops Q fuel (listed.setIfInBounds i true) (a.put oi.dst v) w → wpAny P .any ops Q (fuel + 1) listed a w := by
  intro fuel
  induction fuel with
  | zero =>
    intro listed a w _ _ hr hy H
    refine ⟨fun h => (by rw [h] at hr; cases hr), fun j hj => ?_⟩
    by_cases hji : j = i
    · subst hji; exact (hy _ (hrefl _)).wpOp hi H
    · have := ready_mono hj hji
      rw [H.1] at this
      cases this
  | succ fuel ih =>
    intro listed a w hfree hun hr hy H
    refine ⟨fun h => (by rw [h] at hr; cases hr), fun j hj => ?_⟩
    by_cases hji : j = i
    · subst hji; exact (hy _ (hrefl _)).wpOp hi H
    · have h1 := H.2 j (ready_mono hj hji)
      obtain ⟨hjun, oj, hoj, hall⟩ := mem_ready.1 hj
      have hil : listed.getD i false = false := by
        have h0 := (mem_ready.1 hr).1
        rcases Nat.lt_or_ge i listed.size with h' | h'
        · simp [h'] at h0 ⊢; exact h0
        · simp [Array.getElem?_eq_none h']
      have hnd : dep j = false := by
        cases hd : dep j with
        | false => rfl
        | true =>
          obtain ⟨e, he, hb, hon⟩ := hdep j oj hoj hd
          have h2 := hall e he hb
          rcases hon with hon | hon
          · rw [hon, hil] at h2; cases h2
          · rw [hun _ hon] at h2; cases h2
      obtain ⟨hap, hsj⟩ := hfree j oj hoj hji hnd hjun
      have h2 := wpOp_still hrefl htr hoj hap (fun cs b => Region.noSelect_spec hsel i oi cs b hi) hsj (fun cs b => Region.noSelect_spec hsel j oj cs b hoj) hQ hL hy h1
      refine wpOp_mono (fun a' w' h3 => ?_) h2
      obtain ⟨hy', h3⟩ := h3
      refine ih (listed.setIfInBounds j true) a' w' (fun k ok hk hki hdk hunk => ?_) (fun k hdk => ?_) (ready_mono hr (Ne.symm hji)) hy' ?_
      · refine hfree k ok hk hki hdk ?_
        by_cases hjk : j = k
        · subst hjk; exact hjun
        · rw [getD_set_ne true hjk] at hunk; exact hunk
      · have hne : j ≠ k := fun e => by subst e; rw [hnd] at hdk; cases hdk
        rw [getD_set_ne false hne]; exact hun k hdk
      · rw [Array.setIfInBounds_comm _ _ hji]
        exact h3
end

section
variable {c : Cx} {gh : Gh} {nt : Nat} {st : St} {a : Act} {w : World} {P : Program} {R : Type} {r : R}
theorem Inv.seeT' {d : Nat} {x : AV} (h : Inv c gh nt st a w) (hx : TR c.sh gh st.ar st.bx w x (a.tmps.getD d undef)) : Inv c gh nt (st.setT d x) a w := by
  refine ⟨h.defers, h.size, fun t => ?_, h.mem, h.fix⟩
  by_cases e : t = d
  · subst e
    show TR c.sh gh st.ar st.bx w (upd st.t t x t) _
    rw [upd_self]; exact hx
  · show TR c.sh gh st.ar st.bx w (upd st.t d x t) _
    rw [upd_ne _ _ e]; exact h.temps t

theorem put_skip {o : Option Nat} (h : Inv c gh nt st a w) (hd : ∀ k, o = some k → k < nt) : Inv c gh nt (st.put o skipV) (a.put o undef) w := h.put hd ⟨#[], rfl, rfl, fun j hj => absurd hj (Nat.not_lt_zero _)⟩
theorem tup0_not {ops : Array Oper} {j d : Nat} {g : Nat → AV} (h : Inv c gh nt st a w) (hdj : (ops[j]?).bind (·.dst) = some d) (hx : st.t d = .tup 0 g) : yielded ops a.tmps j = none := by
  have ht := h.temps d
  rw [hx] at ht
  obtain ⟨vs, e, _⟩ := ht
  rw [Array.getD_eq_getD_getElem?] at e
  unfold yielded
  rw [hdj]
  simp only [Option.bind_some]
  cases hq : a.tmps[d]? with
  | none => rfl
  | some v => rw [hq] at e; simp only [Option.getD_some] at e; subst e; rfl

/-- One operation of a region. -/
theorem evOps1_sound {C : Cfg} {Γ : Orc} {ops : Array Oper} {Q : Exit → Act → World → Prop} {Kc : Act → World → Prop} (hΓ : OrcOk P C Γ) (hops : ∀ (i : Nat) (o : Oper), ops[i]? = some o → ∀ k, o.dst = some k → k < nt) {i : Nat} {K : St → Option R} 
    (h : Inv c gh nt st a w) (e : evOps P C Γ ops [i] st K = some r) (hK : ∀ st' gh' a' w', Inv c gh' nt st' a' w' → K st' = some r → Kc a' w') : wpOp P ops Q i Kc a w := by
  unfold wpOp
  unfold evOps at e
  split at e
  · rename_i hi
    rw [hi]
    exact hK _ _ _ _ h e
  · rename_i o hi
    rw [hi]
    simp only [evOps] at e ⊢
    have hd := hops i o hi
    split at e
    · rename_i hg
      have hw : Region.wanted o (yielded ops a.tmps) = true := by simp [Region.wanted, hg]
      rw [if_pos hw]
      exact .inl (evOp_sound hΓ h hd e fun st' gh' a' w' h' e' => hK _ _ _ _ h' e')
    · rename_i j want hg
      split at e
      · rename_i d hdj
        split at e
        · rename_i x hx
          have ht := h.temps d
          rw [hx] at ht
          have ht := TR_B ht
          have hget : a.tmps[d]? = some (.bool x) := by
            rw [Array.getD_eq_getD_getElem?] at ht
            cases hq : a.tmps[d]? with
            | none => rw [hq] at ht; simp [undef] at ht
            | some v => rw [hq] at ht; simp at ht; rw [ht]
          have hy : yielded ops a.tmps j = some x := by simp [yielded, hdj, hget]
          have hI : Inv c gh nt (st.setT d (.B x)) a w := h.seeT' (by rw [ht]; rfl)
          have hbad : Inv c gh nt ((st.setT d (.B x)).put o.dst skipV) (a.put o.dst undef) w := put_skip hI hd
          cases x with
          | true =>
            simp only [cond_true] at e
            cases want with
            | true =>
              simp only [cond_true] at e
              have hw : Region.wanted o (yielded ops a.tmps) = true := by simp [Region.wanted, hg, hy]
              rw [if_pos hw]
              exact .inl (evOp_sound hΓ hI hd e fun st' gh' a' w' h' e' => hK _ _ _ _ h' e')
            | false =>
              simp only [cond_false] at e
              have hw : ¬ Region.wanted o (yielded ops a.tmps) = true := by simp [Region.wanted, hg, hy]
              rw [if_neg hw]
              exact hK _ _ _ _ hbad e
          | false =>
            simp only [cond_false] at e
            cases want with
            | true =>
              simp only [cond_true] at e
              have hw : ¬ Region.wanted o (yielded ops a.tmps) = true := by simp [Region.wanted, hg, hy]
              rw [if_neg hw]
              exact hK _ _ _ _ hbad e
            | false =>
              simp only [cond_false] at e
              have hw : Region.wanted o (yielded ops a.tmps) = true := by simp [Region.wanted, hg, hy]
              rw [if_pos hw]
              exact .inl (evOp_sound hΓ hI hd e fun st' gh' a' w' h' e' => hK _ _ _ _ h' e')
        · rename_i g hx
          have hy := tup0_not h hdj hx
          have hw : ¬ Region.wanted o (yielded ops a.tmps) = true := by simp [Region.wanted, hg, hy]
          rw [if_neg hw]
          exact hK _ _ _ _ (put_skip h hd) e
        · simp at e
      · simp at e

theorem freeOp_spec {ops : Array Oper} {listed : Array Bool} {i : Nat} (h : freeOp P st ops listed i = true) : ∃ (oi : Oper) (dep : Nat → Bool), ops[i]? = some oi ∧ (pureAt P st oi = true ∨ stillOp oi = true) ∧
    (∀ j oj, ops[j]? = some oj → dep j = true → ∃ e ∈ oj.after, Region.binds .any e = true ∧ (e.on = i ∨ dep e.on = true)) ∧
    (∀ j oj, ops[j]? = some oj → j ≠ i → dep j = false → listed.getD j true = false → oi.apart ops oj = true ∧ ((pureAt P st oi = true ∨ stillOp oj = true) ∨ loadOp oi = true ∧ growOp oj = true)) ∧
    (∀ j, dep j = true → j < ops.size → listed.getD j true = false) := by
  unfold freeOp at h
  dsimp only at h
  generalize depM ops i (List.range ops.size) (depM ops i (List.range ops.size) 0) = m at h
  split at h
  · rename_i oi hi
    rw [Bool.and_eq_true, List.all_eq_true, Bool.or_eq_true] at h
    obtain ⟨hs, hall⟩ := h
    refine ⟨oi, fun j => m.testBit j, hi, hs, fun j oj hj hd => ?_, fun j oj hj hne hd hl => ?_, fun j hd hlt => ?_⟩
    · have h1 := hall j (List.mem_range.2 (Array.getElem?_eq_some_iff.1 hj).1)
      rw [hj] at h1
      simp only [hd, cond_true, Bool.and_eq_true] at h1
      obtain ⟨e, he, hb⟩ := Array.any_eq_true'.1 h1.2
      simp only [Bool.and_eq_true, Bool.or_eq_true] at hb
      exact ⟨e, he, hb.1, hb.2.imp (fun h => beq_eq.1 h) id⟩
    · have h1 := hall j (List.mem_range.2 (Array.getElem?_eq_some_iff.1 hj).1)
      rw [hj] at h1
      simp only [hd, cond_false, Bool.or_eq_true, hl, Bool.false_eq_true, or_false, Bool.and_eq_true] at h1
      rcases h1 with h1 | h1
      · exact absurd (beq_eq.1 h1) hne
      · exact h1
    · have h1 := hall j (List.mem_range.2 hlt)
      have hj : ops[j]? = some ops[j] := by simp [hlt]
      rw [hj] at h1
      simp only [hd, cond_true, Bool.and_eq_true, Bool.not_eq_true'] at h1
      exact h1.1
  · simp at h

theorem allOf_mem {F : Nat → Option R} : ∀ (l : List Nat), allOf F l = some r → ∀ i ∈ l, F i = some r := by
  intro l
  induction l with
  | nil => intro e; simp [allOf] at e
  | cons i l ih =>
    intro e
    cases l with
    | nil => intro k hk; simp at hk; subst hk; exact e
    | cons j l =>
      simp only [allOf, and2] at e
      by_cases hx : F i = allOf F (j :: l)
      · simp only [hx, decide_true, cond_true] at e
        intro k hk
        rcases List.mem_cons.1 hk with rfl | hk
        · exact hx.trans e
        · exact ih e k hk
      · simp [hx] at e

theorem evDraw_sound {C : Cfg} {Γ : Orc} {ops : Array Oper} (hΓ : OrcOk P C Γ) (hops : ∀ (i : Nat) (o : Oper), ops[i]? = some o → ∀ k, o.dst = some k → k < nt) (hsel : Region.noSelect ops = true) {K : St → Option R} : ∀ (n : Nat) (listed : Array Bool) {gh : Gh} {st : St} {a : Act} {w : World}, listed.size = ops.size →
    Inv c gh nt st a w → evDraw P C Γ ops K n listed st = some r → wpAny P .any ops (fun ex a w => match ex with | .normal => ∃ st' gh', Inv c gh' nt st' a w ∧ K st' = some r | _ => False) n listed a w := by
  intro n
  induction n with
  | zero =>
    intro listed gh st a w hls h e
    simp only [evDraw] at e
    split at e
    · rename_i hr; exact ⟨hr, st, gh, h, e⟩
    · simp at e
  | succ n ih =>
    intro listed gh st a w hls h e
    simp only [evDraw] at e
    split at e
    · rename_i hr; exact wpAny_done hr ⟨st, gh, h, e⟩ _
    · rename_i rs hne
      split at e
      · rename_i i hf
        have hfree := List.find?_some hf
        have hmem : i ∈ Region.ready .any ops listed := List.mem_of_find?_eq_some hf
        obtain ⟨oi, dep, hi, hs, hdep, hfr, hun⟩ := freeOp_spec hfree
        have h1 := evOps1_sound (Q := fun ex a w => match ex with | .normal => ∃ st' gh', Inv c gh' nt st' a w ∧ K st' = some r | _ => False) (Kc := fun a' w' => wpAny P .any ops (fun ex a w => match ex with | .normal => ∃ st' gh', Inv c gh' nt st' a w ∧ K st' = some r | _ => False) n (listed.setIfInBounds i true) a' w') hΓ hops h e (fun st' gh' a' w' h' e' => ih _ (by simpa using hls) h' e')
        have hQ : ∀ c' a w, ¬ (fun ex a w => match ex with | .normal => ∃ st' gh', Inv c gh' nt st' a w ∧ K st' = some r | _ => False : Exit → Act → World → Prop) (.panic c') a w := fun _ _ _ h => h
        have hL : ¬ LetsOut (fun ex a w => match ex with | .normal => ∃ st' gh', Inv c gh' nt st' a w ∧ K st' = some r | _ => False : Exit → Act → World → Prop) := fun ⟨_, _, h⟩ => h
        unfold wpOp at h1
        rw [hi] at h1
        simp only at h1
        have hd' : ∀ j, dep j = true → listed.getD j false = false := fun j hj => by
          rcases Nat.lt_or_ge j listed.size with h' | h'
          · rcases Nat.lt_or_ge j ops.size with h'' | h''
            · have := hun j hj h''
              simp [h'] at this ⊢; exact this
            · omega
          · simp [Array.getElem?_eq_none h']
        split at h1
        · rename_i hw
          rcases h1 with h1 | h1
          · unfold Oper.wp at h1
            cases hr : (execOp a.eval oi).run P w with
            | ok nx w' =>
              by_cases hp : pureAt P st oi = true
              · obtain ⟨rfl, u, rfl, h3⟩ := pure_run h hp hr
                rw [hr] at h1
                exact wpAny_still (R := fun _ _ => True) (fun _ => trivial) (fun _ _ => trivial) hi hsel hQ hL hdep n listed a _ (fun j oj h1 h2 h3 h4 => ⟨(hfr j oj h1 h2 h3 h4).1, .inl fun _ _ => trivial⟩) hd' hmem (fun w2 _ => .inl ⟨hw, h3 w2⟩) h1
              · by_cases hl : loadOp oi = true
                · obtain ⟨rfl, h3⟩ := load_stab hl hr
                  obtain ⟨_, u, rfl⟩ := still_run (hs.resolve_left hp) hr
                  rw [hr] at h1
                  exact wpAny_still (R := Ext0) Ext0.refl Ext0.trans hi hsel hQ hL hdep n listed a _ (fun j oj h1 h2 h3 h4 => by
                    obtain ⟨hap, hj⟩ := hfr j oj h1 h2 h3 h4
                    refine ⟨hap, .inr fun ρ w n w' e => ?_⟩
                    rcases hj with (hj | hj) | ⟨_, hj⟩
                    · exact absurd hj hp
                    · obtain ⟨rfl, hv⟩ := still_run hj e; exact ⟨.refl _, hv⟩
                    · exact grow_run hj e) hd' hmem (fun w2 hx => .inl ⟨hw, h3 w2 hx⟩) h1
                · obtain ⟨rfl, u, rfl⟩ := still_run (hs.resolve_left hp) hr
                  rw [hr] at h1
                  exact wpAny_still (R := fun w w' => w' = w) (fun _ => rfl) (fun h h' => h'.trans h) hi hsel hQ hL hdep n listed a _ (fun j oj h1 h2 h3 h4 => by
                    obtain ⟨hap, hj⟩ := hfr j oj h1 h2 h3 h4
                    refine ⟨hap, .inr fun ρ w n w' e => ?_⟩
                    rcases hj with (hj | hj) | ⟨hj, _⟩
                    · exact absurd hj hp
                    · exact still_run hj e
                    · exact absurd hj hl) hd' hmem (fun w2 hx => by subst hx; exact .inl ⟨hw, hr⟩) h1
            | halt x w' =>
              rw [hr] at h1
              cases x <;> exact h1.elim
          · exact absurd h1.2 hL
        · rename_i hw
          have hy : ∀ w2, YieldsAt P ops oi undef a w2 := fun w2 => .inr ⟨by simpa using hw, rfl⟩
          exact wpAny_still (R := fun _ _ => True) (fun _ => trivial) (fun _ _ => trivial) hi hsel hQ hL hdep n listed a _ (fun j oj h1 h2 h3 h4 => ⟨(hfr j oj h1 h2 h3 h4).1, .inl fun _ _ => trivial⟩) hd' hmem (fun w2 _ => hy w2) h1
      · refine ⟨fun h0 => absurd h0 (by intro h; exact hne h), fun i hi => ?_⟩
        exact evOps1_sound hΓ hops h (allOf_mem _ e i hi) fun st' gh' a' w' h' e' => ih _ (by simpa using hls) h' e'

end
end Go.Fw
