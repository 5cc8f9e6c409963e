/- Definitions of a by-value interpreter of the model's code: values, states, operations; no proof of a statement. -/
import Derived.Orders
import Derived.Laws.Cells
import Derived.Laws.IdiomCopy
set_option linter.unusedVariables false
namespace Go.Fw
inductive AV where
 | bad
 | nlp
 | I (k : IntKind) (n : Int)
 | B (x : Bool)
 | S (x : ByteArray)
 | nsl (sz : Nat) (g : Nat → Nat → AV)
 | sl (n sz : Nat) (g : Nat → Nat → AV)
 | sln (n sz : Nat) (g : Nat → Nat → AV)
 | own (n sz : Nat) (g : Nat → Nat → AV)
 | rf (id : Nat)
 | rs (id a m : Nat)
 | rn (id : Nat) (p : List (Nat × Nat))
 | pb (b o : Nat)
 | pe (id : Nat) (p : List (Nat × Nat)) (i j : Nat)
 | sp (sz : Nat) (g : Nat → AV)
 | ag (sz : Nat) (g : Nat → AV)
 | nbx (sz : Nat) (g : Nat → AV)
 | tup (n : Nat) (g : Nat → AV)
 | clo (f : Nat) (n : Nat) (g : Nat → AV)
 | gv (bs : List Int)
def upd {α : Type} (f : Nat → α) (i : Nat) (v : α) : Nat → α := fun j => bif Nat.beq j i then v else f j
def mrg (c : Bool) : AV → AV → AV
 | .own n sz g, .own m sz' h => bif Nat.beq sz sz' then .own (bif c then n else m) sz (fun i j => mrg c (g i j) (h i j)) else bif c then .own n sz g else .own m sz' h
 | .sl n sz g, .sl m sz' h => bif Nat.beq sz sz' then .sl (bif c then n else m) sz (fun i j => mrg c (g i j) (h i j)) else bif c then .sl n sz g else .sl m sz' h
 | .I k n, .I k' m => bif k == k' then .I k (bif c then n else m) else bif c then .I k n else .I k' m
 | .B x, .B y => .B (bif c then x else y)
 | .S x, .S y => .S (bif c then x else y)
 | x, y => bif c then x else y
def upd2 (g : Nat → Nat → AV) (i j : Nat) (v : AV) : Nat → Nat → AV := fun i' j' => bif Nat.beq j' j then mrg (decide (i' = i)) v (g i' j') else g i' j'
def lstG (l : List AV) : Nat → AV := fun j => l.getD j .bad
def tabG (n : Nat) (g : Nat → AV) : Nat → AV := lstG ((List.range n).map g)
theorem tabG_lt {n : Nat} {g : Nat → AV} {j : Nat} (h : j < n) : tabG n g j = g j := by simp [tabG, lstG, h]
theorem tabG_ge {n : Nat} {g : Nat → AV} {j : Nat} (h : ¬ j < n) : tabG n g j = .bad := by simp [tabG, lstG, h]
theorem tabG_congr {n : Nat} {g g' : Nat → AV} (h : ∀ j, j < n → g j = g' j) : tabG n g = tabG n g' := by
 funext j
 by_cases hj : j < n
 · rw [tabG_lt hj, tabG_lt hj, h j hj]
 · rw [tabG_ge hj, tabG_ge hj]
def AV.sh : AV → AV
 | .own n sz g => .sl n sz (fun i => tabG sz (fun j => (g i j).sh))
 | x => x
def AV.ow : AV → AV
 | .I k n => .I k n
 | .B x => .B x
 | .S x => .S x
 | .nlp => .nlp
 | .gv bs => .gv bs
 | .own n sz g => .own n sz (fun i => tabG sz (fun j => (g i j).ow))
 | .ag sz g => .ag sz (tabG sz (fun j => (g j).ow))
 | .nbx sz g => .nbx sz (tabG sz (fun j => (g j).ow))
 | .tup n g => .tup n (tabG n (fun j => (g j).ow))
 | _ => .bad
def AV.cn : AV → AV
 | .own n sz g => .own n sz (fun i => tabG sz (fun j => (g i j).cn))
 | x => x
def AV.killA (id : Nat) : AV → AV
 | .rf k => bif Nat.beq k id then .bad else .rf k
 | .rs k a m => bif Nat.beq k id then .bad else .rs k a m
 | .rn k p => bif Nat.beq k id then .bad else .rn k p
 | .pe k p i j => bif Nat.beq k id then .bad else .pe k p i j
 | .ag sz g => .ag sz (fun j => (g j).killA id)
 | .tup n g => .tup n (fun j => (g j).killA id)
 | .clo f n g => .clo f n (fun j => (g j).killA id)
 | x => x
def AV.killB (b : Nat) : AV → AV
 | .pb k o => bif Nat.beq k b then .bad else .pb k o
 | .ag sz g => .ag sz (fun j => (g j).killB b)
 | .tup n g => .tup n (fun j => (g j).killB b)
 | .clo f n g => .clo f n (fun j => (g j).killB b)
 | x => x
def AV.killN (id : Nat) : AV → AV
 | .rn k p => bif Nat.beq k id then .bad else .rn k p
 | .pe k p i j => bif Nat.beq k id && !p.isEmpty then .bad else .pe k p i j
 | .ag sz g => .ag sz (fun j => (g j).killN id)
 | .tup n g => .tup n (fun j => (g j).killN id)
 | .clo f n g => .clo f n (fun j => (g j).killN id)
 | x => x
structure Arr where
 n : Nat
 sz : Nat
 g : Nat → Nat → AV
structure St where
 t : Nat → AV
 ar : Nat → Option Arr
 bx : Nat → Option (Nat × (Nat → AV))
def St.map (f : AV → AV) (st : St) : St :=
 { t := fun j => f (st.t j), ar := st.ar, bx := fun b => (st.bx b).map fun B => (B.1, fun o => f (B.2 o)) }
def St.setT (st : St) (d : Nat) (x : AV) : St := { st with t := upd st.t d x }
def St.put (st : St) (dst : Option Nat) (x : AV) : St := match dst with | some d => st.setT d x | none => st
def St.setA (st : St) (id : Nat) (A : Option Arr) : St := { st with ar := upd st.ar id A }
def St.setB (st : St) (b : Nat) (B : Option (Nat × (Nat → AV))) : St := { st with bx := upd st.bx b B }
def St.newA (st : St) (id : Nat) (A : Arr) : St := (st.map (AV.killA id)).setA id (some A)
def St.newB (st : St) (b : Nat) (sz : Nat) (c : Nat → AV) : St := (st.map (AV.killB b)).setB b (some (sz, fun o => (c o).killB b))
def isAggT (P : Program) (t : TypeId) : Bool := match P.underlying t with | some (.struct _) | some (.array _ _) => true | _ => false
def zc (P : Program) : Nat → TypeId → Nat → AV
 | 0, _, _ => .bad
 | d + 1, t, j =>
  match P.underlying t with
  | some .bool => .B false
  | some (.int k) => .I k 0
  | some .string => .S ByteArray.empty
  | some (.pointer _) => .nlp
  | some (.slice e) => .own 0 (P.cellsOf e) (fun _ => tabG (P.cellsOf e) (fun j' => zc P d e j'))
  | some (.struct fs) =>
   match fs.toList.find? (fun f => Nat.ble f.offset j && Nat.blt j (f.offset + P.cellsOf f.type)) with
   | some f => zc P d f.type (j - f.offset)
   | none => .bad
  | _ => .bad
def zg (P : Program) (e : TypeId) : Nat → Nat → AV := fun _ j => zc P 12 e j
def cCell (z : AV) : Value → AV
 | .int k n => .I k n
 | .bool x => .B x
 | .string x => .S x
 | .pointer none => .nlp
 | .slice none 0 0 => match z with | .own _ sz g => .nsl sz (fun _ => tabG sz (g 0)) | _ => .bad
 | _ => .bad
def cVal (P : Program) (t : TypeId) : Value → AV
 | .agg cs => bif cs.all (fun v => v.oneCell') then .ag cs.size (fun j => cCell (zc P 12 t j) (cs.getD j undef)) else .bad
 | .slice none 0 0 => match P.underlying t with | some (.slice e) => .nsl (P.cellsOf e) (zg P e) | _ => .bad
 | v => cCell .bad v
def St.get (P : Program) (st : St) (t : TypeId) : Operand → AV
 | .tmp d => st.t d
 | .const v => cVal P t v
 | .func f => .clo f 0 (fun _ => .bad)
 | .global _ => .bad
def atP (g : Nat → Nat → AV) : List (Nat × Nat) → AV
 | [] => .bad
 | [(i, j)] => g i j
 | (i, j) :: p => match g i j with | .own _ _ h => atP h p | _ => .bad
def setP (g : Nat → Nat → AV) : List (Nat × Nat) → AV → (Nat → Nat → AV)
 | [], _ => g
 | [(i, j)], v => upd2 g i j v
 | (i, j) :: p, v => upd2 g i j (match g i j with | .own n sz h => .own n sz (setP h p v) | x => x)
def cut (A : Arr) (a m : Nat) : Nat → Nat → AV := fun i j => mrg (decide (i < m)) (A.g (a + i) j) (A.g A.n j)
def St.rowsOf (st : St) : AV → Option Arr
 | .nsl sz g => some ⟨0, sz, g⟩
 | .sl n sz g | .sln n sz g => some ⟨n, sz, g⟩
 | .gv bs => some ⟨bs.length, 1, fun i => lstG [.I .u8 (bs.getD i 0)]⟩
 | .rf id => st.ar id
 | .rs id a m => (st.ar id).map fun A => ⟨m, A.sz, cut A a m⟩
 | .rn id p => match (st.ar id).map (fun A => atP A.g p) with | some (.own n sz g) => some ⟨n, sz, g⟩ | _ => none
 | _ => none
def St.borC0 (st : St) : AV → AV
 | .rf id => match st.ar id with | some A => .sl A.n A.sz (fun i => tabG A.sz (fun j => (A.g i j).sh)) | none => .bad
 | .rs id a m => match st.ar id with | some A => .sl m A.sz (fun i => tabG A.sz (fun j => (cut A a m i j).sh)) | none => .bad
 | .rn id p => match (st.ar id).map (fun A => atP A.g p) with | some (.own n sz g) => .sl n sz (fun i => tabG sz (fun j => (g i j).sh)) | _ => .bad
 | .nsl sz g => .sl 0 sz (fun i => tabG sz (fun j => (g i j).sh))
 | .sln n sz g => .sl n sz g
 | .sl n sz g => .sl n sz g
 | .I k n => .I k n
 | .B x => .B x
 | .S x => .S x
 | .nlp => .nlp
 | .gv bs => .gv bs
 | .sp sz g => .sp sz g
 | .clo f n g => .clo f n (tabG n (fun j => st.borC0 (g j)))
 | _ => .bad
def St.borC (st : St) : AV → AV
 | .pb b o => match st.bx b with
  | some (sz, c) => .sp (sz - o) (tabG (sz - o) fun j => st.borC0 (c (o + j)))
  | none => .bad
 | x => st.borC0 x
def ldc (id : Nat) (p : List (Nat × Nat)) : AV → AV
 | .own _ _ _ => .rn id p
 | .I k n => .I k n
 | .B x => .B x
 | .S x => .S x
 | .sl n sz g => .sl n sz g
 | .nlp => .nlp
 | _ => .bad
def St.takeC (st : St) : AV → Option (AV × St)
 | .rf id => (st.ar id).map fun A => (.own A.n A.sz A.g, st.setA id none)
 | .rs id a m => (st.ar id).map fun A => (.own m A.sz (cut A a m), st.setA id none)
 | .rn id p => match st.ar id with
  | some A => match atP A.g p with
   | .own n sz g => some (.own n sz g, st.setA id (some ⟨A.n, A.sz, setP A.g p .bad⟩))
   | _ => none
  | none => none
 | .nsl sz g => bif Nat.blt 0 sz then some (.own 0 sz g, st) else none
 | .sln n sz g => some (.sl n sz g, st)
 | .sl n sz g => some (.sl n sz g, st)
 | .I k n => some (.I k n, st)
 | .B x => some (.B x, st)
 | .S x => some (.S x, st)
 | .nlp => some (.nlp, st)
 | .gv bs => some (.gv bs, st)
 | _ => none
def St.takeL (st : St) (g : Nat → AV) : List Nat → Option (List AV × St)
 | [] => some ([], st)
 | j :: js => match st.takeC (g j) with
  | some (x, st') => match St.takeL st' g js with
   | some (xs, st'') => some (x :: xs, st'')
   | none => none
  | none => none
def St.takeA (st : St) : AV → Option (AV × St)
 | .ag sz g => (st.takeL g (List.range sz)).map fun r => (.ag sz (lstG r.1), r.2)
 | .pb b 0 => match st.bx b with
  | some (sz, c) => (st.takeL c (List.range sz)).map fun r => (.nbx sz (lstG r.1), r.2.setB b none)
  | none => none
 | x => st.takeC x
def St.takeT (st : St) (g : Nat → AV) : List Nat → Option (List AV × St)
 | [] => some ([], st)
 | j :: js => match st.takeA (g j) with
  | some (x, st') => match St.takeT st' g js with
   | some (xs, st'') => some (x :: xs, st'')
   | none => none
  | none => none
def St.takeR (st : St) : AV → Option (AV × St)
 | .tup n g => (st.takeT g (List.range n)).map fun r => (.tup n (lstG r.1), r.2)
 | x => st.takeA x
def AV.refd (base : Nat) : AV → AV
 | .own _ _ _ => .rf base
 | x => x
def St.layC (st : St) (base : Nat) : AV → St
 | .own n sz g => st.newA base ⟨n, sz, g⟩
 | _ => st
def St.layL (st : St) (base : Nat) (g : Nat → AV) : List Nat → St
 | [] => st
 | j :: js => St.layL (st.layC (base + j) (g j)) base g js
def AV.refA (base : Nat) : AV → AV
 | .ag sz g => .ag sz (fun j => (g j).refd (base + j))
 | .nbx sz g => .pb (base / 4096) 0
 | x => x.refd base
def St.layA (st : St) (base : Nat) : AV → St
 | .ag sz g => st.layL base g (List.range sz)
 | .nbx sz g => (st.layL base g (List.range sz)).newB (base / 4096) sz (fun j => (g j).refd (base + j))
 | x => st.layC base x
def St.layT (st : St) (base : Nat) (g : Nat → AV) : List Nat → St
 | [] => st
 | j :: js => St.layT (st.layA (base + 64 * j) (g j)) base g js
def AV.refR (base : Nat) : AV → AV
 | .tup n g => .tup n (fun j => (g j).refA (base + 64 * j))
 | x => x.refA base
def St.layR (st : St) (base : Nat) : AV → St
 | .tup n g => st.layT base g (List.range n)
 | x => st.layA base x
def aid (d c : Nat) : Nat := (d + 64) * 4096 + c
def bid (d : Nat) : Nat := d + 64
def asV : AV → List Int | .gv bs => bs | _ => []
def gvG (bs : List Int) : Nat → Nat → AV := fun i => lstG [.I .u8 (bs.getD i 0)]
def asI : AV → Int | .I _ n => n | _ => 0
def asB : AV → Bool | .B x => x | _ => false
def asS : AV → ByteArray | .S x => x | _ => ByteArray.empty
def asN : AV → Nat | .own n _ _ => n | .sl n _ _ => n | _ => 0
def asG : AV → Nat → Nat → AV | .own _ _ g => g | .sl _ _ g => g | _ => fun _ _ => .bad
def asA : AV → Nat → AV | .ag _ g => g | .nbx _ g => g | .tup _ g => g | _ => fun _ => .bad
def AV.like : AV → AV → AV
 | .I k _, y => .I k (asI y)
 | .B _, y => .B (asB y)
 | .S _, y => .S (asS y)
 | .own _ sz g, y => .own (asN y) sz (fun i => tabG sz (fun j => (g 0 j).like (asG y i j)))
 | .nlp, _ => .nlp
 | .gv _, y => .gv (asV y)
 | _, _ => .bad
def cellT (P : Program) : Nat → TypeId → Nat → TypeId
 | 0, t, _ => t
 | d + 1, t, j =>
  match P.underlying t with
  | some (.struct fs) =>
   match fs.toList.find? (fun f => Nat.ble f.offset j && Nat.blt j (f.offset + P.cellsOf f.type)) with
   | some f => cellT P d f.type (j - f.offset)
   | none => t
  | _ => t
def vwC (P : Program) : Nat → TypeId → AV → AV
 | 0, t, x => match P.underlying t with
  | some (.int k) => .I k (asI x)
  | some .bool => .B (asB x)
  | some .string => .S (asS x)
  | _ => .bad
 | d + 1, t, x => match P.underlying t with
  | some (.int k) => .I k (asI x)
  | some .bool => .B (asB x)
  | some .string => .S (asS x)
  | some (.slice e) => .own (asN x) (P.cellsOf e) (fun i => tabG (P.cellsOf e) (fun j => vwC P d (cellT P 12 e j) (asG x i j)))
  | _ => .bad
def bytT (P : Program) (t : TypeId) : Bool := match P.underlying t with | some (.slice e) => (match P.underlying e with | some (.int .u8) => true | _ => false) | _ => false
def vwP (P : Program) (t : TypeId) (x : AV) : AV := bif bytT P t then .gv (asV x) else vwC P 4 t x
def vwA (P : Program) (t : TypeId) (x : AV) : AV :=
 match P.underlying t with
 | some (.struct _) => .ag (P.cellsOf t) (tabG (P.cellsOf t) (fun j => vwC P 4 (cellT P 12 t j) (asA x j)))
 | some (.pointer e) => .nbx (P.cellsOf e) (tabG (P.cellsOf e) (fun j => vwP P (cellT P 12 e j) (asA x j)))
 | _ => vwC P 4 t x
def vwR (P : Program) (ts : List TypeId) (x : AV) : AV :=
 match ts with
 | [t] => vwA P t x
 | _ => .tup ts.length (tabG ts.length (fun j => vwA P (ts.getD j 0) (asA x j)))
def okS (P : Program) (t : TypeId) (x : AV) : Bool :=
 match P.underlying t, x with
 | some (.int k), .I k' _ => k == k'
 | some .bool, .B _ => true
 | some .string, .S _ => true
 | _, _ => false
open Classical in
noncomputable def okC (P : Program) : Nat → TypeId → AV → Bool
 | 0, t, x => okS P t x
 | d + 1, t, x => match P.underlying t with
  | some (.slice e) => match x with
   | .own n sz g => Nat.beq sz (P.cellsOf e) && decide (∀ i : Nat, ((List.range sz).all fun j => okC P d (cellT P 12 e j) (g i j)) = true)
   | _ => false
  | _ => okS P t x
def isGv : AV → Bool | .gv _ => true | _ => false
noncomputable def okP (P : Program) (t : TypeId) (x : AV) : Bool := bif bytT P t then isGv x else okC P 4 t x
noncomputable def okA (P : Program) (t : TypeId) (x : AV) : Bool :=
 match P.underlying t with
 | some (.struct _) => match x with
  | .ag sz g => Nat.beq sz (P.cellsOf t) && (List.range sz).all fun j => okC P 4 (cellT P 12 t j) (g j)
  | _ => false
 | some (.pointer e) => match x with
  | .nbx sz g => Nat.beq sz (P.cellsOf e) && (List.range sz).all fun j => okP P (cellT P 12 e j) (g j)
  | _ => false
 | _ => okC P 4 t x
noncomputable def okR (P : Program) (ts : List TypeId) (x : AV) : Bool :=
 match ts with
 | [t] => okA P t x
 | ts => match x with
  | .tup n g => Nat.beq n ts.length && (List.range n).all fun j => okA P (ts.getD j 0) (g j)
  | _ => false
end Go.Fw
