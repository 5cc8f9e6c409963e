/- The by-value interpreter: operations, code, functions; no proof of a statement. -/
import Derived.Test.YtndmnbgcneaggaaGreatDoorFwA
set_option linter.unusedVariables false
namespace Go.Fw
abbrev Orc := Nat → List AV → List AV → Option (AV × List AV)
structure Foc where
 ts : List Nat := []
 to : List (Nat × Nat) := []
 bs : List Nat := []
 bo : List (Nat × Nat × Nat) := []
 as : List Nat := []
structure Cfg where
 mode : Nat → List Bool
 foc : Nat → Nat → Foc
 nil : Nat → Bool := fun _ => false
 give : Nat → Bool := fun _ => false
 cut : Nat → Nat → Bool := fun _ _ => false
 outF : Nat → Bool := fun _ => false
 outO : Orc := fun _ _ _ => none
inductive Ex where
 | normal
 | exit (id : Nat)
 | ret
section
variable {R : Type}
def LIM : Nat := 4294967296
def K2 (c : Bool) (x : Option R) : Option R := bif c then x else none
def eqS : AV → AV → Bool
 | .I _ a, .I _ b => decide (a = b)
 | .B a, .B b => a == b
 | .S a, .S b => a.toList == b.toList
 | _, _ => false
def eqFl (g h : Nat → AV) : List Field → Bool
 | [] => true
 | f :: fs => eqS (g f.offset) (h f.offset) && eqFl g h fs
def okS2 (P : Program) (t : TypeId) : AV → AV → Bool
 | .I k _, .I k' _ => match P.underlying t with | some (.int _) => k == k' | _ => false
 | .B _, .B _ => match P.underlying t with | some .bool => true | _ => false
 | .S _, .S _ => match P.underlying t with | some .string => true | _ => false
 | _, _ => false
def okFl (P : Program) (n : Nat) (g h : Nat → AV) : List Field → Bool
 | [] => true
 | f :: fs => !(f.name == "_") && Nat.blt f.offset n && okS2 P f.type (g f.offset) (h f.offset) && okFl P n g h fs
def binK (P : Program) (op : BinOp) (t : TypeId) (x y : AV) (K : AV → Option R) : Option R :=
 match op, x, y with
 | .shl, .I k a, .I _ b => K2 (decide (0 ≤ b)) (K (.I k (k.wrap (a * 2 ^ (min b.toNat k.bits)))))
 | .shr, .I k a, .I _ b => K2 (decide (0 ≤ b)) (K (.I k (a.fdiv (2 ^ (min b.toNat k.bits)))))
 | .add, .I k a, .I k' b => K2 (k == k') (K (.I k (k.wrap (a + b))))
 | .sub, .I k a, .I k' b => K2 (k == k') (K (.I k (k.wrap (a - b))))
 | .mul, .I k a, .I k' b => K2 (k == k') (K (.I k (k.wrap (a * b))))
 | .quo, .I k a, .I k' b => K2 (k == k' && !decide (b = 0)) (K (.I k (k.wrap (a.tdiv b))))
 | .rem, .I k a, .I k' b => K2 (k == k' && !decide (b = 0)) (K (.I k (a.tmod b)))
 | .and, .I k a, .I k' b => K2 (k == k') (K (.I k (k.wrap (BitVec.ofInt k.bits a &&& BitVec.ofInt k.bits b).toNat)))
 | .or, .I k a, .I k' b => K2 (k == k') (K (.I k (k.wrap (BitVec.ofInt k.bits a ||| BitVec.ofInt k.bits b).toNat)))
 | .xor, .I k a, .I k' b => K2 (k == k') (K (.I k (k.wrap (BitVec.ofInt k.bits a ^^^ BitVec.ofInt k.bits b).toNat)))
 | .eql, .I k a, .I k' b => K2 (k == k') (K (.B (decide (a = b))))
 | .neq, .I k a, .I k' b => K2 (k == k') (K (.B (!decide (a = b))))
 | .lss, .I k a, .I k' b => K2 (k == k') (K (.B (decide (a < b))))
 | .leq, .I k a, .I k' b => K2 (k == k') (K (.B (decide (a ≤ b))))
 | .gtr, .I k a, .I k' b => K2 (k == k') (K (.B (decide (b < a))))
 | .geq, .I k a, .I k' b => K2 (k == k') (K (.B (decide (b ≤ a))))
 | .eql, .B a, .B b => match P.underlying t with | some .bool => K (.B (a == b)) | _ => none
 | .neq, .B a, .B b => match P.underlying t with | some .bool => K (.B (!(a == b))) | _ => none
 | .add, .S a, .S b => K2 (decide (a.size + b.size ≤ LIM)) (K (.S (a ++ b)))
 | .eql, .S a, .S b => K (.B (a.toList == b.toList))
 | .neq, .S a, .S b => K (.B (!(a.toList == b.toList)))
 | .lss, .S a, .S b => K (.B (Op.bytesLess a.toList b.toList))
 | .leq, .S a, .S b => K (.B (Op.bytesLess a.toList b.toList || a.toList == b.toList))
 | .gtr, .S a, .S b => K (.B (!(Op.bytesLess a.toList b.toList || a.toList == b.toList)))
 | .geq, .S a, .S b => K (.B (!Op.bytesLess a.toList b.toList))
 | .eql, .sln _ _ _, .nsl _ _ => match P.underlying t with | some (.slice _) => K (.B false) | _ => none
 | .eql, .nsl _ _, .nsl _ _ => match P.underlying t with | some (.slice _) => K (.B true) | _ => none
 | .eql, .ag n g, .ag m h => match P.underlying t with | some (.struct fs) => K2 (Nat.beq n m && !P.stoodInHeld t && !P.eqGuardType P.depth t && okFl P n g h fs.toList) (K (.B (eqFl g h fs.toList))) | _ => none
 | .neq, .ag n g, .ag m h => match P.underlying t with | some (.struct fs) => K2 (Nat.beq n m && !P.stoodInHeld t && !P.eqGuardType P.depth t && okFl P n g h fs.toList) (K (.B (!eqFl g h fs.toList))) | _ => none
 | _, _, _ => none
def unAV : UnOp → AV → AV
 | .not, .B x => .B (!x)
 | .neg, .I k n => .I k (k.wrap (0 - n))
 | _, _ => .bad
def pickAV (x : Bool) : AV → AV → AV
 | .B a, .B b => .B (bif x then a else b)
 | .B a, _ => bif x then .B a else .bad
 | _, .B b => bif x then .bad else .B b
 | _, _ => .bad
def zBox (P : Program) (t : TypeId) : Option (Nat × (Nat → AV)) :=
 match (P.info? t).bind (·.zero) with
 | some v => bif v.cells.all (fun v => v.oneCell') then some (v.cells.size, fun j => cCell (zc P 12 t j) (v.cells.getD j undef)) else none
 | none => none
def AV.cellsN : AV → Nat | .ag sz _ => sz | _ => 1
def AV.cellsG : AV → Nat → AV | .ag _ g => g | x => fun _ => x
def fieldOf (P : Program) (t : TypeId) (f : Nat) : Option (Nat × Nat × TypeId) :=
 match P.underlying t with
 | some (.struct fs) => match fs[f]? with
  | some x => some (x.offset, P.cellsOf x.type, x.type)
  | none => none
 | _ => none
def valOf (P : Program) (t : TypeId) (g : Nat → AV) : AV := bif isAggT P t then .ag (P.cellsOf t) g else g 0
def Arr.szAt (A : Arr) (p : List (Nat × Nat)) : Nat := match p with
 | [] => A.sz
 | p => match atP A.g p with | .own _ sz _ => sz | _ => 0
def tyOk (P : Program) (t : TypeId) : Bool := (P.info? t).isSome && (P.underlying t).isSome && Nat.blt 0 (P.cellsOf t)
def AV.known : AV → Bool | .bad => false | _ => true
def loadK (P : Program) (st : St) (t : TypeId) (x : AV) (K : AV → Option R) : Option R :=
 match x with
 | .pb b o => match st.bx b with
  | some (sz, c) => K2 (tyOk P t && Nat.ble (o + P.cellsOf t) sz) (K (valOf P t (fun j => c (o + j))))
  | none => none
 | .pe id p i j => match st.ar id with
  | some A => K2 (tyOk P t && Nat.ble (j + P.cellsOf t) (A.szAt p) && (List.range (P.cellsOf t)).all (fun k => (atP A.g (p ++ [(i, j + k)])).known)) (K (valOf P t (fun k => ldc id (p ++ [(i, j + k)]) (atP A.g (p ++ [(i, j + k)])))))
  | none => none
 | .sp sz g => K2 (tyOk P t && Nat.ble (P.cellsOf t) sz) (K (valOf P t g))
 | _ => none
def AV.notOwn : AV → Bool | .own _ _ _ => false | _ => true
def wrL (g : Nat → Nat → AV) (p : List (Nat × Nat)) (i j : Nat) : List AV → Nat → Nat → AV
 | [] => g
 | x :: l => wrL (setP g (p ++ [(i, j)]) x) p i (j + 1) l
def St.wrE (st : St) (id : Nat) (p : List (Nat × Nat)) (i j : Nat) (l : List AV) : Option St :=
 match (bif l.all AV.notOwn then st else st.map (AV.killN id)).ar id with
 | some A => some ((bif l.all AV.notOwn then st else st.map (AV.killN id)).setA id (some ⟨A.n, A.sz, wrL A.g p i j l⟩))
 | none => none
def St.sure (st : St) : AV → Bool
 | .I _ _ | .B _ | .S _ | .nlp | .nsl _ _ | .sl _ _ _ | .sln _ _ _ | .gv _ | .sp _ _ | .clo _ _ _ => true
 | .rf id => (st.ar id).isSome
 | .rs id _ _ => (st.ar id).isSome
 | .rn id p => match (st.ar id).map (fun A => atP A.g p) with | some (.own _ _ _) => true | _ => false
 | .pb b _ => (st.bx b).isSome
 | .pe id p _ _ => match p with
  | [] => (st.ar id).isSome
  | p => match (st.ar id).map (fun A => atP A.g p) with | some (.own _ _ _) => true | _ => false
 | _ => false
def St.sureA (st : St) : AV → Bool
 | .ag _ _ => true
 | x => st.sure x
def storeK (P : Program) (st : St) (t : TypeId) (a x : AV) (K : St → Option R) : Option R :=
 K2 (tyOk P t && Nat.beq x.cellsN (P.cellsOf t) && st.sureA x) <| match a with
 | .pb b o => match st.bx b with
  | some (sz, c) => K2 (Nat.ble (o + P.cellsOf t) sz) (K (st.setB b (some (sz, fun j => bif Nat.ble o j && Nat.blt j (o + P.cellsOf t) then x.cellsG (j - o) else c j))))
  | none => none
 | .pe id p i j => match st.takeL x.cellsG (List.range x.cellsN) with
  | some (l, st1) => match st1.ar id with
   | some A => K2 (Nat.ble (j + x.cellsN) (A.szAt p)) (match st1.wrE id p i j l with
    | some st' => K st'
    | none => none)
   | none => none
  | none => none
 | _ => none
def inB (i : Int) (n : Nat) : Bool := decide (0 ≤ i) && decide (i < (n : Int))
def szOk (P : Program) (e : TypeId) (sz : Nat) : Bool := (P.info? e).isSome && Nat.beq sz (P.cellsOf e)
def indexAddrK (P : Program) (st : St) (t : TypeId) (x : AV) (i : Int) (K : AV → Option R) : Option R :=
 match P.underlying t with
 | some (.slice e) => match x with
  | .sl n sz g => K2 (szOk P e sz && Nat.blt 0 sz) (K2 (inB i n) (K (.sp sz (g i.toNat))))
  | .sln n sz g => K2 (szOk P e sz && Nat.blt 0 sz) (K2 (inB i n) (K (.sp sz (g i.toNat))))
  | .gv bs => K2 (szOk P e 1) (K2 (inB i bs.length) (K (.sp 1 (gvG bs i.toNat))))
  | .rf id => match st.ar id with
   | some A => K2 (szOk P e A.sz && Nat.blt 0 A.sz) (K2 (inB i A.n) (K (.pe id [] i.toNat 0)))
   | none => none
  | .rs id a m => match st.ar id with
   | some A => K2 (szOk P e A.sz && Nat.blt 0 A.sz) (K2 (inB i m) (K (.pe id [] (a + i.toNat) 0)))
   | none => none
  | .rn id p => match st.ar id with
   | some A => match atP A.g p with
    | .own n sz g => K2 (szOk P e sz && Nat.blt 0 sz) (K2 (inB i n) (K (.pe id p i.toNat 0)))
    | _ => none
   | none => none
  | _ => none
 | _ => none
def bndK (lo hi : Int) (n : Nat) (x : Option R) : Option R := K2 (decide (0 ≤ lo) && decide (lo ≤ hi) && decide (hi ≤ (n : Int))) x
def sliceK (P : Program) (st : St) (t : TypeId) (x : AV) (lo hi : Option Int) (K : AV → Option R) : Option R :=
 match P.underlying t with
 | some .string => match x with
  | .S s => bndK (lo.getD 0) (hi.getD s.size) s.size (K (.S (s.extract (lo.getD 0).toNat (hi.getD s.size).toNat)))
  | _ => none
 | some (.slice e) => match x with
  | .sl n sz g => K2 (szOk P e sz) <| match hi with
   | none => bndK (lo.getD 0) n n (K (.sl (n - (lo.getD 0).toNat) sz (fun i j => g ((lo.getD 0).toNat + i) j)))
   | some h => bndK (lo.getD 0) h n (K (.sl (h.toNat - (lo.getD 0).toNat) sz (fun i j => mrg (decide (i < h.toNat - (lo.getD 0).toNat)) (g ((lo.getD 0).toNat + i) j) (g n j))))
  | .rf id => match st.ar id with
   | some A => K2 (szOk P e A.sz) <| bndK (lo.getD 0) (hi.getD A.n) A.n (K (.rs id (lo.getD 0).toNat ((hi.getD A.n).toNat - (lo.getD 0).toNat)))
   | none => none
  | .rs id a m => match st.ar id with
   | some A => K2 (szOk P e A.sz) <| bndK (lo.getD 0) (hi.getD m) (A.n - a) (K (.rs id (a + (lo.getD 0).toNat) ((hi.getD m).toNat - (lo.getD 0).toNat)))
   | none => none
  | _ => none
 | _ => none
def slice3K (P : Program) (st : St) (t : TypeId) (x : AV) (lo : Option Int) (hi mx : Int) (K : Option R) : Option R :=
 match P.underlying t, x with
 | some (.slice e), .rf id => match st.ar id with
  | some A => K2 (szOk P e A.sz) (K2 (decide (0 ≤ lo.getD 0) && decide (lo.getD 0 ≤ hi) && decide (hi ≤ mx) && decide (mx ≤ (A.n : Int))) K)
  | none => none
 | _, _ => none
def zFits : AV → Value → Bool
 | .I k n, .int k' m => k == k' && decide (n = m)
 | .B x, .bool y => x == y
 | .S x, .string y => Nat.beq x.size 0 && Nat.beq y.size 0
 | .nlp, .pointer none => true
 | .own 0 sz _, .slice none 0 0 => Nat.blt 0 sz
 | _, _ => false
def zOk (P : Program) (e : TypeId) : Bool := match (P.info? e).bind (·.zero) with
 | some z => Nat.beq z.cells.size (P.cellsOf e) && (List.range (P.cellsOf e)).all fun j => zFits (zc P 12 e j) (z.cells.getD j undef)
 | none => false
def scalT (P : Program) (e : TypeId) : Bool := (List.range (P.cellsOf e)).all fun j => match zc P 12 e j with | .I _ _ | .B _ | .S _ => true | _ => false
def AV.noOwn : AV → AV
 | .own _ _ _ => .bad
 | x => x
def St.giveR (P : Program) (st : St) (e : TypeId) (y : AV) : Option (Arr × St) :=
 bif scalT P e then (match st.rowsOf y with | some A => bif Nat.blt 0 A.sz then some (⟨A.n, A.sz, fun i j => (A.g i j).noOwn⟩, st) else none | none => none)
 else match st.takeC y with
  | some (.own n sz g, st') => some (⟨n, sz, g⟩, st')
  | some (.sl n sz g, st') => bif Nat.blt 0 sz then some (⟨n, sz, g⟩, st') else none
  | _ => none
def catA (A B : Arr) : Arr := ⟨A.n + B.n, A.sz, fun i j => mrg (decide (i < A.n)) (A.g i j) (B.g (i - A.n) j)⟩
def bytG (s : ByteArray) : Nat → Nat → AV := fun i => lstG [.I .u8 ((s[i]?).getD 0).toNat]
def srcK (P : Program) (st : St) (tx e : TypeId) (y : AV) : Option (Arr × St) :=
 match P.underlying tx with
 | some (.slice _) => st.giveR P e y
 | some .string => match y with | .S s => some (⟨s.size, 1, bytG s⟩, st) | _ => none
 | _ => none
def appendK (P : Program) (st : St) (t tx : TypeId) (x y : AV) (K : AV → St → Option R) : Option R :=
 match P.underlying t with
 | some (.slice e) =>
  match srcK P st tx e y with
  | some (B, st1) => match st1.takeC x with
   | some (.own n sz g, st2) => K2 (decide (n + B.n ≤ LIM) && Nat.beq sz B.sz && Nat.beq sz (P.cellsOf e) && Nat.ble (((P.info? e).map (·.bytes)).getD LIM) 4096 && zOk P e) (K (let A := catA ⟨n, sz, g⟩ B; .own A.n A.sz A.g) st2)
   | _ => none
  | none => none
 | _ => none
def byS (n : Nat) (g : Nat → Nat → AV) : ByteArray := ((List.range n).map fun i => asI (g i 0)).foldl (fun r n => r.push (UInt8.ofNat n.toNat)) ByteArray.empty
def isU8 : AV → Bool | .I .u8 _ => true | _ => false
def AV.fits : AV → Bool
 | .tup n g => (List.range n).all fun j => match g j with | .ag sz _ => Nat.ble sz 64 | .nbx _ _ => false | _ => true
 | _ => true
inductive Back where
 | box (b sz : Nat)
 | arr (id n sz : Nat)
 | inn (id : Nat) (p : List (Nat × Nat)) (n sz : Nat)
def Back.isInn : Back → Bool | .inn _ _ _ _ => true | _ => false
structure Pas where
 st : St
 ex : List AV
 bk : List Back
def passBox (q : Pas) (b : Nat) : Option (AV × Pas) :=
 match q.st.takeA (.pb b 0) with
 | some (.nbx sz g, st') => K2 (Nat.ble sz 4096) (some (.pb q.ex.length 0, ⟨st', q.ex ++ [.nbx sz g], q.bk ++ [.box b sz]⟩))
 | _ => none
def passArr (q : Pas) (id : Nat) : Option (AV × Pas) :=
 match q.st.takeA (.rf id) with
 | some (.own n sz g, st') => some (.rf (q.ex.length * 4096), ⟨st', q.ex ++ [.own n sz g], q.bk ++ [.arr id n sz]⟩)
 | _ => none
def passCaps (q : Pas) (g : Nat → AV) : List Nat → Option (List AV × Pas)
 | [] => some ([], q)
 | j :: js => match g j with
  | .pb b 0 => match passBox q b with
   | some (x, q') => match passCaps q' g js with
    | some (xs, q'') => some (x :: xs, q'')
    | none => none
   | none => none
  | _ => none
def AV.lit : AV → Bool | .I _ _ | .B _ | .S _ | .nlp | .sl _ _ _ => true | _ => false
def passAg (q : Pas) (g : Nat → AV) : List Nat → Option (List AV × Pas)
 | [] => some ([], q)
 | j :: js => match g j with
  | .rf id => match passArr q id with
   | some (x, q') => match passAg q' g js with
    | some (xs, q'') => some (x :: xs, q'')
    | none => none
   | none => none
  | x => bif x.lit then (match passAg q g js with
   | some (xs, q') => some (x :: xs, q')
   | none => none) else none
def passX (q : Pas) (own : Bool) : AV → Option (Option AV × Pas)
 | .pb b 0 => match passBox q b with
  | some (y, q') => some (some y, q')
  | none => none
 | .clo f n g => bif own then (match passCaps q g (List.range n) with
  | some (l, q') => some (some (.clo f n (lstG l)), q')
  | none => none) else some (none, q)
 | .rf id => bif own then (match passArr q id with
  | some (y, q') => some (some y, q')
  | none => none) else some (none, q)
 | .rn id p => bif own && q.ex.isEmpty then (match q.st.takeA (.rn id p) with
  | some (.own n sz g, st') => some (some (.rf (q.ex.length * 4096)), ⟨st', q.ex ++ [.own n sz g], q.bk ++ [.inn id p n sz]⟩)
  | _ => none) else some (none, q)
 | .ag sz g => bif own then (match passAg q g (List.range sz) with
  | some (l, q') => some (some (.ag sz (lstG l)), q')
  | none => none) else some (none, q)
 | .nsl sz g => bif own then some (some (.nsl sz g), q) else some (none, q)
 | _ => some (none, q)
def passL (q : Pas) : List Bool → List AV → Option (List (Option AV) × Pas)
 | _, [] => some ([], q)
 | own, x :: xs => match passX q (own.headD false) x with
  | some (y, q') => match passL q' own.tail xs with
   | some (ys, q'') => some (y :: ys, q'')
   | none => none
  | none => none
def St.borA (st : St) : AV → AV
 | .ag sz g => .ag sz (tabG sz (fun j => st.borC (g j)))
 | .clo f n g => .clo f n (tabG n (fun j => st.borC (g j)))
 | x => st.borC x
def lent (st : St) : List (Option AV) → List AV → List AV
 | some y :: ys, _ :: xs => y :: lent st ys xs
 | none :: ys, x :: xs => st.borA x :: lent st ys xs
 | _, _ => []
def backA (st : St) : List AV → List Back → St
 | x :: xs, .arr id n sz :: ks => backA ((st.map (AV.killN id)).setA id (some ⟨n, sz, asG x⟩)) xs ks
 | _ :: xs, _ :: ks => backA st xs ks
 | _, _ => st
def backB (st : St) (base : Nat) : List AV → List Back → St
 | x :: xs, .box b sz :: ks => backB ((st.layL base (asA x) (List.range sz)).setB b (some (sz, fun j => (asA x j).refd (base + j)))) (base + 64) xs ks
 | _ :: xs, _ :: ks => backB st (base + 64) xs ks
 | _, _ => st
def isOwn : AV → Bool | .own _ _ _ => true | _ => false
def backI (st0 st : St) (id : Nat) (p : List (Nat × Nat)) (n sz : Nat) (x : AV) : Option St :=
 match st0.ar id with
 | some B => match p.reverse with
  | q :: r => bif r.isEmpty || isOwn (atP B.g r.reverse) then some ((st.map (AV.killN id)).setA id (some ⟨B.n, B.sz, setP B.g (r.reverse ++ [q]) (.own n sz (asG x))⟩)) else none
  | [] => none
 | none => none
def backS (st0 st : St) (base : Nat) (ex : List AV) (bk : List Back) : Option St :=
 match bk with
 | [.inn id p n sz] => backI st0 st id p n sz (ex.headD .bad)
 | bk => bif bk.any Back.isInn then none else some (backB (backA st ex bk) base ex bk)
def AV.likeE : AV → AV → AV
 | .own n sz g, y => .own n sz (fun i => tabG sz (fun j => (g 0 j).like (asG y i j)))
 | .nbx sz g, y => .nbx sz (tabG sz (fun j => (g j).like (asA y j)))
 | _, _ => .bad
def likeL : List AV → List AV → List AV
 | [], _ => []
 | e :: es, ys => e.likeE (ys.headD .bad) :: likeL es ys.tail
def likeG (giv : Bool) (es ys : List AV) : List AV := bif giv then es.map (fun _ => .bad) else likeL es ys
def callK (P : Program) (C : Cfg) (Γ : Orc) (st : St) (d : Nat) (f : Nat) (xs : List AV) (K : AV → St → Option R) : Option R :=
 match P.funcs[f]? with
 | some fn =>
  match passL ⟨st, [], []⟩ (C.mode f) xs with
  | some (ys, q) =>
   K2 (Nat.ble q.ex.length 64) <|
   (Γ f (lent q.st ys xs) q.ex).bind fun r =>
    let x := vwR P fn.resultTypes.toList r.1
    match (bif C.give f then some q.st else backS st q.st (aid d 2048) (likeL q.ex r.2) q.bk) with
    | some st1 => K2 x.fits (K (x.refR (aid d 0)) (st1.layR (aid d 0) x))
    | none => none
  | none => none
 | none => none
def rngG (g : Nat → Nat → AV) (i0 m : Nat) (h : Nat → Nat → AV) : Nat → Nat → AV := fun i j => mrg (decide (i0 ≤ i) && decide (i < i0 + m)) (h (i - i0) j) (g i j)
def appIn (P : Program) (st : St) (t tx : TypeId) (x y : AV) : Option (Nat × Nat × Nat × Arr × Arr) :=
 match P.underlying t, P.underlying tx, x with
 | some (.slice e), some (.slice _), .rs id p m => bif scalT P e then (match st.ar id, st.rowsOf y with
  | some A, some B => bif szOk P e A.sz && Nat.beq A.sz B.sz then some (id, p, m, A, B) else none
  | _, _ => none) else none
 | _, _, _ => none
def clrIn (P : Program) (st : St) (t : TypeId) (x : AV) : Option (Nat × Nat × Nat × Arr × TypeId) :=
 match P.underlying t, x with
 | some (.slice e), .rs id p m => match st.ar id with
  | some A => bif szOk P e A.sz && zOk P e then some (id, p, m, A, e) else none
  | none => none
 | _, _ => none
def intsL : List AV → Option (List Int)
 | [] => some []
 | .I .i64 n :: r => match intsL r with
  | some l => some (n :: l)
  | none => none
 | _ => none
def mmF : Builtin → Option (Int → Int → Int)
 | .min => some fun x y => bif decide (y < x) then y else x
 | .max => some fun x y => bif decide (x < y) then y else x
 | _ => none
def opCall (P : Program) (C : Cfg) (Γ : Orc) (o : Oper) (c : Call) (st : St) (K : St → Option R) : Option R :=
 let pu (x : AV) (st : St) : Option R := K (st.put o.dst x)
 let ty (i : Nat) := c.argTypes.getD i 0
 let arg (i : Nat) := st.get P (ty i) (c.args.getD i (.const undef))
 match c.callee with
 | .builtin .len => K2 (Nat.beq c.args.size 1 && Nat.beq c.argTypes.size 1) <| match P.underlying (ty 0) with
  | some .string => match arg 0 with
   | .S s => pu (.I .i64 s.size) st
   | _ => none
  | some (.slice _) => match st.rowsOf (arg 0) with
   | some A => pu (.I .i64 A.n) st
   | none => none
  | _ => none
 | .builtin .append => match o.dst with
  | some d => K2 (Nat.beq c.args.size 2 && Nat.beq c.argTypes.size 2) (match appIn P st (ty 0) (ty 1) (arg 0) (arg 1) with
   | some (id, p, m, A, B) => bif decide (p + m + B.n ≤ A.n) then K (((st.put o.dst (.rs id p (m + B.n))).map (AV.killN id)).setA id (some ⟨A.n, A.sz, rngG A.g (p + m) B.n (fun i j => (B.g i j).noOwn)⟩))
    else appendK P st (ty 0) (ty 1) (arg 0) (arg 1) fun x st' => pu (x.refR (aid d 0)) (st'.layR (aid d 0) x)
   | none => appendK P st (ty 0) (ty 1) (arg 0) (arg 1) fun x st' => pu (x.refR (aid d 0)) (st'.layR (aid d 0) x))
  | none => none
 | .builtin .clear => K2 (Nat.beq c.args.size 1 && Nat.beq c.argTypes.size 1) (match clrIn P st (ty 0) (arg 0) with
  | some (id, p, m, A, e) => K (((st.put o.dst .bad).map (AV.killN id)).setA id (some ⟨A.n, A.sz, rngG A.g p m (fun _ j => zc P 12 e j)⟩))
  | none => none)
 | .value v => match st.get P 0 v with
  | .clo f n g => callK P C Γ st (o.dst.getD 4000) f ((List.range c.args.size).map arg ++ (List.range n).map g) pu
  | _ => none
 | .builtin b => match mmF b, intsL ((List.range c.args.size).map arg) with
  | some g, some (x :: r) => pu (.I .i64 (r.foldl g x)) st
  | _, _ => none
 | _ => none
def buildG (P : Program) (st : St) (t : TypeId) (sz : Nat) (g : Nat → AV) : List (Nat × Operand) → Option (Nat → AV)
 | [] => some g
 | ix :: l => match fieldOf P t ix.1 with
  | some (off, n, ft) =>
   let v := st.get P ft ix.2
   bif st.sureA v && Nat.beq v.cellsN n && Nat.ble (off + n) sz then buildG P st t sz (fun j => bif Nat.ble off j && Nat.blt j (off + n) then v.cellsG (j - off) else g j) l else none
  | none => none
def rowsL (P : Program) (e : TypeId) (st : St) : List (Nat × Operand) → Option (List (List AV) × St)
 | [] => some ([], st)
 | ix :: l =>
  let v := st.get P e ix.2
  bif st.sureA v && Nat.beq v.cellsN (P.cellsOf e) then match st.takeL v.cellsG (List.range (P.cellsOf e)) with
   | some (x, st') => match rowsL P e st' l with
    | some (xs, st'') => some (x :: xs, st'')
    | none => none
   | none => none
  else none
def rowsG (d : List AV) : List (List AV) → Nat → Nat → AV
 | [], _, j => lstG d j
 | x :: l, i, j => mrg (decide (i = 0)) (lstG x j) (rowsG d l (i - 1) j)
def evOp (P : Program) (C : Cfg) (Γ : Orc) (o : Oper) (st : St) (K : St → Option R) : Option R :=
 let pu (x : AV) : Option R := K (st.put o.dst x)
 let get (x : Operand) : AV := st.get P o.type x
 match o.op with
 | .move x | .assign x => pu (get x)
 | .pick c a b => match get c with
  | .B x => pu (pickAV x (get a) (get b))
  | _ => none
 | .alloc t => match o.dst, zBox P t with
  | some d, some (sz, c) => K ((st.newB (bid d) sz c).put o.dst (.pb (bid d) 0))
  | _, _ => none
 | .box t x => match o.dst with
  | some d => let v := st.get P t x; K2 (st.sureA v) (K ((st.newB (bid d) v.cellsN v.cellsG).put o.dst (.pb (bid d) 0)))
  | none => none
 | .load t a => loadK P st t (get a) pu
 | .store t a x => storeK P st t (get a) (st.get P t x) fun st' => K (st'.put o.dst .bad)
 | .nilCheck x => match get x with
  | .pb b o' => K2 (st.bx b).isSome (pu (.pb b o'))
  | .pe id p i j => K2 (st.sure (.pe id p i j)) (pu (.pe id p i j))
  | .sp sz g => pu (.sp sz g)
  | _ => none
 | .binOp op t x y yt => binK P op t (st.get P t x) (st.get P yt y) pu
 | .unOp op _ x => K2 (unAV op (get x)).known (pu (unAV op (get x)))
 | .convert src dst x => match P.underlying src, P.underlying dst, st.get P src x with
  | some (.int _), some (.int k), .I _ n => pu (.I k (k.wrap n))
  | some (.slice e), some .string, .rf id => match P.underlying e, st.ar id with
   | some (.int .u8), some A => K2 (Nat.beq A.sz 1 && (List.range A.n).all (fun i => isU8 (A.g i 0))) (pu (.S (byS A.n A.g)))
   | _, _ => none
  | some (.int _), some .string, .I _ n => pu (.S (Utf8.encode n))
  | _, _, _ => none
 | .fieldAddr t x f => match fieldOf P t f with
  | some (off, fs, _) => K2 (Nat.blt 0 fs) <| match get x with
   | .pb b o' => K2 (st.bx b).isSome (pu (.pb b (o' + off)))
   | .pe id p i j => K2 (match st.ar id with | some A => Nat.blt (j + off) (A.szAt p) | none => false) (pu (.pe id p i (j + off)))
   | .sp sz g => K2 (Nat.ble off sz) (pu (.sp (sz - off) (fun j => g (off + j))))
   | _ => none
  | none => none
 | .field t x f => match fieldOf P t f, st.get P t x with
  | some (off, fs, ft), .ag sz g => K2 (Nat.ble (off + fs) sz && tyOk P ft) (pu (valOf P ft (fun j => g (off + j))))
  | _, _ => none
 | .indexAddr t x i => match st.get P t x, get i with
  | v, .I _ n => indexAddrK P st t v n pu
  | _, _ => none
 | .slice t x lo hi mx =>
  let iv (x : Option Operand) : Option (Option Int) := match x with
   | none => some none
   | some y => match get y with | .I _ n => some (some n) | _ => none
  match mx with
  | none => match iv lo, iv hi with
   | some l, some h => sliceK P st t (st.get P t x) l h pu
   | _, _ => none
  | some y => match iv lo, iv hi, get y with
   | some l, some (some h), .I _ n => slice3K P st t (st.get P t x) l h n (pu .bad)
   | _, _, _ => none
 | .index t x i => match P.underlying t, st.get P t x, get i with
  | some .string, .S s, .I _ n => K2 (inB n s.size) (pu (.I .u8 ((s[n.toNat]?).getD 0).toNat))
  | _, _, _ => none
 | .extract x k => match get x with
  | .tup n g => K2 (Nat.blt k n) (pu (g k))
  | _ => none
 | .makeFunc fn first caps => match fn with
  | .func f => K2 (Nat.beq first.size 0) (pu (.clo f caps.size (fun j => get (caps.getD j (.const undef)))))
  | _ => none
 | .build t parts => match zBox P t with
  | some (sz, c) => match P.underlying t with
   | some (.struct fs) => match buildG P st t sz c parts.toList with
    | some g => K2 (fs.all fun f => (P.info? f.type).isSome) (pu (.ag sz g))
    | none => none
   | _ => none
  | none => none
 | .buildSlice t len parts => match o.dst, P.underlying t with
  | some d, some (.slice e) =>
   let sz := P.cellsOf e
   K2 (Nat.beq parts.size len && Nat.blt 0 sz && Nat.ble (len * sz) 16777216 && (parts.toList.map (·.1) == List.range len) && zOk P e) <|
   match rowsL P e st parts.toList with
   | some (l, s) =>
    let x : AV := .own len sz (rowsG ((List.range sz).map (zc P 12 e)) l)
    K ((s.layR (aid d 0) x).put o.dst (x.refR (aid d 0)))
   | none => none
  | _, _ => none
 | .makeSlice t l c => match o.dst, P.underlying t, get l, get c with
  | some d, some (.slice e), .I _ n, .I _ m =>
   K2 (decide (0 ≤ n) && decide (m ≤ LIM) && decide (n ≤ m) && Nat.blt 0 (P.cellsOf e) && Nat.ble (((P.info? e).map (·.bytes)).getD LIM) 4096 && zOk P e)
     (let x : AV := .own n.toNat (P.cellsOf e) (zg P e); K ((st.layR (aid d 0) x).put o.dst (x.refR (aid d 0))))
  | _, _, _, _ => none
 | .call c => opCall P C Γ o c st K
 | _ => none
def skipV : AV := .tup 0 (fun _ => .bad)
def evOps (P : Program) (C : Cfg) (Γ : Orc) (ops : Array Oper) : List Nat → St → (St → Option R) → Option R
 | [], st, K => K st
 | i :: rest, st, K =>
  match ops[i]? with
  | none => evOps P C Γ ops rest st K
  | some o => match o.guard with
   | none => evOp P C Γ o st fun st' => evOps P C Γ ops rest st' K
   | some (j, want) => match (ops[j]?).bind (·.dst) with
    | some d => match st.t d with
     | .B x => bif x then
       (bif want then evOp P C Γ o (st.setT d (.B true)) fun st' => evOps P C Γ ops rest st' K
        else evOps P C Γ ops rest ((st.setT d (.B true)).put o.dst skipV) K)
      else
       (bif want then evOps P C Γ ops rest ((st.setT d (.B false)).put o.dst skipV) K
        else evOp P C Γ o (st.setT d (.B false)) fun st' => evOps P C Γ ops rest st' K)
     | .tup 0 _ => evOps P C Γ ops rest (st.put o.dst skipV) K
     | _ => none
    | none => none
def stillOp (o : Oper) : Bool := match o.op with
 | .move _ | .assign _ | .load _ _ | .fieldAddr _ _ _ | .indexAddr _ _ _ | .slice _ _ _ _ _ | .extract _ _ => true
 | .call c => match c.callee with | .builtin .len => true | _ => false
 | _ => false
def pureAt (P : Program) (st : St) (o : Oper) : Bool := match o.op with
 | .move _ | .assign _ | .indexAddr _ _ _ | .extract _ _ | .pick _ _ _ => true
 | .fieldAddr s _ f => match P.underlying s with
  | some (.struct fs) => match fs[f]? with | some fd => !Nat.beq (P.cellsOf fd.type) 0 | none => false
  | _ => false
 | .nilCheck x => match st.get P 0 x with | .pb b _ => (st.bx b).isSome | .pe id [] _ _ => (st.ar id).isSome | .sp _ _ => true | _ => false
 | .binOp _ t x y _ => match st.get P t x, st.get P t y with
  | .I _ _, .I _ _ => true
  | .S _, .S _ => true
  | _, _ => false
 | .call c => match c.callee with
  | .builtin .len => match c.argTypes[0]? with
   | some t => match P.underlying t with | some (.slice _) | some .string => true | _ => false
   | none => false
  | _ => false
 | _ => false
def loadOp (o : Oper) : Bool := match o.op with | .load _ _ => true | _ => false
def growOp (o : Oper) : Bool := match o.op with | .alloc _ | .box _ _ | .buildSlice _ _ _ => true | _ => false
def depM (ops : Array Oper) (i : Nat) : List Nat → Nat → Nat
 | [], m => m
 | j :: js, m => depM ops i js (match ops[j]? with
  | some o => bif o.after.any (fun e => Region.binds .any e && (Nat.beq e.on i || m.testBit e.on)) then m ||| 1 <<< j else m
  | none => m)
def freeOp (P : Program) (st : St) (ops : Array Oper) (listed : Array Bool) (i : Nat) : Bool :=
 let m := depM ops i (List.range ops.size) (depM ops i (List.range ops.size) 0)
 match ops[i]? with
 | some oi => (pureAt P st oi || stillOp oi) && (List.range ops.size).all fun j => match ops[j]? with
  | some oj => bif m.testBit j then !(listed.getD j true) && oj.after.any (fun e => Region.binds .any e && (Nat.beq e.on i || m.testBit e.on))
   else Nat.beq j i || listed.getD j true || (oi.apart ops oj && (pureAt P st oi || stillOp oj || (loadOp oi && growOp oj)))
  | none => true
 | none => false
def scT (P : Program) (t : TypeId) : Bool := match P.underlying t with | some (.int _) | some .bool | some .string => true | _ => false
def sc1 : AV → Bool | .I _ _ | .B _ | .S _ => true | _ => false
def rdKind (P : Program) (o : Oper) : Bool := o.guard.isNone && match o.op with
 | .move _ | .assign _ | .load _ _ | .fieldAddr _ _ _ | .indexAddr _ _ _ | .extract _ _ => true
 | .call c => match c.callee with
  | .builtin .len => true
  | .value (.func f) => match P.funcs[f]? with
   | some fn => match fn.resultTypes.toList with | [t] => scT P t | _ => false
   | none => false
  | _ => false
 | _ => false
def rdSt (P : Program) (o : Oper) : Bool := match o.op with
 | .call c => match c.callee with
  | .value _ => c.argTypes.all (scT P)
  | _ => true
 | _ => true
def rdArgs (P : Program) (st : St) (o : Oper) : Bool := match o.op with
 | .call c => match c.callee with
  | .value _ => (List.range c.args.size).all fun i => sc1 (st.get P (c.argTypes.getD i 0) (c.args.getD i (.const undef)))
  | _ => true
 | _ => true
def ascB : List Nat → Bool
 | [] => true
 | x :: l => l.all (fun y => Nat.blt x y) && ascB l
def waitsOn (o : Oper) (k : Nat) : Bool := o.after.any fun e => Region.binds .any e && Nat.beq e.on k
def depOk (ops : Array Oper) (listed : Array Bool) (A : List Nat) (i : Nat) : Bool :=
 let m := depM ops i (List.range ops.size) (depM ops i (List.range ops.size) 0)
 (List.range ops.size).all fun j => match ops[j]? with
  | some oj => bif m.testBit j then !(listed.getD j true) && oj.after.any (fun e => Region.binds .any e && (Nat.beq e.on i || m.testBit e.on)) else listed.getD j true || A.contains j
  | none => true
def okBt (P : Program) (ops : Array Oper) (listed : Array Bool) (A : List Nat) : Bool :=
 ascB A && A.all fun j => match ops[j]? with
  | some o => !(listed.getD j true) && rdKind P o && o.after.all (fun e => !(Region.binds .any e) || (Nat.blt e.on j && (listed.getD e.on false || A.contains e.on))) &&
   A.all (fun k => Nat.beq k j || match ops[k]? with | some ok => !(ok.dst == o.dst) && ((match ok.dst with | some d => !((o.looksAt ops).contains d) | none => true) || waitsOn o k) | none => false) && depOk ops listed A j
  | none => false
def prune (ops : Array Oper) (listed : Array Bool) (A : List Nat) : List Nat :=
 A.filter fun j => match ops[j]? with | some o => o.after.all fun e => !(Region.binds .any e) || listed.getD e.on false || A.contains e.on | none => false
def batchA (P : Program) (ops : Array Oper) (listed : Array Bool) : List Nat :=
 let A := prune ops listed (prune ops listed (prune ops listed (prune ops listed ((List.range ops.size).filter fun j => !(listed.getD j true) && match ops[j]? with | some o => rdKind P o && rdSt P o | none => false))))
 bif okBt P ops listed A then A else []
open Classical in
noncomputable def and2 (x y : Option R) : Option R := bif decide (x = y) then x else none
noncomputable def allOf (F : Nat → Option R) : List Nat → Option R
 | [] => none
 | [i] => F i
 | i :: j :: is => and2 (F i) (allOf F (j :: is))
noncomputable def evDraw (P : Program) (C : Cfg) (Γ : Orc) (ops : Array Oper) (K : St → Option R) : Nat → Array Bool → List Nat → St → Option R
 | 0, _, _ :: _, _ => none
 | 0, listed, [], st => match Region.ready .any ops listed with
  | [] => K st
  | _ => none
 | n + 1, listed, i :: rest, st => match ops[i]? with
  | some o => K2 (rdArgs P st o) (evOp P C Γ o st (fun st' => evDraw P C Γ ops K n (listed.setIfInBounds i true) rest st'))
  | none => none
 | n + 1, listed, [], st => match Region.ready .any ops listed with
  | [] => K st
  | rs => match rs.find? (freeOp P st ops listed) with
   | some i => evOps P C Γ ops [i] st (fun st' => evDraw P C Γ ops K n (listed.setIfInBounds i true) [] st')
   | none => match batchA P ops listed with
    | i :: rest => match ops[i]? with
     | some o => K2 (rdArgs P st o) (evOp P C Γ o st (fun st' => evDraw P C Γ ops K n (listed.setIfInBounds i true) rest st'))
     | none => none
    | [] => allOf (fun i => evOps P C Γ ops [i] st (fun st' => evDraw P C Γ ops K n (listed.setIfInBounds i true) [] st')) rs
def St.homeG (st : St) (id : Nat) (x : AV) : Option St :=
 match st.takeC x with
 | some (.own n sz g, st') => K2 (Nat.ble 262144 id) (some (st'.layC id (.own n sz g)))
 | _ => none
def St.home (st : St) (id : Nat) (x : AV) : Option St :=
 match x with
 | .rf k => bif Nat.beq k id then some st else st.homeG id (.rf k)
 | x => st.homeG id x
def St.homesT (st : St) : List (Nat × Nat) → Option St
 | [] => some st
 | (d, id) :: l => match st.home id (st.t d) with
  | some st' => St.homesT (st'.setT d (.rf id)) l
  | none => none
def St.homesB (st : St) : List (Nat × Nat × Nat) → Option St
 | [] => some st
 | (b, o, id) :: l => match st.bx b with
  | some (sz, c) => K2 (Nat.blt o sz) <| match st.home id (c o) with
   | some st' => match st'.bx b with
    | some (sz', c') => St.homesB (st'.setB b (some (sz', upd c' o (.rf id)))) l
    | none => none
   | none => none
  | none => none
def selT (f : Nat → AV) : List Nat → Nat → AV
 | [] => fun _ => .bad
 | d :: ds => upd (selT f ds) d (f d)
def selO {α : Type} (f : Nat → Option α) : List Nat → Nat → Option α
 | [] => fun _ => none
 | d :: ds => upd (selO f ds) d (f d)
def AV.nn : AV → AV
 | .rn _ _ => .bad
 | .pe id p i j => bif p.isEmpty then .pe id p i j else .bad
 | .ag sz g => .ag sz (tabG sz (fun j => (g j).nn))
 | .tup n g => .tup n (tabG n (fun j => (g j).nn))
 | .clo f n g => .clo f n (tabG n (fun j => (g j).nn))
 | x => x
def Arr.cn (A : Arr) : Arr := ⟨A.n, A.sz, fun i => tabG A.sz (fun j => (A.g i j).cn)⟩
def St.focus (st : St) (F : Foc) : Option St :=
 match st.homesT F.to with
 | some st1 => match st1.homesB F.bo with
  | some st2 => some { t := selT (fun d => (st2.t d).nn) F.ts, ar := selO (fun id => (st2.ar id).map Arr.cn) F.as, bx := selO (fun b => (st2.bx b).map fun B => (B.1, tabG B.1 (fun o => (B.2 o).nn))) F.bs }
  | none => none
 | none => none
def dstOk (nt : Nat) : Code → Bool
 | .region _ ops _ => ops.all fun o => match o.dst with | some d => Nat.blt d nt | none => true
 | .seq a b => dstOk nt a && dstOk nt b
 | .cond _ a b => dstOk nt a && dstOk nt b
 | .block _ c => dstOk nt c
 | .loop c => dstOk nt c
 | _ => true
def firstR : Code → Nat
 | .region id _ _ => id
 | .seq a b => firstR a
 | .block _ c => firstR c
 | .loop c => firstR c
 | .scope c => firstR c
 | _ => 0
def evL (F : Foc) (body : (Ex → St → Option R) → St → Option R) (K : Ex → St → Option R) : Nat → St → Option R
 | 0, _ => none
 | n + 1, st => match st.focus F with
  | some st' => body (fun e st'' => match e with
   | .normal => evL F body K n st''
   | e => K e st'') st'
  | none => none
def cutK (C : Cfg) (f id : Nat) (K : Ex → St → Option R) (st : St) : Option R :=
 bif C.cut f id then (match st.focus (C.foc f id) with
  | some st' => K .normal st'
  | none => none) else K .normal st
noncomputable def evC (P : Program) (C : Cfg) (Γ : Orc) (N : Nat) (f : Nat) : Code → (Ex → St → Option R) → St → Option R
 | .skip, K, st => K .normal st
 | .label _, K, st => K .normal st
 | .region id ops false, K, st => evOps P C Γ ops (List.range ops.size) st (cutK C f id K)
 | .region id ops true, K, st => K2 (P.follows .mixedOrders && Region.noSelect ops) (evDraw P C Γ ops (cutK C f id K) ops.size (Array.replicate ops.size false) [] st)
 | .seq a b, K, st => evC P C Γ N f a (fun e st' => match e with
   | .normal => evC P C Γ N f b K st'
   | e => K e st') st
 | .cond c a b, K, st => match st.get P 0 c with
  | .B x => bif x then evC P C Γ N f a K st else evC P C Γ N f b K st
  | _ => none
 | .block id c, K, st => evC P C Γ N f c (fun e st' => match e with
   | .exit k => bif Nat.beq k id then K .normal st' else K (.exit k) st'
   | e => K e st') st
 | .loop c, K, st => evL (C.foc f (firstR c)) (fun K' => evC P C Γ N f c K') K N st
 | .exit id, K, st => K (.exit id) st
 | .ret, K, st => K .ret st
 | _, _, _ => none
end
def initAr (exts : List AV) (id : Nat) : Option Arr :=
 match exts[id / 4096]? with
 | some (.own n sz g) => bif Nat.beq (id % 4096) 0 then some ⟨n, sz, g⟩ else none
 | some (.nbx sz g) => bif Nat.blt (id % 4096) sz then (match g (id % 4096) with | .own n s h => some ⟨n, s, h⟩ | _ => none) else none
 | _ => none
def initBx (exts : List AV) (b : Nat) : Option (Nat × (Nat → AV)) :=
 match exts[b]? with
 | some (.nbx sz g) => some (sz, fun j => (g j).refd (b * 4096 + j))
 | _ => none
def initSt (args exts : List AV) : St :=
 { t := fun j => args.getD j .bad, ar := initAr exts, bx := initBx exts }
def resOf (P : Program) (st : St) : List ResultVar → Option (List AV)
 | [] => some []
 | .tmp t :: l => match resOf P st l with | some xs => some (st.t t :: xs) | none => none
 | .cell a ty :: l => match loadK P st ty (st.t a) some with
  | some x => match resOf P st l with | some xs => some (x :: xs) | none => none
  | none => none
open Classical in
noncomputable def AV.fit : AV → AV → Bool
 | .I k _, y => match y with | .I k' _ => k == k' | _ => false
 | .B _, y => match y with | .B _ => true | _ => false
 | .S _, y => match y with | .S _ => true | _ => false
 | .nlp, y => match y with | .nlp => true | _ => false
 | .gv _, y => match y with | .gv _ => true | _ => false
 | .own _ s g, y => match y with
  | .own _ s' g' => Nat.beq s s' && decide (∀ i : Nat, ((List.range s).all fun j => (g 0 j).fit (g' i j)) = true)
  | _ => false
 | _, _ => true
noncomputable def exOut (st : St) (k : Nat) : List AV → Option (List AV)
 | [] => some []
 | .own n sz g0 :: l => match st.takeA (.rf (k * 4096)) with
  | some (.own n' sz' g, st') => bif (AV.own n sz g0).fit (.own n' sz' g) then (match exOut st' (k + 1) l with | some xs => some (.own n sz g :: xs) | none => none) else none
  | _ => none
 | .nbx sz g :: l => match st.takeA (.pb k 0) with
  | some (.nbx sz' h, st') => bif Nat.beq sz sz' && (List.range sz).all (fun j => (g j).fit (h j)) then (match exOut st' (k + 1) l with | some xs => some (.nbx sz h :: xs) | none => none) else none
  | _ => none
 | _ :: _ => none
def tupAV : List AV → AV
 | [] => .tup 0 (lstG [])
 | [y] => y
 | y :: z :: l => .tup (l.length + 2) (lstG (y :: z :: l))
noncomputable def exOutG (giv : Bool) (st : St) (k : Nat) (exts : List AV) : Option (List AV) := bif giv then some (exts.map fun _ => .bad) else exOut st k exts
noncomputable def finish (P : Program) (giv : Bool) (fn : Func) (exts : List AV) (st : St) : Option (AV × List AV) :=
 match resOf P st fn.results.toList with
 | some l =>
  match st.takeR (tupAV l) with
  | some (y, st') => bif okR P fn.resultTypes.toList y then (match exOutG giv st' 0 exts with | some es => some (y, es) | none => none) else none
  | none => none
 | none => none
def norm (P : Program) (giv : Bool) (fn : Func) (exts : List AV) (r : AV × List AV) : Option (AV × List AV) :=
 K2 (Nat.beq r.2.length exts.length) (some ((vwR P fn.resultTypes.toList r.1).ow, likeG giv exts (r.2.map AV.ow)))
noncomputable def exOutK (K : List AV → Option (AV × List AV)) (st : St) (k : Nat) : List AV → List AV → Option (AV × List AV)
 | [], acc => K acc.reverse
 | .own n sz g0 :: l, acc => match st.takeA (.rf (k * 4096)) with
  | some (.own n' sz' g, st') => K2 ((AV.own n sz g0).fit (.own n' sz' g)) (exOutK K st' (k + 1) l (.own n sz g :: acc))
  | _ => none
 | .nbx sz g :: l, acc => match st.takeA (.pb k 0) with
  | some (.nbx sz' h, st') => K2 (Nat.beq sz sz' && (List.range sz).all (fun j => (g j).fit (h j))) (exOutK K st' (k + 1) l (.nbx sz h :: acc))
  | _ => none
 | _ :: _, _ => none
theorem exOutK_eq (K : List AV → Option (AV × List AV)) : ∀ (l : List AV) (st : St) (k : Nat) (acc : List AV), exOutK K st k l acc = (exOut st k l).bind fun es => K (acc.reverse ++ es) := by
 intro l
 induction l with
 | nil => intro st k acc; simp [exOutK, exOut]
 | cons x l ih =>
  intro st k acc
  cases x with
  | own n sz g0 =>
   simp only [exOutK, exOut]
   split
   · rename_i n' sz' g st' _
     cases (AV.own n sz g0).fit (.own n' sz' g) with
     | false => rfl
     | true =>
      simp only [K2, cond_true, ih]
      cases exOut st' (k + 1) l <;> simp
   · rfl
  | nbx sz g =>
   simp only [exOutK, exOut]
   split
   · rename_i sz' h st' _
     cases (Nat.beq sz sz' && (List.range sz).all fun j => (g j).fit (h j)) with
     | false => rfl
     | true =>
      simp only [K2, cond_true, ih]
      cases exOut st' (k + 1) l <;> simp
   · rfl
  | _ => rfl
noncomputable def finishN (P : Program) (giv : Bool) (fn : Func) (exts : List AV) (st : St) : Option (AV × List AV) :=
 match resOf P st fn.results.toList with
 | some l =>
  match st.takeR (tupAV l) with
  | some (y, st') => bif okR P fn.resultTypes.toList y then (bif giv then norm P giv fn exts (y, exts.map fun _ => .bad) else exOutK (fun es => norm P giv fn exts (y, es)) st' 0 exts []) else none
  | none => none
 | none => none
theorem finishN_eq (P : Program) (giv : Bool) (fn : Func) (exts : List AV) (st : St) : finishN P giv fn exts st = (finish P giv fn exts st).bind (norm P giv fn exts) := by
 unfold finishN finish
 split
 · split
   · rename_i y st' _
     cases okR P fn.resultTypes.toList y with
     | true =>
      simp only [cond_true]
      cases giv with
      | true => rfl
      | false =>
       simp only [exOutG, cond_false]
       rw [exOutK_eq]
       cases exOut st' 0 exts <;> rfl
     | false => rfl
   · rfl
 · rfl
noncomputable def evB (P : Program) (C : Cfg) (Γ : Orc) (N : Nat) (f : Nat) (fn : Func) (c : Code) (args exts : List AV) : Option (AV × List AV) :=
 evC P C Γ N f c (fun e st => match e with
  | .exit _ => none
  | _ => finishN P (C.give f) fn exts st) (initSt args exts)
open Classical in
noncomputable def clO (C : Cfg) (Γ : Orc) : Orc := fun f args exts =>
 bif C.nil f then
  match args with
  | [.sl n sz g] => match Γ f [.sln n sz g] exts with
   | some r => if (n = 0 → Γ f [.nsl sz g] exts = some r) then some r else none
   | none => none
  | args => Γ f args exts
 else Γ f args exts
noncomputable def evS (P : Program) (C : Cfg) (Γ : Orc) (k : Nat) : Orc := fun f args exts =>
 match P.funcs[f]? with
 | some fn => match fn.body with
  | some c => K2 (dstOk fn.ntmps c && Nat.ble args.length fn.ntmps && !(fn.name == "runtime.NumGoroutine")) (evB P C Γ k f fn c args exts)
  | none => none
 | none => none
def xO (C : Cfg) (Γ : Orc) : Orc := fun f args exts => bif C.outF f then C.outO f args exts else Γ f args exts
noncomputable def evF (P : Program) (C : Cfg) : Nat → Orc
 | 0 => fun _ _ _ => none
 | k + 1 => xO C (clO C (evS P C (evF P C k) k))
end Go.Fw
