/- The program's values by type, and the settings of the framework's evaluation. -/
import Derived.Test.YtailkfoodjgipaaGreatDoorProg
import Derived.Test.YtailkfoodjgipaaGreatDoorFyB
import Derived.KernelRfl
import Derived.Lib.SplitLaws
import Derived.Lib.Join
import Derived.Lib.Split
import Derived.Lib.CutLaws
import Derived.Lib.IndexMore
set_option linter.unusedVariables false
set_option maxRecDepth 100000
namespace Go.Fw
open Go.Proofs
abbrev gsIntS (xs : List Int) : Nat → Nat → AV := gI xs
abbrev goIntS (xs : List Int) : Nat → Nat → AV := gI xs
abbrev slIntS (xs : List Int) : AV := .sl xs.length 1 (gsIntS xs)
abbrev owIntS (xs : List Int) : AV := .own xs.length 1 (goIntS xs)
def gsStrS (xs : List ByteArray) : Nat → Nat → AV := fun i => lstG [.S (xs.getD i ByteArray.empty)]
abbrev goStrS (xs : List ByteArray) : Nat → Nat → AV := gsStrS xs
abbrev slStrS (xs : List ByteArray) : AV := .sl xs.length 1 (gsStrS xs)
abbrev owStrS (xs : List ByteArray) : AV := .own xs.length 1 (goStrS xs)
structure VTerm where
  Op : Int
  Num : Int
  Text : ByteArray
abbrev zTerm : VTerm := ⟨0, 0, ByteArray.empty⟩
abbrev slTerm (x : VTerm) : AV := .ag 3 (lstG [nI x.Op, nI x.Num, .S x.Text])
abbrev owTerm (x : VTerm) : AV := .ag 3 (lstG [nI x.Op, nI x.Num, .S x.Text])
def gsTermS (xs : List VTerm) : Nat → Nat → AV := fun i => lstG [nI (xs.getD i zTerm).Op, nI (xs.getD i zTerm).Num, .S (xs.getD i zTerm).Text]
abbrev goTermS (xs : List VTerm) : Nat → Nat → AV := gsTermS xs
abbrev slTermS (xs : List VTerm) : AV := .sl xs.length 3 (gsTermS xs)
abbrev owTermS (xs : List VTerm) : AV := .own xs.length 3 (goTermS xs)
structure VMsg where
  Kind : Int
  Num : Int
  Text : ByteArray
abbrev zMsg : VMsg := ⟨0, 0, ByteArray.empty⟩
abbrev slMsg (x : VMsg) : AV := .ag 3 (lstG [nI x.Kind, nI x.Num, .S x.Text])
abbrev owMsg (x : VMsg) : AV := .ag 3 (lstG [nI x.Kind, nI x.Num, .S x.Text])
structure VCall where
  Op : Int
  A : Int
  B : Int
  Tok : Int
  Name : ByteArray
  Msg : VMsg
  Filter : (List VTerm)
abbrev zCall : VCall := ⟨0, 0, 0, 0, ByteArray.empty, zMsg, []⟩
abbrev slCall (x : VCall) : AV := .ag 9 (lstG [nI x.Op, nI x.A, nI x.B, nI x.Tok, .S x.Name, nI x.Msg.Kind, nI x.Msg.Num, .S x.Msg.Text, slTermS x.Filter])
abbrev owCall (x : VCall) : AV := .ag 9 (lstG [nI x.Op, nI x.A, nI x.B, nI x.Tok, .S x.Name, nI x.Msg.Kind, nI x.Msg.Num, .S x.Msg.Text, owTermS x.Filter])
def gsCallS (xs : List VCall) : Nat → Nat → AV := fun i => lstG [nI (xs.getD i zCall).Op, nI (xs.getD i zCall).A, nI (xs.getD i zCall).B, nI (xs.getD i zCall).Tok, .S (xs.getD i zCall).Name, nI (xs.getD i zCall).Msg.Kind, nI (xs.getD i zCall).Msg.Num, .S (xs.getD i zCall).Msg.Text, slTermS (xs.getD i zCall).Filter]
def goCallS (xs : List VCall) : Nat → Nat → AV := fun i => lstG [nI (xs.getD i zCall).Op, nI (xs.getD i zCall).A, nI (xs.getD i zCall).B, nI (xs.getD i zCall).Tok, .S (xs.getD i zCall).Name, nI (xs.getD i zCall).Msg.Kind, nI (xs.getD i zCall).Msg.Num, .S (xs.getD i zCall).Msg.Text, owTermS (xs.getD i zCall).Filter]
abbrev slCallS (xs : List VCall) : AV := .sl xs.length 9 (gsCallS xs)
abbrev owCallS (xs : List VCall) : AV := .own xs.length 9 (goCallS xs)
def isSt : AV → Bool | .S _ => true | _ => false
/-- The strings of a row. -/
def strsOf (n : Nat) (g : Nat → Nat → AV) : List ByteArray := (List.range n).map fun i => asS (g i 0)
/-- What these functions of the library give: proved contracts. -/
def outO (f : Nat) (args exts : List AV) : Option (AV × List AV) :=
  match args, exts with
  | [.S s, .S p], [] =>
    bif Nat.beq f 78 then (bif decide (s.size < 4294967281) && Nat.ble 1 p.size then some (owStrS (Lib.splitB p 0 (Lib.countB s p) s), []) else none)
    else bif Nat.beq f 32 then (bif decide (s.size < 4294967281) then some (.tup 3 (lstG [.S ⟨(Lib.cut s.data.toList p.data.toList).1.toArray⟩, .S ⟨(Lib.cut s.data.toList p.data.toList).2.1.toArray⟩, .B (Lib.cut s.data.toList p.data.toList).2.2]), []) else none)
    else none
  | [.sl n 1 g, .S p], [] =>
    bif Nat.beq f 24 then (bif Nat.ble n 140737488355328 && (List.range n).all (fun i => isSt (g i 0)) && decide ((Lib.join ((strsOf n g).map (·.data.toList)) p.data.toList).length ≤ 140737488355328) then some (.S ⟨(Lib.join ((strsOf n g).map (·.data.toList)) p.data.toList).toArray⟩, []) else none)
    else none
  | _, _ => none
def outF (f : Nat) : Bool := Nat.beq f 78 || Nat.beq f 32 || Nat.beq f 24
def focT (f r : Nat) : Foc :=
  bif Nat.beq f 42 && Nat.beq r 6 then ⟨[0, 3, 4, 5, 36], [], [0, 67, 68, 69], [], []⟩ else
  bif Nat.beq f 40 && Nat.beq r 18 then ⟨[0, 4, 5], [], [0, 68, 69], [(69, 0, 4096000), (69, 2, 4104192), (69, 3, 4108288), (69, 4, 4112384), (69, 5, 4116480), (69, 6, 4120576)], [4096000, 4104192, 4108288, 4112384, 4116480, 4120576]⟩ else
  bif Nat.beq f 40 && Nat.beq r 11 then ⟨[0, 4, 5], [], [0, 68, 69], [(69, 0, 4096000), (69, 2, 4104192), (69, 3, 4108288), (69, 4, 4112384)], [4096000, 4104192, 4108288, 4112384]⟩ else
  bif Nat.beq f 40 && Nat.beq r 10 then ⟨[0, 4, 5], [], [0, 68, 69], [(69, 0, 4096000), (69, 2, 4104192), (69, 3, 4108288)], [4096000, 4104192, 4108288]⟩ else
  bif Nat.beq f 40 && Nat.beq r 7 then ⟨[0, 4, 5], [], [0, 68, 69], [(69, 0, 4096000), (69, 2, 4104192)], [4096000, 4104192]⟩ else
  bif Nat.beq f 18 then ⟨[0, 3, 4], [], [], [], []⟩ else
  bif Nat.beq f 73 then ⟨[0, 5, 6, 7], [(5, 4096000)], [0], [], [4096000]⟩ else
  bif Nat.beq f 40 && Nat.beq r 4 then ⟨[0, 4, 5, 6, 7], [], [0, 68, 69], [(69, 0, 4096000)], [4096000]⟩ else
  bif Nat.beq f 39 then ⟨[0, 4, 7, 8, 9], [(7, 4096000)], [0, 68], [], [4096000]⟩ else
  bif Nat.beq f 13 then ⟨[3, 4], [(4, 4096000)], [70], [], [4096000]⟩ else
  bif Nat.beq f 67 then ⟨[0, 1, 5], [], [], [], []⟩ else
  bif Nat.beq f 4 then ⟨[3, 6, 8, 12], [(3, 4096000), (8, 4100096)], [], [], [4096000, 4100096]⟩ else
  bif Nat.beq f 23 && Nat.beq r 18 then ⟨[1, 4, 5, 76], [], [65, 68, 69], [(68, 0, 643072)], [643072]⟩ else
  bif Nat.beq f 23 && Nat.beq r 16 then ⟨[1, 4, 5, 62], [], [65, 68, 69], [(68, 0, 643072)], [643072]⟩ else
  bif Nat.beq f 23 && Nat.beq r 13 then ⟨[1, 4, 5, 6, 47], [], [65, 68, 69], [(68, 0, 643072)], [643072]⟩ else
  bif Nat.beq f 23 && Nat.beq r 11 then ⟨[1, 4, 5, 6, 40], [], [65, 68, 69], [(68, 0, 643072)], [643072]⟩ else
  bif Nat.beq f 23 && Nat.beq r 4 then ⟨[1, 4, 5, 6, 14], [], [65, 68, 69], [(68, 0, 643072)], [643072]⟩ else
  bif Nat.beq f 8 && Nat.beq r 31 then ⟨[1, 4, 99], [], [65], [], []⟩ else
  bif Nat.beq f 8 && Nat.beq r 16 then ⟨[1, 4, 53], [], [65], [], []⟩ else
  bif Nat.beq f 8 && Nat.beq r 13 then ⟨[1, 4, 5, 46], [], [65], [], []⟩ else
  bif Nat.beq f 8 && Nat.beq r 3 then ⟨[1, 4], [], [65], [], []⟩ else
  bif Nat.beq f 25 && Nat.beq r 27 then ⟨[1, 3, 99], [], [65, 67], [], []⟩ else
  bif Nat.beq f 25 && Nat.beq r 4 then ⟨[1, 3, 21], [], [65, 67], [], []⟩ else
  bif Nat.beq f 95 then ⟨[0, 3, 4, 5], [(3, 380928)], [], [], [380928]⟩ else
  bif Nat.beq f 84 then ⟨[1, 5, 6], [], [], [], [315392]⟩ else
  bif Nat.beq f 47 then ⟨[0, 3, 8, 9, 10], [], [], [], [290816]⟩ else
  bif Nat.beq f 53 then ⟨[4, 11, 12, 13], [(4, 348160)], [], [], [348160]⟩ else
  bif Nat.beq f 31 then ⟨[0, 4, 5], [], [], [], []⟩ else
  bif Nat.beq f 60 then ⟨[0, 3, 4], [], [], [], []⟩ else
  bif Nat.beq f 45 then ⟨[0, 3, 6, 7, 8], [], [], [], []⟩ else
  bif Nat.beq f 46 then ⟨[1, 20, 21], [], [65], [], []⟩ else
  bif Nat.beq f 83 then ⟨[0, 3], [], [], [], []⟩ else
  bif Nat.beq f 96 then ⟨[0, 3], [], [], [], []⟩ else
  bif Nat.beq f 97 then ⟨[0, 3], [], [], [], []⟩ else
  bif Nat.beq f 79 then ⟨[0, 5, 6], [], [], [], []⟩ else
  bif Nat.beq f 91 then ⟨[0, 5, 6], [], [], [], []⟩ else
  bif Nat.beq f 30 then ⟨[0, 3, 4], [], [], [], []⟩ else
  bif Nat.beq f 15 then ⟨[0, 4, 5], [], [], [], []⟩ else
  bif Nat.beq f 14 then ⟨[0, 4, 9, 10, 11], [], [], [], []⟩ else
  bif Nat.beq f 69 then ⟨[0, 4], [], [], [], []⟩ else
  bif Nat.beq f 70 then ⟨[0, 4, 5, 6], [], [], [], []⟩ else
  bif Nat.beq f 72 then ⟨[0, 4, 5, 6], [(4, 458752)], [], [], [458752]⟩ else
  bif Nat.beq f 66 then ⟨[0, 4, 15, 16, 17], [(4, 368640)], [], [], [368640, 323584]⟩ else
  bif Nat.beq f 89 then ⟨[0, 2, 4], [], [66], [], []⟩ else
  bif Nat.beq f 88 then ⟨[0, 2, 3], [], [66], [], []⟩ else
  bif Nat.beq f 63 then ⟨[0, 1, 7, 8], [], [], [], []⟩ else
  bif Nat.beq f 64 then ⟨[0, 4, 5, 17, 18], [], [], [], []⟩ else
  bif Nat.beq f 38 && Nat.beq r 5 then ⟨[2, 3, 4, 5, 6, 7], [], [66, 67], [], [352256]⟩ else
  bif Nat.beq f 38 && Nat.beq r 11 then ⟨[2, 3, 4, 5, 8, 9], [], [66, 67], [], [405504]⟩ else
  bif Nat.beq f 16 then ⟨[0, 4], [(4, 425984)], [], [], [425984]⟩ else
  bif Nat.beq f 17 && Nat.beq r 3 then ⟨[0, 4, 5], [(4, 479232)], [], [], [479232]⟩ else
  bif Nat.beq f 17 && Nat.beq r 5 then ⟨[0, 4, 5, 6], [], [], [], [479232]⟩ else
  {}
def modeT (f : Nat) : List Bool :=
  []
def nilT (f : Nat) : Bool := false
def giveT (f : Nat) : Bool := false
def cutT (f r : Nat) : Bool := (Nat.beq f 40 && Nat.beq r 7) || (Nat.beq f 40 && Nat.beq r 10) || (Nat.beq f 40 && Nat.beq r 11) || (Nat.beq f 40 && Nat.beq r 18) || (Nat.beq f 42 && Nat.beq r 6) || (Nat.beq f 25 && Nat.beq r 4) || (Nat.beq f 25 && Nat.beq r 27) || (Nat.beq f 8 && Nat.beq r 3) || (Nat.beq f 8 && Nat.beq r 13) || (Nat.beq f 8 && Nat.beq r 16) || (Nat.beq f 8 && Nat.beq r 31) || (Nat.beq f 23 && Nat.beq r 4) || (Nat.beq f 23 && Nat.beq r 11) || (Nat.beq f 23 && Nat.beq r 13) || (Nat.beq f 23 && Nat.beq r 16) || (Nat.beq f 23 && Nat.beq r 18)
def cfg : Cfg := ⟨modeT, focT, nilT, giveT, cutT, outF, outO⟩
abbrev bs (l : List UInt8) : ByteArray := ⟨⟨l⟩⟩
abbrev byN (s : ByteArray) (i : Nat) : Int := zN ((s[i]?).getD 0).toNat
open Classical in
noncomputable def okU : Bool := decide (∀ _i : Nat, (bif okT then true else false) = true)
theorem okU_eq : okU = true := by unfold okU; rw [okT_eq]; simp
open Classical in
noncomputable def okV : Bool := decide (∀ _i : Nat, (bif okU then true else false) = true)
theorem okV_eq : okV = true := by unfold okV; rw [okU_eq]; simp
open Classical in
noncomputable def okW : Bool := decide (∀ _i : Nat, (bif okV then true else false) = true)
theorem okW_eq : okW = true := by unfold okW; rw [okV_eq]; simp
abbrev vslStrS (x : AV) : AV := .sl (asN x) 1 fun i => lstG [.S (asS (asG x i 0))]
abbrev vowStrS (x : AV) : AV := .own (asN x) 1 fun i => lstG [.S (asS (asG x i 0))]
abbrev vslTermS (x : AV) : AV := .sl (asN x) 3 fun i => lstG [nI (asI (asG x i 0)), nI (asI (asG x i 1)), .S (asS (asG x i 2))]
abbrev vowTermS (x : AV) : AV := .own (asN x) 3 fun i => lstG [nI (asI (asG x i 0)), nI (asI (asG x i 1)), .S (asS (asG x i 2))]
abbrev vslCallS (x : AV) : AV := .sl (asN x) 9 fun i => lstG [nI (asI (asG x i 0)), nI (asI (asG x i 1)), nI (asI (asG x i 2)), nI (asI (asG x i 3)), .S (asS (asG x i 4)), nI (asI (asG x i 5)), nI (asI (asG x i 6)), .S (asS (asG x i 7)), vslTermS (asG x i 8)]
abbrev vowCallS (x : AV) : AV := .own (asN x) 9 fun i => lstG [nI (asI (asG x i 0)), nI (asI (asG x i 1)), nI (asI (asG x i 2)), nI (asI (asG x i 3)), .S (asS (asG x i 4)), nI (asI (asG x i 5)), nI (asI (asG x i 6)), .S (asS (asG x i 7)), vowTermS (asG x i 8)]
end Go.Fw
