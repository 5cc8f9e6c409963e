/- Sizes, copies, comparing, trees of seat r2 -/
import Derived.Test.YtgpigigeoanahaaProg
import Derived.Test.YtgpigigeoanahaaFyB
import Derived.KernelRfl
set_option linter.unusedVariables false
set_option maxRecDepth 100000
namespace Go.Fw
open Go.Proofs
abbrev gsIntS (xs : List Int) : Nat → Nat → AV := gI xs
abbrev goIntS (xs : List Int) : Nat → Nat → AV := gI xs
abbrev slIntS (xs : List Int) : AV := .sl xs.length 1 (gsIntS xs)
abbrev owIntS (xs : List Int) : AV := .own xs.length 1 (goIntS xs)
structure VTerm where
  Op : Int
  Num : Int
  Text : ByteArray
abbrev zTerm : VTerm := ⟨0, 0, ByteArray.empty⟩
abbrev slTerm (x : VTerm) : AV := .ag 3 (lstG [nI x.Op, nI x.Num, .S x.Text])
abbrev owTerm (x : VTerm) : AV := .ag 3 (lstG [nI x.Op, nI x.Num, .S x.Text])
def gsTermS (xs : List VTerm) : Nat → Nat → AV := fun i => lstG [nI (xs.getD i zTerm).Op, nI (xs.getD i zTerm).Num, .S (xs.getD i zTerm).Text]
abbrev goTermS (xs : List VTerm) : Nat → Nat → AV := gsTermS xs
abbrev slTermS (xs : List VTerm) : AV := .sl xs.length 3 (gsTermS xs)
abbrev owTermS (xs : List VTerm) : AV := .own xs.length 3 (goTermS xs)
structure VMsg where
  Kind : Int
  Num : Int
  Text : ByteArray
abbrev zMsg : VMsg := ⟨0, 0, ByteArray.empty⟩
abbrev slMsg (x : VMsg) : AV := .ag 3 (lstG [nI x.Kind, nI x.Num, .S x.Text])
abbrev owMsg (x : VMsg) : AV := .ag 3 (lstG [nI x.Kind, nI x.Num, .S x.Text])
structure VCall where
  Op : Int
  A : Int
  B : Int
  Tok : Int
  Name : ByteArray
  Msg : VMsg
  Filter : (List VTerm)
abbrev zCall : VCall := ⟨0, 0, 0, 0, ByteArray.empty, zMsg, []⟩
abbrev slCall (x : VCall) : AV := .ag 9 (lstG [nI x.Op, nI x.A, nI x.B, nI x.Tok, .S x.Name, nI x.Msg.Kind, nI x.Msg.Num, .S x.Msg.Text, slTermS x.Filter])
abbrev owCall (x : VCall) : AV := .ag 9 (lstG [nI x.Op, nI x.A, nI x.B, nI x.Tok, .S x.Name, nI x.Msg.Kind, nI x.Msg.Num, .S x.Msg.Text, owTermS x.Filter])
def gsCallS (xs : List VCall) : Nat → Nat → AV := fun i => lstG [nI (xs.getD i zCall).Op, nI (xs.getD i zCall).A, nI (xs.getD i zCall).B, nI (xs.getD i zCall).Tok, .S (xs.getD i zCall).Name, nI (xs.getD i zCall).Msg.Kind, nI (xs.getD i zCall).Msg.Num, .S (xs.getD i zCall).Msg.Text, slTermS (xs.getD i zCall).Filter]
def goCallS (xs : List VCall) : Nat → Nat → AV := fun i => lstG [nI (xs.getD i zCall).Op, nI (xs.getD i zCall).A, nI (xs.getD i zCall).B, nI (xs.getD i zCall).Tok, .S (xs.getD i zCall).Name, nI (xs.getD i zCall).Msg.Kind, nI (xs.getD i zCall).Msg.Num, .S (xs.getD i zCall).Msg.Text, owTermS (xs.getD i zCall).Filter]
abbrev slCallS (xs : List VCall) : AV := .sl xs.length 9 (gsCallS xs)
abbrev owCallS (xs : List VCall) : AV := .own xs.length 9 (goCallS xs)
def gsCallSS (xs : List (List VCall)) : Nat → Nat → AV := fun i => lstG [slCallS (xs.getD i [])]
def goCallSS (xs : List (List VCall)) : Nat → Nat → AV := fun i => lstG [owCallS (xs.getD i [])]
abbrev slCallSS (xs : List (List VCall)) : AV := .sl xs.length 1 (gsCallSS xs)
abbrev owCallSS (xs : List (List VCall)) : AV := .own xs.length 1 (goCallSS xs)
structure VStep where
  Kind : Int
  Who : Int
  Leg : Int
abbrev zStep : VStep := ⟨0, 0, 0⟩
abbrev slStep (x : VStep) : AV := .ag 3 (lstG [nI x.Kind, nI x.Who, nI x.Leg])
abbrev owStep (x : VStep) : AV := .ag 3 (lstG [nI x.Kind, nI x.Who, nI x.Leg])
structure VReply where
  Code : Int
  N : Int
  M : Int
  Msg : VMsg
abbrev zReply : VReply := ⟨0, 0, 0, zMsg⟩
abbrev slReply (x : VReply) : AV := .ag 6 (lstG [nI x.Code, nI x.N, nI x.M, nI x.Msg.Kind, nI x.Msg.Num, .S x.Msg.Text])
abbrev owReply (x : VReply) : AV := .ag 6 (lstG [nI x.Code, nI x.N, nI x.M, nI x.Msg.Kind, nI x.Msg.Num, .S x.Msg.Text])
structure VMark where
  Step : VStep
  Reply : VReply
abbrev zMark : VMark := ⟨zStep, zReply⟩
abbrev slMark (x : VMark) : AV := .ag 9 (lstG [nI x.Step.Kind, nI x.Step.Who, nI x.Step.Leg, nI x.Reply.Code, nI x.Reply.N, nI x.Reply.M, nI x.Reply.Msg.Kind, nI x.Reply.Msg.Num, .S x.Reply.Msg.Text])
abbrev owMark (x : VMark) : AV := .ag 9 (lstG [nI x.Step.Kind, nI x.Step.Who, nI x.Step.Leg, nI x.Reply.Code, nI x.Reply.N, nI x.Reply.M, nI x.Reply.Msg.Kind, nI x.Reply.Msg.Num, .S x.Reply.Msg.Text])
def gsMarkS (xs : List VMark) : Nat → Nat → AV := fun i => lstG [nI (xs.getD i zMark).Step.Kind, nI (xs.getD i zMark).Step.Who, nI (xs.getD i zMark).Step.Leg, nI (xs.getD i zMark).Reply.Code, nI (xs.getD i zMark).Reply.N, nI (xs.getD i zMark).Reply.M, nI (xs.getD i zMark).Reply.Msg.Kind, nI (xs.getD i zMark).Reply.Msg.Num, .S (xs.getD i zMark).Reply.Msg.Text]
abbrev goMarkS (xs : List VMark) : Nat → Nat → AV := gsMarkS xs
abbrev slMarkS (xs : List VMark) : AV := .sl xs.length 9 (gsMarkS xs)
abbrev owMarkS (xs : List VMark) : AV := .own xs.length 9 (goMarkS xs)
structure VRec where
  Who : Int
  Number : Int
  Call : VCall
  First : Int
  Last : Int
  Code : Int
abbrev zRec : VRec := ⟨0, 0, zCall, 0, 0, 0⟩
abbrev slRec (x : VRec) : AV := .ag 14 (lstG [nI x.Who, nI x.Number, nI x.Call.Op, nI x.Call.A, nI x.Call.B, nI x.Call.Tok, .S x.Call.Name, nI x.Call.Msg.Kind, nI x.Call.Msg.Num, .S x.Call.Msg.Text, slTermS x.Call.Filter, nI x.First, nI x.Last, nI x.Code])
abbrev owRec (x : VRec) : AV := .ag 14 (lstG [nI x.Who, nI x.Number, nI x.Call.Op, nI x.Call.A, nI x.Call.B, nI x.Call.Tok, .S x.Call.Name, nI x.Call.Msg.Kind, nI x.Call.Msg.Num, .S x.Call.Msg.Text, owTermS x.Call.Filter, nI x.First, nI x.Last, nI x.Code])
def gsRecS (xs : List VRec) : Nat → Nat → AV := fun i => lstG [nI (xs.getD i zRec).Who, nI (xs.getD i zRec).Number, nI (xs.getD i zRec).Call.Op, nI (xs.getD i zRec).Call.A, nI (xs.getD i zRec).Call.B, nI (xs.getD i zRec).Call.Tok, .S (xs.getD i zRec).Call.Name, nI (xs.getD i zRec).Call.Msg.Kind, nI (xs.getD i zRec).Call.Msg.Num, .S (xs.getD i zRec).Call.Msg.Text, slTermS (xs.getD i zRec).Call.Filter, nI (xs.getD i zRec).First, nI (xs.getD i zRec).Last, nI (xs.getD i zRec).Code]
def goRecS (xs : List VRec) : Nat → Nat → AV := fun i => lstG [nI (xs.getD i zRec).Who, nI (xs.getD i zRec).Number, nI (xs.getD i zRec).Call.Op, nI (xs.getD i zRec).Call.A, nI (xs.getD i zRec).Call.B, nI (xs.getD i zRec).Call.Tok, .S (xs.getD i zRec).Call.Name, nI (xs.getD i zRec).Call.Msg.Kind, nI (xs.getD i zRec).Call.Msg.Num, .S (xs.getD i zRec).Call.Msg.Text, owTermS (xs.getD i zRec).Call.Filter, nI (xs.getD i zRec).First, nI (xs.getD i zRec).Last, nI (xs.getD i zRec).Code]
abbrev slRecS (xs : List VRec) : AV := .sl xs.length 14 (gsRecS xs)
abbrev owRecS (xs : List VRec) : AV := .own xs.length 14 (goRecS xs)
def focT (f r : Nat) : Foc :=
  bif Nat.beq f 56 then ⟨[0, 1, 5], [], [], [], []⟩ else
  bif Nat.beq f 29 then ⟨[0, 1, 5], [], [], [], []⟩ else
  bif Nat.beq f 7 then ⟨[0, 1, 5], [], [], [], []⟩ else
  bif Nat.beq f 8 then ⟨[0, 1, 5], [], [], [], []⟩ else
  bif Nat.beq f 58 then ⟨[0, 3, 4], [], [], [], [290816]⟩ else
  bif Nat.beq f 31 then ⟨[0, 3, 4], [], [], [], [290816]⟩ else
  bif Nat.beq f 10 then ⟨[0, 3, 4], [], [], [], [290816]⟩ else
  bif Nat.beq f 11 then ⟨[0, 3, 4], [], [], [], [290816]⟩ else
  bif Nat.beq f 60 then ⟨[0, 1, 5], [], [], [], []⟩ else
  bif Nat.beq f 33 then ⟨[0, 1, 5], [], [], [], []⟩ else
  bif Nat.beq f 13 then ⟨[0, 1, 5], [], [], [], []⟩ else
  bif Nat.beq f 14 then ⟨[0, 1, 5], [], [], [], []⟩ else
  bif Nat.beq f 19 then ⟨[0, 1, 5], [], [], [], []⟩ else
  bif Nat.beq f 26 then ⟨[0, 1, 5], [], [], [], []⟩ else
  bif Nat.beq f 23 then ⟨[0, 1, 5], [], [], [], []⟩ else
  bif Nat.beq f 22 then ⟨[0, 1, 5], [], [], [], [0]⟩ else
  bif Nat.beq f 21 then ⟨[0, 1, 5], [], [], [], [0]⟩ else
  bif Nat.beq f 42 then ⟨[0, 1, 5], [], [], [], [0]⟩ else
  bif Nat.beq f 43 then ⟨[0, 1, 5], [], [], [], []⟩ else
  bif Nat.beq f 39 then ⟨[0, 1, 5], [], [], [], [0]⟩ else
  bif Nat.beq f 20 then ⟨[0, 1, 5], [], [], [], [0]⟩ else
  bif Nat.beq f 27 then ⟨[0, 1, 5], [], [], [], [0]⟩ else
  bif Nat.beq f 28 then ⟨[0, 1, 5], [], [], [], []⟩ else
  bif Nat.beq f 40 then ⟨[0, 3], [], [], [], []⟩ else
  bif Nat.beq f 36 && Nat.beq r 8 then ⟨[0, 1, 7, 8, 9, 10, 11], [(7, 724992), (8, 827392)], [], [], [352256, 364544, 724992, 827392]⟩ else
  bif Nat.beq f 36 && Nat.beq r 12 then ⟨[0, 1, 7, 8, 9, 10, 12], [(7, 724992), (8, 827392)], [], [], [352256, 364544, 724992, 827392]⟩ else
  bif Nat.beq f 35 && Nat.beq r 5 then ⟨[0, 1, 7, 18, 19], [], [80], [(80,1,372736)], [372736]⟩ else
  bif Nat.beq f 35 && Nat.beq r 10 then ⟨[0, 7, 8, 32, 33, 34], [(8, 450560)], [80], [(80,0,522240), (80,1,522241)], [450560, 522240, 522241]⟩ else
  bif Nat.beq f 52 && Nat.beq r 10 then ⟨[0, 9, 12], [], [0, 76], [], [0, 1, 503816]⟩ else
  bif Nat.beq f 52 && Nat.beq r 8 then ⟨[0, 1, 2, 7, 9, 10, 49], [], [0, 71], [], [0, 1]⟩ else
  bif Nat.beq f 36 && Nat.beq r 23 then ⟨[0, 1, 7, 8, 9, 10, 12, 13], [], [77], [], [352256, 364544, 724992, 827392]⟩ else
  bif Nat.beq f 9 then ⟨[5, 7, 8, 9], [], [], [], [319488, 348160, 360448]⟩ else
  bif Nat.beq f 15 then ⟨[2, 10, 12, 13, 14, 15], [], [], [], [344064]⟩ else
  bif Nat.beq f 16 then ⟨[2, 13, 14, 15, 27, 28, 29], [], [], [], [348160]⟩ else
  bif Nat.beq f 17 && Nat.beq r 7 then ⟨[1, 2, 3, 11, 12, 14, 15, 16], [(14, 671744)], [], [], [348160, 348224, 671744]⟩ else
  bif Nat.beq f 18 && Nat.beq r 7 then ⟨[2, 3, 11, 12, 14, 15, 37, 38, 39], [(14, 643072)], [], [], [352256, 352320, 643072]⟩ else
  {}
def modeT (f : Nat) : List Bool :=
  bif Nat.beq f 20 then [true] else
  bif Nat.beq f 21 then [true] else
  bif Nat.beq f 22 then [true] else
  bif Nat.beq f 27 then [true] else
  bif Nat.beq f 39 then [true] else
  bif Nat.beq f 42 then [true] else
  []
def nilT (f : Nat) : Bool := Nat.beq f 65
def giveT (f : Nat) : Bool := false
def cutT (f r : Nat) : Bool := (Nat.beq f 52 && Nat.beq r 10) || (Nat.beq f 52 && Nat.beq r 8) || (Nat.beq f 36 && Nat.beq r 23)
def cfg : Cfg := ⟨modeT, focT, nilT, giveT, cutT⟩
open Classical in
noncomputable def okU : Bool := decide (∀ _i : Nat, (bif okT then true else false) = true)
theorem okU_eq : okU = true := by unfold okU; rw [okT_eq]; simp
open Classical in
noncomputable def okV : Bool := decide (∀ _i : Nat, (bif okU then true else false) = true)
theorem okV_eq : okV = true := by unfold okV; rw [okU_eq]; simp
open Classical in
noncomputable def okW : Bool := decide (∀ _i : Nat, (bif okV then true else false) = true)
theorem okW_eq : okW = true := by unfold okW; rw [okV_eq]; simp
abbrev vslTermS (x : AV) : AV := .sl (asN x) 3 fun i => lstG [nI (asI (asG x i 0)), nI (asI (asG x i 1)), .S (asS (asG x i 2))]
abbrev vowTermS (x : AV) : AV := .own (asN x) 3 fun i => lstG [nI (asI (asG x i 0)), nI (asI (asG x i 1)), .S (asS (asG x i 2))]
abbrev vslCallS (x : AV) : AV := .sl (asN x) 9 fun i => lstG [nI (asI (asG x i 0)), nI (asI (asG x i 1)), nI (asI (asG x i 2)), nI (asI (asG x i 3)), .S (asS (asG x i 4)), nI (asI (asG x i 5)), nI (asI (asG x i 6)), .S (asS (asG x i 7)), vslTermS (asG x i 8)]
abbrev vowCallS (x : AV) : AV := .own (asN x) 9 fun i => lstG [nI (asI (asG x i 0)), nI (asI (asG x i 1)), nI (asI (asG x i 2)), nI (asI (asG x i 3)), .S (asS (asG x i 4)), nI (asI (asG x i 5)), nI (asI (asG x i 6)), .S (asS (asG x i 7)), vowTermS (asG x i 8)]
abbrev vslCallSS (x : AV) : AV := .sl (asN x) 1 fun i => lstG [vslCallS (asG x i 0)]
abbrev vowCallSS (x : AV) : AV := .own (asN x) 1 fun i => lstG [vowCallS (asG x i 0)]
abbrev vslMarkS (x : AV) : AV := .sl (asN x) 9 fun i => lstG [nI (asI (asG x i 0)), nI (asI (asG x i 1)), nI (asI (asG x i 2)), nI (asI (asG x i 3)), nI (asI (asG x i 4)), nI (asI (asG x i 5)), nI (asI (asG x i 6)), nI (asI (asG x i 7)), .S (asS (asG x i 8))]
abbrev vowMarkS (x : AV) : AV := .own (asN x) 9 fun i => lstG [nI (asI (asG x i 0)), nI (asI (asG x i 1)), nI (asI (asG x i 2)), nI (asI (asG x i 3)), nI (asI (asG x i 4)), nI (asI (asG x i 5)), nI (asI (asG x i 6)), nI (asI (asG x i 7)), .S (asS (asG x i 8))]
abbrev vslRecS (x : AV) : AV := .sl (asN x) 14 fun i => lstG [nI (asI (asG x i 0)), nI (asI (asG x i 1)), nI (asI (asG x i 2)), nI (asI (asG x i 3)), nI (asI (asG x i 4)), nI (asI (asG x i 5)), .S (asS (asG x i 6)), nI (asI (asG x i 7)), nI (asI (asG x i 8)), .S (asS (asG x i 9)), vslTermS (asG x i 10), nI (asI (asG x i 11)), nI (asI (asG x i 12)), nI (asI (asG x i 13))]
abbrev vowRecS (x : AV) : AV := .own (asN x) 14 fun i => lstG [nI (asI (asG x i 0)), nI (asI (asG x i 1)), nI (asI (asG x i 2)), nI (asI (asG x i 3)), nI (asI (asG x i 4)), nI (asI (asG x i 5)), .S (asS (asG x i 6)), nI (asI (asG x i 7)), nI (asI (asG x i 8)), .S (asS (asG x i 9)), vowTermS (asG x i 10), nI (asI (asG x i 11)), nI (asI (asG x i 12)), nI (asI (asG x i 13))]
end Go.Fw
