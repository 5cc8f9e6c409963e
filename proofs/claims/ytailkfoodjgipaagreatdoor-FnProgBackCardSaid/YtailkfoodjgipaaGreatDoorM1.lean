/- Trees of the functions' bodies, as printed by the framework's evaluation. -/
import Derived.Test.YtailkfoodjgipaaGreatDoorProg
import Derived.Test.YtailkfoodjgipaaGreatDoorFyB
import Derived.KernelRfl
import Derived.Test.YtailkfoodjgipaaGreatDoorK
set_option linter.unusedVariables false
set_option maxRecDepth 100000
namespace Go.Fw
open Go.Proofs
theorem h37a (Γ : Orc) (H : Hd) (c : VCall) (ws : List ByteArray) (q : Bool) (z : Int) : hed Tryz.prog cfg Γ 23 H [] [true, true, true, true, false, false] (hdS [(1, .pb 65 0), (4, .pb 68 0), (5, .pb 69 0), (6, .clo 50 2 (lstG [.pb 69 0, .pb 68 0])), (14, nI z)] [(643072, ⟨ws.length, 1, gsStrS ws⟩)] [(65, 9, [nI c.Op, nI c.A, nI c.B, nI c.Tok, .S c.Name, nI c.Msg.Kind, nI c.Msg.Num, .S c.Msg.Text, slTermS c.Filter]), (68, 1, [.rf 643072]), (69, 1, [.B q])]) =
  bif decide (z = 13) then
    (bif decide (ws.length + 1 ≤ 4294967296) && true && true && true && true then
      (bif decide (c.Op = 7) then
        (H [true, true, true, true, true, false, false] (hdS [(1, AV.pb 65 0), (4, AV.pb 68 0), (5, AV.pb 69 0), (6, AV.clo 50 2 (lstG [AV.pb 69 0, AV.pb 68 0])), (40, AV.B true)] [(643072, ⟨ws.length + 1, 1, fun i => lstG [AV.S (bif decide (i < ws.length) then ws.getD i ByteArray.empty else bif decide (i - ws.length = 0) then c.Name else ByteArray.empty)]⟩)] [(65, 9, [nI c.Op, nI c.A, nI c.B, nI c.Tok, AV.S c.Name, nI c.Msg.Kind, nI c.Msg.Num, AV.S c.Msg.Text, slTermS c.Filter]), (68, 1, [AV.rf 643072]), (69, 1, [AV.B q])]))
      else
        (H [true, true, true, true, true, false, false] (hdS [(1, AV.pb 65 0), (4, AV.pb 68 0), (5, AV.pb 69 0), (6, AV.clo 50 2 (lstG [AV.pb 69 0, AV.pb 68 0])), (40, AV.B (decide (c.Op = 19)))] [(643072, ⟨ws.length + 1, 1, fun i => lstG [AV.S (bif decide (i < ws.length) then ws.getD i ByteArray.empty else bif decide (i - ws.length = 0) then c.Name else ByteArray.empty)]⟩)] [(65, 9, [nI c.Op, nI c.A, nI c.B, nI c.Tok, AV.S c.Name, nI c.Msg.Kind, nI c.Msg.Num, AV.S c.Msg.Text, slTermS c.Filter]), (68, 1, [AV.rf 643072]), (69, 1, [AV.B q])])))
    else
      (none))
  else
    (bif decide (z = 15) then
      (bif decide (z = 15) then
        (Option.bind (Γ 50 [nI c.B, AV.pb 0 0, AV.pb 1 0] [AV.nbx 1 (lstG [AV.B q]), AV.nbx 1 (lstG [AV.own ws.length 1 fun i => lstG [AV.S (ws.getD i ByteArray.empty)]])]) fun r3 =>
        bif decide (c.Op = 7) then
          (H [true, true, true, true, true, false, false] (hdS [(1, AV.pb 65 0), (4, AV.pb 68 0), (5, AV.pb 69 0), (6, AV.clo 50 2 (lstG [AV.pb 69 0, AV.pb 68 0])), (40, AV.B true)] [(643072, ⟨asN (asA (r3.snd.tail.headD AV.bad) 0), 1, fun i => lstG [AV.S (asS (asG (asA (r3.snd.tail.headD AV.bad) 0) i 0))]⟩)] [(65, 9, [nI c.Op, nI c.A, nI c.B, nI c.Tok, AV.S c.Name, nI c.Msg.Kind, nI c.Msg.Num, AV.S c.Msg.Text, slTermS c.Filter]), (68, 1, [AV.rf 643072]), (69, 1, [AV.B (asB (asA (r3.snd.headD AV.bad) 0))])]))
        else
          (H [true, true, true, true, true, false, false] (hdS [(1, AV.pb 65 0), (4, AV.pb 68 0), (5, AV.pb 69 0), (6, AV.clo 50 2 (lstG [AV.pb 69 0, AV.pb 68 0])), (40, AV.B (decide (c.Op = 19)))] [(643072, ⟨asN (asA (r3.snd.tail.headD AV.bad) 0), 1, fun i => lstG [AV.S (asS (asG (asA (r3.snd.tail.headD AV.bad) 0) i 0))]⟩)] [(65, 9, [nI c.Op, nI c.A, nI c.B, nI c.Tok, AV.S c.Name, nI c.Msg.Kind, nI c.Msg.Num, AV.S c.Msg.Text, slTermS c.Filter]), (68, 1, [AV.rf 643072]), (69, 1, [AV.B (asB (asA (r3.snd.headD AV.bad) 0))])])))
      else
        (Option.bind (Γ 50 [nI c.A, AV.pb 0 0, AV.pb 1 0] [AV.nbx 1 (lstG [AV.B q]), AV.nbx 1 (lstG [AV.own ws.length 1 fun i => lstG [AV.S (ws.getD i ByteArray.empty)]])]) fun r3 =>
        bif decide (c.Op = 7) then
          (H [true, true, true, true, true, false, false] (hdS [(1, AV.pb 65 0), (4, AV.pb 68 0), (5, AV.pb 69 0), (6, AV.clo 50 2 (lstG [AV.pb 69 0, AV.pb 68 0])), (40, AV.B true)] [(643072, ⟨asN (asA (r3.snd.tail.headD AV.bad) 0), 1, fun i => lstG [AV.S (asS (asG (asA (r3.snd.tail.headD AV.bad) 0) i 0))]⟩)] [(65, 9, [nI c.Op, nI c.A, nI c.B, nI c.Tok, AV.S c.Name, nI c.Msg.Kind, nI c.Msg.Num, AV.S c.Msg.Text, slTermS c.Filter]), (68, 1, [AV.rf 643072]), (69, 1, [AV.B (asB (asA (r3.snd.headD AV.bad) 0))])]))
        else
          (H [true, true, true, true, true, false, false] (hdS [(1, AV.pb 65 0), (4, AV.pb 68 0), (5, AV.pb 69 0), (6, AV.clo 50 2 (lstG [AV.pb 69 0, AV.pb 68 0])), (40, AV.B (decide (c.Op = 19)))] [(643072, ⟨asN (asA (r3.snd.tail.headD AV.bad) 0), 1, fun i => lstG [AV.S (asS (asG (asA (r3.snd.tail.headD AV.bad) 0) i 0))]⟩)] [(65, 9, [nI c.Op, nI c.A, nI c.B, nI c.Tok, AV.S c.Name, nI c.Msg.Kind, nI c.Msg.Num, AV.S c.Msg.Text, slTermS c.Filter]), (68, 1, [AV.rf 643072]), (69, 1, [AV.B (asB (asA (r3.snd.headD AV.bad) 0))])]))))
    else
      (bif decide (z = 16) then
        (Option.bind (Γ 50 [nI c.B, AV.pb 0 0, AV.pb 1 0] [AV.nbx 1 (lstG [AV.B q]), AV.nbx 1 (lstG [AV.own ws.length 1 fun i => lstG [AV.S (ws.getD i ByteArray.empty)]])]) fun r3 =>
        bif decide (c.Op = 7) then
          (H [true, true, true, true, true, false, false] (hdS [(1, AV.pb 65 0), (4, AV.pb 68 0), (5, AV.pb 69 0), (6, AV.clo 50 2 (lstG [AV.pb 69 0, AV.pb 68 0])), (40, AV.B true)] [(643072, ⟨asN (asA (r3.snd.tail.headD AV.bad) 0), 1, fun i => lstG [AV.S (asS (asG (asA (r3.snd.tail.headD AV.bad) 0) i 0))]⟩)] [(65, 9, [nI c.Op, nI c.A, nI c.B, nI c.Tok, AV.S c.Name, nI c.Msg.Kind, nI c.Msg.Num, AV.S c.Msg.Text, slTermS c.Filter]), (68, 1, [AV.rf 643072]), (69, 1, [AV.B (asB (asA (r3.snd.headD AV.bad) 0))])]))
        else
          (H [true, true, true, true, true, false, false] (hdS [(1, AV.pb 65 0), (4, AV.pb 68 0), (5, AV.pb 69 0), (6, AV.clo 50 2 (lstG [AV.pb 69 0, AV.pb 68 0])), (40, AV.B (decide (c.Op = 19)))] [(643072, ⟨asN (asA (r3.snd.tail.headD AV.bad) 0), 1, fun i => lstG [AV.S (asS (asG (asA (r3.snd.tail.headD AV.bad) 0) i 0))]⟩)] [(65, 9, [nI c.Op, nI c.A, nI c.B, nI c.Tok, AV.S c.Name, nI c.Msg.Kind, nI c.Msg.Num, AV.S c.Msg.Text, slTermS c.Filter]), (68, 1, [AV.rf 643072]), (69, 1, [AV.B (asB (asA (r3.snd.headD AV.bad) 0))])])))
      else
        (Option.bind (Γ 50 [nI c.A, AV.pb 0 0, AV.pb 1 0] [AV.nbx 1 (lstG [AV.B q]), AV.nbx 1 (lstG [AV.own ws.length 1 fun i => lstG [AV.S (ws.getD i ByteArray.empty)]])]) fun r3 =>
        bif decide (c.Op = 7) then
          (H [true, true, true, true, true, false, false] (hdS [(1, AV.pb 65 0), (4, AV.pb 68 0), (5, AV.pb 69 0), (6, AV.clo 50 2 (lstG [AV.pb 69 0, AV.pb 68 0])), (40, AV.B true)] [(643072, ⟨asN (asA (r3.snd.tail.headD AV.bad) 0), 1, fun i => lstG [AV.S (asS (asG (asA (r3.snd.tail.headD AV.bad) 0) i 0))]⟩)] [(65, 9, [nI c.Op, nI c.A, nI c.B, nI c.Tok, AV.S c.Name, nI c.Msg.Kind, nI c.Msg.Num, AV.S c.Msg.Text, slTermS c.Filter]), (68, 1, [AV.rf 643072]), (69, 1, [AV.B (asB (asA (r3.snd.headD AV.bad) 0))])]))
        else
          (H [true, true, true, true, true, false, false] (hdS [(1, AV.pb 65 0), (4, AV.pb 68 0), (5, AV.pb 69 0), (6, AV.clo 50 2 (lstG [AV.pb 69 0, AV.pb 68 0])), (40, AV.B (decide (c.Op = 19)))] [(643072, ⟨asN (asA (r3.snd.tail.headD AV.bad) 0), 1, fun i => lstG [AV.S (asS (asG (asA (r3.snd.tail.headD AV.bad) 0) i 0))]⟩)] [(65, 9, [nI c.Op, nI c.A, nI c.B, nI c.Tok, AV.S c.Name, nI c.Msg.Kind, nI c.Msg.Num, AV.S c.Msg.Text, slTermS c.Filter]), (68, 1, [AV.rf 643072]), (69, 1, [AV.B (asB (asA (r3.snd.headD AV.bad) 0))])]))))) := by kernel_rfl
theorem h37b (Γ : Orc) (H : Hd) (c : VCall) (ws : List ByteArray) (q : Bool) (z : Bool) : hed Tryz.prog cfg Γ 23 H [] [true, true, true, true, true, false, false] (hdS [(1, .pb 65 0), (4, .pb 68 0), (5, .pb 69 0), (6, .clo 50 2 (lstG [.pb 69 0, .pb 68 0])), (40, .B z)] [(643072, ⟨ws.length, 1, gsStrS ws⟩)] [(65, 9, [nI c.Op, nI c.A, nI c.B, nI c.Tok, .S c.Name, nI c.Msg.Kind, nI c.Msg.Num, .S c.Msg.Text, slTermS c.Filter]), (68, 1, [.rf 643072]), (69, 1, [.B q])]) =
  bif z then
    (Option.bind (Γ 50 [nI c.B, AV.pb 0 0, AV.pb 1 0] [AV.nbx 1 (lstG [AV.B q]), AV.nbx 1 (lstG [AV.own ws.length 1 fun i => lstG [AV.S (ws.getD i ByteArray.empty)]])]) fun r1 =>
    H [true, true, true, true, true, true, false, false] (hdS [(1, AV.pb 65 0), (4, AV.pb 68 0), (5, AV.pb 69 0), (6, AV.clo 50 2 (lstG [AV.pb 69 0, AV.pb 68 0])), (47, AV.B (decide (0 ≤ c.Tok)))] [(643072, ⟨asN (asA (r1.snd.tail.headD AV.bad) 0), 1, fun i => lstG [AV.S (asS (asG (asA (r1.snd.tail.headD AV.bad) 0) i 0))]⟩)] [(65, 9, [nI c.Op, nI c.A, nI c.B, nI c.Tok, AV.S c.Name, nI c.Msg.Kind, nI c.Msg.Num, AV.S c.Msg.Text, slTermS c.Filter]), (68, 1, [AV.rf 643072]), (69, 1, [AV.B (asB (asA (r1.snd.headD AV.bad) 0))])]))
  else
    (H [true, true, true, true, true, true, false, false] (hdS [(1, AV.pb 65 0), (4, AV.pb 68 0), (5, AV.pb 69 0), (6, AV.clo 50 2 (lstG [AV.pb 69 0, AV.pb 68 0])), (47, AV.B (decide (0 ≤ c.Tok)))] [(643072, ⟨ws.length, 1, fun i => lstG [AV.S (ws.getD i ByteArray.empty)]⟩)] [(65, 9, [nI c.Op, nI c.A, nI c.B, nI c.Tok, AV.S c.Name, nI c.Msg.Kind, nI c.Msg.Num, AV.S c.Msg.Text, slTermS c.Filter]), (68, 1, [AV.rf 643072]), (69, 1, [AV.B q])])) := by kernel_rfl
theorem h37c (Γ : Orc) (H : Hd) (c : VCall) (ws : List ByteArray) (q : Bool) (z : Bool) : hed Tryz.prog cfg Γ 23 H [] [true, true, true, true, true, true, false, false] (hdS [(1, .pb 65 0), (4, .pb 68 0), (5, .pb 69 0), (6, .clo 50 2 (lstG [.pb 69 0, .pb 68 0])), (47, .B z)] [(643072, ⟨ws.length, 1, gsStrS ws⟩)] [(65, 9, [nI c.Op, nI c.A, nI c.B, nI c.Tok, .S c.Name, nI c.Msg.Kind, nI c.Msg.Num, .S c.Msg.Text, slTermS c.Filter]), (68, 1, [.rf 643072]), (69, 1, [.B q])]) =
  bif z then
    (bif decide (ws.length + 1 ≤ 4294967296) && true && true && true && true then
      (Option.bind (Γ 50 [nI c.Tok, AV.pb 0 0, AV.pb 1 0] [AV.nbx 1 (lstG [AV.B q]), AV.nbx 1 (lstG [AV.own (ws.length + 1) 1 fun i j => mrg (decide (i < ws.length)) (gsStrS ws i j) (mrg (decide (i - ws.length = 0)) (lstG [AV.S (bs [98, 121])] j) (lstG [AV.S ByteArray.empty] j)).noOwn])]) fun r2 =>
      bif decide (c.Op = 9) then
        (H [true, true, true, true, true, true, true, false, false] (hdS [(1, AV.pb 65 0), (4, AV.pb 68 0), (5, AV.pb 69 0), (62, AV.B true)] [(643072, ⟨asN (asA (r2.snd.tail.headD AV.bad) 0), 1, fun i => lstG [AV.S (asS (asG (asA (r2.snd.tail.headD AV.bad) 0) i 0))]⟩)] [(65, 9, [nI c.Op, nI c.A, nI c.B, nI c.Tok, AV.S c.Name, nI c.Msg.Kind, nI c.Msg.Num, AV.S c.Msg.Text, slTermS c.Filter]), (68, 1, [AV.rf 643072]), (69, 1, [AV.B (asB (asA (r2.snd.headD AV.bad) 0))])]))
      else
        (H [true, true, true, true, true, true, true, false, false] (hdS [(1, AV.pb 65 0), (4, AV.pb 68 0), (5, AV.pb 69 0), (62, AV.B (decide (c.Op = 13)))] [(643072, ⟨asN (asA (r2.snd.tail.headD AV.bad) 0), 1, fun i => lstG [AV.S (asS (asG (asA (r2.snd.tail.headD AV.bad) 0) i 0))]⟩)] [(65, 9, [nI c.Op, nI c.A, nI c.B, nI c.Tok, AV.S c.Name, nI c.Msg.Kind, nI c.Msg.Num, AV.S c.Msg.Text, slTermS c.Filter]), (68, 1, [AV.rf 643072]), (69, 1, [AV.B (asB (asA (r2.snd.headD AV.bad) 0))])])))
    else
      (none))
  else
    (bif decide (c.Op = 9) then
      (H [true, true, true, true, true, true, true, false, false] (hdS [(1, AV.pb 65 0), (4, AV.pb 68 0), (5, AV.pb 69 0), (62, AV.B true)] [(643072, ⟨ws.length, 1, fun i => lstG [AV.S (ws.getD i ByteArray.empty)]⟩)] [(65, 9, [nI c.Op, nI c.A, nI c.B, nI c.Tok, AV.S c.Name, nI c.Msg.Kind, nI c.Msg.Num, AV.S c.Msg.Text, slTermS c.Filter]), (68, 1, [AV.rf 643072]), (69, 1, [AV.B q])]))
    else
      (H [true, true, true, true, true, true, true, false, false] (hdS [(1, AV.pb 65 0), (4, AV.pb 68 0), (5, AV.pb 69 0), (62, AV.B (decide (c.Op = 13)))] [(643072, ⟨ws.length, 1, fun i => lstG [AV.S (ws.getD i ByteArray.empty)]⟩)] [(65, 9, [nI c.Op, nI c.A, nI c.B, nI c.Tok, AV.S c.Name, nI c.Msg.Kind, nI c.Msg.Num, AV.S c.Msg.Text, slTermS c.Filter]), (68, 1, [AV.rf 643072]), (69, 1, [AV.B q])]))) := by kernel_rfl
theorem h37d (Γ : Orc) (H : Hd) (c : VCall) (ws : List ByteArray) (q : Bool) (z : Bool) : hed Tryz.prog cfg Γ 23 H [] [true, true, true, true, true, true, true, false, false] (hdS [(1, .pb 65 0), (4, .pb 68 0), (5, .pb 69 0), (62, .B z)] [(643072, ⟨ws.length, 1, gsStrS ws⟩)] [(65, 9, [nI c.Op, nI c.A, nI c.B, nI c.Tok, .S c.Name, nI c.Msg.Kind, nI c.Msg.Num, .S c.Msg.Text, slTermS c.Filter]), (68, 1, [.rf 643072]), (69, 1, [.B q])]) =
  bif z then
    (and2
    (Option.bind (Γ 52 [AV.ag 3 (lstG [nI c.Msg.Kind, nI c.Msg.Num, AV.S c.Msg.Text])] []) fun r2 =>
      bif decide (ws.length + 1 ≤ 4294967296) && true && true && true && true then
        (bif decide (c.Op = 14) then
          (H [true, true, true, true, true, true, true, true, false, false] (hdS [(1, AV.pb 65 0), (4, AV.pb 68 0), (5, AV.pb 69 0), (76, AV.B (decide (c.B = 1)))] [(643072, ⟨ws.length + 1, 1, fun i => lstG [AV.S (bif decide (i < ws.length) then ws.getD i ByteArray.empty else bif decide (i - ws.length = 0) then asS r2.fst else ByteArray.empty)]⟩)] [(65, 9, [nI c.Op, nI c.A, nI c.B, nI c.Tok, AV.S c.Name, nI c.Msg.Kind, nI c.Msg.Num, AV.S c.Msg.Text, slTermS c.Filter]), (68, 1, [AV.rf 643072]), (69, 1, [AV.B q])]))
        else
          (H [true, true, true, true, true, true, true, true, false, false] (hdS [(1, AV.pb 65 0), (4, AV.pb 68 0), (5, AV.pb 69 0), (76, AV.B false)] [(643072, ⟨ws.length + 1, 1, fun i => lstG [AV.S (bif decide (i < ws.length) then ws.getD i ByteArray.empty else bif decide (i - ws.length = 0) then asS r2.fst else ByteArray.empty)]⟩)] [(65, 9, [nI c.Op, nI c.A, nI c.B, nI c.Tok, AV.S c.Name, nI c.Msg.Kind, nI c.Msg.Num, AV.S c.Msg.Text, slTermS c.Filter]), (68, 1, [AV.rf 643072]), (69, 1, [AV.B q])])))
      else
        (none))
    (Option.bind (Γ 52 [AV.ag 3 (lstG [nI c.Msg.Kind, nI c.Msg.Num, AV.S c.Msg.Text])] []) fun r2 =>
      bif decide (ws.length + 1 ≤ 4294967296) && true && true && true && true then
        (bif decide (c.Op = 14) then
          (H [true, true, true, true, true, true, true, true, false, false] (hdS [(1, AV.pb 65 0), (4, AV.pb 68 0), (5, AV.pb 69 0), (76, AV.B (decide (c.B = 1)))] [(643072, ⟨ws.length + 1, 1, fun i => lstG [AV.S (bif decide (i < ws.length) then ws.getD i ByteArray.empty else bif decide (i - ws.length = 0) then asS r2.fst else ByteArray.empty)]⟩)] [(65, 9, [nI c.Op, nI c.A, nI c.B, nI c.Tok, AV.S c.Name, nI c.Msg.Kind, nI c.Msg.Num, AV.S c.Msg.Text, slTermS c.Filter]), (68, 1, [AV.rf 643072]), (69, 1, [AV.B q])]))
        else
          (H [true, true, true, true, true, true, true, true, false, false] (hdS [(1, AV.pb 65 0), (4, AV.pb 68 0), (5, AV.pb 69 0), (76, AV.B false)] [(643072, ⟨ws.length + 1, 1, fun i => lstG [AV.S (bif decide (i < ws.length) then ws.getD i ByteArray.empty else bif decide (i - ws.length = 0) then asS r2.fst else ByteArray.empty)]⟩)] [(65, 9, [nI c.Op, nI c.A, nI c.B, nI c.Tok, AV.S c.Name, nI c.Msg.Kind, nI c.Msg.Num, AV.S c.Msg.Text, slTermS c.Filter]), (68, 1, [AV.rf 643072]), (69, 1, [AV.B q])])))
      else
        (none)))
  else
    (bif decide (c.Op = 14) then
      (H [true, true, true, true, true, true, true, true, false, false] (hdS [(1, AV.pb 65 0), (4, AV.pb 68 0), (5, AV.pb 69 0), (76, AV.B (decide (c.B = 1)))] [(643072, ⟨ws.length, 1, fun i => lstG [AV.S (ws.getD i ByteArray.empty)]⟩)] [(65, 9, [nI c.Op, nI c.A, nI c.B, nI c.Tok, AV.S c.Name, nI c.Msg.Kind, nI c.Msg.Num, AV.S c.Msg.Text, slTermS c.Filter]), (68, 1, [AV.rf 643072]), (69, 1, [AV.B q])]))
    else
      (H [true, true, true, true, true, true, true, true, false, false] (hdS [(1, AV.pb 65 0), (4, AV.pb 68 0), (5, AV.pb 69 0), (76, AV.B false)] [(643072, ⟨ws.length, 1, fun i => lstG [AV.S (ws.getD i ByteArray.empty)]⟩)] [(65, 9, [nI c.Op, nI c.A, nI c.B, nI c.Tok, AV.S c.Name, nI c.Msg.Kind, nI c.Msg.Num, AV.S c.Msg.Text, slTermS c.Filter]), (68, 1, [AV.rf 643072]), (69, 1, [AV.B q])]))) := by kernel_rfl
theorem h37e (Γ : Orc) (H : Hd) (c : VCall) (ws : List ByteArray) (q : Bool) (z : Bool) : hed Tryz.prog cfg Γ 23 H [] [true, true, true, true, true, true, true, true, false, false] (hdS [(1, .pb 65 0), (4, .pb 68 0), (5, .pb 69 0), (76, .B z)] [(643072, ⟨ws.length, 1, gsStrS ws⟩)] [(65, 9, [nI c.Op, nI c.A, nI c.B, nI c.Tok, .S c.Name, nI c.Msg.Kind, nI c.Msg.Num, .S c.Msg.Text, slTermS c.Filter]), (68, 1, [.rf 643072]), (69, 1, [.B q])]) =
  bif z then
    (bif decide (ws.length + 1 ≤ 4294967296) && true && true && true && true then
      (Option.bind (Γ 53 [slTermS c.Filter] []) fun r2 =>
      bif !(asS (asA r2.fst 0)).toList == ByteArray.empty.toList then
        (bif decide (ws.length + 1 + 2 ≤ 4294967296) && true && true && true && true then
          (bif bif okT then true else false then
            (some (AV.tup 2 (lstG [AV.own (ws.length + 1 + 2) 1 fun i => lstG [AV.S (bif decide (i < ws.length + 1) then bif decide (i < ws.length) then ws.getD i ByteArray.empty else bif decide (i - ws.length = 0) then (bs [98, 97, 99, 107]) else ByteArray.empty else bif decide (i - (ws.length + 1) = 0) then (bs [105, 102]) else bif decide (i - (ws.length + 1) - 1 = 0) then asS (asA r2.fst 0) else ByteArray.empty)], AV.B q]), []))
          else
            (none))
        else
          (none))
      else
        (bif bif okT then true else false then
          (some (AV.tup 2 (lstG [AV.own (ws.length + 1) 1 fun i => lstG [AV.S (bif decide (i < ws.length) then ws.getD i ByteArray.empty else bif decide (i - ws.length = 0) then (bs [98, 97, 99, 107]) else ByteArray.empty)], AV.B q]), []))
        else
          (none)))
    else
      (none))
  else
    (Option.bind (Γ 53 [slTermS c.Filter] []) fun r1 =>
    bif !(asS (asA r1.fst 0)).toList == ByteArray.empty.toList then
      (bif decide (ws.length + 2 ≤ 4294967296) && true && true && true && true then
        (bif bif okT then true else false then
          (some (AV.tup 2 (lstG [AV.own (ws.length + 2) 1 fun i => lstG [AV.S (bif decide (i < ws.length) then ws.getD i ByteArray.empty else bif decide (i - ws.length = 0) then (bs [105, 102]) else bif decide (i - ws.length - 1 = 0) then asS (asA r1.fst 0) else ByteArray.empty)], AV.B q]), []))
        else
          (none))
      else
        (none))
    else
      (bif bif okT then true else false then
        (some (AV.tup 2 (lstG [AV.own ws.length 1 fun i => lstG [AV.S (ws.getD i ByteArray.empty)], AV.B q]), []))
      else
        (none))) := by kernel_rfl
end Go.Fw
