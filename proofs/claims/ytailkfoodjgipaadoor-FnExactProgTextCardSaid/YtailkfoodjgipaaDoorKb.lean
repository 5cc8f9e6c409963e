/- Trees of the functions' bodies, as printed by the framework's evaluation. -/
import Derived.Test.YtailkfoodjgipaaDoorProg
import Derived.Test.YtailkfoodjgipaaDoorFyB
import Derived.KernelRfl
import Derived.Test.YtailkfoodjgipaaDoorK
set_option linter.unusedVariables false
set_option maxRecDepth 100000
namespace Go.Fw
open Go.Proofs
theorem h27a (Γ : Orc) (H : Hd) (c : VCall) (s t : Int) : hed Tryd.prog cfg Γ 27 H [] [true, true, true, false, false] (hdS [(1, .pb 65 0), (3, .pb 67 0), (21, nI s)] [] [(65, 9, [nI c.Op, nI c.A, nI c.B, nI c.Tok, .S c.Name, nI c.Msg.Kind, nI c.Msg.Num, .S c.Msg.Text, slTermS c.Filter]), (67, 9, [nI c.Op, nI c.A, nI 0, nI t, .S ByteArray.empty, nI 0, nI 0, .S ByteArray.empty, .nsl 3 (fun _ => lstG [nI 0, nI 0, .S ByteArray.empty])])]) =
  bif decide (s = 7) then
    (bif decide (s = 7) then
      (bif !decide (c.Op = 14) then
        (H [true, true, true, true, false, false] (hdS [(1, AV.pb 65 0), (3, AV.pb 67 0), (99, AV.B (decide (0 < zN c.Filter.length)))] [] [(65, 9, [nI c.Op, nI c.A, nI c.B, nI c.Tok, AV.S c.Name, nI c.Msg.Kind, nI c.Msg.Num, AV.S c.Msg.Text, slTermS c.Filter]), (67, 9, [nI c.Op, nI c.A, nI c.B, nI t, AV.S ByteArray.empty, nI 0, nI 0, AV.S ByteArray.empty, AV.nsl 3 fun x => lstG [nI 0, nI 0, AV.S ByteArray.empty]])]))
      else
        (H [true, true, true, true, false, false] (hdS [(1, AV.pb 65 0), (3, AV.pb 67 0), (99, AV.B false)] [] [(65, 9, [nI c.Op, nI c.A, nI c.B, nI c.Tok, AV.S c.Name, nI c.Msg.Kind, nI c.Msg.Num, AV.S c.Msg.Text, slTermS c.Filter]), (67, 9, [nI c.Op, nI c.A, nI c.B, nI t, AV.S ByteArray.empty, nI 0, nI 0, AV.S ByteArray.empty, AV.nsl 3 fun x => lstG [nI 0, nI 0, AV.S ByteArray.empty]])])))
    else
      (bif decide (s = 9) then
        (Option.bind (Γ 31 [nI c.B, nI 1, nI 4] []) fun r3 =>
        bif !asB r3.fst then
          (some (AV.B false, []))
        else
          (Option.bind (Γ 51 [AV.ag 3 (lstG [nI c.Msg.Kind, nI c.Msg.Num, AV.S c.Msg.Text])] []) fun r5 =>
          bif !asB r5.fst then
            (some (AV.B false, []))
          else
            (bif !decide (c.Op = 14) then
              (H [true, true, true, true, false, false] (hdS [(1, AV.pb 65 0), (3, AV.pb 67 0), (99, AV.B (decide (0 < zN c.Filter.length)))] [] [(65, 9, [nI c.Op, nI c.A, nI c.B, nI c.Tok, AV.S c.Name, nI c.Msg.Kind, nI c.Msg.Num, AV.S c.Msg.Text, slTermS c.Filter]), (67, 9, [nI c.Op, nI c.A, nI c.B, nI t, AV.S ByteArray.empty, nI c.Msg.Kind, nI c.Msg.Num, AV.S c.Msg.Text, AV.nsl 3 fun x => lstG [nI 0, nI 0, AV.S ByteArray.empty]])]))
            else
              (H [true, true, true, true, false, false] (hdS [(1, AV.pb 65 0), (3, AV.pb 67 0), (99, AV.B false)] [] [(65, 9, [nI c.Op, nI c.A, nI c.B, nI c.Tok, AV.S c.Name, nI c.Msg.Kind, nI c.Msg.Num, AV.S c.Msg.Text, slTermS c.Filter]), (67, 9, [nI c.Op, nI c.A, nI c.B, nI t, AV.S ByteArray.empty, nI c.Msg.Kind, nI c.Msg.Num, AV.S c.Msg.Text, AV.nsl 3 fun x => lstG [nI 0, nI 0, AV.S ByteArray.empty]])])))))
      else
        (bif decide (s = 13) then
          (Option.bind (Γ 52 [AV.S c.Name] []) fun r4 =>
          bif !asB r4.fst then
            (some (AV.B false, []))
          else
            (Option.bind (Γ 51 [AV.ag 3 (lstG [nI c.Msg.Kind, nI c.Msg.Num, AV.S c.Msg.Text])] []) fun r6 =>
            bif !asB r6.fst then
              (some (AV.B false, []))
            else
              (bif !decide (c.Op = 14) then
                (H [true, true, true, true, false, false] (hdS [(1, AV.pb 65 0), (3, AV.pb 67 0), (99, AV.B (decide (0 < zN c.Filter.length)))] [] [(65, 9, [nI c.Op, nI c.A, nI c.B, nI c.Tok, AV.S c.Name, nI c.Msg.Kind, nI c.Msg.Num, AV.S c.Msg.Text, slTermS c.Filter]), (67, 9, [nI c.Op, nI 0, nI 0, nI t, AV.S c.Name, nI c.Msg.Kind, nI c.Msg.Num, AV.S c.Msg.Text, AV.nsl 3 fun x => lstG [nI 0, nI 0, AV.S ByteArray.empty]])]))
              else
                (H [true, true, true, true, false, false] (hdS [(1, AV.pb 65 0), (3, AV.pb 67 0), (99, AV.B false)] [] [(65, 9, [nI c.Op, nI c.A, nI c.B, nI c.Tok, AV.S c.Name, nI c.Msg.Kind, nI c.Msg.Num, AV.S c.Msg.Text, slTermS c.Filter]), (67, 9, [nI c.Op, nI 0, nI 0, nI t, AV.S c.Name, nI c.Msg.Kind, nI c.Msg.Num, AV.S c.Msg.Text, AV.nsl 3 fun x => lstG [nI 0, nI 0, AV.S ByteArray.empty]])])))))
        else
          (bif decide (s = 14) then
            (bif !decide (c.B = 0) then
              (bif !decide (c.B = 1) then
                (some (AV.B false, []))
              else
                (Option.bind (Γ 53 [slTermS c.Filter] []) fun r7 =>
                bif !asB r7.fst then
                  (some (AV.B false, []))
                else
                  (bif !decide (c.Op = 14) then
                    (H [true, true, true, true, false, false] (hdS [(1, AV.pb 65 0), (3, AV.pb 67 0), (99, AV.B (decide (0 < zN c.Filter.length)))] [] [(65, 9, [nI c.Op, nI c.A, nI c.B, nI c.Tok, AV.S c.Name, nI c.Msg.Kind, nI c.Msg.Num, AV.S c.Msg.Text, slTermS c.Filter]), (67, 9, [nI c.Op, nI c.A, nI c.B, nI t, AV.S ByteArray.empty, nI 0, nI 0, AV.S ByteArray.empty, AV.nsl 3 fun x => lstG [nI 0, nI 0, AV.S ByteArray.empty]])]))
                  else
                    (H [true, true, true, true, false, false] (hdS [(1, AV.pb 65 0), (3, AV.pb 67 0), (99, AV.B false)] [] [(65, 9, [nI c.Op, nI c.A, nI c.B, nI c.Tok, AV.S c.Name, nI c.Msg.Kind, nI c.Msg.Num, AV.S c.Msg.Text, slTermS c.Filter]), (67, 9, [nI c.Op, nI c.A, nI c.B, nI t, AV.S ByteArray.empty, nI 0, nI 0, AV.S ByteArray.empty, AV.nsl 3 fun x => lstG [nI 0, nI 0, AV.S ByteArray.empty]])])))))
            else
              (Option.bind (Γ 53 [slTermS c.Filter] []) fun r6 =>
              bif !asB r6.fst then
                (some (AV.B false, []))
              else
                (bif !decide (c.Op = 14) then
                  (H [true, true, true, true, false, false] (hdS [(1, AV.pb 65 0), (3, AV.pb 67 0), (99, AV.B (decide (0 < zN c.Filter.length)))] [] [(65, 9, [nI c.Op, nI c.A, nI c.B, nI c.Tok, AV.S c.Name, nI c.Msg.Kind, nI c.Msg.Num, AV.S c.Msg.Text, slTermS c.Filter]), (67, 9, [nI c.Op, nI c.A, nI c.B, nI t, AV.S ByteArray.empty, nI 0, nI 0, AV.S ByteArray.empty, AV.nsl 3 fun x => lstG [nI 0, nI 0, AV.S ByteArray.empty]])]))
                else
                  (H [true, true, true, true, false, false] (hdS [(1, AV.pb 65 0), (3, AV.pb 67 0), (99, AV.B false)] [] [(65, 9, [nI c.Op, nI c.A, nI c.B, nI c.Tok, AV.S c.Name, nI c.Msg.Kind, nI c.Msg.Num, AV.S c.Msg.Text, slTermS c.Filter]), (67, 9, [nI c.Op, nI c.A, nI c.B, nI t, AV.S ByteArray.empty, nI 0, nI 0, AV.S ByteArray.empty, AV.nsl 3 fun x => lstG [nI 0, nI 0, AV.S ByteArray.empty]])])))))
          else
            (bif decide (s = 15) then
              (bif decide (s = 15) then
                (bif !decide (c.Op = 14) then
                  (H [true, true, true, true, false, false] (hdS [(1, AV.pb 65 0), (3, AV.pb 67 0), (99, AV.B (decide (0 < zN c.Filter.length)))] [] [(65, 9, [nI c.Op, nI c.A, nI c.B, nI c.Tok, AV.S c.Name, nI c.Msg.Kind, nI c.Msg.Num, AV.S c.Msg.Text, slTermS c.Filter]), (67, 9, [nI c.Op, nI 0, nI c.B, nI t, AV.S ByteArray.empty, nI 0, nI 0, AV.S ByteArray.empty, AV.nsl 3 fun x => lstG [nI 0, nI 0, AV.S ByteArray.empty]])]))
                else
                  (H [true, true, true, true, false, false] (hdS [(1, AV.pb 65 0), (3, AV.pb 67 0), (99, AV.B false)] [] [(65, 9, [nI c.Op, nI c.A, nI c.B, nI c.Tok, AV.S c.Name, nI c.Msg.Kind, nI c.Msg.Num, AV.S c.Msg.Text, slTermS c.Filter]), (67, 9, [nI c.Op, nI 0, nI c.B, nI t, AV.S ByteArray.empty, nI 0, nI 0, AV.S ByteArray.empty, AV.nsl 3 fun x => lstG [nI 0, nI 0, AV.S ByteArray.empty]])])))
              else
                (bif !decide (c.Op = 14) then
                  (H [true, true, true, true, false, false] (hdS [(1, AV.pb 65 0), (3, AV.pb 67 0), (99, AV.B (decide (0 < zN c.Filter.length)))] [] [(65, 9, [nI c.Op, nI c.A, nI c.B, nI c.Tok, AV.S c.Name, nI c.Msg.Kind, nI c.Msg.Num, AV.S c.Msg.Text, slTermS c.Filter]), (67, 9, [nI c.Op, nI c.A, nI 0, nI t, AV.S ByteArray.empty, nI 0, nI 0, AV.S ByteArray.empty, AV.nsl 3 fun x => lstG [nI 0, nI 0, AV.S ByteArray.empty]])]))
                else
                  (H [true, true, true, true, false, false] (hdS [(1, AV.pb 65 0), (3, AV.pb 67 0), (99, AV.B false)] [] [(65, 9, [nI c.Op, nI c.A, nI c.B, nI c.Tok, AV.S c.Name, nI c.Msg.Kind, nI c.Msg.Num, AV.S c.Msg.Text, slTermS c.Filter]), (67, 9, [nI c.Op, nI c.A, nI 0, nI t, AV.S ByteArray.empty, nI 0, nI 0, AV.S ByteArray.empty, AV.nsl 3 fun x => lstG [nI 0, nI 0, AV.S ByteArray.empty]])]))))
            else
              (bif decide (s = 16) then
                (bif !decide (c.Op = 14) then
                  (H [true, true, true, true, false, false] (hdS [(1, AV.pb 65 0), (3, AV.pb 67 0), (99, AV.B (decide (0 < zN c.Filter.length)))] [] [(65, 9, [nI c.Op, nI c.A, nI c.B, nI c.Tok, AV.S c.Name, nI c.Msg.Kind, nI c.Msg.Num, AV.S c.Msg.Text, slTermS c.Filter]), (67, 9, [nI c.Op, nI 0, nI c.B, nI t, AV.S ByteArray.empty, nI 0, nI 0, AV.S ByteArray.empty, AV.nsl 3 fun x => lstG [nI 0, nI 0, AV.S ByteArray.empty]])]))
                else
                  (H [true, true, true, true, false, false] (hdS [(1, AV.pb 65 0), (3, AV.pb 67 0), (99, AV.B false)] [] [(65, 9, [nI c.Op, nI c.A, nI c.B, nI c.Tok, AV.S c.Name, nI c.Msg.Kind, nI c.Msg.Num, AV.S c.Msg.Text, slTermS c.Filter]), (67, 9, [nI c.Op, nI 0, nI c.B, nI t, AV.S ByteArray.empty, nI 0, nI 0, AV.S ByteArray.empty, AV.nsl 3 fun x => lstG [nI 0, nI 0, AV.S ByteArray.empty]])])))
              else
                (bif !decide (c.Op = 14) then
                  (H [true, true, true, true, false, false] (hdS [(1, AV.pb 65 0), (3, AV.pb 67 0), (99, AV.B (decide (0 < zN c.Filter.length)))] [] [(65, 9, [nI c.Op, nI c.A, nI c.B, nI c.Tok, AV.S c.Name, nI c.Msg.Kind, nI c.Msg.Num, AV.S c.Msg.Text, slTermS c.Filter]), (67, 9, [nI c.Op, nI c.A, nI 0, nI t, AV.S ByteArray.empty, nI 0, nI 0, AV.S ByteArray.empty, AV.nsl 3 fun x => lstG [nI 0, nI 0, AV.S ByteArray.empty]])]))
                else
                  (H [true, true, true, true, false, false] (hdS [(1, AV.pb 65 0), (3, AV.pb 67 0), (99, AV.B false)] [] [(65, 9, [nI c.Op, nI c.A, nI c.B, nI c.Tok, AV.S c.Name, nI c.Msg.Kind, nI c.Msg.Num, AV.S c.Msg.Text, slTermS c.Filter]), (67, 9, [nI c.Op, nI c.A, nI 0, nI t, AV.S ByteArray.empty, nI 0, nI 0, AV.S ByteArray.empty, AV.nsl 3 fun x => lstG [nI 0, nI 0, AV.S ByteArray.empty]])])))))))))
  else
    (bif decide (s = 19) then
      (bif !decide (c.Op = 14) then
        (H [true, true, true, true, false, false] (hdS [(1, AV.pb 65 0), (3, AV.pb 67 0), (99, AV.B (decide (0 < zN c.Filter.length)))] [] [(65, 9, [nI c.Op, nI c.A, nI c.B, nI c.Tok, AV.S c.Name, nI c.Msg.Kind, nI c.Msg.Num, AV.S c.Msg.Text, slTermS c.Filter]), (67, 9, [nI c.Op, nI c.A, nI c.B, nI t, AV.S ByteArray.empty, nI 0, nI 0, AV.S ByteArray.empty, AV.nsl 3 fun x => lstG [nI 0, nI 0, AV.S ByteArray.empty]])]))
      else
        (H [true, true, true, true, false, false] (hdS [(1, AV.pb 65 0), (3, AV.pb 67 0), (99, AV.B false)] [] [(65, 9, [nI c.Op, nI c.A, nI c.B, nI c.Tok, AV.S c.Name, nI c.Msg.Kind, nI c.Msg.Num, AV.S c.Msg.Text, slTermS c.Filter]), (67, 9, [nI c.Op, nI c.A, nI c.B, nI t, AV.S ByteArray.empty, nI 0, nI 0, AV.S ByteArray.empty, AV.nsl 3 fun x => lstG [nI 0, nI 0, AV.S ByteArray.empty]])])))
    else
      (bif decide (s = 9) then
        (Option.bind (Γ 31 [nI c.B, nI 1, nI 4] []) fun r3 =>
        bif !asB r3.fst then
          (some (AV.B false, []))
        else
          (Option.bind (Γ 51 [AV.ag 3 (lstG [nI c.Msg.Kind, nI c.Msg.Num, AV.S c.Msg.Text])] []) fun r5 =>
          bif !asB r5.fst then
            (some (AV.B false, []))
          else
            (bif !decide (c.Op = 14) then
              (H [true, true, true, true, false, false] (hdS [(1, AV.pb 65 0), (3, AV.pb 67 0), (99, AV.B (decide (0 < zN c.Filter.length)))] [] [(65, 9, [nI c.Op, nI c.A, nI c.B, nI c.Tok, AV.S c.Name, nI c.Msg.Kind, nI c.Msg.Num, AV.S c.Msg.Text, slTermS c.Filter]), (67, 9, [nI c.Op, nI c.A, nI c.B, nI t, AV.S ByteArray.empty, nI c.Msg.Kind, nI c.Msg.Num, AV.S c.Msg.Text, AV.nsl 3 fun x => lstG [nI 0, nI 0, AV.S ByteArray.empty]])]))
            else
              (H [true, true, true, true, false, false] (hdS [(1, AV.pb 65 0), (3, AV.pb 67 0), (99, AV.B false)] [] [(65, 9, [nI c.Op, nI c.A, nI c.B, nI c.Tok, AV.S c.Name, nI c.Msg.Kind, nI c.Msg.Num, AV.S c.Msg.Text, slTermS c.Filter]), (67, 9, [nI c.Op, nI c.A, nI c.B, nI t, AV.S ByteArray.empty, nI c.Msg.Kind, nI c.Msg.Num, AV.S c.Msg.Text, AV.nsl 3 fun x => lstG [nI 0, nI 0, AV.S ByteArray.empty]])])))))
      else
        (bif decide (s = 13) then
          (Option.bind (Γ 52 [AV.S c.Name] []) fun r4 =>
          bif !asB r4.fst then
            (some (AV.B false, []))
          else
            (Option.bind (Γ 51 [AV.ag 3 (lstG [nI c.Msg.Kind, nI c.Msg.Num, AV.S c.Msg.Text])] []) fun r6 =>
            bif !asB r6.fst then
              (some (AV.B false, []))
            else
              (bif !decide (c.Op = 14) then
                (H [true, true, true, true, false, false] (hdS [(1, AV.pb 65 0), (3, AV.pb 67 0), (99, AV.B (decide (0 < zN c.Filter.length)))] [] [(65, 9, [nI c.Op, nI c.A, nI c.B, nI c.Tok, AV.S c.Name, nI c.Msg.Kind, nI c.Msg.Num, AV.S c.Msg.Text, slTermS c.Filter]), (67, 9, [nI c.Op, nI 0, nI 0, nI t, AV.S c.Name, nI c.Msg.Kind, nI c.Msg.Num, AV.S c.Msg.Text, AV.nsl 3 fun x => lstG [nI 0, nI 0, AV.S ByteArray.empty]])]))
              else
                (H [true, true, true, true, false, false] (hdS [(1, AV.pb 65 0), (3, AV.pb 67 0), (99, AV.B false)] [] [(65, 9, [nI c.Op, nI c.A, nI c.B, nI c.Tok, AV.S c.Name, nI c.Msg.Kind, nI c.Msg.Num, AV.S c.Msg.Text, slTermS c.Filter]), (67, 9, [nI c.Op, nI 0, nI 0, nI t, AV.S c.Name, nI c.Msg.Kind, nI c.Msg.Num, AV.S c.Msg.Text, AV.nsl 3 fun x => lstG [nI 0, nI 0, AV.S ByteArray.empty]])])))))
        else
          (bif decide (s = 14) then
            (bif !decide (c.B = 0) then
              (bif !decide (c.B = 1) then
                (some (AV.B false, []))
              else
                (Option.bind (Γ 53 [slTermS c.Filter] []) fun r7 =>
                bif !asB r7.fst then
                  (some (AV.B false, []))
                else
                  (bif !decide (c.Op = 14) then
                    (H [true, true, true, true, false, false] (hdS [(1, AV.pb 65 0), (3, AV.pb 67 0), (99, AV.B (decide (0 < zN c.Filter.length)))] [] [(65, 9, [nI c.Op, nI c.A, nI c.B, nI c.Tok, AV.S c.Name, nI c.Msg.Kind, nI c.Msg.Num, AV.S c.Msg.Text, slTermS c.Filter]), (67, 9, [nI c.Op, nI c.A, nI c.B, nI t, AV.S ByteArray.empty, nI 0, nI 0, AV.S ByteArray.empty, AV.nsl 3 fun x => lstG [nI 0, nI 0, AV.S ByteArray.empty]])]))
                  else
                    (H [true, true, true, true, false, false] (hdS [(1, AV.pb 65 0), (3, AV.pb 67 0), (99, AV.B false)] [] [(65, 9, [nI c.Op, nI c.A, nI c.B, nI c.Tok, AV.S c.Name, nI c.Msg.Kind, nI c.Msg.Num, AV.S c.Msg.Text, slTermS c.Filter]), (67, 9, [nI c.Op, nI c.A, nI c.B, nI t, AV.S ByteArray.empty, nI 0, nI 0, AV.S ByteArray.empty, AV.nsl 3 fun x => lstG [nI 0, nI 0, AV.S ByteArray.empty]])])))))
            else
              (Option.bind (Γ 53 [slTermS c.Filter] []) fun r6 =>
              bif !asB r6.fst then
                (some (AV.B false, []))
              else
                (bif !decide (c.Op = 14) then
                  (H [true, true, true, true, false, false] (hdS [(1, AV.pb 65 0), (3, AV.pb 67 0), (99, AV.B (decide (0 < zN c.Filter.length)))] [] [(65, 9, [nI c.Op, nI c.A, nI c.B, nI c.Tok, AV.S c.Name, nI c.Msg.Kind, nI c.Msg.Num, AV.S c.Msg.Text, slTermS c.Filter]), (67, 9, [nI c.Op, nI c.A, nI c.B, nI t, AV.S ByteArray.empty, nI 0, nI 0, AV.S ByteArray.empty, AV.nsl 3 fun x => lstG [nI 0, nI 0, AV.S ByteArray.empty]])]))
                else
                  (H [true, true, true, true, false, false] (hdS [(1, AV.pb 65 0), (3, AV.pb 67 0), (99, AV.B false)] [] [(65, 9, [nI c.Op, nI c.A, nI c.B, nI c.Tok, AV.S c.Name, nI c.Msg.Kind, nI c.Msg.Num, AV.S c.Msg.Text, slTermS c.Filter]), (67, 9, [nI c.Op, nI c.A, nI c.B, nI t, AV.S ByteArray.empty, nI 0, nI 0, AV.S ByteArray.empty, AV.nsl 3 fun x => lstG [nI 0, nI 0, AV.S ByteArray.empty]])])))))
          else
            (bif decide (s = 15) then
              (bif decide (s = 15) then
                (bif !decide (c.Op = 14) then
                  (H [true, true, true, true, false, false] (hdS [(1, AV.pb 65 0), (3, AV.pb 67 0), (99, AV.B (decide (0 < zN c.Filter.length)))] [] [(65, 9, [nI c.Op, nI c.A, nI c.B, nI c.Tok, AV.S c.Name, nI c.Msg.Kind, nI c.Msg.Num, AV.S c.Msg.Text, slTermS c.Filter]), (67, 9, [nI c.Op, nI 0, nI c.B, nI t, AV.S ByteArray.empty, nI 0, nI 0, AV.S ByteArray.empty, AV.nsl 3 fun x => lstG [nI 0, nI 0, AV.S ByteArray.empty]])]))
                else
                  (H [true, true, true, true, false, false] (hdS [(1, AV.pb 65 0), (3, AV.pb 67 0), (99, AV.B false)] [] [(65, 9, [nI c.Op, nI c.A, nI c.B, nI c.Tok, AV.S c.Name, nI c.Msg.Kind, nI c.Msg.Num, AV.S c.Msg.Text, slTermS c.Filter]), (67, 9, [nI c.Op, nI 0, nI c.B, nI t, AV.S ByteArray.empty, nI 0, nI 0, AV.S ByteArray.empty, AV.nsl 3 fun x => lstG [nI 0, nI 0, AV.S ByteArray.empty]])])))
              else
                (bif !decide (c.Op = 14) then
                  (H [true, true, true, true, false, false] (hdS [(1, AV.pb 65 0), (3, AV.pb 67 0), (99, AV.B (decide (0 < zN c.Filter.length)))] [] [(65, 9, [nI c.Op, nI c.A, nI c.B, nI c.Tok, AV.S c.Name, nI c.Msg.Kind, nI c.Msg.Num, AV.S c.Msg.Text, slTermS c.Filter]), (67, 9, [nI c.Op, nI c.A, nI 0, nI t, AV.S ByteArray.empty, nI 0, nI 0, AV.S ByteArray.empty, AV.nsl 3 fun x => lstG [nI 0, nI 0, AV.S ByteArray.empty]])]))
                else
                  (H [true, true, true, true, false, false] (hdS [(1, AV.pb 65 0), (3, AV.pb 67 0), (99, AV.B false)] [] [(65, 9, [nI c.Op, nI c.A, nI c.B, nI c.Tok, AV.S c.Name, nI c.Msg.Kind, nI c.Msg.Num, AV.S c.Msg.Text, slTermS c.Filter]), (67, 9, [nI c.Op, nI c.A, nI 0, nI t, AV.S ByteArray.empty, nI 0, nI 0, AV.S ByteArray.empty, AV.nsl 3 fun x => lstG [nI 0, nI 0, AV.S ByteArray.empty]])]))))
            else
              (bif decide (s = 16) then
                (bif !decide (c.Op = 14) then
                  (H [true, true, true, true, false, false] (hdS [(1, AV.pb 65 0), (3, AV.pb 67 0), (99, AV.B (decide (0 < zN c.Filter.length)))] [] [(65, 9, [nI c.Op, nI c.A, nI c.B, nI c.Tok, AV.S c.Name, nI c.Msg.Kind, nI c.Msg.Num, AV.S c.Msg.Text, slTermS c.Filter]), (67, 9, [nI c.Op, nI 0, nI c.B, nI t, AV.S ByteArray.empty, nI 0, nI 0, AV.S ByteArray.empty, AV.nsl 3 fun x => lstG [nI 0, nI 0, AV.S ByteArray.empty]])]))
                else
                  (H [true, true, true, true, false, false] (hdS [(1, AV.pb 65 0), (3, AV.pb 67 0), (99, AV.B false)] [] [(65, 9, [nI c.Op, nI c.A, nI c.B, nI c.Tok, AV.S c.Name, nI c.Msg.Kind, nI c.Msg.Num, AV.S c.Msg.Text, slTermS c.Filter]), (67, 9, [nI c.Op, nI 0, nI c.B, nI t, AV.S ByteArray.empty, nI 0, nI 0, AV.S ByteArray.empty, AV.nsl 3 fun x => lstG [nI 0, nI 0, AV.S ByteArray.empty]])])))
              else
                (bif !decide (c.Op = 14) then
                  (H [true, true, true, true, false, false] (hdS [(1, AV.pb 65 0), (3, AV.pb 67 0), (99, AV.B (decide (0 < zN c.Filter.length)))] [] [(65, 9, [nI c.Op, nI c.A, nI c.B, nI c.Tok, AV.S c.Name, nI c.Msg.Kind, nI c.Msg.Num, AV.S c.Msg.Text, slTermS c.Filter]), (67, 9, [nI c.Op, nI c.A, nI 0, nI t, AV.S ByteArray.empty, nI 0, nI 0, AV.S ByteArray.empty, AV.nsl 3 fun x => lstG [nI 0, nI 0, AV.S ByteArray.empty]])]))
                else
                  (H [true, true, true, true, false, false] (hdS [(1, AV.pb 65 0), (3, AV.pb 67 0), (99, AV.B false)] [] [(65, 9, [nI c.Op, nI c.A, nI c.B, nI c.Tok, AV.S c.Name, nI c.Msg.Kind, nI c.Msg.Num, AV.S c.Msg.Text, slTermS c.Filter]), (67, 9, [nI c.Op, nI c.A, nI 0, nI t, AV.S ByteArray.empty, nI 0, nI 0, AV.S ByteArray.empty, AV.nsl 3 fun x => lstG [nI 0, nI 0, AV.S ByteArray.empty]])]))))))))) := by kernel_rfl
theorem h27b (Γ : Orc) (H : Hd) (c d : VCall) (b : Bool) : hed Tryd.prog cfg Γ 27 H [] [true, true, true, true, false, false] (hdS [(1, .pb 65 0), (3, .pb 67 0), (99, .B b)] [] [(65, 9, [nI c.Op, nI c.A, nI c.B, nI c.Tok, .S c.Name, nI c.Msg.Kind, nI c.Msg.Num, .S c.Msg.Text, slTermS c.Filter]), (67, 9, [nI d.Op, nI d.A, nI d.B, nI d.Tok, .S d.Name, nI d.Msg.Kind, nI d.Msg.Num, .S d.Msg.Text, .nsl 3 (fun _ => lstG [nI 0, nI 0, .S ByteArray.empty])])]) =
  bif b then
    (some (AV.B false, []))
  else
    (Option.bind (Γ 31 [nI c.Op, nI 1, nI 19] []) fun r1 =>
    bif asB r1.fst then
      (bif decide (c.A = d.A) then
        (bif decide (c.B = d.B) then
          (bif decide (c.Tok = d.Tok) then
            (bif c.Name.toList == d.Name.toList then
              (some (AV.B (bif decide (c.Msg.Kind = d.Msg.Kind) then bif decide (c.Msg.Num = d.Msg.Num) then bif c.Msg.Text.toList == d.Msg.Text.toList then true else false else false else false), []))
            else
              (some (AV.B false, [])))
          else
            (some (AV.B false, [])))
        else
          (some (AV.B false, [])))
      else
        (some (AV.B false, [])))
    else
      (some (AV.B false, []))) := by kernel_rfl
theorem h8a (Γ : Orc) (H : Hd) (c : VCall) (s : ByteArray) : hed Tryd.prog cfg Γ 8 H [] [true, true, false] (hdS [(1, .pb 65 0), (4, .S s)] [] [(65, 9, [nI c.Op, nI c.A, nI c.B, nI c.Tok, .S c.Name, nI c.Msg.Kind, nI c.Msg.Num, .S c.Msg.Text, slTermS c.Filter])]) =
  bif decide (c.Op = 9) then
    (and2
    (Option.bind (Γ 29 [] []) fun r2 =>
      bif bif decide (0 ≤ c.B) then decide (c.B < zN (asN r2.fst)) else false then
        (Option.bind (Γ 31 [nI c.A, nI 0, nI 999999999] []) fun r4 =>
        H [true, true, true, true, true, false, false] (hdS [(1, AV.pb 65 0), (4, AV.S (asS (asG r2.fst c.B.toNat 0))), (5, nI c.A), (46, AV.B !asB r4.fst)] [] [(65, 9, [nI c.Op, nI c.A, nI c.B, nI c.Tok, AV.S c.Name, nI c.Msg.Kind, nI c.Msg.Num, AV.S c.Msg.Text, slTermS c.Filter])]))
      else
        (none))
    (Option.bind (Γ 29 [] []) fun r2 =>
      bif bif decide (0 ≤ c.B) then decide (c.B < zN (asN r2.fst)) else false then
        (Option.bind (Γ 31 [nI c.A, nI 0, nI 999999999] []) fun r4 =>
        H [true, true, true, true, true, false, false] (hdS [(1, AV.pb 65 0), (4, AV.S (asS (asG r2.fst c.B.toNat 0))), (5, nI c.A), (46, AV.B !asB r4.fst)] [] [(65, 9, [nI c.Op, nI c.A, nI c.B, nI c.Tok, AV.S c.Name, nI c.Msg.Kind, nI c.Msg.Num, AV.S c.Msg.Text, slTermS c.Filter])]))
      else
        (none)))
  else
    (bif decide (c.Op = 15) then
      (bif decide (c.Op = 15) then
        (Option.bind (Γ 31 [nI c.B, nI 0, nI 999999999] []) fun r3 =>
        H [true, true, true, true, true, false, false] (hdS [(1, AV.pb 65 0), (4, AV.S s), (5, nI c.B), (46, AV.B !asB r3.fst)] [] [(65, 9, [nI c.Op, nI c.A, nI c.B, nI c.Tok, AV.S c.Name, nI c.Msg.Kind, nI c.Msg.Num, AV.S c.Msg.Text, slTermS c.Filter])]))
      else
        (bif decide (c.Op = 13) then
          (bif decide (s.size + 1 ≤ 4294967296) then
            (and2
            (bif decide ((s ++ (bs [32])).size + c.Name.size ≤ 4294967296) then
                (bif decide ((s ++ (bs [32]) ++ c.Name).size + 1 ≤ 4294967296) then
                  (Option.bind (Γ 30 [AV.ag 3 (lstG [nI c.Msg.Kind, nI c.Msg.Num, AV.S c.Msg.Text])] []) fun r8 =>
                  bif decide ((s ++ (bs [32]) ++ c.Name ++ (bs [32])).size + (asS r8.fst).size ≤ 4294967296) then
                    (some (AV.tup 2 (lstG [AV.S (s ++ (bs [32]) ++ c.Name ++ (bs [32]) ++ asS r8.fst), AV.B true]), []))
                  else
                    (none))
                else
                  (none))
              else
                (none))
            (and2
              (bif decide ((s ++ (bs [32])).size + c.Name.size ≤ 4294967296) then
                  (bif decide ((s ++ (bs [32]) ++ c.Name).size + 1 ≤ 4294967296) then
                    (Option.bind (Γ 30 [AV.ag 3 (lstG [nI c.Msg.Kind, nI c.Msg.Num, AV.S c.Msg.Text])] []) fun r9 =>
                    bif decide ((s ++ (bs [32]) ++ c.Name ++ (bs [32])).size + (asS r9.fst).size ≤ 4294967296) then
                      (some (AV.tup 2 (lstG [AV.S (s ++ (bs [32]) ++ c.Name ++ (bs [32]) ++ asS r9.fst), AV.B true]), []))
                    else
                      (none))
                  else
                    (none))
                else
                  (none))
              (Option.bind (Γ 30 [AV.ag 3 (lstG [nI c.Msg.Kind, nI c.Msg.Num, AV.S c.Msg.Text])] []) fun r7 =>
                bif decide ((s ++ (bs [32])).size + c.Name.size ≤ 4294967296) then
                  (bif decide ((s ++ (bs [32]) ++ c.Name).size + 1 ≤ 4294967296) then
                    (bif decide ((s ++ (bs [32]) ++ c.Name ++ (bs [32])).size + (asS r7.fst).size ≤ 4294967296) then
                      (some (AV.tup 2 (lstG [AV.S (s ++ (bs [32]) ++ c.Name ++ (bs [32]) ++ asS r7.fst), AV.B true]), []))
                    else
                      (none))
                  else
                    (none))
                else
                  (none))))
          else
            (none))
        else
          (Option.bind (Γ 31 [nI c.A, nI 0, nI 999999999] []) fun r4 =>
          H [true, true, true, true, true, false, false] (hdS [(1, AV.pb 65 0), (4, AV.S s), (5, nI c.A), (46, AV.B !asB r4.fst)] [] [(65, 9, [nI c.Op, nI c.A, nI c.B, nI c.Tok, AV.S c.Name, nI c.Msg.Kind, nI c.Msg.Num, AV.S c.Msg.Text, slTermS c.Filter])]))))
    else
      (bif decide (c.Op = 16) then
        (Option.bind (Γ 31 [nI c.B, nI 0, nI 999999999] []) fun r3 =>
        H [true, true, true, true, true, false, false] (hdS [(1, AV.pb 65 0), (4, AV.S s), (5, nI c.B), (46, AV.B !asB r3.fst)] [] [(65, 9, [nI c.Op, nI c.A, nI c.B, nI c.Tok, AV.S c.Name, nI c.Msg.Kind, nI c.Msg.Num, AV.S c.Msg.Text, slTermS c.Filter])]))
      else
        (bif decide (c.Op = 13) then
          (bif decide (s.size + 1 ≤ 4294967296) then
            (and2
            (bif decide ((s ++ (bs [32])).size + c.Name.size ≤ 4294967296) then
                (bif decide ((s ++ (bs [32]) ++ c.Name).size + 1 ≤ 4294967296) then
                  (Option.bind (Γ 30 [AV.ag 3 (lstG [nI c.Msg.Kind, nI c.Msg.Num, AV.S c.Msg.Text])] []) fun r8 =>
                  bif decide ((s ++ (bs [32]) ++ c.Name ++ (bs [32])).size + (asS r8.fst).size ≤ 4294967296) then
                    (some (AV.tup 2 (lstG [AV.S (s ++ (bs [32]) ++ c.Name ++ (bs [32]) ++ asS r8.fst), AV.B true]), []))
                  else
                    (none))
                else
                  (none))
              else
                (none))
            (and2
              (bif decide ((s ++ (bs [32])).size + c.Name.size ≤ 4294967296) then
                  (bif decide ((s ++ (bs [32]) ++ c.Name).size + 1 ≤ 4294967296) then
                    (Option.bind (Γ 30 [AV.ag 3 (lstG [nI c.Msg.Kind, nI c.Msg.Num, AV.S c.Msg.Text])] []) fun r9 =>
                    bif decide ((s ++ (bs [32]) ++ c.Name ++ (bs [32])).size + (asS r9.fst).size ≤ 4294967296) then
                      (some (AV.tup 2 (lstG [AV.S (s ++ (bs [32]) ++ c.Name ++ (bs [32]) ++ asS r9.fst), AV.B true]), []))
                    else
                      (none))
                  else
                    (none))
                else
                  (none))
              (Option.bind (Γ 30 [AV.ag 3 (lstG [nI c.Msg.Kind, nI c.Msg.Num, AV.S c.Msg.Text])] []) fun r7 =>
                bif decide ((s ++ (bs [32])).size + c.Name.size ≤ 4294967296) then
                  (bif decide ((s ++ (bs [32]) ++ c.Name).size + 1 ≤ 4294967296) then
                    (bif decide ((s ++ (bs [32]) ++ c.Name ++ (bs [32])).size + (asS r7.fst).size ≤ 4294967296) then
                      (some (AV.tup 2 (lstG [AV.S (s ++ (bs [32]) ++ c.Name ++ (bs [32]) ++ asS r7.fst), AV.B true]), []))
                    else
                      (none))
                  else
                    (none))
                else
                  (none))))
          else
            (none))
        else
          (Option.bind (Γ 31 [nI c.A, nI 0, nI 999999999] []) fun r4 =>
          H [true, true, true, true, true, false, false] (hdS [(1, AV.pb 65 0), (4, AV.S s), (5, nI c.A), (46, AV.B !asB r4.fst)] [] [(65, 9, [nI c.Op, nI c.A, nI c.B, nI c.Tok, AV.S c.Name, nI c.Msg.Kind, nI c.Msg.Num, AV.S c.Msg.Text, slTermS c.Filter])]))))) := by kernel_rfl
theorem h8b (Γ : Orc) (H : Hd) (c : VCall) (s : ByteArray) (n : Int) (b : Bool) : hed Tryd.prog cfg Γ 8 H [] [true, true, true, true, true, false, false] (hdS [(1, .pb 65 0), (4, .S s), (5, nI n), (46, .B b)] [] [(65, 9, [nI c.Op, nI c.A, nI c.B, nI c.Tok, .S c.Name, nI c.Msg.Kind, nI c.Msg.Num, .S c.Msg.Text, slTermS c.Filter])]) =
  bif b then
    (some (AV.tup 2 (lstG [AV.S ByteArray.empty, AV.B false]), []))
  else
    (bif decide (s.size + 1 ≤ 4294967296) then
      (Option.bind (Γ 32 [nI n] []) fun r2 =>
      bif decide ((s ++ (bs [32])).size + (asS r2.fst).size ≤ 4294967296) then
        (H [true, true, true, true, true, true, true, false, false] (hdS [(1, AV.pb 65 0), (4, AV.S (s ++ (bs [32]) ++ asS r2.fst)), (53, nI c.Op)] [] [(65, 9, [nI c.Op, nI c.A, nI c.B, nI c.Tok, AV.S c.Name, nI c.Msg.Kind, nI c.Msg.Num, AV.S c.Msg.Text, slTermS c.Filter])]))
      else
        (none))
    else
      (none)) := by kernel_rfl
theorem h8c (Γ : Orc) (H : Hd) (c : VCall) (s : ByteArray) (n : Int) : hed Tryd.prog cfg Γ 8 H [] [true, true, true, true, true, true, true, false, false] (hdS [(1, .pb 65 0), (4, .S s), (53, nI n)] [] [(65, 9, [nI c.Op, nI c.A, nI c.B, nI c.Tok, .S c.Name, nI c.Msg.Kind, nI c.Msg.Num, .S c.Msg.Text, slTermS c.Filter])]) =
  bif decide (n = 9) then
    (bif decide (s.size + 1 ≤ 4294967296) then
      (Option.bind (Γ 30 [AV.ag 3 (lstG [nI c.Msg.Kind, nI c.Msg.Num, AV.S c.Msg.Text])] []) fun r2 =>
      bif decide ((s ++ (bs [32])).size + (asS r2.fst).size ≤ 4294967296) then
        (some (AV.tup 2 (lstG [AV.S (s ++ (bs [32]) ++ asS r2.fst), AV.B true]), []))
      else
        (none))
    else
      (none))
  else
    (bif decide (n = 7) then
      (bif decide (n = 7) then
        (Option.bind (Γ 31 [nI c.B, nI 0, nI 999999999] []) fun r3 =>
        bif !asB r3.fst then
          (some (AV.tup 2 (lstG [AV.S ByteArray.empty, AV.B false]), []))
        else
          (bif decide (s.size + 1 ≤ 4294967296) then
            (Option.bind (Γ 32 [nI c.B] []) fun r6 =>
            bif decide ((s ++ (bs [32])).size + (asS r6.fst).size ≤ 4294967296) then
              (some (AV.tup 2 (lstG [AV.S (s ++ (bs [32]) ++ asS r6.fst), AV.B true]), []))
            else
              (none))
          else
            (none)))
      else
        (bif decide (n = 14) then
          (bif decide (c.B = 1) then
            (bif decide (s.size + 5 ≤ 4294967296) then
              (bif decide (0 < zN c.Filter.length) then
                (Option.bind (Γ 33 [slTermS c.Filter] []) fun r7 =>
                bif decide ((s ++ (bs [32, 98, 97, 99, 107])).size + 4 ≤ 4294967296) then
                  (bif decide ((s ++ (bs [32, 98, 97, 99, 107]) ++ (bs [32, 105, 102, 32])).size + (asS (asA r7.fst 0)).size ≤ 4294967296) then
                    (some (AV.tup 2 (lstG [AV.S (s ++ (bs [32, 98, 97, 99, 107]) ++ (bs [32, 105, 102, 32]) ++ asS (asA r7.fst 0)), AV.B true]), []))
                  else
                    (none))
                else
                  (none))
              else
                (some (AV.tup 2 (lstG [AV.S (s ++ (bs [32, 98, 97, 99, 107])), AV.B true]), [])))
            else
              (none))
          else
            (bif decide (0 < zN c.Filter.length) then
              (Option.bind (Γ 33 [slTermS c.Filter] []) fun r6 =>
              bif decide (s.size + 4 ≤ 4294967296) then
                (bif decide ((s ++ (bs [32, 105, 102, 32])).size + (asS (asA r6.fst 0)).size ≤ 4294967296) then
                  (some (AV.tup 2 (lstG [AV.S (s ++ (bs [32, 105, 102, 32]) ++ asS (asA r6.fst 0)), AV.B true]), []))
                else
                  (none))
              else
                (none))
            else
              (some (AV.tup 2 (lstG [AV.S s, AV.B true]), []))))
        else
          (H [true, true, true, true, true, true, true, true, false, false] (hdS [(1, AV.pb 65 0), (4, AV.S s), (99, AV.B (decide (0 ≤ c.Tok)))] [] [(65, 9, [nI c.Op, nI c.A, nI c.B, nI c.Tok, AV.S c.Name, nI c.Msg.Kind, nI c.Msg.Num, AV.S c.Msg.Text, slTermS c.Filter])]))))
    else
      (bif decide (n = 19) then
        (Option.bind (Γ 31 [nI c.B, nI 0, nI 999999999] []) fun r3 =>
        bif !asB r3.fst then
          (some (AV.tup 2 (lstG [AV.S ByteArray.empty, AV.B false]), []))
        else
          (bif decide (s.size + 1 ≤ 4294967296) then
            (Option.bind (Γ 32 [nI c.B] []) fun r6 =>
            bif decide ((s ++ (bs [32])).size + (asS r6.fst).size ≤ 4294967296) then
              (some (AV.tup 2 (lstG [AV.S (s ++ (bs [32]) ++ asS r6.fst), AV.B true]), []))
            else
              (none))
          else
            (none)))
      else
        (bif decide (n = 14) then
          (bif decide (c.B = 1) then
            (bif decide (s.size + 5 ≤ 4294967296) then
              (bif decide (0 < zN c.Filter.length) then
                (Option.bind (Γ 33 [slTermS c.Filter] []) fun r7 =>
                bif decide ((s ++ (bs [32, 98, 97, 99, 107])).size + 4 ≤ 4294967296) then
                  (bif decide ((s ++ (bs [32, 98, 97, 99, 107]) ++ (bs [32, 105, 102, 32])).size + (asS (asA r7.fst 0)).size ≤ 4294967296) then
                    (some (AV.tup 2 (lstG [AV.S (s ++ (bs [32, 98, 97, 99, 107]) ++ (bs [32, 105, 102, 32]) ++ asS (asA r7.fst 0)), AV.B true]), []))
                  else
                    (none))
                else
                  (none))
              else
                (some (AV.tup 2 (lstG [AV.S (s ++ (bs [32, 98, 97, 99, 107])), AV.B true]), [])))
            else
              (none))
          else
            (bif decide (0 < zN c.Filter.length) then
              (Option.bind (Γ 33 [slTermS c.Filter] []) fun r6 =>
              bif decide (s.size + 4 ≤ 4294967296) then
                (bif decide ((s ++ (bs [32, 105, 102, 32])).size + (asS (asA r6.fst 0)).size ≤ 4294967296) then
                  (some (AV.tup 2 (lstG [AV.S (s ++ (bs [32, 105, 102, 32]) ++ asS (asA r6.fst 0)), AV.B true]), []))
                else
                  (none))
              else
                (none))
            else
              (some (AV.tup 2 (lstG [AV.S s, AV.B true]), []))))
        else
          (H [true, true, true, true, true, true, true, true, false, false] (hdS [(1, AV.pb 65 0), (4, AV.S s), (99, AV.B (decide (0 ≤ c.Tok)))] [] [(65, 9, [nI c.Op, nI c.A, nI c.B, nI c.Tok, AV.S c.Name, nI c.Msg.Kind, nI c.Msg.Num, AV.S c.Msg.Text, slTermS c.Filter])]))))) := by kernel_rfl
theorem h8d (Γ : Orc) (H : Hd) (c : VCall) (s : ByteArray) (b : Bool) : hed Tryd.prog cfg Γ 8 H [] [true, true, true, true, true, true, true, true, false, false] (hdS [(1, .pb 65 0), (4, .S s), (99, .B b)] [] [(65, 9, [nI c.Op, nI c.A, nI c.B, nI c.Tok, .S c.Name, nI c.Msg.Kind, nI c.Msg.Num, .S c.Msg.Text, slTermS c.Filter])]) =
  bif b then
    (bif decide (999999999 < c.Tok) then
      (some (AV.tup 2 (lstG [AV.S ByteArray.empty, AV.B false]), []))
    else
      (bif decide (s.size + 4 ≤ 4294967296) then
        (Option.bind (Γ 32 [nI c.Tok] []) fun r3 =>
        bif decide ((s ++ (bs [32, 98, 121, 32])).size + (asS r3.fst).size ≤ 4294967296) then
          (some (AV.tup 2 (lstG [AV.S (s ++ (bs [32, 98, 121, 32]) ++ asS r3.fst), AV.B true]), []))
        else
          (none))
      else
        (none)))
  else
    (some (AV.tup 2 (lstG [AV.S s, AV.B true]), [])) := by kernel_rfl
theorem h37a (Γ : Orc) (H : Hd) (c : VCall) (ws : List ByteArray) (q : Bool) (z : Int) : hed Tryd.prog cfg Γ 37 H [] [true, true, true, true, false, false] (hdS [(1, .pb 65 0), (4, .pb 68 0), (5, .pb 69 0), (6, .clo 62 2 (lstG [.pb 69 0, .pb 68 0])), (14, nI z)] [(643072, ⟨ws.length, 1, gsStrS ws⟩)] [(65, 9, [nI c.Op, nI c.A, nI c.B, nI c.Tok, .S c.Name, nI c.Msg.Kind, nI c.Msg.Num, .S c.Msg.Text, slTermS c.Filter]), (68, 1, [.rf 643072]), (69, 1, [.B q])]) =
  bif decide (z = 13) then
    (bif decide (ws.length + 1 ≤ 4294967296) && true && true && true && true then
      (bif decide (c.Op = 7) then
        (H [true, true, true, true, true, false, false] (hdS [(1, AV.pb 65 0), (4, AV.pb 68 0), (5, AV.pb 69 0), (6, AV.clo 62 2 (lstG [AV.pb 69 0, AV.pb 68 0])), (40, AV.B true)] [(643072, ⟨ws.length + 1, 1, fun i => lstG [AV.S (bif decide (i < ws.length) then ws.getD i ByteArray.empty else bif decide (i - ws.length = 0) then c.Name else ByteArray.empty)]⟩)] [(65, 9, [nI c.Op, nI c.A, nI c.B, nI c.Tok, AV.S c.Name, nI c.Msg.Kind, nI c.Msg.Num, AV.S c.Msg.Text, slTermS c.Filter]), (68, 1, [AV.rf 643072]), (69, 1, [AV.B q])]))
      else
        (H [true, true, true, true, true, false, false] (hdS [(1, AV.pb 65 0), (4, AV.pb 68 0), (5, AV.pb 69 0), (6, AV.clo 62 2 (lstG [AV.pb 69 0, AV.pb 68 0])), (40, AV.B (decide (c.Op = 19)))] [(643072, ⟨ws.length + 1, 1, fun i => lstG [AV.S (bif decide (i < ws.length) then ws.getD i ByteArray.empty else bif decide (i - ws.length = 0) then c.Name else ByteArray.empty)]⟩)] [(65, 9, [nI c.Op, nI c.A, nI c.B, nI c.Tok, AV.S c.Name, nI c.Msg.Kind, nI c.Msg.Num, AV.S c.Msg.Text, slTermS c.Filter]), (68, 1, [AV.rf 643072]), (69, 1, [AV.B q])])))
    else
      (none))
  else
    (bif decide (z = 15) then
      (bif decide (z = 15) then
        (Option.bind (Γ 62 [nI c.B, AV.pb 0 0, AV.pb 1 0] [AV.nbx 1 (lstG [AV.B q]), AV.nbx 1 (lstG [AV.own ws.length 1 fun i => lstG [AV.S (ws.getD i ByteArray.empty)]])]) fun r3 =>
        bif decide (c.Op = 7) then
          (H [true, true, true, true, true, false, false] (hdS [(1, AV.pb 65 0), (4, AV.pb 68 0), (5, AV.pb 69 0), (6, AV.clo 62 2 (lstG [AV.pb 69 0, AV.pb 68 0])), (40, AV.B true)] [(643072, ⟨asN (asA (r3.snd.tail.headD AV.bad) 0), 1, fun i => lstG [AV.S (asS (asG (asA (r3.snd.tail.headD AV.bad) 0) i 0))]⟩)] [(65, 9, [nI c.Op, nI c.A, nI c.B, nI c.Tok, AV.S c.Name, nI c.Msg.Kind, nI c.Msg.Num, AV.S c.Msg.Text, slTermS c.Filter]), (68, 1, [AV.rf 643072]), (69, 1, [AV.B (asB (asA (r3.snd.headD AV.bad) 0))])]))
        else
          (H [true, true, true, true, true, false, false] (hdS [(1, AV.pb 65 0), (4, AV.pb 68 0), (5, AV.pb 69 0), (6, AV.clo 62 2 (lstG [AV.pb 69 0, AV.pb 68 0])), (40, AV.B (decide (c.Op = 19)))] [(643072, ⟨asN (asA (r3.snd.tail.headD AV.bad) 0), 1, fun i => lstG [AV.S (asS (asG (asA (r3.snd.tail.headD AV.bad) 0) i 0))]⟩)] [(65, 9, [nI c.Op, nI c.A, nI c.B, nI c.Tok, AV.S c.Name, nI c.Msg.Kind, nI c.Msg.Num, AV.S c.Msg.Text, slTermS c.Filter]), (68, 1, [AV.rf 643072]), (69, 1, [AV.B (asB (asA (r3.snd.headD AV.bad) 0))])])))
      else
        (Option.bind (Γ 62 [nI c.A, AV.pb 0 0, AV.pb 1 0] [AV.nbx 1 (lstG [AV.B q]), AV.nbx 1 (lstG [AV.own ws.length 1 fun i => lstG [AV.S (ws.getD i ByteArray.empty)]])]) fun r3 =>
        bif decide (c.Op = 7) then
          (H [true, true, true, true, true, false, false] (hdS [(1, AV.pb 65 0), (4, AV.pb 68 0), (5, AV.pb 69 0), (6, AV.clo 62 2 (lstG [AV.pb 69 0, AV.pb 68 0])), (40, AV.B true)] [(643072, ⟨asN (asA (r3.snd.tail.headD AV.bad) 0), 1, fun i => lstG [AV.S (asS (asG (asA (r3.snd.tail.headD AV.bad) 0) i 0))]⟩)] [(65, 9, [nI c.Op, nI c.A, nI c.B, nI c.Tok, AV.S c.Name, nI c.Msg.Kind, nI c.Msg.Num, AV.S c.Msg.Text, slTermS c.Filter]), (68, 1, [AV.rf 643072]), (69, 1, [AV.B (asB (asA (r3.snd.headD AV.bad) 0))])]))
        else
          (H [true, true, true, true, true, false, false] (hdS [(1, AV.pb 65 0), (4, AV.pb 68 0), (5, AV.pb 69 0), (6, AV.clo 62 2 (lstG [AV.pb 69 0, AV.pb 68 0])), (40, AV.B (decide (c.Op = 19)))] [(643072, ⟨asN (asA (r3.snd.tail.headD AV.bad) 0), 1, fun i => lstG [AV.S (asS (asG (asA (r3.snd.tail.headD AV.bad) 0) i 0))]⟩)] [(65, 9, [nI c.Op, nI c.A, nI c.B, nI c.Tok, AV.S c.Name, nI c.Msg.Kind, nI c.Msg.Num, AV.S c.Msg.Text, slTermS c.Filter]), (68, 1, [AV.rf 643072]), (69, 1, [AV.B (asB (asA (r3.snd.headD AV.bad) 0))])]))))
    else
      (bif decide (z = 16) then
        (Option.bind (Γ 62 [nI c.B, AV.pb 0 0, AV.pb 1 0] [AV.nbx 1 (lstG [AV.B q]), AV.nbx 1 (lstG [AV.own ws.length 1 fun i => lstG [AV.S (ws.getD i ByteArray.empty)]])]) fun r3 =>
        bif decide (c.Op = 7) then
          (H [true, true, true, true, true, false, false] (hdS [(1, AV.pb 65 0), (4, AV.pb 68 0), (5, AV.pb 69 0), (6, AV.clo 62 2 (lstG [AV.pb 69 0, AV.pb 68 0])), (40, AV.B true)] [(643072, ⟨asN (asA (r3.snd.tail.headD AV.bad) 0), 1, fun i => lstG [AV.S (asS (asG (asA (r3.snd.tail.headD AV.bad) 0) i 0))]⟩)] [(65, 9, [nI c.Op, nI c.A, nI c.B, nI c.Tok, AV.S c.Name, nI c.Msg.Kind, nI c.Msg.Num, AV.S c.Msg.Text, slTermS c.Filter]), (68, 1, [AV.rf 643072]), (69, 1, [AV.B (asB (asA (r3.snd.headD AV.bad) 0))])]))
        else
          (H [true, true, true, true, true, false, false] (hdS [(1, AV.pb 65 0), (4, AV.pb 68 0), (5, AV.pb 69 0), (6, AV.clo 62 2 (lstG [AV.pb 69 0, AV.pb 68 0])), (40, AV.B (decide (c.Op = 19)))] [(643072, ⟨asN (asA (r3.snd.tail.headD AV.bad) 0), 1, fun i => lstG [AV.S (asS (asG (asA (r3.snd.tail.headD AV.bad) 0) i 0))]⟩)] [(65, 9, [nI c.Op, nI c.A, nI c.B, nI c.Tok, AV.S c.Name, nI c.Msg.Kind, nI c.Msg.Num, AV.S c.Msg.Text, slTermS c.Filter]), (68, 1, [AV.rf 643072]), (69, 1, [AV.B (asB (asA (r3.snd.headD AV.bad) 0))])])))
      else
        (Option.bind (Γ 62 [nI c.A, AV.pb 0 0, AV.pb 1 0] [AV.nbx 1 (lstG [AV.B q]), AV.nbx 1 (lstG [AV.own ws.length 1 fun i => lstG [AV.S (ws.getD i ByteArray.empty)]])]) fun r3 =>
        bif decide (c.Op = 7) then
          (H [true, true, true, true, true, false, false] (hdS [(1, AV.pb 65 0), (4, AV.pb 68 0), (5, AV.pb 69 0), (6, AV.clo 62 2 (lstG [AV.pb 69 0, AV.pb 68 0])), (40, AV.B true)] [(643072, ⟨asN (asA (r3.snd.tail.headD AV.bad) 0), 1, fun i => lstG [AV.S (asS (asG (asA (r3.snd.tail.headD AV.bad) 0) i 0))]⟩)] [(65, 9, [nI c.Op, nI c.A, nI c.B, nI c.Tok, AV.S c.Name, nI c.Msg.Kind, nI c.Msg.Num, AV.S c.Msg.Text, slTermS c.Filter]), (68, 1, [AV.rf 643072]), (69, 1, [AV.B (asB (asA (r3.snd.headD AV.bad) 0))])]))
        else
          (H [true, true, true, true, true, false, false] (hdS [(1, AV.pb 65 0), (4, AV.pb 68 0), (5, AV.pb 69 0), (6, AV.clo 62 2 (lstG [AV.pb 69 0, AV.pb 68 0])), (40, AV.B (decide (c.Op = 19)))] [(643072, ⟨asN (asA (r3.snd.tail.headD AV.bad) 0), 1, fun i => lstG [AV.S (asS (asG (asA (r3.snd.tail.headD AV.bad) 0) i 0))]⟩)] [(65, 9, [nI c.Op, nI c.A, nI c.B, nI c.Tok, AV.S c.Name, nI c.Msg.Kind, nI c.Msg.Num, AV.S c.Msg.Text, slTermS c.Filter]), (68, 1, [AV.rf 643072]), (69, 1, [AV.B (asB (asA (r3.snd.headD AV.bad) 0))])]))))) := by kernel_rfl
theorem h37b (Γ : Orc) (H : Hd) (c : VCall) (ws : List ByteArray) (q : Bool) (z : Bool) : hed Tryd.prog cfg Γ 37 H [] [true, true, true, true, true, false, false] (hdS [(1, .pb 65 0), (4, .pb 68 0), (5, .pb 69 0), (6, .clo 62 2 (lstG [.pb 69 0, .pb 68 0])), (40, .B z)] [(643072, ⟨ws.length, 1, gsStrS ws⟩)] [(65, 9, [nI c.Op, nI c.A, nI c.B, nI c.Tok, .S c.Name, nI c.Msg.Kind, nI c.Msg.Num, .S c.Msg.Text, slTermS c.Filter]), (68, 1, [.rf 643072]), (69, 1, [.B q])]) =
  bif z then
    (Option.bind (Γ 62 [nI c.B, AV.pb 0 0, AV.pb 1 0] [AV.nbx 1 (lstG [AV.B q]), AV.nbx 1 (lstG [AV.own ws.length 1 fun i => lstG [AV.S (ws.getD i ByteArray.empty)]])]) fun r1 =>
    H [true, true, true, true, true, true, false, false] (hdS [(1, AV.pb 65 0), (4, AV.pb 68 0), (5, AV.pb 69 0), (6, AV.clo 62 2 (lstG [AV.pb 69 0, AV.pb 68 0])), (47, AV.B (decide (0 ≤ c.Tok)))] [(643072, ⟨asN (asA (r1.snd.tail.headD AV.bad) 0), 1, fun i => lstG [AV.S (asS (asG (asA (r1.snd.tail.headD AV.bad) 0) i 0))]⟩)] [(65, 9, [nI c.Op, nI c.A, nI c.B, nI c.Tok, AV.S c.Name, nI c.Msg.Kind, nI c.Msg.Num, AV.S c.Msg.Text, slTermS c.Filter]), (68, 1, [AV.rf 643072]), (69, 1, [AV.B (asB (asA (r1.snd.headD AV.bad) 0))])]))
  else
    (H [true, true, true, true, true, true, false, false] (hdS [(1, AV.pb 65 0), (4, AV.pb 68 0), (5, AV.pb 69 0), (6, AV.clo 62 2 (lstG [AV.pb 69 0, AV.pb 68 0])), (47, AV.B (decide (0 ≤ c.Tok)))] [(643072, ⟨ws.length, 1, fun i => lstG [AV.S (ws.getD i ByteArray.empty)]⟩)] [(65, 9, [nI c.Op, nI c.A, nI c.B, nI c.Tok, AV.S c.Name, nI c.Msg.Kind, nI c.Msg.Num, AV.S c.Msg.Text, slTermS c.Filter]), (68, 1, [AV.rf 643072]), (69, 1, [AV.B q])])) := by kernel_rfl
theorem h37c (Γ : Orc) (H : Hd) (c : VCall) (ws : List ByteArray) (q : Bool) (z : Bool) : hed Tryd.prog cfg Γ 37 H [] [true, true, true, true, true, true, false, false] (hdS [(1, .pb 65 0), (4, .pb 68 0), (5, .pb 69 0), (6, .clo 62 2 (lstG [.pb 69 0, .pb 68 0])), (47, .B z)] [(643072, ⟨ws.length, 1, gsStrS ws⟩)] [(65, 9, [nI c.Op, nI c.A, nI c.B, nI c.Tok, .S c.Name, nI c.Msg.Kind, nI c.Msg.Num, .S c.Msg.Text, slTermS c.Filter]), (68, 1, [.rf 643072]), (69, 1, [.B q])]) =
  bif z then
    (bif decide (ws.length + 1 ≤ 4294967296) && true && true && true && true then
      (Option.bind (Γ 62 [nI c.Tok, AV.pb 0 0, AV.pb 1 0] [AV.nbx 1 (lstG [AV.B q]), AV.nbx 1 (lstG [AV.own (ws.length + 1) 1 fun i j => mrg (decide (i < ws.length)) (gsStrS ws i j) (mrg (decide (i - ws.length = 0)) (lstG [AV.S (bs [98, 121])] j) (lstG [AV.S ByteArray.empty] j)).noOwn])]) fun r2 =>
      bif decide (c.Op = 9) then
        (H [true, true, true, true, true, true, true, false, false] (hdS [(1, AV.pb 65 0), (4, AV.pb 68 0), (5, AV.pb 69 0), (62, AV.B true)] [(643072, ⟨asN (asA (r2.snd.tail.headD AV.bad) 0), 1, fun i => lstG [AV.S (asS (asG (asA (r2.snd.tail.headD AV.bad) 0) i 0))]⟩)] [(65, 9, [nI c.Op, nI c.A, nI c.B, nI c.Tok, AV.S c.Name, nI c.Msg.Kind, nI c.Msg.Num, AV.S c.Msg.Text, slTermS c.Filter]), (68, 1, [AV.rf 643072]), (69, 1, [AV.B (asB (asA (r2.snd.headD AV.bad) 0))])]))
      else
        (H [true, true, true, true, true, true, true, false, false] (hdS [(1, AV.pb 65 0), (4, AV.pb 68 0), (5, AV.pb 69 0), (62, AV.B (decide (c.Op = 13)))] [(643072, ⟨asN (asA (r2.snd.tail.headD AV.bad) 0), 1, fun i => lstG [AV.S (asS (asG (asA (r2.snd.tail.headD AV.bad) 0) i 0))]⟩)] [(65, 9, [nI c.Op, nI c.A, nI c.B, nI c.Tok, AV.S c.Name, nI c.Msg.Kind, nI c.Msg.Num, AV.S c.Msg.Text, slTermS c.Filter]), (68, 1, [AV.rf 643072]), (69, 1, [AV.B (asB (asA (r2.snd.headD AV.bad) 0))])])))
    else
      (none))
  else
    (bif decide (c.Op = 9) then
      (H [true, true, true, true, true, true, true, false, false] (hdS [(1, AV.pb 65 0), (4, AV.pb 68 0), (5, AV.pb 69 0), (62, AV.B true)] [(643072, ⟨ws.length, 1, fun i => lstG [AV.S (ws.getD i ByteArray.empty)]⟩)] [(65, 9, [nI c.Op, nI c.A, nI c.B, nI c.Tok, AV.S c.Name, nI c.Msg.Kind, nI c.Msg.Num, AV.S c.Msg.Text, slTermS c.Filter]), (68, 1, [AV.rf 643072]), (69, 1, [AV.B q])]))
    else
      (H [true, true, true, true, true, true, true, false, false] (hdS [(1, AV.pb 65 0), (4, AV.pb 68 0), (5, AV.pb 69 0), (62, AV.B (decide (c.Op = 13)))] [(643072, ⟨ws.length, 1, fun i => lstG [AV.S (ws.getD i ByteArray.empty)]⟩)] [(65, 9, [nI c.Op, nI c.A, nI c.B, nI c.Tok, AV.S c.Name, nI c.Msg.Kind, nI c.Msg.Num, AV.S c.Msg.Text, slTermS c.Filter]), (68, 1, [AV.rf 643072]), (69, 1, [AV.B q])]))) := by kernel_rfl
theorem h37d (Γ : Orc) (H : Hd) (c : VCall) (ws : List ByteArray) (q : Bool) (z : Bool) : hed Tryd.prog cfg Γ 37 H [] [true, true, true, true, true, true, true, false, false] (hdS [(1, .pb 65 0), (4, .pb 68 0), (5, .pb 69 0), (62, .B z)] [(643072, ⟨ws.length, 1, gsStrS ws⟩)] [(65, 9, [nI c.Op, nI c.A, nI c.B, nI c.Tok, .S c.Name, nI c.Msg.Kind, nI c.Msg.Num, .S c.Msg.Text, slTermS c.Filter]), (68, 1, [.rf 643072]), (69, 1, [.B q])]) =
  bif z then
    (and2
    (Option.bind (Γ 64 [AV.ag 3 (lstG [nI c.Msg.Kind, nI c.Msg.Num, AV.S c.Msg.Text])] []) fun r2 =>
      bif decide (ws.length + 1 ≤ 4294967296) && true && true && true && true then
        (bif decide (c.Op = 14) then
          (H [true, true, true, true, true, true, true, true, false, false] (hdS [(1, AV.pb 65 0), (4, AV.pb 68 0), (5, AV.pb 69 0), (76, AV.B (decide (c.B = 1)))] [(643072, ⟨ws.length + 1, 1, fun i => lstG [AV.S (bif decide (i < ws.length) then ws.getD i ByteArray.empty else bif decide (i - ws.length = 0) then asS r2.fst else ByteArray.empty)]⟩)] [(65, 9, [nI c.Op, nI c.A, nI c.B, nI c.Tok, AV.S c.Name, nI c.Msg.Kind, nI c.Msg.Num, AV.S c.Msg.Text, slTermS c.Filter]), (68, 1, [AV.rf 643072]), (69, 1, [AV.B q])]))
        else
          (H [true, true, true, true, true, true, true, true, false, false] (hdS [(1, AV.pb 65 0), (4, AV.pb 68 0), (5, AV.pb 69 0), (76, AV.B false)] [(643072, ⟨ws.length + 1, 1, fun i => lstG [AV.S (bif decide (i < ws.length) then ws.getD i ByteArray.empty else bif decide (i - ws.length = 0) then asS r2.fst else ByteArray.empty)]⟩)] [(65, 9, [nI c.Op, nI c.A, nI c.B, nI c.Tok, AV.S c.Name, nI c.Msg.Kind, nI c.Msg.Num, AV.S c.Msg.Text, slTermS c.Filter]), (68, 1, [AV.rf 643072]), (69, 1, [AV.B q])])))
      else
        (none))
    (Option.bind (Γ 64 [AV.ag 3 (lstG [nI c.Msg.Kind, nI c.Msg.Num, AV.S c.Msg.Text])] []) fun r2 =>
      bif decide (ws.length + 1 ≤ 4294967296) && true && true && true && true then
        (bif decide (c.Op = 14) then
          (H [true, true, true, true, true, true, true, true, false, false] (hdS [(1, AV.pb 65 0), (4, AV.pb 68 0), (5, AV.pb 69 0), (76, AV.B (decide (c.B = 1)))] [(643072, ⟨ws.length + 1, 1, fun i => lstG [AV.S (bif decide (i < ws.length) then ws.getD i ByteArray.empty else bif decide (i - ws.length = 0) then asS r2.fst else ByteArray.empty)]⟩)] [(65, 9, [nI c.Op, nI c.A, nI c.B, nI c.Tok, AV.S c.Name, nI c.Msg.Kind, nI c.Msg.Num, AV.S c.Msg.Text, slTermS c.Filter]), (68, 1, [AV.rf 643072]), (69, 1, [AV.B q])]))
        else
          (H [true, true, true, true, true, true, true, true, false, false] (hdS [(1, AV.pb 65 0), (4, AV.pb 68 0), (5, AV.pb 69 0), (76, AV.B false)] [(643072, ⟨ws.length + 1, 1, fun i => lstG [AV.S (bif decide (i < ws.length) then ws.getD i ByteArray.empty else bif decide (i - ws.length = 0) then asS r2.fst else ByteArray.empty)]⟩)] [(65, 9, [nI c.Op, nI c.A, nI c.B, nI c.Tok, AV.S c.Name, nI c.Msg.Kind, nI c.Msg.Num, AV.S c.Msg.Text, slTermS c.Filter]), (68, 1, [AV.rf 643072]), (69, 1, [AV.B q])])))
      else
        (none)))
  else
    (bif decide (c.Op = 14) then
      (H [true, true, true, true, true, true, true, true, false, false] (hdS [(1, AV.pb 65 0), (4, AV.pb 68 0), (5, AV.pb 69 0), (76, AV.B (decide (c.B = 1)))] [(643072, ⟨ws.length, 1, fun i => lstG [AV.S (ws.getD i ByteArray.empty)]⟩)] [(65, 9, [nI c.Op, nI c.A, nI c.B, nI c.Tok, AV.S c.Name, nI c.Msg.Kind, nI c.Msg.Num, AV.S c.Msg.Text, slTermS c.Filter]), (68, 1, [AV.rf 643072]), (69, 1, [AV.B q])]))
    else
      (H [true, true, true, true, true, true, true, true, false, false] (hdS [(1, AV.pb 65 0), (4, AV.pb 68 0), (5, AV.pb 69 0), (76, AV.B false)] [(643072, ⟨ws.length, 1, fun i => lstG [AV.S (ws.getD i ByteArray.empty)]⟩)] [(65, 9, [nI c.Op, nI c.A, nI c.B, nI c.Tok, AV.S c.Name, nI c.Msg.Kind, nI c.Msg.Num, AV.S c.Msg.Text, slTermS c.Filter]), (68, 1, [AV.rf 643072]), (69, 1, [AV.B q])]))) := by kernel_rfl
theorem h37e (Γ : Orc) (H : Hd) (c : VCall) (ws : List ByteArray) (q : Bool) (z : Bool) : hed Tryd.prog cfg Γ 37 H [] [true, true, true, true, true, true, true, true, false, false] (hdS [(1, .pb 65 0), (4, .pb 68 0), (5, .pb 69 0), (76, .B z)] [(643072, ⟨ws.length, 1, gsStrS ws⟩)] [(65, 9, [nI c.Op, nI c.A, nI c.B, nI c.Tok, .S c.Name, nI c.Msg.Kind, nI c.Msg.Num, .S c.Msg.Text, slTermS c.Filter]), (68, 1, [.rf 643072]), (69, 1, [.B q])]) =
  bif z then
    (bif decide (ws.length + 1 ≤ 4294967296) && true && true && true && true then
      (Option.bind (Γ 65 [slTermS c.Filter] []) fun r2 =>
      bif !(asS (asA r2.fst 0)).toList == ByteArray.empty.toList then
        (bif decide (ws.length + 1 + 2 ≤ 4294967296) && true && true && true && true then
          (bif bif okT then true else false then
            (some (AV.tup 2 (lstG [AV.own (ws.length + 1 + 2) 1 fun i => lstG [AV.S (bif decide (i < ws.length + 1) then bif decide (i < ws.length) then ws.getD i ByteArray.empty else bif decide (i - ws.length = 0) then (bs [98, 97, 99, 107]) else ByteArray.empty else bif decide (i - (ws.length + 1) = 0) then (bs [105, 102]) else bif decide (i - (ws.length + 1) - 1 = 0) then asS (asA r2.fst 0) else ByteArray.empty)], AV.B q]), []))
          else
            (none))
        else
          (none))
      else
        (bif bif okT then true else false then
          (some (AV.tup 2 (lstG [AV.own (ws.length + 1) 1 fun i => lstG [AV.S (bif decide (i < ws.length) then ws.getD i ByteArray.empty else bif decide (i - ws.length = 0) then (bs [98, 97, 99, 107]) else ByteArray.empty)], AV.B q]), []))
        else
          (none)))
    else
      (none))
  else
    (Option.bind (Γ 65 [slTermS c.Filter] []) fun r1 =>
    bif !(asS (asA r1.fst 0)).toList == ByteArray.empty.toList then
      (bif decide (ws.length + 2 ≤ 4294967296) && true && true && true && true then
        (bif bif okT then true else false then
          (some (AV.tup 2 (lstG [AV.own (ws.length + 2) 1 fun i => lstG [AV.S (bif decide (i < ws.length) then ws.getD i ByteArray.empty else bif decide (i - ws.length = 0) then (bs [105, 102]) else bif decide (i - ws.length - 1 = 0) then asS (asA r1.fst 0) else ByteArray.empty)], AV.B q]), []))
        else
          (none))
      else
        (none))
    else
      (bif bif okT then true else false then
        (some (AV.tup 2 (lstG [AV.own ws.length 1 fun i => lstG [AV.S (ws.getD i ByteArray.empty)], AV.B q]), []))
      else
        (none))) := by kernel_rfl
end Go.Fw
