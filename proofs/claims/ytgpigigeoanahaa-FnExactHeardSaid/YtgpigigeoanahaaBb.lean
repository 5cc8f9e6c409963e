/- Sizes, copies, comparing, trees of seat r2 -/
import Derived.Test.YtgpigigeoanahaaProg
import Derived.Test.YtgpigigeoanahaaFyB
import Derived.KernelRfl
import Derived.Test.YtgpigigeoanahaaB
set_option linter.unusedVariables false
set_option maxRecDepth 100000
namespace Go.Fw
open Go.Proofs
theorem h36b (Γ : Orc) (H : Hd) (ps : List (List VCall)) (ms : List VMark) (rs : List VRec) (os nx op : List Int) (i : Int) : hed Try.prog cfg Γ 36 H [] [true, true, true, true, true, true, true, false, true] (hdS [(0, slCallSS ps), (1, slMarkS ms), (7, .rf 724992), (8, .rf 827392), (9, .rf 352256), (10, .rf 364544), (12, nI i)] [(352256, ⟨nx.length, 1, gI nx⟩), (364544, ⟨op.length, 1, gI op⟩), (724992, ⟨rs.length, 14, goRecS rs⟩), (827392, ⟨os.length, 1, gI os⟩)] []) =
  bif decide (i < zN ms.length) then
    (bif bif decide (0 ≤ i) then decide (i < zN ms.length) else false then
      (Option.bind (Γ 37 [nI (ms.getD i.toNat zMark).Step.Kind, nI 1, nI 3] []) fun r2 =>
      bif !asB r2.fst then
        (bif decide (os.length + 1 ≤ 4294967296) && true && true && true && true then
          (H [true, true, true, true, true, true, true, false, true] (hdS [(0, slCallSS ps), (1, slMarkS ms), (7, AV.rf 724992), (8, AV.rf 827392), (9, AV.rf 352256), (10, AV.rf 364544), (12, nI (IntKind.i64.wrap (i + 1)))] [(352256, ⟨nx.length, 1, gI nx⟩), (364544, ⟨op.length, 1, gI op⟩), (724992, ⟨rs.length, 14, (goRecS rs)⟩), (827392, ⟨os.length + 1, 1, fun i => lstG [nI (bif decide (i < os.length) then os.getD i 0 else bif decide (i - os.length = 0) then -1 else 0)]⟩)] []))
        else
          (none))
      else
        (Option.bind (Γ 37 [nI (ms.getD i.toNat zMark).Step.Who, nI 0, nI (IntKind.i64.wrap (zN ps.length - 1))] []) fun r4 =>
        bif !asB r4.fst then
          (bif bif okU then bif okT then true else false else false then
            (some (AV.tup 3 (lstG [AV.own 0 14 fun i => lstG [nI 0, nI 0, nI 0, nI 0, nI 0, nI 0, AV.S ByteArray.empty, nI 0, nI 0, AV.S ByteArray.empty, AV.own 0 3 fun i => lstG [nI 0, nI 0, AV.S ByteArray.empty], nI 0, nI 0, nI 0], AV.own 0 1 fun i => lstG [nI 0], AV.B false]), []))
          else
            (none))
        else
          (bif decide ((ms.getD i.toNat zMark).Step.Kind = 1) then
            (bif bif decide (0 ≤ (ms.getD i.toNat zMark).Step.Who) then decide ((ms.getD i.toNat zMark).Step.Who < zN op.length) else false then
              (bif decide (0 ≤ op.getD (ms.getD i.toNat zMark).Step.Who.toNat 0) then
                (bif bif okU then bif okT then true else false else false then
                  (some (AV.tup 3 (lstG [AV.own 0 14 fun i => lstG [nI 0, nI 0, nI 0, nI 0, nI 0, nI 0, AV.S ByteArray.empty, nI 0, nI 0, AV.S ByteArray.empty, AV.own 0 3 fun i => lstG [nI 0, nI 0, AV.S ByteArray.empty], nI 0, nI 0, nI 0], AV.own 0 1 fun i => lstG [nI 0], AV.B false]), []))
                else
                  (none))
              else
                (bif bif decide (0 ≤ (ms.getD i.toNat zMark).Step.Who) then decide ((ms.getD i.toNat zMark).Step.Who < zN nx.length) else false then
                  (bif bif decide (0 ≤ (ms.getD i.toNat zMark).Step.Who) then decide ((ms.getD i.toNat zMark).Step.Who < zN ps.length) else false then
                    (bif decide (zN (ps.getD (ms.getD i.toNat zMark).Step.Who.toNat []).length ≤ nx.getD (ms.getD i.toNat zMark).Step.Who.toNat 0) then
                      (bif bif okU then bif okT then true else false else false then
                        (some (AV.tup 3 (lstG [AV.own 0 14 fun i => lstG [nI 0, nI 0, nI 0, nI 0, nI 0, nI 0, AV.S ByteArray.empty, nI 0, nI 0, AV.S ByteArray.empty, AV.own 0 3 fun i => lstG [nI 0, nI 0, AV.S ByteArray.empty], nI 0, nI 0, nI 0], AV.own 0 1 fun i => lstG [nI 0], AV.B false]), []))
                      else
                        (none))
                    else
                      (bif bif decide (0 ≤ (ms.getD i.toNat zMark).Step.Who) then decide ((ms.getD i.toNat zMark).Step.Who < zN op.length) else false then
                        (bif bif decide (0 ≤ (ms.getD i.toNat zMark).Step.Who) then decide ((ms.getD i.toNat zMark).Step.Who < zN ps.length) else false then
                          (bif bif decide (0 ≤ (ms.getD i.toNat zMark).Step.Who) then decide ((ms.getD i.toNat zMark).Step.Who < zN nx.length) else false then
                            (bif bif decide (0 ≤ nx.getD (ms.getD i.toNat zMark).Step.Who.toNat 0) then decide (nx.getD (ms.getD i.toNat zMark).Step.Who.toNat 0 < zN (ps.getD (ms.getD i.toNat zMark).Step.Who.toNat []).length) else false then
                              (and2
                              (and2
                                (bif bif decide (0 ≤ (ms.getD i.toNat zMark).Step.Who) then decide ((ms.getD i.toNat zMark).Step.Who < zN nx.length) else false then
                                    (and2
                                    (Option.bind (Γ 54 [AV.ag 9 (lstG [nI ((ps.getD (ms.getD i.toNat zMark).Step.Who.toNat []).getD (nx.getD (ms.getD i.toNat zMark).Step.Who.toNat 0).toNat zCall).Op, nI ((ps.getD (ms.getD i.toNat zMark).Step.Who.toNat []).getD (nx.getD (ms.getD i.toNat zMark).Step.Who.toNat 0).toNat zCall).A, nI ((ps.getD (ms.getD i.toNat zMark).Step.Who.toNat []).getD (nx.getD (ms.getD i.toNat zMark).Step.Who.toNat 0).toNat zCall).B, nI ((ps.getD (ms.getD i.toNat zMark).Step.Who.toNat []).getD (nx.getD (ms.getD i.toNat zMark).Step.Who.toNat 0).toNat zCall).Tok, AV.S ((ps.getD (ms.getD i.toNat zMark).Step.Who.toNat []).getD (nx.getD (ms.getD i.toNat zMark).Step.Who.toNat 0).toNat zCall).Name, nI ((ps.getD (ms.getD i.toNat zMark).Step.Who.toNat []).getD (nx.getD (ms.getD i.toNat zMark).Step.Who.toNat 0).toNat zCall).Msg.Kind, nI ((ps.getD (ms.getD i.toNat zMark).Step.Who.toNat []).getD (nx.getD (ms.getD i.toNat zMark).Step.Who.toNat 0).toNat zCall).Msg.Num, AV.S ((ps.getD (ms.getD i.toNat zMark).Step.Who.toNat []).getD (nx.getD (ms.getD i.toNat zMark).Step.Who.toNat 0).toNat zCall).Msg.Text, slTermS ((ps.getD (ms.getD i.toNat zMark).Step.Who.toNat []).getD (nx.getD (ms.getD i.toNat zMark).Step.Who.toNat 0).toNat zCall).Filter])] []) fun r20 =>
                                      bif decide (rs.length + 1 ≤ 4294967296) && true && true && true && true then
                                        (H [true, true, true, true, true, true, true, false, true, true, true, false, true, true, true, false, true, false, true, true, false] (hdS [(0, slCallSS ps), (1, slMarkS ms), (7, AV.rf 724992), (8, AV.rf 827392), (9, AV.rf 352256), (10, AV.rf 364544), (12, nI i), (13, AV.pb 77 0)] [(352256, ⟨nx.length, 1, gI nx⟩), (364544, ⟨op.length, 1, fun i_1 => lstG [nI (bif decide (i_1 = (ms.getD i.toNat zMark).Step.Who.toNat) then zN rs.length else op.getD i_1 0)]⟩), (724992, ⟨rs.length + 1, 14, fun i_1 => lstG [nI (bif decide (i_1 < rs.length) then (rs.getD i_1 zRec).Who else bif decide (i_1 - rs.length = 0) then (ms.getD i.toNat zMark).Step.Who else 0), nI (bif decide (i_1 < rs.length) then (rs.getD i_1 zRec).Number else bif decide (i_1 - rs.length = 0) then nx.getD (ms.getD i.toNat zMark).Step.Who.toNat 0 else 0), nI (bif decide (i_1 < rs.length) then (rs.getD i_1 zRec).Call.Op else bif decide (i_1 - rs.length = 0) then asI (asA r20.fst 0) else 0), nI (bif decide (i_1 < rs.length) then (rs.getD i_1 zRec).Call.A else bif decide (i_1 - rs.length = 0) then asI (asA r20.fst 1) else 0), nI (bif decide (i_1 < rs.length) then (rs.getD i_1 zRec).Call.B else bif decide (i_1 - rs.length = 0) then asI (asA r20.fst 2) else 0), nI (bif decide (i_1 < rs.length) then (rs.getD i_1 zRec).Call.Tok else bif decide (i_1 - rs.length = 0) then asI (asA r20.fst 3) else 0), AV.S (bif decide (i_1 < rs.length) then (rs.getD i_1 zRec).Call.Name else bif decide (i_1 - rs.length = 0) then asS (asA r20.fst 4) else ByteArray.empty), nI (bif decide (i_1 < rs.length) then (rs.getD i_1 zRec).Call.Msg.Kind else bif decide (i_1 - rs.length = 0) then asI (asA r20.fst 5) else 0), nI (bif decide (i_1 < rs.length) then (rs.getD i_1 zRec).Call.Msg.Num else bif decide (i_1 - rs.length = 0) then asI (asA r20.fst 6) else 0), AV.S (bif decide (i_1 < rs.length) then (rs.getD i_1 zRec).Call.Msg.Text else bif decide (i_1 - rs.length = 0) then asS (asA r20.fst 7) else ByteArray.empty), AV.own (bif decide (i_1 < rs.length) then (rs.getD i_1 zRec).Call.Filter.length else bif decide (i_1 - rs.length = 0) then asN (asA r20.fst 8) else 0) 3 fun i => lstG [nI (bif decide (i_1 < rs.length) then ((rs.getD i_1 zRec).Call.Filter.getD i zTerm).Op else bif decide (i_1 - rs.length = 0) then asI (asG (asA r20.fst 8) i 0) else 0), nI (bif decide (i_1 < rs.length) then ((rs.getD i_1 zRec).Call.Filter.getD i zTerm).Num else bif decide (i_1 - rs.length = 0) then asI (asG (asA r20.fst 8) i 1) else 0), AV.S (bif decide (i_1 < rs.length) then ((rs.getD i_1 zRec).Call.Filter.getD i zTerm).Text else bif decide (i_1 - rs.length = 0) then asS (asG (asA r20.fst 8) i 2) else ByteArray.empty)], nI (bif decide (i_1 < rs.length) then (rs.getD i_1 zRec).First else bif decide (i_1 - rs.length = 0) then i else 0), nI (bif decide (i_1 < rs.length) then (rs.getD i_1 zRec).Last else bif decide (i_1 - rs.length = 0) then -1 else 0), nI (bif decide (i_1 < rs.length) then (rs.getD i_1 zRec).Code else bif decide (i_1 - rs.length = 0) then 0 else 0)]⟩), (827392, ⟨os.length, 1, gI os⟩)] [(77, 3, [nI (ms.getD i.toNat zMark).Step.Kind, nI (ms.getD i.toNat zMark).Step.Who, nI (ms.getD i.toNat zMark).Step.Leg])]))
                                      else
                                        (none))
                                    (Option.bind (Γ 54 [AV.ag 9 (lstG [nI ((ps.getD (ms.getD i.toNat zMark).Step.Who.toNat []).getD (nx.getD (ms.getD i.toNat zMark).Step.Who.toNat 0).toNat zCall).Op, nI ((ps.getD (ms.getD i.toNat zMark).Step.Who.toNat []).getD (nx.getD (ms.getD i.toNat zMark).Step.Who.toNat 0).toNat zCall).A, nI ((ps.getD (ms.getD i.toNat zMark).Step.Who.toNat []).getD (nx.getD (ms.getD i.toNat zMark).Step.Who.toNat 0).toNat zCall).B, nI ((ps.getD (ms.getD i.toNat zMark).Step.Who.toNat []).getD (nx.getD (ms.getD i.toNat zMark).Step.Who.toNat 0).toNat zCall).Tok, AV.S ((ps.getD (ms.getD i.toNat zMark).Step.Who.toNat []).getD (nx.getD (ms.getD i.toNat zMark).Step.Who.toNat 0).toNat zCall).Name, nI ((ps.getD (ms.getD i.toNat zMark).Step.Who.toNat []).getD (nx.getD (ms.getD i.toNat zMark).Step.Who.toNat 0).toNat zCall).Msg.Kind, nI ((ps.getD (ms.getD i.toNat zMark).Step.Who.toNat []).getD (nx.getD (ms.getD i.toNat zMark).Step.Who.toNat 0).toNat zCall).Msg.Num, AV.S ((ps.getD (ms.getD i.toNat zMark).Step.Who.toNat []).getD (nx.getD (ms.getD i.toNat zMark).Step.Who.toNat 0).toNat zCall).Msg.Text, slTermS ((ps.getD (ms.getD i.toNat zMark).Step.Who.toNat []).getD (nx.getD (ms.getD i.toNat zMark).Step.Who.toNat 0).toNat zCall).Filter])] []) fun r20 =>
                                      bif decide (rs.length + 1 ≤ 4294967296) && true && true && true && true then
                                        (H [true, true, true, true, true, true, true, false, true, true, true, false, true, true, true, false, true, false, true, true, false] (hdS [(0, slCallSS ps), (1, slMarkS ms), (7, AV.rf 724992), (8, AV.rf 827392), (9, AV.rf 352256), (10, AV.rf 364544), (12, nI i), (13, AV.pb 77 0)] [(352256, ⟨nx.length, 1, gI nx⟩), (364544, ⟨op.length, 1, fun i_1 => lstG [nI (bif decide (i_1 = (ms.getD i.toNat zMark).Step.Who.toNat) then zN rs.length else op.getD i_1 0)]⟩), (724992, ⟨rs.length + 1, 14, fun i_1 => lstG [nI (bif decide (i_1 < rs.length) then (rs.getD i_1 zRec).Who else bif decide (i_1 - rs.length = 0) then (ms.getD i.toNat zMark).Step.Who else 0), nI (bif decide (i_1 < rs.length) then (rs.getD i_1 zRec).Number else bif decide (i_1 - rs.length = 0) then nx.getD (ms.getD i.toNat zMark).Step.Who.toNat 0 else 0), nI (bif decide (i_1 < rs.length) then (rs.getD i_1 zRec).Call.Op else bif decide (i_1 - rs.length = 0) then asI (asA r20.fst 0) else 0), nI (bif decide (i_1 < rs.length) then (rs.getD i_1 zRec).Call.A else bif decide (i_1 - rs.length = 0) then asI (asA r20.fst 1) else 0), nI (bif decide (i_1 < rs.length) then (rs.getD i_1 zRec).Call.B else bif decide (i_1 - rs.length = 0) then asI (asA r20.fst 2) else 0), nI (bif decide (i_1 < rs.length) then (rs.getD i_1 zRec).Call.Tok else bif decide (i_1 - rs.length = 0) then asI (asA r20.fst 3) else 0), AV.S (bif decide (i_1 < rs.length) then (rs.getD i_1 zRec).Call.Name else bif decide (i_1 - rs.length = 0) then asS (asA r20.fst 4) else ByteArray.empty), nI (bif decide (i_1 < rs.length) then (rs.getD i_1 zRec).Call.Msg.Kind else bif decide (i_1 - rs.length = 0) then asI (asA r20.fst 5) else 0), nI (bif decide (i_1 < rs.length) then (rs.getD i_1 zRec).Call.Msg.Num else bif decide (i_1 - rs.length = 0) then asI (asA r20.fst 6) else 0), AV.S (bif decide (i_1 < rs.length) then (rs.getD i_1 zRec).Call.Msg.Text else bif decide (i_1 - rs.length = 0) then asS (asA r20.fst 7) else ByteArray.empty), AV.own (bif decide (i_1 < rs.length) then (rs.getD i_1 zRec).Call.Filter.length else bif decide (i_1 - rs.length = 0) then asN (asA r20.fst 8) else 0) 3 fun i => lstG [nI (bif decide (i_1 < rs.length) then ((rs.getD i_1 zRec).Call.Filter.getD i zTerm).Op else bif decide (i_1 - rs.length = 0) then asI (asG (asA r20.fst 8) i 0) else 0), nI (bif decide (i_1 < rs.length) then ((rs.getD i_1 zRec).Call.Filter.getD i zTerm).Num else bif decide (i_1 - rs.length = 0) then asI (asG (asA r20.fst 8) i 1) else 0), AV.S (bif decide (i_1 < rs.length) then ((rs.getD i_1 zRec).Call.Filter.getD i zTerm).Text else bif decide (i_1 - rs.length = 0) then asS (asG (asA r20.fst 8) i 2) else ByteArray.empty)], nI (bif decide (i_1 < rs.length) then (rs.getD i_1 zRec).First else bif decide (i_1 - rs.length = 0) then i else 0), nI (bif decide (i_1 < rs.length) then (rs.getD i_1 zRec).Last else bif decide (i_1 - rs.length = 0) then -1 else 0), nI (bif decide (i_1 < rs.length) then (rs.getD i_1 zRec).Code else bif decide (i_1 - rs.length = 0) then 0 else 0)]⟩), (827392, ⟨os.length, 1, gI os⟩)] [(77, 3, [nI (ms.getD i.toNat zMark).Step.Kind, nI (ms.getD i.toNat zMark).Step.Who, nI (ms.getD i.toNat zMark).Step.Leg])]))
                                      else
                                        (none)))
                                  else
                                    (none))
                                (Option.bind (Γ 54 [AV.ag 9 (lstG [nI ((ps.getD (ms.getD i.toNat zMark).Step.Who.toNat []).getD (nx.getD (ms.getD i.toNat zMark).Step.Who.toNat 0).toNat zCall).Op, nI ((ps.getD (ms.getD i.toNat zMark).Step.Who.toNat []).getD (nx.getD (ms.getD i.toNat zMark).Step.Who.toNat 0).toNat zCall).A, nI ((ps.getD (ms.getD i.toNat zMark).Step.Who.toNat []).getD (nx.getD (ms.getD i.toNat zMark).Step.Who.toNat 0).toNat zCall).B, nI ((ps.getD (ms.getD i.toNat zMark).Step.Who.toNat []).getD (nx.getD (ms.getD i.toNat zMark).Step.Who.toNat 0).toNat zCall).Tok, AV.S ((ps.getD (ms.getD i.toNat zMark).Step.Who.toNat []).getD (nx.getD (ms.getD i.toNat zMark).Step.Who.toNat 0).toNat zCall).Name, nI ((ps.getD (ms.getD i.toNat zMark).Step.Who.toNat []).getD (nx.getD (ms.getD i.toNat zMark).Step.Who.toNat 0).toNat zCall).Msg.Kind, nI ((ps.getD (ms.getD i.toNat zMark).Step.Who.toNat []).getD (nx.getD (ms.getD i.toNat zMark).Step.Who.toNat 0).toNat zCall).Msg.Num, AV.S ((ps.getD (ms.getD i.toNat zMark).Step.Who.toNat []).getD (nx.getD (ms.getD i.toNat zMark).Step.Who.toNat 0).toNat zCall).Msg.Text, slTermS ((ps.getD (ms.getD i.toNat zMark).Step.Who.toNat []).getD (nx.getD (ms.getD i.toNat zMark).Step.Who.toNat 0).toNat zCall).Filter])] []) fun r18 =>
                                  bif bif decide (0 ≤ (ms.getD i.toNat zMark).Step.Who) then decide ((ms.getD i.toNat zMark).Step.Who < zN nx.length) else false then
                                    (bif decide (rs.length + 1 ≤ 4294967296) && true && true && true && true then
                                      (H [true, true, true, true, true, true, true, false, true, true, true, false, true, true, true, false, true, false, true, true, false] (hdS [(0, slCallSS ps), (1, slMarkS ms), (7, AV.rf 724992), (8, AV.rf 827392), (9, AV.rf 352256), (10, AV.rf 364544), (12, nI i), (13, AV.pb 77 0)] [(352256, ⟨nx.length, 1, gI nx⟩), (364544, ⟨op.length, 1, fun i_1 => lstG [nI (bif decide (i_1 = (ms.getD i.toNat zMark).Step.Who.toNat) then zN rs.length else op.getD i_1 0)]⟩), (724992, ⟨rs.length + 1, 14, fun i_1 => lstG [nI (bif decide (i_1 < rs.length) then (rs.getD i_1 zRec).Who else bif decide (i_1 - rs.length = 0) then (ms.getD i.toNat zMark).Step.Who else 0), nI (bif decide (i_1 < rs.length) then (rs.getD i_1 zRec).Number else bif decide (i_1 - rs.length = 0) then nx.getD (ms.getD i.toNat zMark).Step.Who.toNat 0 else 0), nI (bif decide (i_1 < rs.length) then (rs.getD i_1 zRec).Call.Op else bif decide (i_1 - rs.length = 0) then asI (asA r18.fst 0) else 0), nI (bif decide (i_1 < rs.length) then (rs.getD i_1 zRec).Call.A else bif decide (i_1 - rs.length = 0) then asI (asA r18.fst 1) else 0), nI (bif decide (i_1 < rs.length) then (rs.getD i_1 zRec).Call.B else bif decide (i_1 - rs.length = 0) then asI (asA r18.fst 2) else 0), nI (bif decide (i_1 < rs.length) then (rs.getD i_1 zRec).Call.Tok else bif decide (i_1 - rs.length = 0) then asI (asA r18.fst 3) else 0), AV.S (bif decide (i_1 < rs.length) then (rs.getD i_1 zRec).Call.Name else bif decide (i_1 - rs.length = 0) then asS (asA r18.fst 4) else ByteArray.empty), nI (bif decide (i_1 < rs.length) then (rs.getD i_1 zRec).Call.Msg.Kind else bif decide (i_1 - rs.length = 0) then asI (asA r18.fst 5) else 0), nI (bif decide (i_1 < rs.length) then (rs.getD i_1 zRec).Call.Msg.Num else bif decide (i_1 - rs.length = 0) then asI (asA r18.fst 6) else 0), AV.S (bif decide (i_1 < rs.length) then (rs.getD i_1 zRec).Call.Msg.Text else bif decide (i_1 - rs.length = 0) then asS (asA r18.fst 7) else ByteArray.empty), AV.own (bif decide (i_1 < rs.length) then (rs.getD i_1 zRec).Call.Filter.length else bif decide (i_1 - rs.length = 0) then asN (asA r18.fst 8) else 0) 3 fun i => lstG [nI (bif decide (i_1 < rs.length) then ((rs.getD i_1 zRec).Call.Filter.getD i zTerm).Op else bif decide (i_1 - rs.length = 0) then asI (asG (asA r18.fst 8) i 0) else 0), nI (bif decide (i_1 < rs.length) then ((rs.getD i_1 zRec).Call.Filter.getD i zTerm).Num else bif decide (i_1 - rs.length = 0) then asI (asG (asA r18.fst 8) i 1) else 0), AV.S (bif decide (i_1 < rs.length) then ((rs.getD i_1 zRec).Call.Filter.getD i zTerm).Text else bif decide (i_1 - rs.length = 0) then asS (asG (asA r18.fst 8) i 2) else ByteArray.empty)], nI (bif decide (i_1 < rs.length) then (rs.getD i_1 zRec).First else bif decide (i_1 - rs.length = 0) then i else 0), nI (bif decide (i_1 < rs.length) then (rs.getD i_1 zRec).Last else bif decide (i_1 - rs.length = 0) then -1 else 0), nI (bif decide (i_1 < rs.length) then (rs.getD i_1 zRec).Code else bif decide (i_1 - rs.length = 0) then 0 else 0)]⟩), (827392, ⟨os.length, 1, gI os⟩)] [(77, 3, [nI (ms.getD i.toNat zMark).Step.Kind, nI (ms.getD i.toNat zMark).Step.Who, nI (ms.getD i.toNat zMark).Step.Leg])]))
                                    else
                                      (none))
                                  else
                                    (none)))
                              (and2
                                (bif bif decide (0 ≤ (ms.getD i.toNat zMark).Step.Who) then decide ((ms.getD i.toNat zMark).Step.Who < zN nx.length) else false then
                                    (and2
                                    (and2
                                      (Option.bind (Γ 54 [AV.ag 9 (lstG [nI ((ps.getD (ms.getD i.toNat zMark).Step.Who.toNat []).getD (nx.getD (ms.getD i.toNat zMark).Step.Who.toNat 0).toNat zCall).Op, nI ((ps.getD (ms.getD i.toNat zMark).Step.Who.toNat []).getD (nx.getD (ms.getD i.toNat zMark).Step.Who.toNat 0).toNat zCall).A, nI ((ps.getD (ms.getD i.toNat zMark).Step.Who.toNat []).getD (nx.getD (ms.getD i.toNat zMark).Step.Who.toNat 0).toNat zCall).B, nI ((ps.getD (ms.getD i.toNat zMark).Step.Who.toNat []).getD (nx.getD (ms.getD i.toNat zMark).Step.Who.toNat 0).toNat zCall).Tok, AV.S ((ps.getD (ms.getD i.toNat zMark).Step.Who.toNat []).getD (nx.getD (ms.getD i.toNat zMark).Step.Who.toNat 0).toNat zCall).Name, nI ((ps.getD (ms.getD i.toNat zMark).Step.Who.toNat []).getD (nx.getD (ms.getD i.toNat zMark).Step.Who.toNat 0).toNat zCall).Msg.Kind, nI ((ps.getD (ms.getD i.toNat zMark).Step.Who.toNat []).getD (nx.getD (ms.getD i.toNat zMark).Step.Who.toNat 0).toNat zCall).Msg.Num, AV.S ((ps.getD (ms.getD i.toNat zMark).Step.Who.toNat []).getD (nx.getD (ms.getD i.toNat zMark).Step.Who.toNat 0).toNat zCall).Msg.Text, slTermS ((ps.getD (ms.getD i.toNat zMark).Step.Who.toNat []).getD (nx.getD (ms.getD i.toNat zMark).Step.Who.toNat 0).toNat zCall).Filter])] []) fun r21 =>
                                        bif decide (rs.length + 1 ≤ 4294967296) && true && true && true && true then
                                          (H [true, true, true, true, true, true, true, false, true, true, true, false, true, true, true, false, true, false, true, true, false] (hdS [(0, slCallSS ps), (1, slMarkS ms), (7, AV.rf 724992), (8, AV.rf 827392), (9, AV.rf 352256), (10, AV.rf 364544), (12, nI i), (13, AV.pb 77 0)] [(352256, ⟨nx.length, 1, gI nx⟩), (364544, ⟨op.length, 1, fun i_1 => lstG [nI (bif decide (i_1 = (ms.getD i.toNat zMark).Step.Who.toNat) then zN rs.length else op.getD i_1 0)]⟩), (724992, ⟨rs.length + 1, 14, fun i_1 => lstG [nI (bif decide (i_1 < rs.length) then (rs.getD i_1 zRec).Who else bif decide (i_1 - rs.length = 0) then (ms.getD i.toNat zMark).Step.Who else 0), nI (bif decide (i_1 < rs.length) then (rs.getD i_1 zRec).Number else bif decide (i_1 - rs.length = 0) then nx.getD (ms.getD i.toNat zMark).Step.Who.toNat 0 else 0), nI (bif decide (i_1 < rs.length) then (rs.getD i_1 zRec).Call.Op else bif decide (i_1 - rs.length = 0) then asI (asA r21.fst 0) else 0), nI (bif decide (i_1 < rs.length) then (rs.getD i_1 zRec).Call.A else bif decide (i_1 - rs.length = 0) then asI (asA r21.fst 1) else 0), nI (bif decide (i_1 < rs.length) then (rs.getD i_1 zRec).Call.B else bif decide (i_1 - rs.length = 0) then asI (asA r21.fst 2) else 0), nI (bif decide (i_1 < rs.length) then (rs.getD i_1 zRec).Call.Tok else bif decide (i_1 - rs.length = 0) then asI (asA r21.fst 3) else 0), AV.S (bif decide (i_1 < rs.length) then (rs.getD i_1 zRec).Call.Name else bif decide (i_1 - rs.length = 0) then asS (asA r21.fst 4) else ByteArray.empty), nI (bif decide (i_1 < rs.length) then (rs.getD i_1 zRec).Call.Msg.Kind else bif decide (i_1 - rs.length = 0) then asI (asA r21.fst 5) else 0), nI (bif decide (i_1 < rs.length) then (rs.getD i_1 zRec).Call.Msg.Num else bif decide (i_1 - rs.length = 0) then asI (asA r21.fst 6) else 0), AV.S (bif decide (i_1 < rs.length) then (rs.getD i_1 zRec).Call.Msg.Text else bif decide (i_1 - rs.length = 0) then asS (asA r21.fst 7) else ByteArray.empty), AV.own (bif decide (i_1 < rs.length) then (rs.getD i_1 zRec).Call.Filter.length else bif decide (i_1 - rs.length = 0) then asN (asA r21.fst 8) else 0) 3 fun i => lstG [nI (bif decide (i_1 < rs.length) then ((rs.getD i_1 zRec).Call.Filter.getD i zTerm).Op else bif decide (i_1 - rs.length = 0) then asI (asG (asA r21.fst 8) i 0) else 0), nI (bif decide (i_1 < rs.length) then ((rs.getD i_1 zRec).Call.Filter.getD i zTerm).Num else bif decide (i_1 - rs.length = 0) then asI (asG (asA r21.fst 8) i 1) else 0), AV.S (bif decide (i_1 < rs.length) then ((rs.getD i_1 zRec).Call.Filter.getD i zTerm).Text else bif decide (i_1 - rs.length = 0) then asS (asG (asA r21.fst 8) i 2) else ByteArray.empty)], nI (bif decide (i_1 < rs.length) then (rs.getD i_1 zRec).First else bif decide (i_1 - rs.length = 0) then i else 0), nI (bif decide (i_1 < rs.length) then (rs.getD i_1 zRec).Last else bif decide (i_1 - rs.length = 0) then -1 else 0), nI (bif decide (i_1 < rs.length) then (rs.getD i_1 zRec).Code else bif decide (i_1 - rs.length = 0) then 0 else 0)]⟩), (827392, ⟨os.length, 1, gI os⟩)] [(77, 3, [nI (ms.getD i.toNat zMark).Step.Kind, nI (ms.getD i.toNat zMark).Step.Who, nI (ms.getD i.toNat zMark).Step.Leg])]))
                                        else
                                          (none))
                                      (Option.bind (Γ 54 [AV.ag 9 (lstG [nI ((ps.getD (ms.getD i.toNat zMark).Step.Who.toNat []).getD (nx.getD (ms.getD i.toNat zMark).Step.Who.toNat 0).toNat zCall).Op, nI ((ps.getD (ms.getD i.toNat zMark).Step.Who.toNat []).getD (nx.getD (ms.getD i.toNat zMark).Step.Who.toNat 0).toNat zCall).A, nI ((ps.getD (ms.getD i.toNat zMark).Step.Who.toNat []).getD (nx.getD (ms.getD i.toNat zMark).Step.Who.toNat 0).toNat zCall).B, nI ((ps.getD (ms.getD i.toNat zMark).Step.Who.toNat []).getD (nx.getD (ms.getD i.toNat zMark).Step.Who.toNat 0).toNat zCall).Tok, AV.S ((ps.getD (ms.getD i.toNat zMark).Step.Who.toNat []).getD (nx.getD (ms.getD i.toNat zMark).Step.Who.toNat 0).toNat zCall).Name, nI ((ps.getD (ms.getD i.toNat zMark).Step.Who.toNat []).getD (nx.getD (ms.getD i.toNat zMark).Step.Who.toNat 0).toNat zCall).Msg.Kind, nI ((ps.getD (ms.getD i.toNat zMark).Step.Who.toNat []).getD (nx.getD (ms.getD i.toNat zMark).Step.Who.toNat 0).toNat zCall).Msg.Num, AV.S ((ps.getD (ms.getD i.toNat zMark).Step.Who.toNat []).getD (nx.getD (ms.getD i.toNat zMark).Step.Who.toNat 0).toNat zCall).Msg.Text, slTermS ((ps.getD (ms.getD i.toNat zMark).Step.Who.toNat []).getD (nx.getD (ms.getD i.toNat zMark).Step.Who.toNat 0).toNat zCall).Filter])] []) fun r21 =>
                                        bif decide (rs.length + 1 ≤ 4294967296) && true && true && true && true then
                                          (H [true, true, true, true, true, true, true, false, true, true, true, false, true, true, true, false, true, false, true, true, false] (hdS [(0, slCallSS ps), (1, slMarkS ms), (7, AV.rf 724992), (8, AV.rf 827392), (9, AV.rf 352256), (10, AV.rf 364544), (12, nI i), (13, AV.pb 77 0)] [(352256, ⟨nx.length, 1, gI nx⟩), (364544, ⟨op.length, 1, fun i_1 => lstG [nI (bif decide (i_1 = (ms.getD i.toNat zMark).Step.Who.toNat) then zN rs.length else op.getD i_1 0)]⟩), (724992, ⟨rs.length + 1, 14, fun i_1 => lstG [nI (bif decide (i_1 < rs.length) then (rs.getD i_1 zRec).Who else bif decide (i_1 - rs.length = 0) then (ms.getD i.toNat zMark).Step.Who else 0), nI (bif decide (i_1 < rs.length) then (rs.getD i_1 zRec).Number else bif decide (i_1 - rs.length = 0) then nx.getD (ms.getD i.toNat zMark).Step.Who.toNat 0 else 0), nI (bif decide (i_1 < rs.length) then (rs.getD i_1 zRec).Call.Op else bif decide (i_1 - rs.length = 0) then asI (asA r21.fst 0) else 0), nI (bif decide (i_1 < rs.length) then (rs.getD i_1 zRec).Call.A else bif decide (i_1 - rs.length = 0) then asI (asA r21.fst 1) else 0), nI (bif decide (i_1 < rs.length) then (rs.getD i_1 zRec).Call.B else bif decide (i_1 - rs.length = 0) then asI (asA r21.fst 2) else 0), nI (bif decide (i_1 < rs.length) then (rs.getD i_1 zRec).Call.Tok else bif decide (i_1 - rs.length = 0) then asI (asA r21.fst 3) else 0), AV.S (bif decide (i_1 < rs.length) then (rs.getD i_1 zRec).Call.Name else bif decide (i_1 - rs.length = 0) then asS (asA r21.fst 4) else ByteArray.empty), nI (bif decide (i_1 < rs.length) then (rs.getD i_1 zRec).Call.Msg.Kind else bif decide (i_1 - rs.length = 0) then asI (asA r21.fst 5) else 0), nI (bif decide (i_1 < rs.length) then (rs.getD i_1 zRec).Call.Msg.Num else bif decide (i_1 - rs.length = 0) then asI (asA r21.fst 6) else 0), AV.S (bif decide (i_1 < rs.length) then (rs.getD i_1 zRec).Call.Msg.Text else bif decide (i_1 - rs.length = 0) then asS (asA r21.fst 7) else ByteArray.empty), AV.own (bif decide (i_1 < rs.length) then (rs.getD i_1 zRec).Call.Filter.length else bif decide (i_1 - rs.length = 0) then asN (asA r21.fst 8) else 0) 3 fun i => lstG [nI (bif decide (i_1 < rs.length) then ((rs.getD i_1 zRec).Call.Filter.getD i zTerm).Op else bif decide (i_1 - rs.length = 0) then asI (asG (asA r21.fst 8) i 0) else 0), nI (bif decide (i_1 < rs.length) then ((rs.getD i_1 zRec).Call.Filter.getD i zTerm).Num else bif decide (i_1 - rs.length = 0) then asI (asG (asA r21.fst 8) i 1) else 0), AV.S (bif decide (i_1 < rs.length) then ((rs.getD i_1 zRec).Call.Filter.getD i zTerm).Text else bif decide (i_1 - rs.length = 0) then asS (asG (asA r21.fst 8) i 2) else ByteArray.empty)], nI (bif decide (i_1 < rs.length) then (rs.getD i_1 zRec).First else bif decide (i_1 - rs.length = 0) then i else 0), nI (bif decide (i_1 < rs.length) then (rs.getD i_1 zRec).Last else bif decide (i_1 - rs.length = 0) then -1 else 0), nI (bif decide (i_1 < rs.length) then (rs.getD i_1 zRec).Code else bif decide (i_1 - rs.length = 0) then 0 else 0)]⟩), (827392, ⟨os.length, 1, gI os⟩)] [(77, 3, [nI (ms.getD i.toNat zMark).Step.Kind, nI (ms.getD i.toNat zMark).Step.Who, nI (ms.getD i.toNat zMark).Step.Leg])]))
                                        else
                                          (none)))
                                    (and2
                                      (and2
                                        (Option.bind (Γ 54 [AV.ag 9 (lstG [nI ((ps.getD (ms.getD i.toNat zMark).Step.Who.toNat []).getD (nx.getD (ms.getD i.toNat zMark).Step.Who.toNat 0).toNat zCall).Op, nI ((ps.getD (ms.getD i.toNat zMark).Step.Who.toNat []).getD (nx.getD (ms.getD i.toNat zMark).Step.Who.toNat 0).toNat zCall).A, nI ((ps.getD (ms.getD i.toNat zMark).Step.Who.toNat []).getD (nx.getD (ms.getD i.toNat zMark).Step.Who.toNat 0).toNat zCall).B, nI ((ps.getD (ms.getD i.toNat zMark).Step.Who.toNat []).getD (nx.getD (ms.getD i.toNat zMark).Step.Who.toNat 0).toNat zCall).Tok, AV.S ((ps.getD (ms.getD i.toNat zMark).Step.Who.toNat []).getD (nx.getD (ms.getD i.toNat zMark).Step.Who.toNat 0).toNat zCall).Name, nI ((ps.getD (ms.getD i.toNat zMark).Step.Who.toNat []).getD (nx.getD (ms.getD i.toNat zMark).Step.Who.toNat 0).toNat zCall).Msg.Kind, nI ((ps.getD (ms.getD i.toNat zMark).Step.Who.toNat []).getD (nx.getD (ms.getD i.toNat zMark).Step.Who.toNat 0).toNat zCall).Msg.Num, AV.S ((ps.getD (ms.getD i.toNat zMark).Step.Who.toNat []).getD (nx.getD (ms.getD i.toNat zMark).Step.Who.toNat 0).toNat zCall).Msg.Text, slTermS ((ps.getD (ms.getD i.toNat zMark).Step.Who.toNat []).getD (nx.getD (ms.getD i.toNat zMark).Step.Who.toNat 0).toNat zCall).Filter])] []) fun r22 =>
                                          bif decide (rs.length + 1 ≤ 4294967296) && true && true && true && true then
                                            (H [true, true, true, true, true, true, true, false, true, true, true, false, true, true, true, false, true, false, true, true, false] (hdS [(0, slCallSS ps), (1, slMarkS ms), (7, AV.rf 724992), (8, AV.rf 827392), (9, AV.rf 352256), (10, AV.rf 364544), (12, nI i), (13, AV.pb 77 0)] [(352256, ⟨nx.length, 1, gI nx⟩), (364544, ⟨op.length, 1, fun i_1 => lstG [nI (bif decide (i_1 = (ms.getD i.toNat zMark).Step.Who.toNat) then zN rs.length else op.getD i_1 0)]⟩), (724992, ⟨rs.length + 1, 14, fun i_1 => lstG [nI (bif decide (i_1 < rs.length) then (rs.getD i_1 zRec).Who else bif decide (i_1 - rs.length = 0) then (ms.getD i.toNat zMark).Step.Who else 0), nI (bif decide (i_1 < rs.length) then (rs.getD i_1 zRec).Number else bif decide (i_1 - rs.length = 0) then nx.getD (ms.getD i.toNat zMark).Step.Who.toNat 0 else 0), nI (bif decide (i_1 < rs.length) then (rs.getD i_1 zRec).Call.Op else bif decide (i_1 - rs.length = 0) then asI (asA r22.fst 0) else 0), nI (bif decide (i_1 < rs.length) then (rs.getD i_1 zRec).Call.A else bif decide (i_1 - rs.length = 0) then asI (asA r22.fst 1) else 0), nI (bif decide (i_1 < rs.length) then (rs.getD i_1 zRec).Call.B else bif decide (i_1 - rs.length = 0) then asI (asA r22.fst 2) else 0), nI (bif decide (i_1 < rs.length) then (rs.getD i_1 zRec).Call.Tok else bif decide (i_1 - rs.length = 0) then asI (asA r22.fst 3) else 0), AV.S (bif decide (i_1 < rs.length) then (rs.getD i_1 zRec).Call.Name else bif decide (i_1 - rs.length = 0) then asS (asA r22.fst 4) else ByteArray.empty), nI (bif decide (i_1 < rs.length) then (rs.getD i_1 zRec).Call.Msg.Kind else bif decide (i_1 - rs.length = 0) then asI (asA r22.fst 5) else 0), nI (bif decide (i_1 < rs.length) then (rs.getD i_1 zRec).Call.Msg.Num else bif decide (i_1 - rs.length = 0) then asI (asA r22.fst 6) else 0), AV.S (bif decide (i_1 < rs.length) then (rs.getD i_1 zRec).Call.Msg.Text else bif decide (i_1 - rs.length = 0) then asS (asA r22.fst 7) else ByteArray.empty), AV.own (bif decide (i_1 < rs.length) then (rs.getD i_1 zRec).Call.Filter.length else bif decide (i_1 - rs.length = 0) then asN (asA r22.fst 8) else 0) 3 fun i => lstG [nI (bif decide (i_1 < rs.length) then ((rs.getD i_1 zRec).Call.Filter.getD i zTerm).Op else bif decide (i_1 - rs.length = 0) then asI (asG (asA r22.fst 8) i 0) else 0), nI (bif decide (i_1 < rs.length) then ((rs.getD i_1 zRec).Call.Filter.getD i zTerm).Num else bif decide (i_1 - rs.length = 0) then asI (asG (asA r22.fst 8) i 1) else 0), AV.S (bif decide (i_1 < rs.length) then ((rs.getD i_1 zRec).Call.Filter.getD i zTerm).Text else bif decide (i_1 - rs.length = 0) then asS (asG (asA r22.fst 8) i 2) else ByteArray.empty)], nI (bif decide (i_1 < rs.length) then (rs.getD i_1 zRec).First else bif decide (i_1 - rs.length = 0) then i else 0), nI (bif decide (i_1 < rs.length) then (rs.getD i_1 zRec).Last else bif decide (i_1 - rs.length = 0) then -1 else 0), nI (bif decide (i_1 < rs.length) then (rs.getD i_1 zRec).Code else bif decide (i_1 - rs.length = 0) then 0 else 0)]⟩), (827392, ⟨os.length, 1, gI os⟩)] [(77, 3, [nI (ms.getD i.toNat zMark).Step.Kind, nI (ms.getD i.toNat zMark).Step.Who, nI (ms.getD i.toNat zMark).Step.Leg])]))
                                          else
                                            (none))
                                        (Option.bind (Γ 54 [AV.ag 9 (lstG [nI ((ps.getD (ms.getD i.toNat zMark).Step.Who.toNat []).getD (nx.getD (ms.getD i.toNat zMark).Step.Who.toNat 0).toNat zCall).Op, nI ((ps.getD (ms.getD i.toNat zMark).Step.Who.toNat []).getD (nx.getD (ms.getD i.toNat zMark).Step.Who.toNat 0).toNat zCall).A, nI ((ps.getD (ms.getD i.toNat zMark).Step.Who.toNat []).getD (nx.getD (ms.getD i.toNat zMark).Step.Who.toNat 0).toNat zCall).B, nI ((ps.getD (ms.getD i.toNat zMark).Step.Who.toNat []).getD (nx.getD (ms.getD i.toNat zMark).Step.Who.toNat 0).toNat zCall).Tok, AV.S ((ps.getD (ms.getD i.toNat zMark).Step.Who.toNat []).getD (nx.getD (ms.getD i.toNat zMark).Step.Who.toNat 0).toNat zCall).Name, nI ((ps.getD (ms.getD i.toNat zMark).Step.Who.toNat []).getD (nx.getD (ms.getD i.toNat zMark).Step.Who.toNat 0).toNat zCall).Msg.Kind, nI ((ps.getD (ms.getD i.toNat zMark).Step.Who.toNat []).getD (nx.getD (ms.getD i.toNat zMark).Step.Who.toNat 0).toNat zCall).Msg.Num, AV.S ((ps.getD (ms.getD i.toNat zMark).Step.Who.toNat []).getD (nx.getD (ms.getD i.toNat zMark).Step.Who.toNat 0).toNat zCall).Msg.Text, slTermS ((ps.getD (ms.getD i.toNat zMark).Step.Who.toNat []).getD (nx.getD (ms.getD i.toNat zMark).Step.Who.toNat 0).toNat zCall).Filter])] []) fun r22 =>
                                          bif decide (rs.length + 1 ≤ 4294967296) && true && true && true && true then
                                            (H [true, true, true, true, true, true, true, false, true, true, true, false, true, true, true, false, true, false, true, true, false] (hdS [(0, slCallSS ps), (1, slMarkS ms), (7, AV.rf 724992), (8, AV.rf 827392), (9, AV.rf 352256), (10, AV.rf 364544), (12, nI i), (13, AV.pb 77 0)] [(352256, ⟨nx.length, 1, gI nx⟩), (364544, ⟨op.length, 1, fun i_1 => lstG [nI (bif decide (i_1 = (ms.getD i.toNat zMark).Step.Who.toNat) then zN rs.length else op.getD i_1 0)]⟩), (724992, ⟨rs.length + 1, 14, fun i_1 => lstG [nI (bif decide (i_1 < rs.length) then (rs.getD i_1 zRec).Who else bif decide (i_1 - rs.length = 0) then (ms.getD i.toNat zMark).Step.Who else 0), nI (bif decide (i_1 < rs.length) then (rs.getD i_1 zRec).Number else bif decide (i_1 - rs.length = 0) then nx.getD (ms.getD i.toNat zMark).Step.Who.toNat 0 else 0), nI (bif decide (i_1 < rs.length) then (rs.getD i_1 zRec).Call.Op else bif decide (i_1 - rs.length = 0) then asI (asA r22.fst 0) else 0), nI (bif decide (i_1 < rs.length) then (rs.getD i_1 zRec).Call.A else bif decide (i_1 - rs.length = 0) then asI (asA r22.fst 1) else 0), nI (bif decide (i_1 < rs.length) then (rs.getD i_1 zRec).Call.B else bif decide (i_1 - rs.length = 0) then asI (asA r22.fst 2) else 0), nI (bif decide (i_1 < rs.length) then (rs.getD i_1 zRec).Call.Tok else bif decide (i_1 - rs.length = 0) then asI (asA r22.fst 3) else 0), AV.S (bif decide (i_1 < rs.length) then (rs.getD i_1 zRec).Call.Name else bif decide (i_1 - rs.length = 0) then asS (asA r22.fst 4) else ByteArray.empty), nI (bif decide (i_1 < rs.length) then (rs.getD i_1 zRec).Call.Msg.Kind else bif decide (i_1 - rs.length = 0) then asI (asA r22.fst 5) else 0), nI (bif decide (i_1 < rs.length) then (rs.getD i_1 zRec).Call.Msg.Num else bif decide (i_1 - rs.length = 0) then asI (asA r22.fst 6) else 0), AV.S (bif decide (i_1 < rs.length) then (rs.getD i_1 zRec).Call.Msg.Text else bif decide (i_1 - rs.length = 0) then asS (asA r22.fst 7) else ByteArray.empty), AV.own (bif decide (i_1 < rs.length) then (rs.getD i_1 zRec).Call.Filter.length else bif decide (i_1 - rs.length = 0) then asN (asA r22.fst 8) else 0) 3 fun i => lstG [nI (bif decide (i_1 < rs.length) then ((rs.getD i_1 zRec).Call.Filter.getD i zTerm).Op else bif decide (i_1 - rs.length = 0) then asI (asG (asA r22.fst 8) i 0) else 0), nI (bif decide (i_1 < rs.length) then ((rs.getD i_1 zRec).Call.Filter.getD i zTerm).Num else bif decide (i_1 - rs.length = 0) then asI (asG (asA r22.fst 8) i 1) else 0), AV.S (bif decide (i_1 < rs.length) then ((rs.getD i_1 zRec).Call.Filter.getD i zTerm).Text else bif decide (i_1 - rs.length = 0) then asS (asG (asA r22.fst 8) i 2) else ByteArray.empty)], nI (bif decide (i_1 < rs.length) then (rs.getD i_1 zRec).First else bif decide (i_1 - rs.length = 0) then i else 0), nI (bif decide (i_1 < rs.length) then (rs.getD i_1 zRec).Last else bif decide (i_1 - rs.length = 0) then -1 else 0), nI (bif decide (i_1 < rs.length) then (rs.getD i_1 zRec).Code else bif decide (i_1 - rs.length = 0) then 0 else 0)]⟩), (827392, ⟨os.length, 1, gI os⟩)] [(77, 3, [nI (ms.getD i.toNat zMark).Step.Kind, nI (ms.getD i.toNat zMark).Step.Who, nI (ms.getD i.toNat zMark).Step.Leg])]))
                                          else
                                            (none)))
                                      (Option.bind (Γ 54 [AV.ag 9 (lstG [nI ((ps.getD (ms.getD i.toNat zMark).Step.Who.toNat []).getD (nx.getD (ms.getD i.toNat zMark).Step.Who.toNat 0).toNat zCall).Op, nI ((ps.getD (ms.getD i.toNat zMark).Step.Who.toNat []).getD (nx.getD (ms.getD i.toNat zMark).Step.Who.toNat 0).toNat zCall).A, nI ((ps.getD (ms.getD i.toNat zMark).Step.Who.toNat []).getD (nx.getD (ms.getD i.toNat zMark).Step.Who.toNat 0).toNat zCall).B, nI ((ps.getD (ms.getD i.toNat zMark).Step.Who.toNat []).getD (nx.getD (ms.getD i.toNat zMark).Step.Who.toNat 0).toNat zCall).Tok, AV.S ((ps.getD (ms.getD i.toNat zMark).Step.Who.toNat []).getD (nx.getD (ms.getD i.toNat zMark).Step.Who.toNat 0).toNat zCall).Name, nI ((ps.getD (ms.getD i.toNat zMark).Step.Who.toNat []).getD (nx.getD (ms.getD i.toNat zMark).Step.Who.toNat 0).toNat zCall).Msg.Kind, nI ((ps.getD (ms.getD i.toNat zMark).Step.Who.toNat []).getD (nx.getD (ms.getD i.toNat zMark).Step.Who.toNat 0).toNat zCall).Msg.Num, AV.S ((ps.getD (ms.getD i.toNat zMark).Step.Who.toNat []).getD (nx.getD (ms.getD i.toNat zMark).Step.Who.toNat 0).toNat zCall).Msg.Text, slTermS ((ps.getD (ms.getD i.toNat zMark).Step.Who.toNat []).getD (nx.getD (ms.getD i.toNat zMark).Step.Who.toNat 0).toNat zCall).Filter])] []) fun r21 =>
                                        bif decide (rs.length + 1 ≤ 4294967296) && true && true && true && true then
                                          (H [true, true, true, true, true, true, true, false, true, true, true, false, true, true, true, false, true, false, true, true, false] (hdS [(0, slCallSS ps), (1, slMarkS ms), (7, AV.rf 724992), (8, AV.rf 827392), (9, AV.rf 352256), (10, AV.rf 364544), (12, nI i), (13, AV.pb 77 0)] [(352256, ⟨nx.length, 1, gI nx⟩), (364544, ⟨op.length, 1, fun i_1 => lstG [nI (bif decide (i_1 = (ms.getD i.toNat zMark).Step.Who.toNat) then zN rs.length else op.getD i_1 0)]⟩), (724992, ⟨rs.length + 1, 14, fun i_1 => lstG [nI (bif decide (i_1 < rs.length) then (rs.getD i_1 zRec).Who else bif decide (i_1 - rs.length = 0) then (ms.getD i.toNat zMark).Step.Who else 0), nI (bif decide (i_1 < rs.length) then (rs.getD i_1 zRec).Number else bif decide (i_1 - rs.length = 0) then nx.getD (ms.getD i.toNat zMark).Step.Who.toNat 0 else 0), nI (bif decide (i_1 < rs.length) then (rs.getD i_1 zRec).Call.Op else bif decide (i_1 - rs.length = 0) then asI (asA r21.fst 0) else 0), nI (bif decide (i_1 < rs.length) then (rs.getD i_1 zRec).Call.A else bif decide (i_1 - rs.length = 0) then asI (asA r21.fst 1) else 0), nI (bif decide (i_1 < rs.length) then (rs.getD i_1 zRec).Call.B else bif decide (i_1 - rs.length = 0) then asI (asA r21.fst 2) else 0), nI (bif decide (i_1 < rs.length) then (rs.getD i_1 zRec).Call.Tok else bif decide (i_1 - rs.length = 0) then asI (asA r21.fst 3) else 0), AV.S (bif decide (i_1 < rs.length) then (rs.getD i_1 zRec).Call.Name else bif decide (i_1 - rs.length = 0) then asS (asA r21.fst 4) else ByteArray.empty), nI (bif decide (i_1 < rs.length) then (rs.getD i_1 zRec).Call.Msg.Kind else bif decide (i_1 - rs.length = 0) then asI (asA r21.fst 5) else 0), nI (bif decide (i_1 < rs.length) then (rs.getD i_1 zRec).Call.Msg.Num else bif decide (i_1 - rs.length = 0) then asI (asA r21.fst 6) else 0), AV.S (bif decide (i_1 < rs.length) then (rs.getD i_1 zRec).Call.Msg.Text else bif decide (i_1 - rs.length = 0) then asS (asA r21.fst 7) else ByteArray.empty), AV.own (bif decide (i_1 < rs.length) then (rs.getD i_1 zRec).Call.Filter.length else bif decide (i_1 - rs.length = 0) then asN (asA r21.fst 8) else 0) 3 fun i => lstG [nI (bif decide (i_1 < rs.length) then ((rs.getD i_1 zRec).Call.Filter.getD i zTerm).Op else bif decide (i_1 - rs.length = 0) then asI (asG (asA r21.fst 8) i 0) else 0), nI (bif decide (i_1 < rs.length) then ((rs.getD i_1 zRec).Call.Filter.getD i zTerm).Num else bif decide (i_1 - rs.length = 0) then asI (asG (asA r21.fst 8) i 1) else 0), AV.S (bif decide (i_1 < rs.length) then ((rs.getD i_1 zRec).Call.Filter.getD i zTerm).Text else bif decide (i_1 - rs.length = 0) then asS (asG (asA r21.fst 8) i 2) else ByteArray.empty)], nI (bif decide (i_1 < rs.length) then (rs.getD i_1 zRec).First else bif decide (i_1 - rs.length = 0) then i else 0), nI (bif decide (i_1 < rs.length) then (rs.getD i_1 zRec).Last else bif decide (i_1 - rs.length = 0) then -1 else 0), nI (bif decide (i_1 < rs.length) then (rs.getD i_1 zRec).Code else bif decide (i_1 - rs.length = 0) then 0 else 0)]⟩), (827392, ⟨os.length, 1, gI os⟩)] [(77, 3, [nI (ms.getD i.toNat zMark).Step.Kind, nI (ms.getD i.toNat zMark).Step.Who, nI (ms.getD i.toNat zMark).Step.Leg])]))
                                        else
                                          (none))))
                                  else
                                    (none))
                                (Option.bind (Γ 54 [AV.ag 9 (lstG [nI ((ps.getD (ms.getD i.toNat zMark).Step.Who.toNat []).getD (nx.getD (ms.getD i.toNat zMark).Step.Who.toNat 0).toNat zCall).Op, nI ((ps.getD (ms.getD i.toNat zMark).Step.Who.toNat []).getD (nx.getD (ms.getD i.toNat zMark).Step.Who.toNat 0).toNat zCall).A, nI ((ps.getD (ms.getD i.toNat zMark).Step.Who.toNat []).getD (nx.getD (ms.getD i.toNat zMark).Step.Who.toNat 0).toNat zCall).B, nI ((ps.getD (ms.getD i.toNat zMark).Step.Who.toNat []).getD (nx.getD (ms.getD i.toNat zMark).Step.Who.toNat 0).toNat zCall).Tok, AV.S ((ps.getD (ms.getD i.toNat zMark).Step.Who.toNat []).getD (nx.getD (ms.getD i.toNat zMark).Step.Who.toNat 0).toNat zCall).Name, nI ((ps.getD (ms.getD i.toNat zMark).Step.Who.toNat []).getD (nx.getD (ms.getD i.toNat zMark).Step.Who.toNat 0).toNat zCall).Msg.Kind, nI ((ps.getD (ms.getD i.toNat zMark).Step.Who.toNat []).getD (nx.getD (ms.getD i.toNat zMark).Step.Who.toNat 0).toNat zCall).Msg.Num, AV.S ((ps.getD (ms.getD i.toNat zMark).Step.Who.toNat []).getD (nx.getD (ms.getD i.toNat zMark).Step.Who.toNat 0).toNat zCall).Msg.Text, slTermS ((ps.getD (ms.getD i.toNat zMark).Step.Who.toNat []).getD (nx.getD (ms.getD i.toNat zMark).Step.Who.toNat 0).toNat zCall).Filter])] []) fun r18 =>
                                  bif bif decide (0 ≤ (ms.getD i.toNat zMark).Step.Who) then decide ((ms.getD i.toNat zMark).Step.Who < zN nx.length) else false then
                                    (bif decide (rs.length + 1 ≤ 4294967296) && true && true && true && true then
                                      (H [true, true, true, true, true, true, true, false, true, true, true, false, true, true, true, false, true, false, true, true, false] (hdS [(0, slCallSS ps), (1, slMarkS ms), (7, AV.rf 724992), (8, AV.rf 827392), (9, AV.rf 352256), (10, AV.rf 364544), (12, nI i), (13, AV.pb 77 0)] [(352256, ⟨nx.length, 1, gI nx⟩), (364544, ⟨op.length, 1, fun i_1 => lstG [nI (bif decide (i_1 = (ms.getD i.toNat zMark).Step.Who.toNat) then zN rs.length else op.getD i_1 0)]⟩), (724992, ⟨rs.length + 1, 14, fun i_1 => lstG [nI (bif decide (i_1 < rs.length) then (rs.getD i_1 zRec).Who else bif decide (i_1 - rs.length = 0) then (ms.getD i.toNat zMark).Step.Who else 0), nI (bif decide (i_1 < rs.length) then (rs.getD i_1 zRec).Number else bif decide (i_1 - rs.length = 0) then nx.getD (ms.getD i.toNat zMark).Step.Who.toNat 0 else 0), nI (bif decide (i_1 < rs.length) then (rs.getD i_1 zRec).Call.Op else bif decide (i_1 - rs.length = 0) then asI (asA r18.fst 0) else 0), nI (bif decide (i_1 < rs.length) then (rs.getD i_1 zRec).Call.A else bif decide (i_1 - rs.length = 0) then asI (asA r18.fst 1) else 0), nI (bif decide (i_1 < rs.length) then (rs.getD i_1 zRec).Call.B else bif decide (i_1 - rs.length = 0) then asI (asA r18.fst 2) else 0), nI (bif decide (i_1 < rs.length) then (rs.getD i_1 zRec).Call.Tok else bif decide (i_1 - rs.length = 0) then asI (asA r18.fst 3) else 0), AV.S (bif decide (i_1 < rs.length) then (rs.getD i_1 zRec).Call.Name else bif decide (i_1 - rs.length = 0) then asS (asA r18.fst 4) else ByteArray.empty), nI (bif decide (i_1 < rs.length) then (rs.getD i_1 zRec).Call.Msg.Kind else bif decide (i_1 - rs.length = 0) then asI (asA r18.fst 5) else 0), nI (bif decide (i_1 < rs.length) then (rs.getD i_1 zRec).Call.Msg.Num else bif decide (i_1 - rs.length = 0) then asI (asA r18.fst 6) else 0), AV.S (bif decide (i_1 < rs.length) then (rs.getD i_1 zRec).Call.Msg.Text else bif decide (i_1 - rs.length = 0) then asS (asA r18.fst 7) else ByteArray.empty), AV.own (bif decide (i_1 < rs.length) then (rs.getD i_1 zRec).Call.Filter.length else bif decide (i_1 - rs.length = 0) then asN (asA r18.fst 8) else 0) 3 fun i => lstG [nI (bif decide (i_1 < rs.length) then ((rs.getD i_1 zRec).Call.Filter.getD i zTerm).Op else bif decide (i_1 - rs.length = 0) then asI (asG (asA r18.fst 8) i 0) else 0), nI (bif decide (i_1 < rs.length) then ((rs.getD i_1 zRec).Call.Filter.getD i zTerm).Num else bif decide (i_1 - rs.length = 0) then asI (asG (asA r18.fst 8) i 1) else 0), AV.S (bif decide (i_1 < rs.length) then ((rs.getD i_1 zRec).Call.Filter.getD i zTerm).Text else bif decide (i_1 - rs.length = 0) then asS (asG (asA r18.fst 8) i 2) else ByteArray.empty)], nI (bif decide (i_1 < rs.length) then (rs.getD i_1 zRec).First else bif decide (i_1 - rs.length = 0) then i else 0), nI (bif decide (i_1 < rs.length) then (rs.getD i_1 zRec).Last else bif decide (i_1 - rs.length = 0) then -1 else 0), nI (bif decide (i_1 < rs.length) then (rs.getD i_1 zRec).Code else bif decide (i_1 - rs.length = 0) then 0 else 0)]⟩), (827392, ⟨os.length, 1, gI os⟩)] [(77, 3, [nI (ms.getD i.toNat zMark).Step.Kind, nI (ms.getD i.toNat zMark).Step.Who, nI (ms.getD i.toNat zMark).Step.Leg])]))
                                    else
                                      (none))
                                  else
                                    (none))))
                            else
                              (none))
                          else
                            (none))
                        else
                          (none))
                      else
                        (none)))
                  else
                    (none))
                else
                  (none)))
            else
              (none))
          else
            (bif bif decide (0 ≤ (ms.getD i.toNat zMark).Step.Who) then decide ((ms.getD i.toNat zMark).Step.Who < zN op.length) else false then
              (bif decide (op.getD (ms.getD i.toNat zMark).Step.Who.toNat 0 < 0) then
                (bif bif okU then bif okT then true else false else false then
                  (some (AV.tup 3 (lstG [AV.own 0 14 fun i => lstG [nI 0, nI 0, nI 0, nI 0, nI 0, nI 0, AV.S ByteArray.empty, nI 0, nI 0, AV.S ByteArray.empty, AV.own 0 3 fun i => lstG [nI 0, nI 0, AV.S ByteArray.empty], nI 0, nI 0, nI 0], AV.own 0 1 fun i => lstG [nI 0], AV.B false]), []))
                else
                  (none))
              else
                (bif bif decide (0 ≤ (ms.getD i.toNat zMark).Step.Who) then decide ((ms.getD i.toNat zMark).Step.Who < zN op.length) else false then
                  (bif decide (os.length + 1 ≤ 4294967296) && true && true && true && true then
                    (bif bif decide (0 ≤ i) then decide (i < zN ms.length) else false then
                      (bif bif decide (0 ≤ op.getD (ms.getD i.toNat zMark).Step.Who.toNat 0) then decide (op.getD (ms.getD i.toNat zMark).Step.Who.toNat 0 < zN rs.length) else false then
                        (bif decide ((ms.getD i.toNat zMark).Step.Kind = 3) then
                          (bif bif decide (0 ≤ op.getD (ms.getD i.toNat zMark).Step.Who.toNat 0) then decide (op.getD (ms.getD i.toNat zMark).Step.Who.toNat 0 < zN rs.length) else false then
                            (bif bif decide (0 ≤ (ms.getD i.toNat zMark).Step.Who) then decide ((ms.getD i.toNat zMark).Step.Who < zN op.length) else false then
                              (H [true, true, true, true, true, true, true, false, true] (hdS [(0, slCallSS ps), (1, slMarkS ms), (7, AV.rf 724992), (8, AV.rf 827392), (9, AV.rf 352256), (10, AV.rf 364544), (12, nI (IntKind.i64.wrap (i + 1)))] [(352256, ⟨nx.length, 1, gI nx⟩), (364544, ⟨op.length, 1, fun i_1 => lstG [nI (bif decide (i_1 = (ms.getD i.toNat zMark).Step.Who.toNat) then -1 else op.getD i_1 0)]⟩), (724992, ⟨rs.length, 14, fun i_1 => lstG [nI (rs.getD i_1 zRec).Who, nI (rs.getD i_1 zRec).Number, nI (rs.getD i_1 zRec).Call.Op, nI (rs.getD i_1 zRec).Call.A, nI (rs.getD i_1 zRec).Call.B, nI (rs.getD i_1 zRec).Call.Tok, AV.S (rs.getD i_1 zRec).Call.Name, nI (rs.getD i_1 zRec).Call.Msg.Kind, nI (rs.getD i_1 zRec).Call.Msg.Num, AV.S (rs.getD i_1 zRec).Call.Msg.Text, owTermS (rs.getD i_1 zRec).Call.Filter, nI (rs.getD i_1 zRec).First, nI (bif decide (i_1 = (op.getD (ms.getD i.toNat zMark).Step.Who.toNat 0).toNat) then i else (rs.getD i_1 zRec).Last), nI (bif decide (i_1 = (op.getD (ms.getD i.toNat zMark).Step.Who.toNat 0).toNat) then (ms.getD i.toNat zMark).Reply.Code else (rs.getD i_1 zRec).Code)]⟩), (827392, ⟨os.length + 1, 1, fun i_1 => lstG [nI (bif decide (i_1 < os.length) then os.getD i_1 0 else bif decide (i_1 - os.length = 0) then op.getD (ms.getD i.toNat zMark).Step.Who.toNat 0 else 0)]⟩)] []))
                            else
                              (none))
                          else
                            (none))
                        else
                          (bif bif decide (0 ≤ i) then decide (i < zN ms.length) else false then
                            (bif !decide ((ms.getD i.toNat zMark).Reply.Code = 4) then
                              (bif bif decide (0 ≤ op.getD (ms.getD i.toNat zMark).Step.Who.toNat 0) then decide (op.getD (ms.getD i.toNat zMark).Step.Who.toNat 0 < zN rs.length) else false then
                                (bif bif decide (0 ≤ (ms.getD i.toNat zMark).Step.Who) then decide ((ms.getD i.toNat zMark).Step.Who < zN op.length) else false then
                                  (H [true, true, true, true, true, true, true, false, true] (hdS [(0, slCallSS ps), (1, slMarkS ms), (7, AV.rf 724992), (8, AV.rf 827392), (9, AV.rf 352256), (10, AV.rf 364544), (12, nI (IntKind.i64.wrap (i + 1)))] [(352256, ⟨nx.length, 1, gI nx⟩), (364544, ⟨op.length, 1, fun i_1 => lstG [nI (bif decide (i_1 = (ms.getD i.toNat zMark).Step.Who.toNat) then -1 else op.getD i_1 0)]⟩), (724992, ⟨rs.length, 14, fun i_1 => lstG [nI (rs.getD i_1 zRec).Who, nI (rs.getD i_1 zRec).Number, nI (rs.getD i_1 zRec).Call.Op, nI (rs.getD i_1 zRec).Call.A, nI (rs.getD i_1 zRec).Call.B, nI (rs.getD i_1 zRec).Call.Tok, AV.S (rs.getD i_1 zRec).Call.Name, nI (rs.getD i_1 zRec).Call.Msg.Kind, nI (rs.getD i_1 zRec).Call.Msg.Num, AV.S (rs.getD i_1 zRec).Call.Msg.Text, owTermS (rs.getD i_1 zRec).Call.Filter, nI (rs.getD i_1 zRec).First, nI (bif decide (i_1 = (op.getD (ms.getD i.toNat zMark).Step.Who.toNat 0).toNat) then i else (rs.getD i_1 zRec).Last), nI (bif decide (i_1 = (op.getD (ms.getD i.toNat zMark).Step.Who.toNat 0).toNat) then (ms.getD i.toNat zMark).Reply.Code else (rs.getD i_1 zRec).Code)]⟩), (827392, ⟨os.length + 1, 1, fun i_1 => lstG [nI (bif decide (i_1 < os.length) then os.getD i_1 0 else bif decide (i_1 - os.length = 0) then op.getD (ms.getD i.toNat zMark).Step.Who.toNat 0 else 0)]⟩)] []))
                                else
                                  (none))
                              else
                                (none))
                            else
                              (H [true, true, true, true, true, true, true, false, true] (hdS [(0, slCallSS ps), (1, slMarkS ms), (7, AV.rf 724992), (8, AV.rf 827392), (9, AV.rf 352256), (10, AV.rf 364544), (12, nI (IntKind.i64.wrap (i + 1)))] [(352256, ⟨nx.length, 1, gI nx⟩), (364544, ⟨op.length, 1, gI op⟩), (724992, ⟨rs.length, 14, fun i_1 => lstG [nI (rs.getD i_1 zRec).Who, nI (rs.getD i_1 zRec).Number, nI (rs.getD i_1 zRec).Call.Op, nI (rs.getD i_1 zRec).Call.A, nI (rs.getD i_1 zRec).Call.B, nI (rs.getD i_1 zRec).Call.Tok, AV.S (rs.getD i_1 zRec).Call.Name, nI (rs.getD i_1 zRec).Call.Msg.Kind, nI (rs.getD i_1 zRec).Call.Msg.Num, AV.S (rs.getD i_1 zRec).Call.Msg.Text, owTermS (rs.getD i_1 zRec).Call.Filter, nI (rs.getD i_1 zRec).First, nI (rs.getD i_1 zRec).Last, nI (bif decide (i_1 = (op.getD (ms.getD i.toNat zMark).Step.Who.toNat 0).toNat) then (ms.getD i.toNat zMark).Reply.Code else (rs.getD i_1 zRec).Code)]⟩), (827392, ⟨os.length + 1, 1, fun i_1 => lstG [nI (bif decide (i_1 < os.length) then os.getD i_1 0 else bif decide (i_1 - os.length = 0) then op.getD (ms.getD i.toNat zMark).Step.Who.toNat 0 else 0)]⟩)] [])))
                          else
                            (none)))
                      else
                        (none))
                    else
                      (none))
                  else
                    (none))
                else
                  (none)))
            else
              (none)))))
    else
      (none))
  else
    (bif bif okU then bif okT then true else false else false then
      (some (AV.tup 3 (lstG [owRecS rs, AV.own os.length 1 (gI os), AV.B true]), []))
    else
      (none)) := by kernel_rfl
theorem h35a (Γ : Orc) (H : Hd) (ps : List (List VCall)) (ms : List VMark) (la : List Int) (m i : Int) : hed Try.prog cfg Γ 35 H [] [true, true, true, false, true] (hdS [(0, slCallSS ps), (1, slMarkS ms), (7, .pb 80 0), (18, nI m), (19, nI i)] [(372736, ⟨la.length, 1, gI la⟩)] [(80, 2, [.nsl 14 (fun _ => lstG [nI 0, nI 0, nI 0, nI 0, nI 0, nI 0, .S ByteArray.empty, nI 0, nI 0, .S ByteArray.empty, .own 0 3 (fun _ => lstG [nI 0, nI 0, .S ByteArray.empty]), nI 0, nI 0, nI 0]), .rf 372736])]) =
  bif decide (i < m) then
    (bif decide (la.length + 1 ≤ 4294967296) && true && true && true && true then
      (H [true, true, true, false, true] (hdS [(0, slCallSS ps), (1, slMarkS ms), (7, AV.pb 80 0), (18, nI m), (19, nI (IntKind.i64.wrap (i + 1)))] [(372736, ⟨la.length + 1, 1, fun i => lstG [nI (bif decide (i < la.length) then la.getD i 0 else bif decide (i - la.length = 0) then -1 else 0)]⟩)] [(80, 2, [AV.nsl 14 fun x => lstG [nI 0, nI 0, nI 0, nI 0, nI 0, nI 0, AV.S ByteArray.empty, nI 0, nI 0, AV.S ByteArray.empty, AV.own 0 3 fun x => lstG [nI 0, nI 0, AV.S ByteArray.empty], nI 0, nI 0, nI 0], AV.rf 372736])]))
    else
      (none))
  else
    (H [true, true, true, true, true, false, true] (hdS [(0, slCallSS ps), (7, AV.pb 80 0), (8, AV.rf 450560), (32, slMarkS ms), (33, nI (zN ms.length)), (34, nI 0)] [(450560, ⟨0, 1, fun i => lstG [nI 0]⟩), (522240, ⟨0, 14, fun i => lstG [nI 0, nI 0, nI 0, nI 0, nI 0, nI 0, AV.S ByteArray.empty, nI 0, nI 0, AV.S ByteArray.empty, AV.own 0 3 fun i => lstG [nI 0, nI 0, AV.S ByteArray.empty], nI 0, nI 0, nI 0]⟩), (522241, ⟨la.length, 1, gI la⟩)] [(80, 2, [AV.rf 522240, AV.rf 522241])])) := by kernel_rfl
theorem h35b (Γ : Orc) (H : Hd) (ps : List (List VCall)) (ms : List VMark) (rs : List VRec) (la os : List Int) (m i : Int) : hed Try.prog cfg Γ 35 H [] [true, true, true, true, true, false, true] (hdS [(0, slCallSS ps), (7, .pb 80 0), (8, .rf 450560), (32, slMarkS ms), (33, nI m), (34, nI i)] [(450560, ⟨os.length, 1, gI os⟩), (522240, ⟨rs.length, 14, goRecS rs⟩), (522241, ⟨la.length, 1, gI la⟩)] [(80, 2, [.rf 522240, .rf 522241])]) =
  bif decide (i < m) then
    (bif bif decide (0 ≤ i) then decide (i < zN ms.length) else false then
      (Option.bind (Γ 38 [nI (ms.getD i.toNat zMark).Step.Kind, nI 1, nI 3] []) fun r2 =>
      bif !asB r2.fst then
        (bif decide (os.length + 1 ≤ 4294967296) && true && true && true && true then
          (H [true, true, true, true, true, false, true] (hdS [(0, slCallSS ps), (7, AV.pb 80 0), (8, AV.rf 450560), (32, slMarkS ms), (33, nI m), (34, nI (IntKind.i64.wrap (i + 1)))] [(450560, ⟨os.length + 1, 1, fun i => lstG [nI (bif decide (i < os.length) then os.getD i 0 else bif decide (i - os.length = 0) then -1 else 0)]⟩), (522240, ⟨rs.length, 14, (goRecS rs)⟩), (522241, ⟨la.length, 1, gI la⟩)] [(80, 2, [AV.rf 522240, AV.rf 522241])]))
        else
          (none))
      else
        (Option.bind (Γ 38 [nI (ms.getD i.toNat zMark).Step.Who, nI 0, nI (IntKind.i64.wrap (zN ps.length - 1))] []) fun r4 =>
        bif !asB r4.fst then
          (bif bif okU then bif okT then true else false else false then
            (some (AV.tup 3 (lstG [AV.own 0 14 fun i => lstG [nI 0, nI 0, nI 0, nI 0, nI 0, nI 0, AV.S ByteArray.empty, nI 0, nI 0, AV.S ByteArray.empty, AV.own 0 3 fun i => lstG [nI 0, nI 0, AV.S ByteArray.empty], nI 0, nI 0, nI 0], AV.own 0 1 fun i => lstG [nI 0], AV.B false]), []))
          else
            (none))
        else
          (bif decide ((ms.getD i.toNat zMark).Step.Kind = 1) then
            (Option.bind (Γ 52 [AV.pb 0 0, slCallSS ps, nI i, AV.ag 9 (lstG [nI (ms.getD i.toNat zMark).Step.Kind, nI (ms.getD i.toNat zMark).Step.Who, nI (ms.getD i.toNat zMark).Step.Leg, nI (ms.getD i.toNat zMark).Reply.Code, nI (ms.getD i.toNat zMark).Reply.N, nI (ms.getD i.toNat zMark).Reply.M, nI (ms.getD i.toNat zMark).Reply.Msg.Kind, nI (ms.getD i.toNat zMark).Reply.Msg.Num, AV.S (ms.getD i.toNat zMark).Reply.Msg.Text])] [AV.nbx 2 (lstG [owRecS rs, AV.own la.length 1 (gI la)])]) fun r7 =>
            bif !asB r7.fst then
              (bif bif okU then bif okT then true else false else false then
                (some (AV.tup 3 (lstG [AV.own 0 14 fun i => lstG [nI 0, nI 0, nI 0, nI 0, nI 0, nI 0, AV.S ByteArray.empty, nI 0, nI 0, AV.S ByteArray.empty, AV.own 0 3 fun i => lstG [nI 0, nI 0, AV.S ByteArray.empty], nI 0, nI 0, nI 0], AV.own 0 1 fun i => lstG [nI 0], AV.B false]), []))
              else
                (none))
            else
              (bif bif decide (0 ≤ (ms.getD i.toNat zMark).Step.Who) then decide ((ms.getD i.toNat zMark).Step.Who < zN (asN (asA (r7.snd.headD AV.bad) 1))) else false then
                (bif decide (os.length + 1 ≤ 4294967296) && true && true && true && true then
                  (H [true, true, true, true, true, false, true] (hdS [(0, slCallSS ps), (7, AV.pb 80 0), (8, AV.rf 450560), (32, slMarkS ms), (33, nI m), (34, nI (IntKind.i64.wrap (i + 1)))] [(450560, ⟨os.length + 1, 1, fun i_1 => lstG [nI (bif decide (i_1 < os.length) then os.getD i_1 0 else bif decide (i_1 - os.length = 0) then asI (asG (asA (r7.snd.headD AV.bad) 1) (ms.getD i.toNat zMark).Step.Who.toNat 0) else 0)]⟩), (522240, ⟨asN (asA (r7.snd.headD AV.bad) 0), 14, fun i => lstG [nI (asI (asG (asA (r7.snd.headD AV.bad) 0) i 0)), nI (asI (asG (asA (r7.snd.headD AV.bad) 0) i 1)), nI (asI (asG (asA (r7.snd.headD AV.bad) 0) i 2)), nI (asI (asG (asA (r7.snd.headD AV.bad) 0) i 3)), nI (asI (asG (asA (r7.snd.headD AV.bad) 0) i 4)), nI (asI (asG (asA (r7.snd.headD AV.bad) 0) i 5)), AV.S (asS (asG (asA (r7.snd.headD AV.bad) 0) i 6)), nI (asI (asG (asA (r7.snd.headD AV.bad) 0) i 7)), nI (asI (asG (asA (r7.snd.headD AV.bad) 0) i 8)), AV.S (asS (asG (asA (r7.snd.headD AV.bad) 0) i 9)), vowTermS (asG (asA (r7.snd.headD AV.bad) 0) i 10), nI (asI (asG (asA (r7.snd.headD AV.bad) 0) i 11)), nI (asI (asG (asA (r7.snd.headD AV.bad) 0) i 12)), nI (asI (asG (asA (r7.snd.headD AV.bad) 0) i 13))]⟩), (522241, ⟨asN (asA (r7.snd.headD AV.bad) 1), 1, fun i => lstG [nI (asI (asG (asA (r7.snd.headD AV.bad) 1) i 0))]⟩)] [(80, 2, [AV.rf 522240, AV.rf 522241])]))
                else
                  (none))
              else
                (none)))
          else
            (Option.bind (Γ 53 [AV.pb 0 0, nI i, AV.ag 9 (lstG [nI (ms.getD i.toNat zMark).Step.Kind, nI (ms.getD i.toNat zMark).Step.Who, nI (ms.getD i.toNat zMark).Step.Leg, nI (ms.getD i.toNat zMark).Reply.Code, nI (ms.getD i.toNat zMark).Reply.N, nI (ms.getD i.toNat zMark).Reply.M, nI (ms.getD i.toNat zMark).Reply.Msg.Kind, nI (ms.getD i.toNat zMark).Reply.Msg.Num, AV.S (ms.getD i.toNat zMark).Reply.Msg.Text])] [AV.nbx 2 (lstG [owRecS rs, AV.own la.length 1 (gI la)])]) fun r7 =>
            bif !asB r7.fst then
              (bif bif okU then bif okT then true else false else false then
                (some (AV.tup 3 (lstG [AV.own 0 14 fun i => lstG [nI 0, nI 0, nI 0, nI 0, nI 0, nI 0, AV.S ByteArray.empty, nI 0, nI 0, AV.S ByteArray.empty, AV.own 0 3 fun i => lstG [nI 0, nI 0, AV.S ByteArray.empty], nI 0, nI 0, nI 0], AV.own 0 1 fun i => lstG [nI 0], AV.B false]), []))
              else
                (none))
            else
              (bif bif decide (0 ≤ (ms.getD i.toNat zMark).Step.Who) then decide ((ms.getD i.toNat zMark).Step.Who < zN (asN (asA (r7.snd.headD AV.bad) 1))) else false then
                (bif decide (os.length + 1 ≤ 4294967296) && true && true && true && true then
                  (H [true, true, true, true, true, false, true] (hdS [(0, slCallSS ps), (7, AV.pb 80 0), (8, AV.rf 450560), (32, slMarkS ms), (33, nI m), (34, nI (IntKind.i64.wrap (i + 1)))] [(450560, ⟨os.length + 1, 1, fun i_1 => lstG [nI (bif decide (i_1 < os.length) then os.getD i_1 0 else bif decide (i_1 - os.length = 0) then asI (asG (asA (r7.snd.headD AV.bad) 1) (ms.getD i.toNat zMark).Step.Who.toNat 0) else 0)]⟩), (522240, ⟨asN (asA (r7.snd.headD AV.bad) 0), 14, fun i => lstG [nI (asI (asG (asA (r7.snd.headD AV.bad) 0) i 0)), nI (asI (asG (asA (r7.snd.headD AV.bad) 0) i 1)), nI (asI (asG (asA (r7.snd.headD AV.bad) 0) i 2)), nI (asI (asG (asA (r7.snd.headD AV.bad) 0) i 3)), nI (asI (asG (asA (r7.snd.headD AV.bad) 0) i 4)), nI (asI (asG (asA (r7.snd.headD AV.bad) 0) i 5)), AV.S (asS (asG (asA (r7.snd.headD AV.bad) 0) i 6)), nI (asI (asG (asA (r7.snd.headD AV.bad) 0) i 7)), nI (asI (asG (asA (r7.snd.headD AV.bad) 0) i 8)), AV.S (asS (asG (asA (r7.snd.headD AV.bad) 0) i 9)), vowTermS (asG (asA (r7.snd.headD AV.bad) 0) i 10), nI (asI (asG (asA (r7.snd.headD AV.bad) 0) i 11)), nI (asI (asG (asA (r7.snd.headD AV.bad) 0) i 12)), nI (asI (asG (asA (r7.snd.headD AV.bad) 0) i 13))]⟩), (522241, ⟨asN (asA (r7.snd.headD AV.bad) 1), 1, fun i => lstG [nI (asI (asG (asA (r7.snd.headD AV.bad) 1) i 0))]⟩)] [(80, 2, [AV.rf 522240, AV.rf 522241])]))
                else
                  (none))
              else
                (none))))))
    else
      (none))
  else
    (bif bif okU then bif okT then true else false else false then
      (some (AV.tup 3 (lstG [owRecS rs, AV.own os.length 1 (gI os), AV.B true]), []))
    else
      (none)) := by kernel_rfl
theorem e52 (Γ : Orc) (H : Hd) (ps : List (List VCall)) (rs : List VRec) (la : List Int) (pl : Int) (m : VMark) : ent Try.prog cfg Γ 52 H [.pb 0 0, slCallSS ps, nI pl, slMark m] [.nbx 2 (lstG [owRecS rs, owIntS la])] =
  bif bif decide (0 ≤ m.Step.Who) then decide (m.Step.Who < zN la.length) else false then
    (bif decide (0 ≤ la.getD m.Step.Who.toNat 0) then
      (bif bif decide (0 ≤ la.getD m.Step.Who.toNat 0) then decide (la.getD m.Step.Who.toNat 0 < zN rs.length) else false then
        (bif decide ((rs.getD (la.getD m.Step.Who.toNat 0).toNat zRec).Last < 0) then
          (bif bif okU then bif okT then true else false else false then
            (some (AV.B false, [AV.nbx 2 (lstG [owRecS rs, AV.own la.length 1 (gI la)])]))
          else
            (none))
        else
          (bif bif decide (0 ≤ la.getD m.Step.Who.toNat 0) then decide (la.getD m.Step.Who.toNat 0 < zN rs.length) else false then
            (bif bif decide (0 ≤ m.Step.Who) then decide (m.Step.Who < zN ps.length) else false then
              (H [true, true, true, true, false, false] (hdS [(0, AV.pb 0 0), (1, slCallSS ps), (2, nI pl), (7, AV.pb 71 0), (9, nI m.Step.Who), (10, nI (IntKind.i64.wrap ((rs.getD (la.getD m.Step.Who.toNat 0).toNat zRec).Number + 1))), (49, AV.B (decide (zN (ps.getD m.Step.Who.toNat []).length ≤ IntKind.i64.wrap ((rs.getD (la.getD m.Step.Who.toNat 0).toNat zRec).Number + 1))))] [(0, ⟨rs.length, 14, (goRecS rs)⟩), (1, ⟨la.length, 1, gI la⟩)] [(0, 2, [AV.rf 0, AV.rf 1]), (71, 9, [nI m.Step.Kind, nI m.Step.Who, nI m.Step.Leg, nI m.Reply.Code, nI m.Reply.N, nI m.Reply.M, nI m.Reply.Msg.Kind, nI m.Reply.Msg.Num, AV.S m.Reply.Msg.Text])]))
            else
              (none))
          else
            (none)))
      else
        (none))
    else
      (bif bif decide (0 ≤ m.Step.Who) then decide (m.Step.Who < zN ps.length) else false then
        (H [true, true, true, true, false, false] (hdS [(0, AV.pb 0 0), (1, slCallSS ps), (2, nI pl), (7, AV.pb 71 0), (9, nI m.Step.Who), (10, nI 0), (49, AV.B (decide (zN (ps.getD m.Step.Who.toNat []).length ≤ 0)))] [(0, ⟨rs.length, 14, (goRecS rs)⟩), (1, ⟨la.length, 1, gI la⟩)] [(0, 2, [AV.rf 0, AV.rf 1]), (71, 9, [nI m.Step.Kind, nI m.Step.Who, nI m.Step.Leg, nI m.Reply.Code, nI m.Reply.N, nI m.Reply.M, nI m.Reply.Msg.Kind, nI m.Reply.Msg.Num, AV.S m.Reply.Msg.Text])]))
      else
        (none)))
  else
    (none) := by kernel_rfl
theorem e53 (Γ : Orc) (H : Hd) (rs : List VRec) (la : List Int) (pl : Int) (m : VMark) : ent Try.prog cfg Γ 53 H [.pb 0 0, nI pl, slMark m] [.nbx 2 (lstG [owRecS rs, owIntS la])] =
  bif bif decide (0 ≤ m.Step.Who) then decide (m.Step.Who < zN la.length) else false then
    (bif decide (la.getD m.Step.Who.toNat 0 < 0) then
      (bif bif okU then bif okT then true else false else false then
        (some (AV.B false, [AV.nbx 2 (lstG [owRecS rs, AV.own la.length 1 (gI la)])]))
      else
        (none))
    else
      (bif bif decide (0 ≤ la.getD m.Step.Who.toNat 0) then decide (la.getD m.Step.Who.toNat 0 < zN rs.length) else false then
        (bif decide (0 ≤ (rs.getD (la.getD m.Step.Who.toNat 0).toNat zRec).Last) then
          (bif bif okU then bif okT then true else false else false then
            (some (AV.B false, [AV.nbx 2 (lstG [owRecS rs, AV.own la.length 1 (gI la)])]))
          else
            (none))
        else
          (bif bif decide (0 ≤ la.getD m.Step.Who.toNat 0) then decide (la.getD m.Step.Who.toNat 0 < zN rs.length) else false then
            (bif decide (m.Step.Kind = 3) then
              (bif bif decide (0 ≤ la.getD m.Step.Who.toNat 0) then decide (la.getD m.Step.Who.toNat 0 < zN rs.length) else false then
                (bif bif okU then bif okT then true else false else false then
                  (some (AV.B true, [AV.nbx 2 (lstG [AV.own rs.length 14 fun i => lstG [nI (rs.getD i zRec).Who, nI (rs.getD i zRec).Number, nI (rs.getD i zRec).Call.Op, nI (rs.getD i zRec).Call.A, nI (rs.getD i zRec).Call.B, nI (rs.getD i zRec).Call.Tok, AV.S (rs.getD i zRec).Call.Name, nI (rs.getD i zRec).Call.Msg.Kind, nI (rs.getD i zRec).Call.Msg.Num, AV.S (rs.getD i zRec).Call.Msg.Text, owTermS (rs.getD i zRec).Call.Filter, nI (rs.getD i zRec).First, nI (bif decide (i = (la.getD m.Step.Who.toNat 0).toNat) then pl else (rs.getD i zRec).Last), nI (bif decide (i = (la.getD m.Step.Who.toNat 0).toNat) then m.Reply.Code else (rs.getD i zRec).Code)], AV.own la.length 1 (gI la)])]))
                else
                  (none))
              else
                (none))
            else
              (bif !decide (m.Reply.Code = 4) then
                (bif bif decide (0 ≤ la.getD m.Step.Who.toNat 0) then decide (la.getD m.Step.Who.toNat 0 < zN rs.length) else false then
                  (bif bif okU then bif okT then true else false else false then
                    (some (AV.B true, [AV.nbx 2 (lstG [AV.own rs.length 14 fun i => lstG [nI (rs.getD i zRec).Who, nI (rs.getD i zRec).Number, nI (rs.getD i zRec).Call.Op, nI (rs.getD i zRec).Call.A, nI (rs.getD i zRec).Call.B, nI (rs.getD i zRec).Call.Tok, AV.S (rs.getD i zRec).Call.Name, nI (rs.getD i zRec).Call.Msg.Kind, nI (rs.getD i zRec).Call.Msg.Num, AV.S (rs.getD i zRec).Call.Msg.Text, owTermS (rs.getD i zRec).Call.Filter, nI (rs.getD i zRec).First, nI (bif decide (i = (la.getD m.Step.Who.toNat 0).toNat) then pl else (rs.getD i zRec).Last), nI (bif decide (i = (la.getD m.Step.Who.toNat 0).toNat) then m.Reply.Code else (rs.getD i zRec).Code)], AV.own la.length 1 (gI la)])]))
                  else
                    (none))
                else
                  (none))
              else
                (bif bif okU then bif okT then true else false else false then
                  (some (AV.B true, [AV.nbx 2 (lstG [AV.own rs.length 14 fun i => lstG [nI (rs.getD i zRec).Who, nI (rs.getD i zRec).Number, nI (rs.getD i zRec).Call.Op, nI (rs.getD i zRec).Call.A, nI (rs.getD i zRec).Call.B, nI (rs.getD i zRec).Call.Tok, AV.S (rs.getD i zRec).Call.Name, nI (rs.getD i zRec).Call.Msg.Kind, nI (rs.getD i zRec).Call.Msg.Num, AV.S (rs.getD i zRec).Call.Msg.Text, owTermS (rs.getD i zRec).Call.Filter, nI (rs.getD i zRec).First, nI (rs.getD i zRec).Last, nI (bif decide (i = (la.getD m.Step.Who.toNat 0).toNat) then m.Reply.Code else (rs.getD i zRec).Code)], AV.own la.length 1 (gI la)])]))
                else
                  (none))))
          else
            (none)))
      else
        (none)))
  else
    (none) := by kernel_rfl
theorem h52 (Γ : Orc) (H : Hd) (ps : List (List VCall)) (rs : List VRec) (la : List Int) (w : Int) (x : VRec) : hed Try.prog cfg Γ 52 H [.nbx 2 (lstG [owRecS rs, owIntS la])] [true, true, true, true, true, false] (hdS [(0, .pb 0 0), (9, nI w), (12, .pb 76 0)] [(0, ⟨rs.length, 14, goRecS rs⟩), (1, ⟨la.length, 1, gI la⟩), (503816, ⟨x.Call.Filter.length, 3, goTermS x.Call.Filter⟩)] [(0, 2, [.rf 0, .rf 1]), (76, 14, [nI x.Who, nI x.Number, nI x.Call.Op, nI x.Call.A, nI x.Call.B, nI x.Call.Tok, .S x.Call.Name, nI x.Call.Msg.Kind, nI x.Call.Msg.Num, .S x.Call.Msg.Text, .rf 503816, nI x.First, nI x.Last, nI x.Code])]) =
  bif decide (x.Code = 4) then
    (bif bif decide (0 ≤ w) then decide (w < zN la.length) else false then
      (bif decide (rs.length + 1 ≤ 4294967296) && true && true && true && true then
        (bif bif okU then bif okT then true else false else false then
          (some (AV.B true, [AV.nbx 2 (lstG [AV.own (rs.length + 1) 14 fun i => lstG [nI (bif decide (i < rs.length) then (rs.getD i zRec).Who else bif decide (i - rs.length = 0) then x.Who else 0), nI (bif decide (i < rs.length) then (rs.getD i zRec).Number else bif decide (i - rs.length = 0) then x.Number else 0), nI (bif decide (i < rs.length) then (rs.getD i zRec).Call.Op else bif decide (i - rs.length = 0) then x.Call.Op else 0), nI (bif decide (i < rs.length) then (rs.getD i zRec).Call.A else bif decide (i - rs.length = 0) then x.Call.A else 0), nI (bif decide (i < rs.length) then (rs.getD i zRec).Call.B else bif decide (i - rs.length = 0) then x.Call.B else 0), nI (bif decide (i < rs.length) then (rs.getD i zRec).Call.Tok else bif decide (i - rs.length = 0) then x.Call.Tok else 0), AV.S (bif decide (i < rs.length) then (rs.getD i zRec).Call.Name else bif decide (i - rs.length = 0) then x.Call.Name else ByteArray.empty), nI (bif decide (i < rs.length) then (rs.getD i zRec).Call.Msg.Kind else bif decide (i - rs.length = 0) then x.Call.Msg.Kind else 0), nI (bif decide (i < rs.length) then (rs.getD i zRec).Call.Msg.Num else bif decide (i - rs.length = 0) then x.Call.Msg.Num else 0), AV.S (bif decide (i < rs.length) then (rs.getD i zRec).Call.Msg.Text else bif decide (i - rs.length = 0) then x.Call.Msg.Text else ByteArray.empty), AV.own (bif decide (i < rs.length) then (rs.getD i zRec).Call.Filter.length else bif decide (i - rs.length = 0) then x.Call.Filter.length else 0) 3 fun i_1 => lstG [nI (bif decide (i < rs.length) then ((rs.getD i zRec).Call.Filter.getD i_1 zTerm).Op else bif decide (i - rs.length = 0) then (x.Call.Filter.getD i_1 zTerm).Op else 0), nI (bif decide (i < rs.length) then ((rs.getD i zRec).Call.Filter.getD i_1 zTerm).Num else bif decide (i - rs.length = 0) then (x.Call.Filter.getD i_1 zTerm).Num else 0), AV.S (bif decide (i < rs.length) then ((rs.getD i zRec).Call.Filter.getD i_1 zTerm).Text else bif decide (i - rs.length = 0) then (x.Call.Filter.getD i_1 zTerm).Text else ByteArray.empty)], nI (bif decide (i < rs.length) then (rs.getD i zRec).First else bif decide (i - rs.length = 0) then x.First else 0), nI (bif decide (i < rs.length) then (rs.getD i zRec).Last else bif decide (i - rs.length = 0) then -1 else 0), nI (bif decide (i < rs.length) then (rs.getD i zRec).Code else bif decide (i - rs.length = 0) then x.Code else 0)], AV.own la.length 1 fun i => lstG [nI (bif decide (i = w.toNat) then zN rs.length else la.getD i 0)]])]))
        else
          (none))
      else
        (none))
    else
      (none))
  else
    (bif bif decide (0 ≤ w) then decide (w < zN la.length) else false then
      (bif decide (rs.length + 1 ≤ 4294967296) && true && true && true && true then
        (bif bif okU then bif okT then true else false else false then
          (some (AV.B true, [AV.nbx 2 (lstG [AV.own (rs.length + 1) 14 fun i => lstG [nI (bif decide (i < rs.length) then (rs.getD i zRec).Who else bif decide (i - rs.length = 0) then x.Who else 0), nI (bif decide (i < rs.length) then (rs.getD i zRec).Number else bif decide (i - rs.length = 0) then x.Number else 0), nI (bif decide (i < rs.length) then (rs.getD i zRec).Call.Op else bif decide (i - rs.length = 0) then x.Call.Op else 0), nI (bif decide (i < rs.length) then (rs.getD i zRec).Call.A else bif decide (i - rs.length = 0) then x.Call.A else 0), nI (bif decide (i < rs.length) then (rs.getD i zRec).Call.B else bif decide (i - rs.length = 0) then x.Call.B else 0), nI (bif decide (i < rs.length) then (rs.getD i zRec).Call.Tok else bif decide (i - rs.length = 0) then x.Call.Tok else 0), AV.S (bif decide (i < rs.length) then (rs.getD i zRec).Call.Name else bif decide (i - rs.length = 0) then x.Call.Name else ByteArray.empty), nI (bif decide (i < rs.length) then (rs.getD i zRec).Call.Msg.Kind else bif decide (i - rs.length = 0) then x.Call.Msg.Kind else 0), nI (bif decide (i < rs.length) then (rs.getD i zRec).Call.Msg.Num else bif decide (i - rs.length = 0) then x.Call.Msg.Num else 0), AV.S (bif decide (i < rs.length) then (rs.getD i zRec).Call.Msg.Text else bif decide (i - rs.length = 0) then x.Call.Msg.Text else ByteArray.empty), AV.own (bif decide (i < rs.length) then (rs.getD i zRec).Call.Filter.length else bif decide (i - rs.length = 0) then x.Call.Filter.length else 0) 3 fun i_1 => lstG [nI (bif decide (i < rs.length) then ((rs.getD i zRec).Call.Filter.getD i_1 zTerm).Op else bif decide (i - rs.length = 0) then (x.Call.Filter.getD i_1 zTerm).Op else 0), nI (bif decide (i < rs.length) then ((rs.getD i zRec).Call.Filter.getD i_1 zTerm).Num else bif decide (i - rs.length = 0) then (x.Call.Filter.getD i_1 zTerm).Num else 0), AV.S (bif decide (i < rs.length) then ((rs.getD i zRec).Call.Filter.getD i_1 zTerm).Text else bif decide (i - rs.length = 0) then (x.Call.Filter.getD i_1 zTerm).Text else ByteArray.empty)], nI (bif decide (i < rs.length) then (rs.getD i zRec).First else bif decide (i - rs.length = 0) then x.First else 0), nI (bif decide (i < rs.length) then (rs.getD i zRec).Last else bif decide (i - rs.length = 0) then x.Last else 0), nI (bif decide (i < rs.length) then (rs.getD i zRec).Code else bif decide (i - rs.length = 0) then x.Code else 0)], AV.own la.length 1 fun i => lstG [nI (bif decide (i = w.toNat) then zN rs.length else la.getD i 0)]])]))
        else
          (none))
      else
        (none))
    else
      (none)) := by kernel_rfl
theorem h52a (Γ : Orc) (H : Hd) (ps : List (List VCall)) (rs : List VRec) (la : List Int) (pl w n : Int) (m : VMark) (q : Bool) : hed Try.prog cfg Γ 52 H [.nbx 2 (lstG [owRecS rs, owIntS la])] [true, true, true, true, false, false] (hdS [(0, .pb 0 0), (1, slCallSS ps), (2, nI pl), (7, .pb 71 0), (9, nI w), (10, nI n), (49, .B q)] [(0, ⟨rs.length, 14, goRecS rs⟩), (1, ⟨la.length, 1, gI la⟩)] [(0, 2, [.rf 0, .rf 1]), (71, 9, [nI m.Step.Kind, nI m.Step.Who, nI m.Step.Leg, nI m.Reply.Code, nI m.Reply.N, nI m.Reply.M, nI m.Reply.Msg.Kind, nI m.Reply.Msg.Num, .S m.Reply.Msg.Text])]) =
  bif q then
    (bif bif okU then bif okT then true else false else false then
      (some (AV.B false, [AV.nbx 2 (lstG [owRecS rs, AV.own la.length 1 (gI la)])]))
    else
      (none))
  else
    (bif bif decide (0 ≤ w) then decide (w < zN ps.length) else false then
      (bif bif decide (0 ≤ n) then decide (n < zN (ps.getD w.toNat []).length) else false then
        (and2
        (Option.bind (Γ 61 [AV.ag 9 (lstG [nI ((ps.getD w.toNat []).getD n.toNat zCall).Op, nI ((ps.getD w.toNat []).getD n.toNat zCall).A, nI ((ps.getD w.toNat []).getD n.toNat zCall).B, nI ((ps.getD w.toNat []).getD n.toNat zCall).Tok, AV.S ((ps.getD w.toNat []).getD n.toNat zCall).Name, nI ((ps.getD w.toNat []).getD n.toNat zCall).Msg.Kind, nI ((ps.getD w.toNat []).getD n.toNat zCall).Msg.Num, AV.S ((ps.getD w.toNat []).getD n.toNat zCall).Msg.Text, slTermS ((ps.getD w.toNat []).getD n.toNat zCall).Filter])] []) fun r4 =>
          and2
          (H [true, true, true, true, true, false] (hdS [(0, AV.pb 0 0), (9, nI w), (12, AV.pb 76 0)] [(0, ⟨rs.length, 14, (goRecS rs)⟩), (1, ⟨la.length, 1, gI la⟩), (503816, ⟨asN (asA r4.fst 8), 3, fun i => lstG [nI (asI (asG (asA r4.fst 8) i 0)), nI (asI (asG (asA r4.fst 8) i 1)), AV.S (asS (asG (asA r4.fst 8) i 2))]⟩)] [(0, 2, [AV.rf 0, AV.rf 1]), (76, 14, [nI w, nI n, nI (asI (asA r4.fst 0)), nI (asI (asA r4.fst 1)), nI (asI (asA r4.fst 2)), nI (asI (asA r4.fst 3)), AV.S (asS (asA r4.fst 4)), nI (asI (asA r4.fst 5)), nI (asI (asA r4.fst 6)), AV.S (asS (asA r4.fst 7)), AV.rf 503816, nI pl, nI pl, nI m.Reply.Code])]))
          (H [true, true, true, true, true, false] (hdS [(0, AV.pb 0 0), (9, nI w), (12, AV.pb 76 0)] [(0, ⟨rs.length, 14, (goRecS rs)⟩), (1, ⟨la.length, 1, gI la⟩), (503816, ⟨asN (asA r4.fst 8), 3, fun i => lstG [nI (asI (asG (asA r4.fst 8) i 0)), nI (asI (asG (asA r4.fst 8) i 1)), AV.S (asS (asG (asA r4.fst 8) i 2))]⟩)] [(0, 2, [AV.rf 0, AV.rf 1]), (76, 14, [nI w, nI n, nI (asI (asA r4.fst 0)), nI (asI (asA r4.fst 1)), nI (asI (asA r4.fst 2)), nI (asI (asA r4.fst 3)), AV.S (asS (asA r4.fst 4)), nI (asI (asA r4.fst 5)), nI (asI (asA r4.fst 6)), AV.S (asS (asA r4.fst 7)), AV.rf 503816, nI pl, nI pl, nI m.Reply.Code])])))
        (and2
          (and2
            (Option.bind (Γ 61 [AV.ag 9 (lstG [nI ((ps.getD w.toNat []).getD n.toNat zCall).Op, nI ((ps.getD w.toNat []).getD n.toNat zCall).A, nI ((ps.getD w.toNat []).getD n.toNat zCall).B, nI ((ps.getD w.toNat []).getD n.toNat zCall).Tok, AV.S ((ps.getD w.toNat []).getD n.toNat zCall).Name, nI ((ps.getD w.toNat []).getD n.toNat zCall).Msg.Kind, nI ((ps.getD w.toNat []).getD n.toNat zCall).Msg.Num, AV.S ((ps.getD w.toNat []).getD n.toNat zCall).Msg.Text, slTermS ((ps.getD w.toNat []).getD n.toNat zCall).Filter])] []) fun r6 =>
              and2
              (H [true, true, true, true, true, false] (hdS [(0, AV.pb 0 0), (9, nI w), (12, AV.pb 76 0)] [(0, ⟨rs.length, 14, (goRecS rs)⟩), (1, ⟨la.length, 1, gI la⟩), (503816, ⟨asN (asA r6.fst 8), 3, fun i => lstG [nI (asI (asG (asA r6.fst 8) i 0)), nI (asI (asG (asA r6.fst 8) i 1)), AV.S (asS (asG (asA r6.fst 8) i 2))]⟩)] [(0, 2, [AV.rf 0, AV.rf 1]), (76, 14, [nI w, nI n, nI (asI (asA r6.fst 0)), nI (asI (asA r6.fst 1)), nI (asI (asA r6.fst 2)), nI (asI (asA r6.fst 3)), AV.S (asS (asA r6.fst 4)), nI (asI (asA r6.fst 5)), nI (asI (asA r6.fst 6)), AV.S (asS (asA r6.fst 7)), AV.rf 503816, nI pl, nI pl, nI m.Reply.Code])]))
              (H [true, true, true, true, true, false] (hdS [(0, AV.pb 0 0), (9, nI w), (12, AV.pb 76 0)] [(0, ⟨rs.length, 14, (goRecS rs)⟩), (1, ⟨la.length, 1, gI la⟩), (503816, ⟨asN (asA r6.fst 8), 3, fun i => lstG [nI (asI (asG (asA r6.fst 8) i 0)), nI (asI (asG (asA r6.fst 8) i 1)), AV.S (asS (asG (asA r6.fst 8) i 2))]⟩)] [(0, 2, [AV.rf 0, AV.rf 1]), (76, 14, [nI w, nI n, nI (asI (asA r6.fst 0)), nI (asI (asA r6.fst 1)), nI (asI (asA r6.fst 2)), nI (asI (asA r6.fst 3)), AV.S (asS (asA r6.fst 4)), nI (asI (asA r6.fst 5)), nI (asI (asA r6.fst 6)), AV.S (asS (asA r6.fst 7)), AV.rf 503816, nI pl, nI pl, nI m.Reply.Code])])))
            (Option.bind (Γ 61 [AV.ag 9 (lstG [nI ((ps.getD w.toNat []).getD n.toNat zCall).Op, nI ((ps.getD w.toNat []).getD n.toNat zCall).A, nI ((ps.getD w.toNat []).getD n.toNat zCall).B, nI ((ps.getD w.toNat []).getD n.toNat zCall).Tok, AV.S ((ps.getD w.toNat []).getD n.toNat zCall).Name, nI ((ps.getD w.toNat []).getD n.toNat zCall).Msg.Kind, nI ((ps.getD w.toNat []).getD n.toNat zCall).Msg.Num, AV.S ((ps.getD w.toNat []).getD n.toNat zCall).Msg.Text, slTermS ((ps.getD w.toNat []).getD n.toNat zCall).Filter])] []) fun r6 =>
              H [true, true, true, true, true, false] (hdS [(0, AV.pb 0 0), (9, nI w), (12, AV.pb 76 0)] [(0, ⟨rs.length, 14, (goRecS rs)⟩), (1, ⟨la.length, 1, gI la⟩), (503816, ⟨asN (asA r6.fst 8), 3, fun i => lstG [nI (asI (asG (asA r6.fst 8) i 0)), nI (asI (asG (asA r6.fst 8) i 1)), AV.S (asS (asG (asA r6.fst 8) i 2))]⟩)] [(0, 2, [AV.rf 0, AV.rf 1]), (76, 14, [nI w, nI n, nI (asI (asA r6.fst 0)), nI (asI (asA r6.fst 1)), nI (asI (asA r6.fst 2)), nI (asI (asA r6.fst 3)), AV.S (asS (asA r6.fst 4)), nI (asI (asA r6.fst 5)), nI (asI (asA r6.fst 6)), AV.S (asS (asA r6.fst 7)), AV.rf 503816, nI pl, nI pl, nI m.Reply.Code])])))
          (and2
            (Option.bind (Γ 61 [AV.ag 9 (lstG [nI ((ps.getD w.toNat []).getD n.toNat zCall).Op, nI ((ps.getD w.toNat []).getD n.toNat zCall).A, nI ((ps.getD w.toNat []).getD n.toNat zCall).B, nI ((ps.getD w.toNat []).getD n.toNat zCall).Tok, AV.S ((ps.getD w.toNat []).getD n.toNat zCall).Name, nI ((ps.getD w.toNat []).getD n.toNat zCall).Msg.Kind, nI ((ps.getD w.toNat []).getD n.toNat zCall).Msg.Num, AV.S ((ps.getD w.toNat []).getD n.toNat zCall).Msg.Text, slTermS ((ps.getD w.toNat []).getD n.toNat zCall).Filter])] []) fun r6 =>
              H [true, true, true, true, true, false] (hdS [(0, AV.pb 0 0), (9, nI w), (12, AV.pb 76 0)] [(0, ⟨rs.length, 14, (goRecS rs)⟩), (1, ⟨la.length, 1, gI la⟩), (503816, ⟨asN (asA r6.fst 8), 3, fun i => lstG [nI (asI (asG (asA r6.fst 8) i 0)), nI (asI (asG (asA r6.fst 8) i 1)), AV.S (asS (asG (asA r6.fst 8) i 2))]⟩)] [(0, 2, [AV.rf 0, AV.rf 1]), (76, 14, [nI w, nI n, nI (asI (asA r6.fst 0)), nI (asI (asA r6.fst 1)), nI (asI (asA r6.fst 2)), nI (asI (asA r6.fst 3)), AV.S (asS (asA r6.fst 4)), nI (asI (asA r6.fst 5)), nI (asI (asA r6.fst 6)), AV.S (asS (asA r6.fst 7)), AV.rf 503816, nI pl, nI pl, nI m.Reply.Code])]))
            (Option.bind (Γ 61 [AV.ag 9 (lstG [nI ((ps.getD w.toNat []).getD n.toNat zCall).Op, nI ((ps.getD w.toNat []).getD n.toNat zCall).A, nI ((ps.getD w.toNat []).getD n.toNat zCall).B, nI ((ps.getD w.toNat []).getD n.toNat zCall).Tok, AV.S ((ps.getD w.toNat []).getD n.toNat zCall).Name, nI ((ps.getD w.toNat []).getD n.toNat zCall).Msg.Kind, nI ((ps.getD w.toNat []).getD n.toNat zCall).Msg.Num, AV.S ((ps.getD w.toNat []).getD n.toNat zCall).Msg.Text, slTermS ((ps.getD w.toNat []).getD n.toNat zCall).Filter])] []) fun r6 =>
              H [true, true, true, true, true, false] (hdS [(0, AV.pb 0 0), (9, nI w), (12, AV.pb 76 0)] [(0, ⟨rs.length, 14, (goRecS rs)⟩), (1, ⟨la.length, 1, gI la⟩), (503816, ⟨asN (asA r6.fst 8), 3, fun i => lstG [nI (asI (asG (asA r6.fst 8) i 0)), nI (asI (asG (asA r6.fst 8) i 1)), AV.S (asS (asG (asA r6.fst 8) i 2))]⟩)] [(0, 2, [AV.rf 0, AV.rf 1]), (76, 14, [nI w, nI n, nI (asI (asA r6.fst 0)), nI (asI (asA r6.fst 1)), nI (asI (asA r6.fst 2)), nI (asI (asA r6.fst 3)), AV.S (asS (asA r6.fst 4)), nI (asI (asA r6.fst 5)), nI (asI (asA r6.fst 6)), AV.S (asS (asA r6.fst 7)), AV.rf 503816, nI pl, nI pl, nI m.Reply.Code])])))))
      else
        (none))
    else
      (none)) := by kernel_rfl
theorem h36c (Γ : Orc) (H : Hd) (ps : List (List VCall)) (ms : List VMark) (rs : List VRec) (os nx op : List Int) (i : Int) (x : VStep) : hed Try.prog cfg Γ 36 H [] [true, true, true, true, true, true, true, false, true, true, true, false, true, true, true, false, true, false, true, true, false] (hdS [(0, slCallSS ps), (1, slMarkS ms), (7, .rf 724992), (8, .rf 827392), (9, .rf 352256), (10, .rf 364544), (12, nI i), (13, .pb 77 0)] [(352256, ⟨nx.length, 1, gI nx⟩), (364544, ⟨op.length, 1, gI op⟩), (724992, ⟨rs.length, 14, goRecS rs⟩), (827392, ⟨os.length, 1, gI os⟩)] [(77, 3, [nI x.Kind, nI x.Who, nI x.Leg])]) =
  bif bif decide (0 ≤ x.Who) then decide (x.Who < zN nx.length) else false then
    (bif bif decide (0 ≤ x.Who) then decide (x.Who < zN nx.length) else false then
      (bif bif decide (0 ≤ x.Who) then decide (x.Who < zN op.length) else false then
        (bif decide (os.length + 1 ≤ 4294967296) && true && true && true && true then
          (bif bif decide (0 ≤ i) then decide (i < zN ms.length) else false then
            (bif bif decide (0 ≤ op.getD x.Who.toNat 0) then decide (op.getD x.Who.toNat 0 < zN rs.length) else false then
              (bif decide (x.Kind = 3) then
                (bif bif decide (0 ≤ op.getD x.Who.toNat 0) then decide (op.getD x.Who.toNat 0 < zN rs.length) else false then
                  (bif bif decide (0 ≤ x.Who) then decide (x.Who < zN op.length) else false then
                    (H [true, true, true, true, true, true, true, false, true] (hdS [(0, slCallSS ps), (1, slMarkS ms), (7, AV.rf 724992), (8, AV.rf 827392), (9, AV.rf 352256), (10, AV.rf 364544), (12, nI (IntKind.i64.wrap (i + 1)))] [(352256, ⟨nx.length, 1, fun i => lstG [nI (bif decide (i = x.Who.toNat) then IntKind.i64.wrap (nx.getD x.Who.toNat 0 + 1) else nx.getD i 0)]⟩), (364544, ⟨op.length, 1, fun i => lstG [nI (bif decide (i = x.Who.toNat) then -1 else op.getD i 0)]⟩), (724992, ⟨rs.length, 14, fun i_1 => lstG [nI (rs.getD i_1 zRec).Who, nI (rs.getD i_1 zRec).Number, nI (rs.getD i_1 zRec).Call.Op, nI (rs.getD i_1 zRec).Call.A, nI (rs.getD i_1 zRec).Call.B, nI (rs.getD i_1 zRec).Call.Tok, AV.S (rs.getD i_1 zRec).Call.Name, nI (rs.getD i_1 zRec).Call.Msg.Kind, nI (rs.getD i_1 zRec).Call.Msg.Num, AV.S (rs.getD i_1 zRec).Call.Msg.Text, owTermS (rs.getD i_1 zRec).Call.Filter, nI (rs.getD i_1 zRec).First, nI (bif decide (i_1 = (op.getD x.Who.toNat 0).toNat) then i else (rs.getD i_1 zRec).Last), nI (bif decide (i_1 = (op.getD x.Who.toNat 0).toNat) then (ms.getD i.toNat zMark).Reply.Code else (rs.getD i_1 zRec).Code)]⟩), (827392, ⟨os.length + 1, 1, fun i => lstG [nI (bif decide (i < os.length) then os.getD i 0 else bif decide (i - os.length = 0) then op.getD x.Who.toNat 0 else 0)]⟩)] []))
                  else
                    (none))
                else
                  (none))
              else
                (bif bif decide (0 ≤ i) then decide (i < zN ms.length) else false then
                  (bif !decide ((ms.getD i.toNat zMark).Reply.Code = 4) then
                    (bif bif decide (0 ≤ op.getD x.Who.toNat 0) then decide (op.getD x.Who.toNat 0 < zN rs.length) else false then
                      (bif bif decide (0 ≤ x.Who) then decide (x.Who < zN op.length) else false then
                        (H [true, true, true, true, true, true, true, false, true] (hdS [(0, slCallSS ps), (1, slMarkS ms), (7, AV.rf 724992), (8, AV.rf 827392), (9, AV.rf 352256), (10, AV.rf 364544), (12, nI (IntKind.i64.wrap (i + 1)))] [(352256, ⟨nx.length, 1, fun i => lstG [nI (bif decide (i = x.Who.toNat) then IntKind.i64.wrap (nx.getD x.Who.toNat 0 + 1) else nx.getD i 0)]⟩), (364544, ⟨op.length, 1, fun i => lstG [nI (bif decide (i = x.Who.toNat) then -1 else op.getD i 0)]⟩), (724992, ⟨rs.length, 14, fun i_1 => lstG [nI (rs.getD i_1 zRec).Who, nI (rs.getD i_1 zRec).Number, nI (rs.getD i_1 zRec).Call.Op, nI (rs.getD i_1 zRec).Call.A, nI (rs.getD i_1 zRec).Call.B, nI (rs.getD i_1 zRec).Call.Tok, AV.S (rs.getD i_1 zRec).Call.Name, nI (rs.getD i_1 zRec).Call.Msg.Kind, nI (rs.getD i_1 zRec).Call.Msg.Num, AV.S (rs.getD i_1 zRec).Call.Msg.Text, owTermS (rs.getD i_1 zRec).Call.Filter, nI (rs.getD i_1 zRec).First, nI (bif decide (i_1 = (op.getD x.Who.toNat 0).toNat) then i else (rs.getD i_1 zRec).Last), nI (bif decide (i_1 = (op.getD x.Who.toNat 0).toNat) then (ms.getD i.toNat zMark).Reply.Code else (rs.getD i_1 zRec).Code)]⟩), (827392, ⟨os.length + 1, 1, fun i => lstG [nI (bif decide (i < os.length) then os.getD i 0 else bif decide (i - os.length = 0) then op.getD x.Who.toNat 0 else 0)]⟩)] []))
                      else
                        (none))
                    else
                      (none))
                  else
                    (H [true, true, true, true, true, true, true, false, true] (hdS [(0, slCallSS ps), (1, slMarkS ms), (7, AV.rf 724992), (8, AV.rf 827392), (9, AV.rf 352256), (10, AV.rf 364544), (12, nI (IntKind.i64.wrap (i + 1)))] [(352256, ⟨nx.length, 1, fun i => lstG [nI (bif decide (i = x.Who.toNat) then IntKind.i64.wrap (nx.getD x.Who.toNat 0 + 1) else nx.getD i 0)]⟩), (364544, ⟨op.length, 1, gI op⟩), (724992, ⟨rs.length, 14, fun i_1 => lstG [nI (rs.getD i_1 zRec).Who, nI (rs.getD i_1 zRec).Number, nI (rs.getD i_1 zRec).Call.Op, nI (rs.getD i_1 zRec).Call.A, nI (rs.getD i_1 zRec).Call.B, nI (rs.getD i_1 zRec).Call.Tok, AV.S (rs.getD i_1 zRec).Call.Name, nI (rs.getD i_1 zRec).Call.Msg.Kind, nI (rs.getD i_1 zRec).Call.Msg.Num, AV.S (rs.getD i_1 zRec).Call.Msg.Text, owTermS (rs.getD i_1 zRec).Call.Filter, nI (rs.getD i_1 zRec).First, nI (rs.getD i_1 zRec).Last, nI (bif decide (i_1 = (op.getD x.Who.toNat 0).toNat) then (ms.getD i.toNat zMark).Reply.Code else (rs.getD i_1 zRec).Code)]⟩), (827392, ⟨os.length + 1, 1, fun i => lstG [nI (bif decide (i < os.length) then os.getD i 0 else bif decide (i - os.length = 0) then op.getD x.Who.toNat 0 else 0)]⟩)] [])))
                else
                  (none)))
            else
              (none))
          else
            (none))
        else
          (none))
      else
        (none))
    else
      (none))
  else
    (none) := by kernel_rfl
theorem h9 (Γ : Orc) (H : Hd) (rs : List VRec) (nx en : List Int) (i : Int) : hed Try.prog cfg Γ 9 H [] [true, true, true, true, true, false, true] (hdS [(5, .rf 319488), (7, .rf 348160), (8, .rf 360448), (9, nI i)] [(319488, ⟨rs.length, 14, goRecS rs⟩), (348160, ⟨nx.length, 1, gI nx⟩), (360448, ⟨en.length, 1, gI en⟩)] []) =
  bif decide (i < zN rs.length) then
    (bif bif decide (0 ≤ i) then decide (i < zN rs.length) else false then
      (bif bif decide (0 ≤ (rs.getD i.toNat zRec).Who) then decide ((rs.getD i.toNat zRec).Who < zN nx.length) else false then
        (bif !decide ((rs.getD i.toNat zRec).Number = nx.getD (rs.getD i.toNat zRec).Who.toNat 0) then
          (some (AV.B false, []))
        else
          (bif decide (0 < (rs.getD i.toNat zRec).Number) then
            (bif bif decide (0 ≤ (rs.getD i.toNat zRec).Who) then decide ((rs.getD i.toNat zRec).Who < zN en.length) else false then
              (bif decide (en.getD (rs.getD i.toNat zRec).Who.toNat 0 < 0) then
                (some (AV.B false, []))
              else
                (bif bif decide (0 ≤ (rs.getD i.toNat zRec).Who) then decide ((rs.getD i.toNat zRec).Who < zN en.length) else false then
                  (bif decide ((rs.getD i.toNat zRec).First ≤ en.getD (rs.getD i.toNat zRec).Who.toNat 0) then
                    (some (AV.B false, []))
                  else
                    (bif bif decide (0 ≤ (rs.getD i.toNat zRec).Who) then decide ((rs.getD i.toNat zRec).Who < zN nx.length) else false then
                      (bif bif decide (0 ≤ (rs.getD i.toNat zRec).Who) then decide ((rs.getD i.toNat zRec).Who < zN en.length) else false then
                        (H [true, true, true, true, true, false, true] (hdS [(5, AV.rf 319488), (7, AV.rf 348160), (8, AV.rf 360448), (9, nI (IntKind.i64.wrap (i + 1)))] [(319488, ⟨rs.length, 14, (goRecS rs)⟩), (348160, ⟨nx.length, 1, fun i_1 => lstG [nI (bif decide (i_1 = (rs.getD i.toNat zRec).Who.toNat) then IntKind.i64.wrap ((rs.getD i.toNat zRec).Number + 1) else nx.getD i_1 0)]⟩), (360448, ⟨en.length, 1, fun i_1 => lstG [nI (bif decide (i_1 = (rs.getD i.toNat zRec).Who.toNat) then (rs.getD i.toNat zRec).Last else en.getD i_1 0)]⟩)] []))
                      else
                        (none))
                    else
                      (none)))
                else
                  (none)))
            else
              (none))
          else
            (bif bif decide (0 ≤ (rs.getD i.toNat zRec).Who) then decide ((rs.getD i.toNat zRec).Who < zN nx.length) else false then
              (bif bif decide (0 ≤ (rs.getD i.toNat zRec).Who) then decide ((rs.getD i.toNat zRec).Who < zN en.length) else false then
                (H [true, true, true, true, true, false, true] (hdS [(5, AV.rf 319488), (7, AV.rf 348160), (8, AV.rf 360448), (9, nI (IntKind.i64.wrap (i + 1)))] [(319488, ⟨rs.length, 14, (goRecS rs)⟩), (348160, ⟨nx.length, 1, fun i_1 => lstG [nI (bif decide (i_1 = (rs.getD i.toNat zRec).Who.toNat) then IntKind.i64.wrap ((rs.getD i.toNat zRec).Number + 1) else nx.getD i_1 0)]⟩), (360448, ⟨en.length, 1, fun i_1 => lstG [nI (bif decide (i_1 = (rs.getD i.toNat zRec).Who.toNat) then (rs.getD i.toNat zRec).Last else en.getD i_1 0)]⟩)] []))
              else
                (none))
            else
              (none))))
      else
        (none))
    else
      (none))
  else
    (some (AV.B true, [])) := by kernel_rfl
theorem h15 (Γ : Orc) (H : Hd) (rs : List VRec) (a x y z i : Int) : hed Try.prog cfg Γ 15 H [] [true, true, true, true, false, true] (hdS [(2, nI a), (10, .rf 344064), (12, nI x), (13, nI y), (14, nI z), (15, nI i)] [(344064, ⟨rs.length, 14, goRecS rs⟩)] []) =
  bif decide (i < zN rs.length) then
    (bif bif decide (0 ≤ i) then decide (i < zN rs.length) else false then
      (bif !decide ((rs.getD i.toNat zRec).Call.A = a) then
        (H [true, true, true, true, false, true] (hdS [(2, nI a), (10, AV.rf 344064), (12, nI x), (13, nI y), (14, nI z), (15, nI (IntKind.i64.wrap (i + 1)))] [(344064, ⟨rs.length, 14, (goRecS rs)⟩)] []))
      else
        (bif decide ((rs.getD i.toNat zRec).Last < 0) then
          (H [true, true, true, true, false, true] (hdS [(2, nI a), (10, AV.rf 344064), (12, nI x), (13, nI y), (14, nI z), (15, nI (IntKind.i64.wrap (i + 1)))] [(344064, ⟨rs.length, 14, (goRecS rs)⟩)] []))
        else
          (bif decide ((rs.getD i.toNat zRec).Call.Op = 1) then
            (bif decide ((rs.getD i.toNat zRec).Code = 0) then
              (H [true, true, true, true, false, true] (hdS [(2, nI a), (10, AV.rf 344064), (12, nI (IntKind.i64.wrap (x + 1))), (13, nI y), (14, nI z), (15, nI (IntKind.i64.wrap (i + 1)))] [(344064, ⟨rs.length, 14, (goRecS rs)⟩)] []))
            else
              (bif decide ((rs.getD i.toNat zRec).Call.Op = 3) then
                (bif decide ((rs.getD i.toNat zRec).Code = 0) then
                  (H [true, true, true, true, false, true] (hdS [(2, nI a), (10, AV.rf 344064), (12, nI x), (13, nI (IntKind.i64.wrap (y + 1))), (14, nI z), (15, nI (IntKind.i64.wrap (i + 1)))] [(344064, ⟨rs.length, 14, (goRecS rs)⟩)] []))
                else
                  (bif decide ((rs.getD i.toNat zRec).Call.Op = 3) then
                    (bif decide ((rs.getD i.toNat zRec).Code = 7) then
                      (H [true, true, true, true, false, true] (hdS [(2, nI a), (10, AV.rf 344064), (12, nI x), (13, nI y), (14, nI (IntKind.i64.wrap (z + 1))), (15, nI (IntKind.i64.wrap (i + 1)))] [(344064, ⟨rs.length, 14, (goRecS rs)⟩)] []))
                    else
                      (H [true, true, true, true, false, true] (hdS [(2, nI a), (10, AV.rf 344064), (12, nI x), (13, nI y), (14, nI z), (15, nI (IntKind.i64.wrap (i + 1)))] [(344064, ⟨rs.length, 14, (goRecS rs)⟩)] [])))
                  else
                    (H [true, true, true, true, false, true] (hdS [(2, nI a), (10, AV.rf 344064), (12, nI x), (13, nI y), (14, nI z), (15, nI (IntKind.i64.wrap (i + 1)))] [(344064, ⟨rs.length, 14, (goRecS rs)⟩)] []))))
              else
                (bif decide ((rs.getD i.toNat zRec).Call.Op = 3) then
                  (bif decide ((rs.getD i.toNat zRec).Code = 7) then
                    (H [true, true, true, true, false, true] (hdS [(2, nI a), (10, AV.rf 344064), (12, nI x), (13, nI y), (14, nI (IntKind.i64.wrap (z + 1))), (15, nI (IntKind.i64.wrap (i + 1)))] [(344064, ⟨rs.length, 14, (goRecS rs)⟩)] []))
                  else
                    (H [true, true, true, true, false, true] (hdS [(2, nI a), (10, AV.rf 344064), (12, nI x), (13, nI y), (14, nI z), (15, nI (IntKind.i64.wrap (i + 1)))] [(344064, ⟨rs.length, 14, (goRecS rs)⟩)] [])))
                else
                  (H [true, true, true, true, false, true] (hdS [(2, nI a), (10, AV.rf 344064), (12, nI x), (13, nI y), (14, nI z), (15, nI (IntKind.i64.wrap (i + 1)))] [(344064, ⟨rs.length, 14, (goRecS rs)⟩)] [])))))
          else
            (bif decide ((rs.getD i.toNat zRec).Call.Op = 3) then
              (bif decide ((rs.getD i.toNat zRec).Code = 0) then
                (H [true, true, true, true, false, true] (hdS [(2, nI a), (10, AV.rf 344064), (12, nI x), (13, nI (IntKind.i64.wrap (y + 1))), (14, nI z), (15, nI (IntKind.i64.wrap (i + 1)))] [(344064, ⟨rs.length, 14, (goRecS rs)⟩)] []))
              else
                (bif decide ((rs.getD i.toNat zRec).Call.Op = 3) then
                  (bif decide ((rs.getD i.toNat zRec).Code = 7) then
                    (H [true, true, true, true, false, true] (hdS [(2, nI a), (10, AV.rf 344064), (12, nI x), (13, nI y), (14, nI (IntKind.i64.wrap (z + 1))), (15, nI (IntKind.i64.wrap (i + 1)))] [(344064, ⟨rs.length, 14, (goRecS rs)⟩)] []))
                  else
                    (H [true, true, true, true, false, true] (hdS [(2, nI a), (10, AV.rf 344064), (12, nI x), (13, nI y), (14, nI z), (15, nI (IntKind.i64.wrap (i + 1)))] [(344064, ⟨rs.length, 14, (goRecS rs)⟩)] [])))
                else
                  (H [true, true, true, true, false, true] (hdS [(2, nI a), (10, AV.rf 344064), (12, nI x), (13, nI y), (14, nI z), (15, nI (IntKind.i64.wrap (i + 1)))] [(344064, ⟨rs.length, 14, (goRecS rs)⟩)] []))))
            else
              (bif decide ((rs.getD i.toNat zRec).Call.Op = 3) then
                (bif decide ((rs.getD i.toNat zRec).Code = 7) then
                  (H [true, true, true, true, false, true] (hdS [(2, nI a), (10, AV.rf 344064), (12, nI x), (13, nI y), (14, nI (IntKind.i64.wrap (z + 1))), (15, nI (IntKind.i64.wrap (i + 1)))] [(344064, ⟨rs.length, 14, (goRecS rs)⟩)] []))
                else
                  (H [true, true, true, true, false, true] (hdS [(2, nI a), (10, AV.rf 344064), (12, nI x), (13, nI y), (14, nI z), (15, nI (IntKind.i64.wrap (i + 1)))] [(344064, ⟨rs.length, 14, (goRecS rs)⟩)] [])))
              else
                (H [true, true, true, true, false, true] (hdS [(2, nI a), (10, AV.rf 344064), (12, nI x), (13, nI y), (14, nI z), (15, nI (IntKind.i64.wrap (i + 1)))] [(344064, ⟨rs.length, 14, (goRecS rs)⟩)] [])))))))
    else
      (none))
  else
    (some (AV.tup 4 (lstG [nI x, nI y, nI z, AV.B true]), [])) := by kernel_rfl
theorem h16 (Γ : Orc) (H : Hd) (rs : List VRec) (a x y z m i : Int) : hed Try.prog cfg Γ 16 H [] [true, true, true, true, false, true] (hdS [(2, nI a), (13, nI x), (14, nI y), (15, nI z), (27, .rf 348160), (28, nI m), (29, nI i)] [(348160, ⟨rs.length, 14, goRecS rs⟩)] []) =
  bif decide (i < m) then
    (bif bif decide (0 ≤ i) then decide (i < zN rs.length) else false then
      (bif !decide ((rs.getD i.toNat zRec).Call.A = a) then
        (H [true, true, true, true, false, true] (hdS [(2, nI a), (13, nI x), (14, nI y), (15, nI z), (27, AV.rf 348160), (28, nI m), (29, nI (IntKind.i64.wrap (i + 1)))] [(348160, ⟨rs.length, 14, (goRecS rs)⟩)] []))
      else
        (bif decide ((rs.getD i.toNat zRec).Last < 0) then
          (H [true, true, true, true, false, true] (hdS [(2, nI a), (13, nI x), (14, nI y), (15, nI z), (27, AV.rf 348160), (28, nI m), (29, nI (IntKind.i64.wrap (i + 1)))] [(348160, ⟨rs.length, 14, (goRecS rs)⟩)] []))
        else
          (bif decide ((rs.getD i.toNat zRec).Call.Op = 1) then
            (bif decide ((rs.getD i.toNat zRec).Code = 0) then
              (H [true, true, true, true, false, true] (hdS [(2, nI a), (13, nI (IntKind.i64.wrap (x + 1))), (14, nI y), (15, nI z), (27, AV.rf 348160), (28, nI m), (29, nI (IntKind.i64.wrap (i + 1)))] [(348160, ⟨rs.length, 14, (goRecS rs)⟩)] []))
            else
              (bif decide ((rs.getD i.toNat zRec).Call.Op = 3) then
                (bif decide ((rs.getD i.toNat zRec).Code = 0) then
                  (H [true, true, true, true, false, true] (hdS [(2, nI a), (13, nI x), (14, nI (IntKind.i64.wrap (y + 1))), (15, nI z), (27, AV.rf 348160), (28, nI m), (29, nI (IntKind.i64.wrap (i + 1)))] [(348160, ⟨rs.length, 14, (goRecS rs)⟩)] []))
                else
                  (bif decide ((rs.getD i.toNat zRec).Call.Op = 3) then
                    (bif decide ((rs.getD i.toNat zRec).Code = 7) then
                      (H [true, true, true, true, false, true] (hdS [(2, nI a), (13, nI x), (14, nI y), (15, nI (IntKind.i64.wrap (z + 1))), (27, AV.rf 348160), (28, nI m), (29, nI (IntKind.i64.wrap (i + 1)))] [(348160, ⟨rs.length, 14, (goRecS rs)⟩)] []))
                    else
                      (H [true, true, true, true, false, true] (hdS [(2, nI a), (13, nI x), (14, nI y), (15, nI z), (27, AV.rf 348160), (28, nI m), (29, nI (IntKind.i64.wrap (i + 1)))] [(348160, ⟨rs.length, 14, (goRecS rs)⟩)] [])))
                  else
                    (H [true, true, true, true, false, true] (hdS [(2, nI a), (13, nI x), (14, nI y), (15, nI z), (27, AV.rf 348160), (28, nI m), (29, nI (IntKind.i64.wrap (i + 1)))] [(348160, ⟨rs.length, 14, (goRecS rs)⟩)] []))))
              else
                (bif decide ((rs.getD i.toNat zRec).Call.Op = 3) then
                  (bif decide ((rs.getD i.toNat zRec).Code = 7) then
                    (H [true, true, true, true, false, true] (hdS [(2, nI a), (13, nI x), (14, nI y), (15, nI (IntKind.i64.wrap (z + 1))), (27, AV.rf 348160), (28, nI m), (29, nI (IntKind.i64.wrap (i + 1)))] [(348160, ⟨rs.length, 14, (goRecS rs)⟩)] []))
                  else
                    (H [true, true, true, true, false, true] (hdS [(2, nI a), (13, nI x), (14, nI y), (15, nI z), (27, AV.rf 348160), (28, nI m), (29, nI (IntKind.i64.wrap (i + 1)))] [(348160, ⟨rs.length, 14, (goRecS rs)⟩)] [])))
                else
                  (H [true, true, true, true, false, true] (hdS [(2, nI a), (13, nI x), (14, nI y), (15, nI z), (27, AV.rf 348160), (28, nI m), (29, nI (IntKind.i64.wrap (i + 1)))] [(348160, ⟨rs.length, 14, (goRecS rs)⟩)] [])))))
          else
            (bif decide ((rs.getD i.toNat zRec).Call.Op = 3) then
              (bif decide ((rs.getD i.toNat zRec).Code = 0) then
                (H [true, true, true, true, false, true] (hdS [(2, nI a), (13, nI x), (14, nI (IntKind.i64.wrap (y + 1))), (15, nI z), (27, AV.rf 348160), (28, nI m), (29, nI (IntKind.i64.wrap (i + 1)))] [(348160, ⟨rs.length, 14, (goRecS rs)⟩)] []))
              else
                (bif decide ((rs.getD i.toNat zRec).Call.Op = 3) then
                  (bif decide ((rs.getD i.toNat zRec).Code = 7) then
                    (H [true, true, true, true, false, true] (hdS [(2, nI a), (13, nI x), (14, nI y), (15, nI (IntKind.i64.wrap (z + 1))), (27, AV.rf 348160), (28, nI m), (29, nI (IntKind.i64.wrap (i + 1)))] [(348160, ⟨rs.length, 14, (goRecS rs)⟩)] []))
                  else
                    (H [true, true, true, true, false, true] (hdS [(2, nI a), (13, nI x), (14, nI y), (15, nI z), (27, AV.rf 348160), (28, nI m), (29, nI (IntKind.i64.wrap (i + 1)))] [(348160, ⟨rs.length, 14, (goRecS rs)⟩)] [])))
                else
                  (H [true, true, true, true, false, true] (hdS [(2, nI a), (13, nI x), (14, nI y), (15, nI z), (27, AV.rf 348160), (28, nI m), (29, nI (IntKind.i64.wrap (i + 1)))] [(348160, ⟨rs.length, 14, (goRecS rs)⟩)] []))))
            else
              (bif decide ((rs.getD i.toNat zRec).Call.Op = 3) then
                (bif decide ((rs.getD i.toNat zRec).Code = 7) then
                  (H [true, true, true, true, false, true] (hdS [(2, nI a), (13, nI x), (14, nI y), (15, nI (IntKind.i64.wrap (z + 1))), (27, AV.rf 348160), (28, nI m), (29, nI (IntKind.i64.wrap (i + 1)))] [(348160, ⟨rs.length, 14, (goRecS rs)⟩)] []))
                else
                  (H [true, true, true, true, false, true] (hdS [(2, nI a), (13, nI x), (14, nI y), (15, nI z), (27, AV.rf 348160), (28, nI m), (29, nI (IntKind.i64.wrap (i + 1)))] [(348160, ⟨rs.length, 14, (goRecS rs)⟩)] [])))
              else
                (H [true, true, true, true, false, true] (hdS [(2, nI a), (13, nI x), (14, nI y), (15, nI z), (27, AV.rf 348160), (28, nI m), (29, nI (IntKind.i64.wrap (i + 1)))] [(348160, ⟨rs.length, 14, (goRecS rs)⟩)] [])))))))
    else
      (none))
  else
    (some (AV.tup 4 (lstG [nI x, nI y, nI z, AV.B true]), [])) := by kernel_rfl
theorem h17 (Γ : Orc) (H : Hd) (ms : List VMark) (rs : List VRec) (os ls : List Int) (a c lo m i : Int) : hed Try.prog cfg Γ 17 H [] [true, true, true, true, true, false, true] (hdS [(1, slMarkS ms), (2, nI a), (3, nI c), (11, .rf 348160), (12, .rf 348224), (14, .rf 671744), (15, nI lo), (16, nI i)] [(348160, ⟨rs.length, 14, goRecS rs⟩), (348224, ⟨os.length, 1, gI os⟩), (671744, ⟨ls.length, 1, gI ls⟩)] []) =
  bif decide (i < zN ms.length) then
    (bif bif decide (0 ≤ i) then decide (i < zN os.length) else false then
      (bif decide (os.getD i.toNat 0 < 0) then
        (H [true, true, true, true, true, false, true] (hdS [(1, slMarkS ms), (2, nI a), (3, nI c), (11, AV.rf 348160), (12, AV.rf 348224), (14, AV.rf 671744), (15, nI lo), (16, nI (IntKind.i64.wrap (i + 1)))] [(348160, ⟨rs.length, 14, (goRecS rs)⟩), (348224, ⟨os.length, 1, gI os⟩), (671744, ⟨ls.length, 1, gI ls⟩)] []))
      else
        (bif bif decide (0 ≤ i) then decide (i < zN ms.length) else false then
          (bif !decide ((ms.getD i.toNat zMark).Reply.Code = 0) then
            (H [true, true, true, true, true, false, true] (hdS [(1, slMarkS ms), (2, nI a), (3, nI c), (11, AV.rf 348160), (12, AV.rf 348224), (14, AV.rf 671744), (15, nI lo), (16, nI (IntKind.i64.wrap (i + 1)))] [(348160, ⟨rs.length, 14, (goRecS rs)⟩), (348224, ⟨os.length, 1, gI os⟩), (671744, ⟨ls.length, 1, gI ls⟩)] []))
          else
            (bif bif decide (0 ≤ i) then decide (i < zN os.length) else false then
              (bif bif decide (0 ≤ os.getD i.toNat 0) then decide (os.getD i.toNat 0 < zN rs.length) else false then
                (bif !decide ((rs.getD (os.getD i.toNat 0).toNat zRec).Call.Op = 15) then
                  (H [true, true, true, true, true, false, true] (hdS [(1, slMarkS ms), (2, nI a), (3, nI c), (11, AV.rf 348160), (12, AV.rf 348224), (14, AV.rf 671744), (15, nI lo), (16, nI (IntKind.i64.wrap (i + 1)))] [(348160, ⟨rs.length, 14, (goRecS rs)⟩), (348224, ⟨os.length, 1, gI os⟩), (671744, ⟨ls.length, 1, gI ls⟩)] []))
                else
                  (bif !decide ((rs.getD (os.getD i.toNat 0).toNat zRec).Call.B = c) then
                    (H [true, true, true, true, true, false, true] (hdS [(1, slMarkS ms), (2, nI a), (3, nI c), (11, AV.rf 348160), (12, AV.rf 348224), (14, AV.rf 671744), (15, nI lo), (16, nI (IntKind.i64.wrap (i + 1)))] [(348160, ⟨rs.length, 14, (goRecS rs)⟩), (348224, ⟨os.length, 1, gI os⟩), (671744, ⟨ls.length, 1, gI ls⟩)] []))
                  else
                    (bif bif decide (0 ≤ i) then decide (i < zN os.length) else false then
                      (bif bif decide (0 ≤ os.getD i.toNat 0) then decide (os.getD i.toNat 0 < zN rs.length) else false then
                        (bif !decide ((rs.getD (os.getD i.toNat 0).toNat zRec).Who = a) then
                          (H [true, true, true, true, true, false, true] (hdS [(1, slMarkS ms), (2, nI a), (3, nI c), (11, AV.rf 348160), (12, AV.rf 348224), (14, AV.rf 671744), (15, nI lo), (16, nI (IntKind.i64.wrap (i + 1)))] [(348160, ⟨rs.length, 14, (goRecS rs)⟩), (348224, ⟨os.length, 1, gI os⟩), (671744, ⟨ls.length, 1, gI ls⟩)] []))
                        else
                          (bif bif decide (0 ≤ i) then decide (i < zN ms.length) else false then
                            (bif decide ((ms.getD i.toNat zMark).Reply.M = 0) then
                              (bif bif decide (0 ≤ i) then decide (i < zN ms.length) else false then
                                (bif decide (ls.length + 1 ≤ 4294967296) && true && true && true && true then
                                  (bif bif decide (0 ≤ i) then decide (i < zN ms.length) else false then
                                    (H [true, true, true, true, true, false, true] (hdS [(1, slMarkS ms), (2, nI a), (3, nI c), (11, AV.rf 348160), (12, AV.rf 348224), (14, AV.rf 671744), (15, nI (IntKind.i64.wrap (lo + (ms.getD i.toNat zMark).Reply.M))), (16, nI (IntKind.i64.wrap (i + 1)))] [(348160, ⟨rs.length, 14, (goRecS rs)⟩), (348224, ⟨os.length, 1, gI os⟩), (671744, ⟨ls.length + 1, 1, fun i_1 => lstG [nI (bif decide (i_1 < ls.length) then ls.getD i_1 0 else bif decide (i_1 - ls.length = 0) then (ms.getD i.toNat zMark).Reply.N else 0)]⟩)] []))
                                  else
                                    (none))
                                else
                                  (none))
                              else
                                (none))
                            else
                              (bif bif decide (0 ≤ i) then decide (i < zN ms.length) else false then
                                (H [true, true, true, true, true, false, true] (hdS [(1, slMarkS ms), (2, nI a), (3, nI c), (11, AV.rf 348160), (12, AV.rf 348224), (14, AV.rf 671744), (15, nI (IntKind.i64.wrap (lo + (ms.getD i.toNat zMark).Reply.M))), (16, nI (IntKind.i64.wrap (i + 1)))] [(348160, ⟨rs.length, 14, (goRecS rs)⟩), (348224, ⟨os.length, 1, gI os⟩), (671744, ⟨ls.length, 1, gI ls⟩)] []))
                              else
                                (none)))
                          else
                            (none)))
                      else
                        (none))
                    else
                      (none))))
              else
                (none))
            else
              (none)))
        else
          (none)))
    else
      (none))
  else
    (bif bif okT then true else false then
      (some (AV.tup 3 (lstG [AV.own ls.length 1 (gI ls), nI lo, AV.B true]), []))
    else
      (none)) := by kernel_rfl
theorem h18 (Γ : Orc) (H : Hd) (ms : List VMark) (rs : List VRec) (os ls : List Int) (a c lo m i : Int) : hed Try.prog cfg Γ 18 H [] [true, true, true, true, true, false, true] (hdS [(2, nI a), (3, nI c), (11, .rf 352256), (12, .rf 352320), (14, .rf 643072), (15, nI lo), (37, slMarkS ms), (38, nI m), (39, nI i)] [(352256, ⟨rs.length, 14, goRecS rs⟩), (352320, ⟨os.length, 1, gI os⟩), (643072, ⟨ls.length, 1, gI ls⟩)] []) =
  bif decide (i < m) then
    (bif bif decide (0 ≤ i) then decide (i < zN ms.length) else false then
      (bif bif decide (0 ≤ i) then decide (i < zN os.length) else false then
        (bif decide (os.getD i.toNat 0 < 0) then
          (H [true, true, true, true, true, false, true] (hdS [(2, nI a), (3, nI c), (11, AV.rf 352256), (12, AV.rf 352320), (14, AV.rf 643072), (15, nI lo), (37, slMarkS ms), (38, nI m), (39, nI (IntKind.i64.wrap (i + 1)))] [(352256, ⟨rs.length, 14, (goRecS rs)⟩), (352320, ⟨os.length, 1, gI os⟩), (643072, ⟨ls.length, 1, gI ls⟩)] []))
        else
          (bif !decide ((ms.getD i.toNat zMark).Reply.Code = 0) then
            (H [true, true, true, true, true, false, true] (hdS [(2, nI a), (3, nI c), (11, AV.rf 352256), (12, AV.rf 352320), (14, AV.rf 643072), (15, nI lo), (37, slMarkS ms), (38, nI m), (39, nI (IntKind.i64.wrap (i + 1)))] [(352256, ⟨rs.length, 14, (goRecS rs)⟩), (352320, ⟨os.length, 1, gI os⟩), (643072, ⟨ls.length, 1, gI ls⟩)] []))
          else
            (bif bif decide (0 ≤ i) then decide (i < zN os.length) else false then
              (bif bif decide (0 ≤ os.getD i.toNat 0) then decide (os.getD i.toNat 0 < zN rs.length) else false then
                (bif !decide ((rs.getD (os.getD i.toNat 0).toNat zRec).Who = a) then
                  (H [true, true, true, true, true, false, true] (hdS [(2, nI a), (3, nI c), (11, AV.rf 352256), (12, AV.rf 352320), (14, AV.rf 643072), (15, nI lo), (37, slMarkS ms), (38, nI m), (39, nI (IntKind.i64.wrap (i + 1)))] [(352256, ⟨rs.length, 14, (goRecS rs)⟩), (352320, ⟨os.length, 1, gI os⟩), (643072, ⟨ls.length, 1, gI ls⟩)] []))
                else
                  (bif !decide ((rs.getD (os.getD i.toNat 0).toNat zRec).Call.Op = 15) then
                    (H [true, true, true, true, true, false, true] (hdS [(2, nI a), (3, nI c), (11, AV.rf 352256), (12, AV.rf 352320), (14, AV.rf 643072), (15, nI lo), (37, slMarkS ms), (38, nI m), (39, nI (IntKind.i64.wrap (i + 1)))] [(352256, ⟨rs.length, 14, (goRecS rs)⟩), (352320, ⟨os.length, 1, gI os⟩), (643072, ⟨ls.length, 1, gI ls⟩)] []))
                  else
                    (bif !decide ((rs.getD (os.getD i.toNat 0).toNat zRec).Call.B = c) then
                      (H [true, true, true, true, true, false, true] (hdS [(2, nI a), (3, nI c), (11, AV.rf 352256), (12, AV.rf 352320), (14, AV.rf 643072), (15, nI lo), (37, slMarkS ms), (38, nI m), (39, nI (IntKind.i64.wrap (i + 1)))] [(352256, ⟨rs.length, 14, (goRecS rs)⟩), (352320, ⟨os.length, 1, gI os⟩), (643072, ⟨ls.length, 1, gI ls⟩)] []))
                    else
                      (bif decide ((ms.getD i.toNat zMark).Reply.M = 0) then
                        (bif decide (ls.length + 1 ≤ 4294967296) && true && true && true && true then
                          (H [true, true, true, true, true, false, true] (hdS [(2, nI a), (3, nI c), (11, AV.rf 352256), (12, AV.rf 352320), (14, AV.rf 643072), (15, nI (IntKind.i64.wrap (lo + (ms.getD i.toNat zMark).Reply.M))), (37, slMarkS ms), (38, nI m), (39, nI (IntKind.i64.wrap (i + 1)))] [(352256, ⟨rs.length, 14, (goRecS rs)⟩), (352320, ⟨os.length, 1, gI os⟩), (643072, ⟨ls.length + 1, 1, fun i_1 => lstG [nI (bif decide (i_1 < ls.length) then ls.getD i_1 0 else bif decide (i_1 - ls.length = 0) then (ms.getD i.toNat zMark).Reply.N else 0)]⟩)] []))
                        else
                          (none))
                      else
                        (H [true, true, true, true, true, false, true] (hdS [(2, nI a), (3, nI c), (11, AV.rf 352256), (12, AV.rf 352320), (14, AV.rf 643072), (15, nI (IntKind.i64.wrap (lo + (ms.getD i.toNat zMark).Reply.M))), (37, slMarkS ms), (38, nI m), (39, nI (IntKind.i64.wrap (i + 1)))] [(352256, ⟨rs.length, 14, (goRecS rs)⟩), (352320, ⟨os.length, 1, gI os⟩), (643072, ⟨ls.length, 1, gI ls⟩)] []))))))
              else
                (none))
            else
              (none))))
      else
        (none))
    else
      (none))
  else
    (bif bif okT then true else false then
      (some (AV.tup 3 (lstG [AV.own ls.length 1 (gI ls), nI lo, AV.B true]), []))
    else
      (none)) := by kernel_rfl
end Go.Fw
