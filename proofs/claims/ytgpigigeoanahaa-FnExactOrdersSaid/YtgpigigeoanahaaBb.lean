/- Values and trees of the functions that the histories' laws reach; no proof of a statement. -/
import Derived.Test.YtgpigigeoanahaaProg
import Derived.Test.YtgpigigeoanahaaFyB
import Derived.KernelRfl
import Derived.Test.YtgpigigeoanahaaB
set_option linter.unusedVariables false
set_option maxRecDepth 100000
namespace Go.Fw
open Go.Proofs
theorem h9 (Γ : Orc) (H : Hd) (rs : List VRec) (nx en : List Int) (i : Int) : hed Try.prog cfg Γ 9 H [] [true, true, true, true, true, false, true] (hdS [(5, .rf 319488), (7, .rf 348160), (8, .rf 360448), (9, nI i)] [(319488, ⟨rs.length, 14, goRecS rs⟩), (348160, ⟨nx.length, 1, gI nx⟩), (360448, ⟨en.length, 1, gI en⟩)] []) =
  bif decide (i < zN rs.length) then
    (bif bif decide (0 ≤ i) then decide (i < zN rs.length) else false then
      (bif bif decide (0 ≤ (rs.getD i.toNat zRec).Who) then decide ((rs.getD i.toNat zRec).Who < zN nx.length) else false then
        (bif !decide ((rs.getD i.toNat zRec).Number = nx.getD (rs.getD i.toNat zRec).Who.toNat 0) then
          (some (AV.B false, []))
        else
          (bif decide (0 < (rs.getD i.toNat zRec).Number) then
            (bif bif decide (0 ≤ (rs.getD i.toNat zRec).Who) then decide ((rs.getD i.toNat zRec).Who < zN en.length) else false then
              (bif decide (en.getD (rs.getD i.toNat zRec).Who.toNat 0 < 0) then
                (some (AV.B false, []))
              else
                (bif bif decide (0 ≤ (rs.getD i.toNat zRec).Who) then decide ((rs.getD i.toNat zRec).Who < zN en.length) else false then
                  (bif decide ((rs.getD i.toNat zRec).First ≤ en.getD (rs.getD i.toNat zRec).Who.toNat 0) then
                    (some (AV.B false, []))
                  else
                    (bif bif decide (0 ≤ (rs.getD i.toNat zRec).Who) then decide ((rs.getD i.toNat zRec).Who < zN nx.length) else false then
                      (bif bif decide (0 ≤ (rs.getD i.toNat zRec).Who) then decide ((rs.getD i.toNat zRec).Who < zN en.length) else false then
                        (H [true, true, true, true, true, false, true] (hdS [(5, AV.rf 319488), (7, AV.rf 348160), (8, AV.rf 360448), (9, nI (IntKind.i64.wrap (i + 1)))] [(319488, ⟨rs.length, 14, (goRecS rs)⟩), (348160, ⟨nx.length, 1, fun i_1 => lstG [nI (bif decide (i_1 = (rs.getD i.toNat zRec).Who.toNat) then IntKind.i64.wrap ((rs.getD i.toNat zRec).Number + 1) else nx.getD i_1 0)]⟩), (360448, ⟨en.length, 1, fun i_1 => lstG [nI (bif decide (i_1 = (rs.getD i.toNat zRec).Who.toNat) then (rs.getD i.toNat zRec).Last else en.getD i_1 0)]⟩)] []))
                      else
                        (none))
                    else
                      (none)))
                else
                  (none)))
            else
              (none))
          else
            (bif bif decide (0 ≤ (rs.getD i.toNat zRec).Who) then decide ((rs.getD i.toNat zRec).Who < zN nx.length) else false then
              (bif bif decide (0 ≤ (rs.getD i.toNat zRec).Who) then decide ((rs.getD i.toNat zRec).Who < zN en.length) else false then
                (H [true, true, true, true, true, false, true] (hdS [(5, AV.rf 319488), (7, AV.rf 348160), (8, AV.rf 360448), (9, nI (IntKind.i64.wrap (i + 1)))] [(319488, ⟨rs.length, 14, (goRecS rs)⟩), (348160, ⟨nx.length, 1, fun i_1 => lstG [nI (bif decide (i_1 = (rs.getD i.toNat zRec).Who.toNat) then IntKind.i64.wrap ((rs.getD i.toNat zRec).Number + 1) else nx.getD i_1 0)]⟩), (360448, ⟨en.length, 1, fun i_1 => lstG [nI (bif decide (i_1 = (rs.getD i.toNat zRec).Who.toNat) then (rs.getD i.toNat zRec).Last else en.getD i_1 0)]⟩)] []))
              else
                (none))
            else
              (none))))
      else
        (none))
    else
      (none))
  else
    (some (AV.B true, [])) := by kernel_rfl
theorem h15 (Γ : Orc) (H : Hd) (rs : List VRec) (a x y z i : Int) : hed Try.prog cfg Γ 15 H [] [true, true, true, true, false, true] (hdS [(2, nI a), (10, .rf 344064), (12, nI x), (13, nI y), (14, nI z), (15, nI i)] [(344064, ⟨rs.length, 14, goRecS rs⟩)] []) =
  bif decide (i < zN rs.length) then
    (bif bif decide (0 ≤ i) then decide (i < zN rs.length) else false then
      (bif !decide ((rs.getD i.toNat zRec).Call.A = a) then
        (H [true, true, true, true, false, true] (hdS [(2, nI a), (10, AV.rf 344064), (12, nI x), (13, nI y), (14, nI z), (15, nI (IntKind.i64.wrap (i + 1)))] [(344064, ⟨rs.length, 14, (goRecS rs)⟩)] []))
      else
        (bif decide ((rs.getD i.toNat zRec).Last < 0) then
          (H [true, true, true, true, false, true] (hdS [(2, nI a), (10, AV.rf 344064), (12, nI x), (13, nI y), (14, nI z), (15, nI (IntKind.i64.wrap (i + 1)))] [(344064, ⟨rs.length, 14, (goRecS rs)⟩)] []))
        else
          (bif decide ((rs.getD i.toNat zRec).Call.Op = 1) then
            (bif decide ((rs.getD i.toNat zRec).Code = 0) then
              (H [true, true, true, true, false, true] (hdS [(2, nI a), (10, AV.rf 344064), (12, nI (IntKind.i64.wrap (x + 1))), (13, nI y), (14, nI z), (15, nI (IntKind.i64.wrap (i + 1)))] [(344064, ⟨rs.length, 14, (goRecS rs)⟩)] []))
            else
              (bif decide ((rs.getD i.toNat zRec).Call.Op = 3) then
                (bif decide ((rs.getD i.toNat zRec).Code = 0) then
                  (H [true, true, true, true, false, true] (hdS [(2, nI a), (10, AV.rf 344064), (12, nI x), (13, nI (IntKind.i64.wrap (y + 1))), (14, nI z), (15, nI (IntKind.i64.wrap (i + 1)))] [(344064, ⟨rs.length, 14, (goRecS rs)⟩)] []))
                else
                  (bif decide ((rs.getD i.toNat zRec).Call.Op = 3) then
                    (bif decide ((rs.getD i.toNat zRec).Code = 7) then
                      (H [true, true, true, true, false, true] (hdS [(2, nI a), (10, AV.rf 344064), (12, nI x), (13, nI y), (14, nI (IntKind.i64.wrap (z + 1))), (15, nI (IntKind.i64.wrap (i + 1)))] [(344064, ⟨rs.length, 14, (goRecS rs)⟩)] []))
                    else
                      (H [true, true, true, true, false, true] (hdS [(2, nI a), (10, AV.rf 344064), (12, nI x), (13, nI y), (14, nI z), (15, nI (IntKind.i64.wrap (i + 1)))] [(344064, ⟨rs.length, 14, (goRecS rs)⟩)] [])))
                  else
                    (H [true, true, true, true, false, true] (hdS [(2, nI a), (10, AV.rf 344064), (12, nI x), (13, nI y), (14, nI z), (15, nI (IntKind.i64.wrap (i + 1)))] [(344064, ⟨rs.length, 14, (goRecS rs)⟩)] []))))
              else
                (bif decide ((rs.getD i.toNat zRec).Call.Op = 3) then
                  (bif decide ((rs.getD i.toNat zRec).Code = 7) then
                    (H [true, true, true, true, false, true] (hdS [(2, nI a), (10, AV.rf 344064), (12, nI x), (13, nI y), (14, nI (IntKind.i64.wrap (z + 1))), (15, nI (IntKind.i64.wrap (i + 1)))] [(344064, ⟨rs.length, 14, (goRecS rs)⟩)] []))
                  else
                    (H [true, true, true, true, false, true] (hdS [(2, nI a), (10, AV.rf 344064), (12, nI x), (13, nI y), (14, nI z), (15, nI (IntKind.i64.wrap (i + 1)))] [(344064, ⟨rs.length, 14, (goRecS rs)⟩)] [])))
                else
                  (H [true, true, true, true, false, true] (hdS [(2, nI a), (10, AV.rf 344064), (12, nI x), (13, nI y), (14, nI z), (15, nI (IntKind.i64.wrap (i + 1)))] [(344064, ⟨rs.length, 14, (goRecS rs)⟩)] [])))))
          else
            (bif decide ((rs.getD i.toNat zRec).Call.Op = 3) then
              (bif decide ((rs.getD i.toNat zRec).Code = 0) then
                (H [true, true, true, true, false, true] (hdS [(2, nI a), (10, AV.rf 344064), (12, nI x), (13, nI (IntKind.i64.wrap (y + 1))), (14, nI z), (15, nI (IntKind.i64.wrap (i + 1)))] [(344064, ⟨rs.length, 14, (goRecS rs)⟩)] []))
              else
                (bif decide ((rs.getD i.toNat zRec).Call.Op = 3) then
                  (bif decide ((rs.getD i.toNat zRec).Code = 7) then
                    (H [true, true, true, true, false, true] (hdS [(2, nI a), (10, AV.rf 344064), (12, nI x), (13, nI y), (14, nI (IntKind.i64.wrap (z + 1))), (15, nI (IntKind.i64.wrap (i + 1)))] [(344064, ⟨rs.length, 14, (goRecS rs)⟩)] []))
                  else
                    (H [true, true, true, true, false, true] (hdS [(2, nI a), (10, AV.rf 344064), (12, nI x), (13, nI y), (14, nI z), (15, nI (IntKind.i64.wrap (i + 1)))] [(344064, ⟨rs.length, 14, (goRecS rs)⟩)] [])))
                else
                  (H [true, true, true, true, false, true] (hdS [(2, nI a), (10, AV.rf 344064), (12, nI x), (13, nI y), (14, nI z), (15, nI (IntKind.i64.wrap (i + 1)))] [(344064, ⟨rs.length, 14, (goRecS rs)⟩)] []))))
            else
              (bif decide ((rs.getD i.toNat zRec).Call.Op = 3) then
                (bif decide ((rs.getD i.toNat zRec).Code = 7) then
                  (H [true, true, true, true, false, true] (hdS [(2, nI a), (10, AV.rf 344064), (12, nI x), (13, nI y), (14, nI (IntKind.i64.wrap (z + 1))), (15, nI (IntKind.i64.wrap (i + 1)))] [(344064, ⟨rs.length, 14, (goRecS rs)⟩)] []))
                else
                  (H [true, true, true, true, false, true] (hdS [(2, nI a), (10, AV.rf 344064), (12, nI x), (13, nI y), (14, nI z), (15, nI (IntKind.i64.wrap (i + 1)))] [(344064, ⟨rs.length, 14, (goRecS rs)⟩)] [])))
              else
                (H [true, true, true, true, false, true] (hdS [(2, nI a), (10, AV.rf 344064), (12, nI x), (13, nI y), (14, nI z), (15, nI (IntKind.i64.wrap (i + 1)))] [(344064, ⟨rs.length, 14, (goRecS rs)⟩)] [])))))))
    else
      (none))
  else
    (some (AV.tup 4 (lstG [nI x, nI y, nI z, AV.B true]), [])) := by kernel_rfl
theorem h16 (Γ : Orc) (H : Hd) (rs : List VRec) (a x y z m i : Int) : hed Try.prog cfg Γ 16 H [] [true, true, true, true, false, true] (hdS [(2, nI a), (13, nI x), (14, nI y), (15, nI z), (27, .rf 348160), (28, nI m), (29, nI i)] [(348160, ⟨rs.length, 14, goRecS rs⟩)] []) =
  bif decide (i < m) then
    (bif bif decide (0 ≤ i) then decide (i < zN rs.length) else false then
      (bif !decide ((rs.getD i.toNat zRec).Call.A = a) then
        (H [true, true, true, true, false, true] (hdS [(2, nI a), (13, nI x), (14, nI y), (15, nI z), (27, AV.rf 348160), (28, nI m), (29, nI (IntKind.i64.wrap (i + 1)))] [(348160, ⟨rs.length, 14, (goRecS rs)⟩)] []))
      else
        (bif decide ((rs.getD i.toNat zRec).Last < 0) then
          (H [true, true, true, true, false, true] (hdS [(2, nI a), (13, nI x), (14, nI y), (15, nI z), (27, AV.rf 348160), (28, nI m), (29, nI (IntKind.i64.wrap (i + 1)))] [(348160, ⟨rs.length, 14, (goRecS rs)⟩)] []))
        else
          (bif decide ((rs.getD i.toNat zRec).Call.Op = 1) then
            (bif decide ((rs.getD i.toNat zRec).Code = 0) then
              (H [true, true, true, true, false, true] (hdS [(2, nI a), (13, nI (IntKind.i64.wrap (x + 1))), (14, nI y), (15, nI z), (27, AV.rf 348160), (28, nI m), (29, nI (IntKind.i64.wrap (i + 1)))] [(348160, ⟨rs.length, 14, (goRecS rs)⟩)] []))
            else
              (bif decide ((rs.getD i.toNat zRec).Call.Op = 3) then
                (bif decide ((rs.getD i.toNat zRec).Code = 0) then
                  (H [true, true, true, true, false, true] (hdS [(2, nI a), (13, nI x), (14, nI (IntKind.i64.wrap (y + 1))), (15, nI z), (27, AV.rf 348160), (28, nI m), (29, nI (IntKind.i64.wrap (i + 1)))] [(348160, ⟨rs.length, 14, (goRecS rs)⟩)] []))
                else
                  (bif decide ((rs.getD i.toNat zRec).Call.Op = 3) then
                    (bif decide ((rs.getD i.toNat zRec).Code = 7) then
                      (H [true, true, true, true, false, true] (hdS [(2, nI a), (13, nI x), (14, nI y), (15, nI (IntKind.i64.wrap (z + 1))), (27, AV.rf 348160), (28, nI m), (29, nI (IntKind.i64.wrap (i + 1)))] [(348160, ⟨rs.length, 14, (goRecS rs)⟩)] []))
                    else
                      (H [true, true, true, true, false, true] (hdS [(2, nI a), (13, nI x), (14, nI y), (15, nI z), (27, AV.rf 348160), (28, nI m), (29, nI (IntKind.i64.wrap (i + 1)))] [(348160, ⟨rs.length, 14, (goRecS rs)⟩)] [])))
                  else
                    (H [true, true, true, true, false, true] (hdS [(2, nI a), (13, nI x), (14, nI y), (15, nI z), (27, AV.rf 348160), (28, nI m), (29, nI (IntKind.i64.wrap (i + 1)))] [(348160, ⟨rs.length, 14, (goRecS rs)⟩)] []))))
              else
                (bif decide ((rs.getD i.toNat zRec).Call.Op = 3) then
                  (bif decide ((rs.getD i.toNat zRec).Code = 7) then
                    (H [true, true, true, true, false, true] (hdS [(2, nI a), (13, nI x), (14, nI y), (15, nI (IntKind.i64.wrap (z + 1))), (27, AV.rf 348160), (28, nI m), (29, nI (IntKind.i64.wrap (i + 1)))] [(348160, ⟨rs.length, 14, (goRecS rs)⟩)] []))
                  else
                    (H [true, true, true, true, false, true] (hdS [(2, nI a), (13, nI x), (14, nI y), (15, nI z), (27, AV.rf 348160), (28, nI m), (29, nI (IntKind.i64.wrap (i + 1)))] [(348160, ⟨rs.length, 14, (goRecS rs)⟩)] [])))
                else
                  (H [true, true, true, true, false, true] (hdS [(2, nI a), (13, nI x), (14, nI y), (15, nI z), (27, AV.rf 348160), (28, nI m), (29, nI (IntKind.i64.wrap (i + 1)))] [(348160, ⟨rs.length, 14, (goRecS rs)⟩)] [])))))
          else
            (bif decide ((rs.getD i.toNat zRec).Call.Op = 3) then
              (bif decide ((rs.getD i.toNat zRec).Code = 0) then
                (H [true, true, true, true, false, true] (hdS [(2, nI a), (13, nI x), (14, nI (IntKind.i64.wrap (y + 1))), (15, nI z), (27, AV.rf 348160), (28, nI m), (29, nI (IntKind.i64.wrap (i + 1)))] [(348160, ⟨rs.length, 14, (goRecS rs)⟩)] []))
              else
                (bif decide ((rs.getD i.toNat zRec).Call.Op = 3) then
                  (bif decide ((rs.getD i.toNat zRec).Code = 7) then
                    (H [true, true, true, true, false, true] (hdS [(2, nI a), (13, nI x), (14, nI y), (15, nI (IntKind.i64.wrap (z + 1))), (27, AV.rf 348160), (28, nI m), (29, nI (IntKind.i64.wrap (i + 1)))] [(348160, ⟨rs.length, 14, (goRecS rs)⟩)] []))
                  else
                    (H [true, true, true, true, false, true] (hdS [(2, nI a), (13, nI x), (14, nI y), (15, nI z), (27, AV.rf 348160), (28, nI m), (29, nI (IntKind.i64.wrap (i + 1)))] [(348160, ⟨rs.length, 14, (goRecS rs)⟩)] [])))
                else
                  (H [true, true, true, true, false, true] (hdS [(2, nI a), (13, nI x), (14, nI y), (15, nI z), (27, AV.rf 348160), (28, nI m), (29, nI (IntKind.i64.wrap (i + 1)))] [(348160, ⟨rs.length, 14, (goRecS rs)⟩)] []))))
            else
              (bif decide ((rs.getD i.toNat zRec).Call.Op = 3) then
                (bif decide ((rs.getD i.toNat zRec).Code = 7) then
                  (H [true, true, true, true, false, true] (hdS [(2, nI a), (13, nI x), (14, nI y), (15, nI (IntKind.i64.wrap (z + 1))), (27, AV.rf 348160), (28, nI m), (29, nI (IntKind.i64.wrap (i + 1)))] [(348160, ⟨rs.length, 14, (goRecS rs)⟩)] []))
                else
                  (H [true, true, true, true, false, true] (hdS [(2, nI a), (13, nI x), (14, nI y), (15, nI z), (27, AV.rf 348160), (28, nI m), (29, nI (IntKind.i64.wrap (i + 1)))] [(348160, ⟨rs.length, 14, (goRecS rs)⟩)] [])))
              else
                (H [true, true, true, true, false, true] (hdS [(2, nI a), (13, nI x), (14, nI y), (15, nI z), (27, AV.rf 348160), (28, nI m), (29, nI (IntKind.i64.wrap (i + 1)))] [(348160, ⟨rs.length, 14, (goRecS rs)⟩)] [])))))))
    else
      (none))
  else
    (some (AV.tup 4 (lstG [nI x, nI y, nI z, AV.B true]), [])) := by kernel_rfl
end Go.Fw
