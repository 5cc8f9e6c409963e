/- Sizes, copies, comparing, trees of seat r2 -/
import Derived.Test.YtgpigigeoanahaaProg
import Derived.Test.YtgpigigeoanahaaFyB
import Derived.KernelRfl
import Derived.Test.YtgpigigeoanahaaB
set_option linter.unusedVariables false
set_option maxRecDepth 100000
namespace Go.Fw
open Go.Proofs
theorem e62 (Γ : Orc) (H : Hd) (x : VTerm) (a : Int) : ent Try.prog cfg Γ 62 H [slTerm x, nI a] [] =
  bif decide (IntKind.i64.wrap (a - zN x.Text.size) < 0) then
    (some (nI (-1), []))
  else
    (some (nI (IntKind.i64.wrap (a - zN x.Text.size)), [])) := by kernel_rfl
theorem e56 (Γ : Orc) (H : Hd) (x : (List VTerm)) (a : Int) : ent Try.prog cfg Γ 56 H [slTermS x, nI a] [] =
  bif decide (IntKind.i64.wrap (a - zN x.length) < 0) then
    (some (nI (-1), []))
  else
    (H [true, true, true, false, true] (hdS [(0, slTermS x), (1, nI (IntKind.i64.wrap (a - zN x.length))), (5, nI 0)] [] [])) := by kernel_rfl
theorem h56 (Γ : Orc) (H : Hd) (x : (List VTerm)) (a i : Int) : hed Try.prog cfg Γ 56 H [] [true, true, true, false, true] (hdS [(0, slTermS x), (1, nI a), (5, nI i)] [] []) =
  bif decide (i < zN x.length) then
    (bif bif decide (0 ≤ i) then decide (i < zN x.length) else false then
      (Option.bind (Γ 62 [AV.ag 3 (lstG [nI (x.getD i.toNat zTerm).Op, nI (x.getD i.toNat zTerm).Num, AV.S (x.getD i.toNat zTerm).Text]), nI a] []) fun r2 =>
      bif decide (asI r2.fst < 0) then
        (some (nI (-1), []))
      else
        (H [true, true, true, false, true] (hdS [(0, slTermS x), (1, nI (asI r2.fst)), (5, nI (IntKind.i64.wrap (i + 1)))] [] [])))
    else
      (none))
  else
    (some (nI a, [])) := by kernel_rfl
theorem e55 (Γ : Orc) (H : Hd) (x : VMsg) (a : Int) : ent Try.prog cfg Γ 55 H [slMsg x, nI a] [] =
  bif decide (IntKind.i64.wrap (a - zN x.Text.size) < 0) then
    (some (nI (-1), []))
  else
    (some (nI (IntKind.i64.wrap (a - zN x.Text.size)), [])) := by kernel_rfl
theorem e44 (Γ : Orc) (H : Hd) (x : VCall) (a : Int) : ent Try.prog cfg Γ 44 H [slCall x, nI a] [] =
  bif decide (IntKind.i64.wrap (a - zN x.Name.size) < 0) then
    (some (nI (-1), []))
  else
    (Option.bind (Γ 55 [AV.ag 3 (lstG [nI x.Msg.Kind, nI x.Msg.Num, AV.S x.Msg.Text]), nI (IntKind.i64.wrap (a - zN x.Name.size))] []) fun r1 =>
    bif decide (asI r1.fst < 0) then
      (some (nI (-1), []))
    else
      (Option.bind (Γ 56 [slTermS x.Filter, nI (asI r1.fst)] []) fun r3 =>
      bif decide (asI r3.fst < 0) then
        (some (nI (-1), []))
      else
        (some (nI (asI r3.fst), [])))) := by kernel_rfl
theorem e29 (Γ : Orc) (H : Hd) (x : (List VCall)) (a : Int) : ent Try.prog cfg Γ 29 H [slCallS x, nI a] [] =
  bif decide (IntKind.i64.wrap (a - zN x.length) < 0) then
    (some (nI (-1), []))
  else
    (H [true, true, true, false, true] (hdS [(0, slCallS x), (1, nI (IntKind.i64.wrap (a - zN x.length))), (5, nI 0)] [] [])) := by kernel_rfl
theorem h29 (Γ : Orc) (H : Hd) (x : (List VCall)) (a i : Int) : hed Try.prog cfg Γ 29 H [] [true, true, true, false, true] (hdS [(0, slCallS x), (1, nI a), (5, nI i)] [] []) =
  bif decide (i < zN x.length) then
    (bif bif decide (0 ≤ i) then decide (i < zN x.length) else false then
      (Option.bind (Γ 44 [AV.ag 9 (lstG [nI (x.getD i.toNat zCall).Op, nI (x.getD i.toNat zCall).A, nI (x.getD i.toNat zCall).B, nI (x.getD i.toNat zCall).Tok, AV.S (x.getD i.toNat zCall).Name, nI (x.getD i.toNat zCall).Msg.Kind, nI (x.getD i.toNat zCall).Msg.Num, AV.S (x.getD i.toNat zCall).Msg.Text, slTermS (x.getD i.toNat zCall).Filter]), nI a] []) fun r2 =>
      bif decide (asI r2.fst < 0) then
        (some (nI (-1), []))
      else
        (H [true, true, true, false, true] (hdS [(0, slCallS x), (1, nI (asI r2.fst)), (5, nI (IntKind.i64.wrap (i + 1)))] [] [])))
    else
      (none))
  else
    (some (nI a, [])) := by kernel_rfl
theorem e7 (Γ : Orc) (H : Hd) (x : (List (List VCall))) (a : Int) : ent Try.prog cfg Γ 7 H [slCallSS x, nI a] [] =
  bif decide (IntKind.i64.wrap (a - zN x.length) < 0) then
    (some (nI (-1), []))
  else
    (H [true, true, true, false, true] (hdS [(0, slCallSS x), (1, nI (IntKind.i64.wrap (a - zN x.length))), (5, nI 0)] [] [])) := by kernel_rfl
theorem h7 (Γ : Orc) (H : Hd) (x : (List (List VCall))) (a i : Int) : hed Try.prog cfg Γ 7 H [] [true, true, true, false, true] (hdS [(0, slCallSS x), (1, nI a), (5, nI i)] [] []) =
  bif decide (i < zN x.length) then
    (bif bif decide (0 ≤ i) then decide (i < zN x.length) else false then
      (Option.bind (Γ 29 [slCallS (x.getD i.toNat []), nI a] []) fun r2 =>
      bif decide (asI r2.fst < 0) then
        (some (nI (-1), []))
      else
        (H [true, true, true, false, true] (hdS [(0, slCallSS x), (1, nI (asI r2.fst)), (5, nI (IntKind.i64.wrap (i + 1)))] [] [])))
    else
      (none))
  else
    (some (nI a, [])) := by kernel_rfl
theorem e45 (Γ : Orc) (H : Hd) (x : VReply) (a : Int) : ent Try.prog cfg Γ 45 H [slReply x, nI a] [] =
  Option.bind (Γ 55 [AV.ag 3 (lstG [nI x.Msg.Kind, nI x.Msg.Num, AV.S x.Msg.Text]), nI a] []) fun r0 =>
  bif decide (asI r0.fst < 0) then
    (some (nI (-1), []))
  else
    (some (nI (asI r0.fst), [])) := by kernel_rfl
theorem e30 (Γ : Orc) (H : Hd) (x : VMark) (a : Int) : ent Try.prog cfg Γ 30 H [slMark x, nI a] [] =
  Option.bind (Γ 45 [AV.ag 6 (lstG [nI x.Reply.Code, nI x.Reply.N, nI x.Reply.M, nI x.Reply.Msg.Kind, nI x.Reply.Msg.Num, AV.S x.Reply.Msg.Text]), nI a] []) fun r0 =>
  bif decide (asI r0.fst < 0) then
    (some (nI (-1), []))
  else
    (some (nI (asI r0.fst), [])) := by kernel_rfl
theorem e8 (Γ : Orc) (H : Hd) (x : (List VMark)) (a : Int) : ent Try.prog cfg Γ 8 H [slMarkS x, nI a] [] =
  bif decide (IntKind.i64.wrap (a - zN x.length) < 0) then
    (some (nI (-1), []))
  else
    (H [true, true, true, false, true] (hdS [(0, slMarkS x), (1, nI (IntKind.i64.wrap (a - zN x.length))), (5, nI 0)] [] [])) := by kernel_rfl
theorem h8 (Γ : Orc) (H : Hd) (x : (List VMark)) (a i : Int) : hed Try.prog cfg Γ 8 H [] [true, true, true, false, true] (hdS [(0, slMarkS x), (1, nI a), (5, nI i)] [] []) =
  bif decide (i < zN x.length) then
    (bif bif decide (0 ≤ i) then decide (i < zN x.length) else false then
      (Option.bind (Γ 30 [AV.ag 9 (lstG [nI (x.getD i.toNat zMark).Step.Kind, nI (x.getD i.toNat zMark).Step.Who, nI (x.getD i.toNat zMark).Step.Leg, nI (x.getD i.toNat zMark).Reply.Code, nI (x.getD i.toNat zMark).Reply.N, nI (x.getD i.toNat zMark).Reply.M, nI (x.getD i.toNat zMark).Reply.Msg.Kind, nI (x.getD i.toNat zMark).Reply.Msg.Num, AV.S (x.getD i.toNat zMark).Reply.Msg.Text]), nI a] []) fun r2 =>
      bif decide (asI r2.fst < 0) then
        (some (nI (-1), []))
      else
        (H [true, true, true, false, true] (hdS [(0, slMarkS x), (1, nI (asI r2.fst)), (5, nI (IntKind.i64.wrap (i + 1)))] [] [])))
    else
      (none))
  else
    (some (nI a, [])) := by kernel_rfl
theorem e63 (Γ : Orc) (H : Hd) (x : VTerm) : ent Try.prog cfg Γ 63 H [slTerm x] [] =
  some (AV.ag 3 (lstG [nI x.Op, nI x.Num, AV.S x.Text]), []) := by kernel_rfl
theorem e58 (Γ : Orc) (H : Hd) (x : (List VTerm)) : ent Try.prog cfg Γ 58 H [slTermS x] [] =
  bif decide (zN x.length ≤ 4294967296) && decide (zN x.length ≤ zN x.length) && true && true && true then
    (H [true, true, false, true] (hdS [(0, slTermS x), (3, AV.rf 290816), (4, nI 0)] [(290816, ⟨(zN x.length).toNat, 3, fun i => lstG [nI 0, nI 0, AV.S ByteArray.empty]⟩)] []))
  else
    (none) := by kernel_rfl
theorem h58 (Γ : Orc) (H : Hd) (x : (List VTerm)) (os : (List VTerm)) (i : Int) : hed Try.prog cfg Γ 58 H [] [true, true, false, true] (hdS [(0, slTermS x), (3, .rf 290816), (4, nI i)] [(290816, ⟨os.length, 3, goTermS os⟩)] []) =
  bif decide (i < zN x.length) then
    (bif bif decide (0 ≤ i) then decide (i < zN x.length) else false then
      (Option.bind (Γ 63 [AV.ag 3 (lstG [nI (x.getD i.toNat zTerm).Op, nI (x.getD i.toNat zTerm).Num, AV.S (x.getD i.toNat zTerm).Text])] []) fun r2 =>
      bif bif decide (0 ≤ i) then decide (i < zN os.length) else false then
        (H [true, true, false, true] (hdS [(0, slTermS x), (3, AV.rf 290816), (4, nI (IntKind.i64.wrap (i + 1)))] [(290816, ⟨os.length, 3, fun i_1 => lstG [nI (bif decide (i_1 = i.toNat) then asI (asA r2.fst 0) else (os.getD i_1 zTerm).Op), nI (bif decide (i_1 = i.toNat) then asI (asA r2.fst 1) else (os.getD i_1 zTerm).Num), AV.S (bif decide (i_1 = i.toNat) then asS (asA r2.fst 2) else (os.getD i_1 zTerm).Text)]⟩)] []))
      else
        (none))
    else
      (none))
  else
    (bif okT then
      (some (owTermS os, []))
    else
      (none)) := by kernel_rfl
theorem e57 (Γ : Orc) (H : Hd) (x : VMsg) : ent Try.prog cfg Γ 57 H [slMsg x] [] =
  some (AV.ag 3 (lstG [nI x.Kind, nI x.Num, AV.S x.Text]), []) := by kernel_rfl
theorem e46 (Γ : Orc) (H : Hd) (x : VCall) : ent Try.prog cfg Γ 46 H [slCall x] [] =
  Option.bind (Γ 57 [AV.ag 3 (lstG [nI x.Msg.Kind, nI x.Msg.Num, AV.S x.Msg.Text])] []) fun r0 =>
  Option.bind (Γ 58 [slTermS x.Filter] []) fun r1 =>
  bif bif okT then true else false then
    (some (AV.ag 9 (lstG [nI x.Op, nI x.A, nI x.B, nI x.Tok, AV.S x.Name, nI (asI (asA r0.fst 0)), nI (asI (asA r0.fst 1)), AV.S (asS (asA r0.fst 2)), vowTermS r1.fst]), []))
  else
    (none) := by kernel_rfl
theorem e31 (Γ : Orc) (H : Hd) (x : (List VCall)) : ent Try.prog cfg Γ 31 H [slCallS x] [] =
  bif decide (zN x.length ≤ 4294967296) && decide (zN x.length ≤ zN x.length) && true && true && true then
    (H [true, true, false, true] (hdS [(0, slCallS x), (3, AV.rf 290816), (4, nI 0)] [(290816, ⟨(zN x.length).toNat, 9, fun i => lstG [nI 0, nI 0, nI 0, nI 0, AV.S ByteArray.empty, nI 0, nI 0, AV.S ByteArray.empty, AV.own 0 3 fun i => lstG [nI 0, nI 0, AV.S ByteArray.empty]]⟩)] []))
  else
    (none) := by kernel_rfl
theorem h31 (Γ : Orc) (H : Hd) (x : (List VCall)) (os : (List VCall)) (i : Int) : hed Try.prog cfg Γ 31 H [] [true, true, false, true] (hdS [(0, slCallS x), (3, .rf 290816), (4, nI i)] [(290816, ⟨os.length, 9, goCallS os⟩)] []) =
  bif decide (i < zN x.length) then
    (bif bif decide (0 ≤ i) then decide (i < zN x.length) else false then
      (Option.bind (Γ 46 [AV.ag 9 (lstG [nI (x.getD i.toNat zCall).Op, nI (x.getD i.toNat zCall).A, nI (x.getD i.toNat zCall).B, nI (x.getD i.toNat zCall).Tok, AV.S (x.getD i.toNat zCall).Name, nI (x.getD i.toNat zCall).Msg.Kind, nI (x.getD i.toNat zCall).Msg.Num, AV.S (x.getD i.toNat zCall).Msg.Text, slTermS (x.getD i.toNat zCall).Filter])] []) fun r2 =>
      bif bif decide (0 ≤ i) then decide (i < zN os.length) else false then
        (H [true, true, false, true] (hdS [(0, slCallS x), (3, AV.rf 290816), (4, nI (IntKind.i64.wrap (i + 1)))] [(290816, ⟨os.length, 9, fun i_1 => lstG [nI (bif decide (i_1 = i.toNat) then asI (asA r2.fst 0) else (os.getD i_1 zCall).Op), nI (bif decide (i_1 = i.toNat) then asI (asA r2.fst 1) else (os.getD i_1 zCall).A), nI (bif decide (i_1 = i.toNat) then asI (asA r2.fst 2) else (os.getD i_1 zCall).B), nI (bif decide (i_1 = i.toNat) then asI (asA r2.fst 3) else (os.getD i_1 zCall).Tok), AV.S (bif decide (i_1 = i.toNat) then asS (asA r2.fst 4) else (os.getD i_1 zCall).Name), nI (bif decide (i_1 = i.toNat) then asI (asA r2.fst 5) else (os.getD i_1 zCall).Msg.Kind), nI (bif decide (i_1 = i.toNat) then asI (asA r2.fst 6) else (os.getD i_1 zCall).Msg.Num), AV.S (bif decide (i_1 = i.toNat) then asS (asA r2.fst 7) else (os.getD i_1 zCall).Msg.Text), AV.own (bif decide (i_1 = i.toNat) then asN (asA r2.fst 8) else (os.getD i_1 zCall).Filter.length) 3 fun i_2 => lstG [nI (bif decide (i_1 = i.toNat) then asI (asG (asA r2.fst 8) i_2 0) else ((os.getD i_1 zCall).Filter.getD i_2 zTerm).Op), nI (bif decide (i_1 = i.toNat) then asI (asG (asA r2.fst 8) i_2 1) else ((os.getD i_1 zCall).Filter.getD i_2 zTerm).Num), AV.S (bif decide (i_1 = i.toNat) then asS (asG (asA r2.fst 8) i_2 2) else ((os.getD i_1 zCall).Filter.getD i_2 zTerm).Text)]]⟩)] []))
      else
        (none))
    else
      (none))
  else
    (bif okU then
      (some (owCallS os, []))
    else
      (none)) := by kernel_rfl
theorem e10 (Γ : Orc) (H : Hd) (x : (List (List VCall))) : ent Try.prog cfg Γ 10 H [slCallSS x] [] =
  bif decide (zN x.length ≤ 4294967296) && decide (zN x.length ≤ zN x.length) && true && true && true then
    (H [true, true, false, true] (hdS [(0, slCallSS x), (3, AV.rf 290816), (4, nI 0)] [(290816, ⟨(zN x.length).toNat, 1, fun i => lstG [AV.own 0 9 fun i => lstG [nI 0, nI 0, nI 0, nI 0, AV.S ByteArray.empty, nI 0, nI 0, AV.S ByteArray.empty, AV.own 0 3 fun i => lstG [nI 0, nI 0, AV.S ByteArray.empty]]]⟩)] []))
  else
    (none) := by kernel_rfl
theorem h10 (Γ : Orc) (H : Hd) (x : (List (List VCall))) (os : (List (List VCall))) (i : Int) : hed Try.prog cfg Γ 10 H [] [true, true, false, true] (hdS [(0, slCallSS x), (3, .rf 290816), (4, nI i)] [(290816, ⟨os.length, 1, goCallSS os⟩)] []) =
  bif decide (i < zN x.length) then
    (bif bif decide (0 ≤ i) then decide (i < zN x.length) else false then
      (Option.bind (Γ 31 [slCallS (x.getD i.toNat [])] []) fun r2 =>
      bif bif decide (0 ≤ i) then decide (i < zN os.length) else false then
        (H [true, true, false, true] (hdS [(0, slCallSS x), (3, AV.rf 290816), (4, nI (IntKind.i64.wrap (i + 1)))] [(290816, ⟨os.length, 1, fun i_1 => lstG [AV.own (bif decide (i_1 = i.toNat) then asN r2.fst else (os.getD i_1 []).length) 9 fun i_2 => lstG [nI (bif decide (i_1 = i.toNat) then asI (asG r2.fst i_2 0) else ((os.getD i_1 []).getD i_2 zCall).Op), nI (bif decide (i_1 = i.toNat) then asI (asG r2.fst i_2 1) else ((os.getD i_1 []).getD i_2 zCall).A), nI (bif decide (i_1 = i.toNat) then asI (asG r2.fst i_2 2) else ((os.getD i_1 []).getD i_2 zCall).B), nI (bif decide (i_1 = i.toNat) then asI (asG r2.fst i_2 3) else ((os.getD i_1 []).getD i_2 zCall).Tok), AV.S (bif decide (i_1 = i.toNat) then asS (asG r2.fst i_2 4) else ((os.getD i_1 []).getD i_2 zCall).Name), nI (bif decide (i_1 = i.toNat) then asI (asG r2.fst i_2 5) else ((os.getD i_1 []).getD i_2 zCall).Msg.Kind), nI (bif decide (i_1 = i.toNat) then asI (asG r2.fst i_2 6) else ((os.getD i_1 []).getD i_2 zCall).Msg.Num), AV.S (bif decide (i_1 = i.toNat) then asS (asG r2.fst i_2 7) else ((os.getD i_1 []).getD i_2 zCall).Msg.Text), AV.own (bif decide (i_1 = i.toNat) then asN (asG r2.fst i_2 8) else ((os.getD i_1 []).getD i_2 zCall).Filter.length) 3 fun i_3 => lstG [nI (bif decide (i_1 = i.toNat) then asI (asG (asG r2.fst i_2 8) i_3 0) else (((os.getD i_1 []).getD i_2 zCall).Filter.getD i_3 zTerm).Op), nI (bif decide (i_1 = i.toNat) then asI (asG (asG r2.fst i_2 8) i_3 1) else (((os.getD i_1 []).getD i_2 zCall).Filter.getD i_3 zTerm).Num), AV.S (bif decide (i_1 = i.toNat) then asS (asG (asG r2.fst i_2 8) i_3 2) else (((os.getD i_1 []).getD i_2 zCall).Filter.getD i_3 zTerm).Text)]]]⟩)] []))
      else
        (none))
    else
      (none))
  else
    (bif okV then
      (some (owCallSS os, []))
    else
      (none)) := by kernel_rfl
theorem e47 (Γ : Orc) (H : Hd) (x : VStep) : ent Try.prog cfg Γ 47 H [slStep x] [] =
  some (AV.ag 3 (lstG [nI x.Kind, nI x.Who, nI x.Leg]), []) := by kernel_rfl
theorem e48 (Γ : Orc) (H : Hd) (x : VReply) : ent Try.prog cfg Γ 48 H [slReply x] [] =
  Option.bind (Γ 57 [AV.ag 3 (lstG [nI x.Msg.Kind, nI x.Msg.Num, AV.S x.Msg.Text])] []) fun r0 =>
  some (AV.ag 6 (lstG [nI x.Code, nI x.N, nI x.M, nI (asI (asA r0.fst 0)), nI (asI (asA r0.fst 1)), AV.S (asS (asA r0.fst 2))]), []) := by kernel_rfl
theorem e32 (Γ : Orc) (H : Hd) (x : VMark) : ent Try.prog cfg Γ 32 H [slMark x] [] =
  Option.bind (Γ 47 [AV.ag 3 (lstG [nI x.Step.Kind, nI x.Step.Who, nI x.Step.Leg])] []) fun r0 =>
  Option.bind (Γ 48 [AV.ag 6 (lstG [nI x.Reply.Code, nI x.Reply.N, nI x.Reply.M, nI x.Reply.Msg.Kind, nI x.Reply.Msg.Num, AV.S x.Reply.Msg.Text])] []) fun r1 =>
  some (AV.ag 9 (lstG [nI (asI (asA r0.fst 0)), nI (asI (asA r0.fst 1)), nI (asI (asA r0.fst 2)), nI (asI (asA r1.fst 0)), nI (asI (asA r1.fst 1)), nI (asI (asA r1.fst 2)), nI (asI (asA r1.fst 3)), nI (asI (asA r1.fst 4)), AV.S (asS (asA r1.fst 5))]), []) := by kernel_rfl
theorem e11 (Γ : Orc) (H : Hd) (x : (List VMark)) : ent Try.prog cfg Γ 11 H [slMarkS x] [] =
  bif decide (zN x.length ≤ 4294967296) && decide (zN x.length ≤ zN x.length) && true && true && true then
    (H [true, true, false, true] (hdS [(0, slMarkS x), (3, AV.rf 290816), (4, nI 0)] [(290816, ⟨(zN x.length).toNat, 9, fun i => lstG [nI 0, nI 0, nI 0, nI 0, nI 0, nI 0, nI 0, nI 0, AV.S ByteArray.empty]⟩)] []))
  else
    (none) := by kernel_rfl
theorem h11 (Γ : Orc) (H : Hd) (x : (List VMark)) (os : (List VMark)) (i : Int) : hed Try.prog cfg Γ 11 H [] [true, true, false, true] (hdS [(0, slMarkS x), (3, .rf 290816), (4, nI i)] [(290816, ⟨os.length, 9, goMarkS os⟩)] []) =
  bif decide (i < zN x.length) then
    (bif bif decide (0 ≤ i) then decide (i < zN x.length) else false then
      (Option.bind (Γ 32 [AV.ag 9 (lstG [nI (x.getD i.toNat zMark).Step.Kind, nI (x.getD i.toNat zMark).Step.Who, nI (x.getD i.toNat zMark).Step.Leg, nI (x.getD i.toNat zMark).Reply.Code, nI (x.getD i.toNat zMark).Reply.N, nI (x.getD i.toNat zMark).Reply.M, nI (x.getD i.toNat zMark).Reply.Msg.Kind, nI (x.getD i.toNat zMark).Reply.Msg.Num, AV.S (x.getD i.toNat zMark).Reply.Msg.Text])] []) fun r2 =>
      bif bif decide (0 ≤ i) then decide (i < zN os.length) else false then
        (H [true, true, false, true] (hdS [(0, slMarkS x), (3, AV.rf 290816), (4, nI (IntKind.i64.wrap (i + 1)))] [(290816, ⟨os.length, 9, fun i_1 => lstG [nI (bif decide (i_1 = i.toNat) then asI (asA r2.fst 0) else (os.getD i_1 zMark).Step.Kind), nI (bif decide (i_1 = i.toNat) then asI (asA r2.fst 1) else (os.getD i_1 zMark).Step.Who), nI (bif decide (i_1 = i.toNat) then asI (asA r2.fst 2) else (os.getD i_1 zMark).Step.Leg), nI (bif decide (i_1 = i.toNat) then asI (asA r2.fst 3) else (os.getD i_1 zMark).Reply.Code), nI (bif decide (i_1 = i.toNat) then asI (asA r2.fst 4) else (os.getD i_1 zMark).Reply.N), nI (bif decide (i_1 = i.toNat) then asI (asA r2.fst 5) else (os.getD i_1 zMark).Reply.M), nI (bif decide (i_1 = i.toNat) then asI (asA r2.fst 6) else (os.getD i_1 zMark).Reply.Msg.Kind), nI (bif decide (i_1 = i.toNat) then asI (asA r2.fst 7) else (os.getD i_1 zMark).Reply.Msg.Num), AV.S (bif decide (i_1 = i.toNat) then asS (asA r2.fst 8) else (os.getD i_1 zMark).Reply.Msg.Text)]⟩)] []))
      else
        (none))
    else
      (none))
  else
    (bif okT then
      (some (owMarkS os, []))
    else
      (none)) := by kernel_rfl
theorem e64 (Γ : Orc) (H : Hd) (x y : VTerm) : ent Try.prog cfg Γ 64 H [slTerm x, slTerm y] [] =
  bif !decide (x.Op = y.Op) then
    (some (AV.B false, []))
  else
    (bif !decide (x.Num = y.Num) then
      (some (AV.B false, []))
    else
      (bif !x.Text.toList == y.Text.toList then
        (some (AV.B false, []))
      else
        (some (AV.B true, [])))) := by kernel_rfl
theorem e60 (Γ : Orc) (H : Hd) (x y : (List VTerm)) : ent Try.prog cfg Γ 60 H [slTermS x, slTermS y] [] =
  bif !decide (zN x.length = zN y.length) then
    (some (AV.B false, []))
  else
    (H [true, true, false, true] (hdS [(0, slTermS x), (1, slTermS y), (5, nI 0)] [] [])) := by kernel_rfl
theorem h60 (Γ : Orc) (H : Hd) (x y : (List VTerm)) (i : Int) : hed Try.prog cfg Γ 60 H [] [true, true, false, true] (hdS [(0, slTermS x), (1, slTermS y), (5, nI i)] [] []) =
  bif decide (i < zN x.length) then
    (bif bif decide (0 ≤ i) then decide (i < zN x.length) else false then
      (bif bif decide (0 ≤ i) then decide (i < zN y.length) else false then
        (Option.bind (Γ 64 [AV.ag 3 (lstG [nI (x.getD i.toNat zTerm).Op, nI (x.getD i.toNat zTerm).Num, AV.S (x.getD i.toNat zTerm).Text]), AV.ag 3 (lstG [nI (y.getD i.toNat zTerm).Op, nI (y.getD i.toNat zTerm).Num, AV.S (y.getD i.toNat zTerm).Text])] []) fun r3 =>
        bif !asB r3.fst then
          (some (AV.B false, []))
        else
          (H [true, true, false, true] (hdS [(0, slTermS x), (1, slTermS y), (5, nI (IntKind.i64.wrap (i + 1)))] [] [])))
      else
        (none))
    else
      (none))
  else
    (some (AV.B true, [])) := by kernel_rfl
theorem e59 (Γ : Orc) (H : Hd) (x y : VMsg) : ent Try.prog cfg Γ 59 H [slMsg x, slMsg y] [] =
  bif !decide (x.Kind = y.Kind) then
    (some (AV.B false, []))
  else
    (bif !decide (x.Num = y.Num) then
      (some (AV.B false, []))
    else
      (bif !x.Text.toList == y.Text.toList then
        (some (AV.B false, []))
      else
        (some (AV.B true, [])))) := by kernel_rfl
theorem e49 (Γ : Orc) (H : Hd) (x y : VCall) : ent Try.prog cfg Γ 49 H [slCall x, slCall y] [] =
  bif !decide (x.Op = y.Op) then
    (some (AV.B false, []))
  else
    (bif !decide (x.A = y.A) then
      (some (AV.B false, []))
    else
      (bif !decide (x.B = y.B) then
        (some (AV.B false, []))
      else
        (bif !decide (x.Tok = y.Tok) then
          (some (AV.B false, []))
        else
          (bif !x.Name.toList == y.Name.toList then
            (some (AV.B false, []))
          else
            (Option.bind (Γ 59 [AV.ag 3 (lstG [nI x.Msg.Kind, nI x.Msg.Num, AV.S x.Msg.Text]), AV.ag 3 (lstG [nI y.Msg.Kind, nI y.Msg.Num, AV.S y.Msg.Text])] []) fun r5 =>
            bif !asB r5.fst then
              (some (AV.B false, []))
            else
              (Option.bind (Γ 60 [slTermS x.Filter, slTermS y.Filter] []) fun r7 =>
              bif !asB r7.fst then
                (some (AV.B false, []))
              else
                (some (AV.B true, [])))))))) := by kernel_rfl
theorem e33 (Γ : Orc) (H : Hd) (x y : (List VCall)) : ent Try.prog cfg Γ 33 H [slCallS x, slCallS y] [] =
  bif !decide (zN x.length = zN y.length) then
    (some (AV.B false, []))
  else
    (H [true, true, false, true] (hdS [(0, slCallS x), (1, slCallS y), (5, nI 0)] [] [])) := by kernel_rfl
theorem h33 (Γ : Orc) (H : Hd) (x y : (List VCall)) (i : Int) : hed Try.prog cfg Γ 33 H [] [true, true, false, true] (hdS [(0, slCallS x), (1, slCallS y), (5, nI i)] [] []) =
  bif decide (i < zN x.length) then
    (bif bif decide (0 ≤ i) then decide (i < zN x.length) else false then
      (bif bif decide (0 ≤ i) then decide (i < zN y.length) else false then
        (Option.bind (Γ 49 [AV.ag 9 (lstG [nI (x.getD i.toNat zCall).Op, nI (x.getD i.toNat zCall).A, nI (x.getD i.toNat zCall).B, nI (x.getD i.toNat zCall).Tok, AV.S (x.getD i.toNat zCall).Name, nI (x.getD i.toNat zCall).Msg.Kind, nI (x.getD i.toNat zCall).Msg.Num, AV.S (x.getD i.toNat zCall).Msg.Text, slTermS (x.getD i.toNat zCall).Filter]), AV.ag 9 (lstG [nI (y.getD i.toNat zCall).Op, nI (y.getD i.toNat zCall).A, nI (y.getD i.toNat zCall).B, nI (y.getD i.toNat zCall).Tok, AV.S (y.getD i.toNat zCall).Name, nI (y.getD i.toNat zCall).Msg.Kind, nI (y.getD i.toNat zCall).Msg.Num, AV.S (y.getD i.toNat zCall).Msg.Text, slTermS (y.getD i.toNat zCall).Filter])] []) fun r3 =>
        bif !asB r3.fst then
          (some (AV.B false, []))
        else
          (H [true, true, false, true] (hdS [(0, slCallS x), (1, slCallS y), (5, nI (IntKind.i64.wrap (i + 1)))] [] [])))
      else
        (none))
    else
      (none))
  else
    (some (AV.B true, [])) := by kernel_rfl
theorem e13 (Γ : Orc) (H : Hd) (x y : (List (List VCall))) : ent Try.prog cfg Γ 13 H [slCallSS x, slCallSS y] [] =
  bif !decide (zN x.length = zN y.length) then
    (some (AV.B false, []))
  else
    (H [true, true, false, true] (hdS [(0, slCallSS x), (1, slCallSS y), (5, nI 0)] [] [])) := by kernel_rfl
theorem h13 (Γ : Orc) (H : Hd) (x y : (List (List VCall))) (i : Int) : hed Try.prog cfg Γ 13 H [] [true, true, false, true] (hdS [(0, slCallSS x), (1, slCallSS y), (5, nI i)] [] []) =
  bif decide (i < zN x.length) then
    (bif bif decide (0 ≤ i) then decide (i < zN x.length) else false then
      (bif bif decide (0 ≤ i) then decide (i < zN y.length) else false then
        (Option.bind (Γ 33 [slCallS (x.getD i.toNat []), slCallS (y.getD i.toNat [])] []) fun r3 =>
        bif !asB r3.fst then
          (some (AV.B false, []))
        else
          (H [true, true, false, true] (hdS [(0, slCallSS x), (1, slCallSS y), (5, nI (IntKind.i64.wrap (i + 1)))] [] [])))
      else
        (none))
    else
      (none))
  else
    (some (AV.B true, [])) := by kernel_rfl
theorem e50 (Γ : Orc) (H : Hd) (x y : VStep) : ent Try.prog cfg Γ 50 H [slStep x, slStep y] [] =
  bif !decide (x.Kind = y.Kind) then
    (some (AV.B false, []))
  else
    (bif !decide (x.Who = y.Who) then
      (some (AV.B false, []))
    else
      (bif !decide (x.Leg = y.Leg) then
        (some (AV.B false, []))
      else
        (some (AV.B true, [])))) := by kernel_rfl
theorem e51 (Γ : Orc) (H : Hd) (x y : VReply) : ent Try.prog cfg Γ 51 H [slReply x, slReply y] [] =
  bif !decide (x.Code = y.Code) then
    (some (AV.B false, []))
  else
    (bif !decide (x.N = y.N) then
      (some (AV.B false, []))
    else
      (bif !decide (x.M = y.M) then
        (some (AV.B false, []))
      else
        (Option.bind (Γ 59 [AV.ag 3 (lstG [nI x.Msg.Kind, nI x.Msg.Num, AV.S x.Msg.Text]), AV.ag 3 (lstG [nI y.Msg.Kind, nI y.Msg.Num, AV.S y.Msg.Text])] []) fun r3 =>
        bif !asB r3.fst then
          (some (AV.B false, []))
        else
          (some (AV.B true, []))))) := by kernel_rfl
theorem e34 (Γ : Orc) (H : Hd) (x y : VMark) : ent Try.prog cfg Γ 34 H [slMark x, slMark y] [] =
  Option.bind (Γ 50 [AV.ag 3 (lstG [nI x.Step.Kind, nI x.Step.Who, nI x.Step.Leg]), AV.ag 3 (lstG [nI y.Step.Kind, nI y.Step.Who, nI y.Step.Leg])] []) fun r0 =>
  bif !asB r0.fst then
    (some (AV.B false, []))
  else
    (Option.bind (Γ 51 [AV.ag 6 (lstG [nI x.Reply.Code, nI x.Reply.N, nI x.Reply.M, nI x.Reply.Msg.Kind, nI x.Reply.Msg.Num, AV.S x.Reply.Msg.Text]), AV.ag 6 (lstG [nI y.Reply.Code, nI y.Reply.N, nI y.Reply.M, nI y.Reply.Msg.Kind, nI y.Reply.Msg.Num, AV.S y.Reply.Msg.Text])] []) fun r2 =>
    bif !asB r2.fst then
      (some (AV.B false, []))
    else
      (some (AV.B true, []))) := by kernel_rfl
theorem e14 (Γ : Orc) (H : Hd) (x y : (List VMark)) : ent Try.prog cfg Γ 14 H [slMarkS x, slMarkS y] [] =
  bif !decide (zN x.length = zN y.length) then
    (some (AV.B false, []))
  else
    (H [true, true, false, true] (hdS [(0, slMarkS x), (1, slMarkS y), (5, nI 0)] [] [])) := by kernel_rfl
theorem h14 (Γ : Orc) (H : Hd) (x y : (List VMark)) (i : Int) : hed Try.prog cfg Γ 14 H [] [true, true, false, true] (hdS [(0, slMarkS x), (1, slMarkS y), (5, nI i)] [] []) =
  bif decide (i < zN x.length) then
    (bif bif decide (0 ≤ i) then decide (i < zN x.length) else false then
      (bif bif decide (0 ≤ i) then decide (i < zN y.length) else false then
        (Option.bind (Γ 34 [AV.ag 9 (lstG [nI (x.getD i.toNat zMark).Step.Kind, nI (x.getD i.toNat zMark).Step.Who, nI (x.getD i.toNat zMark).Step.Leg, nI (x.getD i.toNat zMark).Reply.Code, nI (x.getD i.toNat zMark).Reply.N, nI (x.getD i.toNat zMark).Reply.M, nI (x.getD i.toNat zMark).Reply.Msg.Kind, nI (x.getD i.toNat zMark).Reply.Msg.Num, AV.S (x.getD i.toNat zMark).Reply.Msg.Text]), AV.ag 9 (lstG [nI (y.getD i.toNat zMark).Step.Kind, nI (y.getD i.toNat zMark).Step.Who, nI (y.getD i.toNat zMark).Step.Leg, nI (y.getD i.toNat zMark).Reply.Code, nI (y.getD i.toNat zMark).Reply.N, nI (y.getD i.toNat zMark).Reply.M, nI (y.getD i.toNat zMark).Reply.Msg.Kind, nI (y.getD i.toNat zMark).Reply.Msg.Num, AV.S (y.getD i.toNat zMark).Reply.Msg.Text])] []) fun r3 =>
        bif !asB r3.fst then
          (some (AV.B false, []))
        else
          (H [true, true, false, true] (hdS [(0, slMarkS x), (1, slMarkS y), (5, nI (IntKind.i64.wrap (i + 1)))] [] [])))
      else
        (none))
    else
      (none))
  else
    (some (AV.B true, [])) := by kernel_rfl
theorem e19 (Γ : Orc) (H : Hd) (x y : (List Int)) : ent Try.prog cfg Γ 19 H [slIntS x, slIntS y] [] =
  bif !decide (zN x.length = zN y.length) then
    (some (AV.B false, []))
  else
    (H [true, true, false, true] (hdS [(0, AV.sl x.length 1 (gI x)), (1, AV.sl y.length 1 (gI y)), (5, nI 0)] [] [])) := by kernel_rfl
theorem h19 (Γ : Orc) (H : Hd) (x y : (List Int)) (i : Int) : hed Try.prog cfg Γ 19 H [] [true, true, false, true] (hdS [(0, slIntS x), (1, slIntS y), (5, nI i)] [] []) =
  bif decide (i < zN x.length) then
    (bif bif decide (0 ≤ i) then decide (i < zN x.length) else false then
      (bif bif decide (0 ≤ i) then decide (i < zN y.length) else false then
        (bif !decide (x.getD i.toNat 0 = y.getD i.toNat 0) then
          (some (AV.B false, []))
        else
          (H [true, true, false, true] (hdS [(0, AV.sl x.length 1 (gI x)), (1, AV.sl y.length 1 (gI y)), (5, nI (IntKind.i64.wrap (i + 1)))] [] [])))
      else
        (none))
    else
      (none))
  else
    (some (AV.B true, [])) := by kernel_rfl
theorem e41 (Γ : Orc) (H : Hd) (x y : VRec) : ent Try.prog cfg Γ 41 H [slRec x, slRec y] [] =
  bif !decide (x.Who = y.Who) then
    (some (AV.B false, []))
  else
    (bif !decide (x.Number = y.Number) then
      (some (AV.B false, []))
    else
      (Option.bind (Γ 49 [AV.ag 9 (lstG [nI x.Call.Op, nI x.Call.A, nI x.Call.B, nI x.Call.Tok, AV.S x.Call.Name, nI x.Call.Msg.Kind, nI x.Call.Msg.Num, AV.S x.Call.Msg.Text, slTermS x.Call.Filter]), AV.ag 9 (lstG [nI y.Call.Op, nI y.Call.A, nI y.Call.B, nI y.Call.Tok, AV.S y.Call.Name, nI y.Call.Msg.Kind, nI y.Call.Msg.Num, AV.S y.Call.Msg.Text, slTermS y.Call.Filter])] []) fun r2 =>
      bif !asB r2.fst then
        (some (AV.B false, []))
      else
        (bif !decide (x.First = y.First) then
          (some (AV.B false, []))
        else
          (bif !decide (x.Last = y.Last) then
            (some (AV.B false, []))
          else
            (bif !decide (x.Code = y.Code) then
              (some (AV.B false, []))
            else
              (some (AV.B true, []))))))) := by kernel_rfl
theorem e26 (Γ : Orc) (H : Hd) (x y : (List VRec)) : ent Try.prog cfg Γ 26 H [slRecS x, slRecS y] [] =
  bif !decide (zN x.length = zN y.length) then
    (some (AV.B false, []))
  else
    (H [true, true, false, true] (hdS [(0, slRecS x), (1, slRecS y), (5, nI 0)] [] [])) := by kernel_rfl
theorem h26 (Γ : Orc) (H : Hd) (x y : (List VRec)) (i : Int) : hed Try.prog cfg Γ 26 H [] [true, true, false, true] (hdS [(0, slRecS x), (1, slRecS y), (5, nI i)] [] []) =
  bif decide (i < zN x.length) then
    (bif bif decide (0 ≤ i) then decide (i < zN x.length) else false then
      (bif bif decide (0 ≤ i) then decide (i < zN y.length) else false then
        (Option.bind (Γ 41 [AV.ag 14 (lstG [nI (x.getD i.toNat zRec).Who, nI (x.getD i.toNat zRec).Number, nI (x.getD i.toNat zRec).Call.Op, nI (x.getD i.toNat zRec).Call.A, nI (x.getD i.toNat zRec).Call.B, nI (x.getD i.toNat zRec).Call.Tok, AV.S (x.getD i.toNat zRec).Call.Name, nI (x.getD i.toNat zRec).Call.Msg.Kind, nI (x.getD i.toNat zRec).Call.Msg.Num, AV.S (x.getD i.toNat zRec).Call.Msg.Text, slTermS (x.getD i.toNat zRec).Call.Filter, nI (x.getD i.toNat zRec).First, nI (x.getD i.toNat zRec).Last, nI (x.getD i.toNat zRec).Code]), AV.ag 14 (lstG [nI (y.getD i.toNat zRec).Who, nI (y.getD i.toNat zRec).Number, nI (y.getD i.toNat zRec).Call.Op, nI (y.getD i.toNat zRec).Call.A, nI (y.getD i.toNat zRec).Call.B, nI (y.getD i.toNat zRec).Call.Tok, AV.S (y.getD i.toNat zRec).Call.Name, nI (y.getD i.toNat zRec).Call.Msg.Kind, nI (y.getD i.toNat zRec).Call.Msg.Num, AV.S (y.getD i.toNat zRec).Call.Msg.Text, slTermS (y.getD i.toNat zRec).Call.Filter, nI (y.getD i.toNat zRec).First, nI (y.getD i.toNat zRec).Last, nI (y.getD i.toNat zRec).Code])] []) fun r3 =>
        bif !asB r3.fst then
          (some (AV.B false, []))
        else
          (H [true, true, false, true] (hdS [(0, slRecS x), (1, slRecS y), (5, nI (IntKind.i64.wrap (i + 1)))] [] [])))
      else
        (none))
    else
      (none))
  else
    (some (AV.B true, [])) := by kernel_rfl
theorem e23 (Γ : Orc) (H : Hd) (x : (List Int)) (k : Int) : ent Try.prog cfg Γ 23 H [slIntS x, nI k] [] =
  H [true, false, true] (hdS [(0, AV.sl x.length 1 (gI x)), (1, nI k), (5, nI 0)] [] []) := by kernel_rfl
theorem h23 (Γ : Orc) (H : Hd) (x : (List Int)) (k i : Int) : hed Try.prog cfg Γ 23 H [] [true, false, true] (hdS [(0, slIntS x), (1, nI k), (5, nI i)] [] []) =
  bif decide (i < zN x.length) then
    (bif bif decide (0 ≤ i) then decide (i < zN x.length) else false then
      (bif !decide (x.getD i.toNat 0 = k) then
        (some (nI (-1), []))
      else
        (H [true, false, true] (hdS [(0, AV.sl x.length 1 (gI x)), (1, nI (IntKind.i64.wrap (k + 1))), (5, nI (IntKind.i64.wrap (i + 1)))] [] [])))
    else
      (none))
  else
    (some (nI k, [])) := by kernel_rfl
theorem e22 (Γ : Orc) (H : Hd) (x : (List Int)) (k : Int) : ent Try.prog cfg Γ 22 H [.rf 0, nI k] [owIntS x] =
  H [true, false, true] (hdS [(0, AV.rf 0), (1, nI k), (5, nI 0)] [(0, ⟨x.length, 1, gI x⟩)] []) := by kernel_rfl
theorem h22 (Γ : Orc) (H : Hd) (x : (List Int)) (y : (List Int)) (k i : Int) : hed Try.prog cfg Γ 22 H [owIntS x] [true, false, true] (hdS [(0, .rf 0), (1, nI k), (5, nI i)] [(0, ⟨y.length, 1, goIntS y⟩)] []) =
  bif decide (i < zN y.length) then
    (bif bif decide (0 ≤ i) then decide (i < zN y.length) else false then
      (H [true, false, true] (hdS [(0, AV.rf 0), (1, nI (IntKind.i64.wrap (k + 1))), (5, nI (IntKind.i64.wrap (i + 1)))] [(0, ⟨y.length, 1, fun i_1 => lstG [nI (bif decide (i_1 = i.toNat) then k else y.getD i_1 0)]⟩)] []))
    else
      (none))
  else
    (bif okT then
      (some (nI k, [AV.own x.length 1 (gI y)]))
    else
      (none)) := by kernel_rfl
theorem e21 (Γ : Orc) (H : Hd) (x : (List VMark)) (k : Int) : ent Try.prog cfg Γ 21 H [.rf 0, nI k] [owMarkS x] =
  H [true, false, true] (hdS [(0, AV.rf 0), (1, nI k), (5, nI 0)] [(0, ⟨x.length, 9, (goMarkS x)⟩)] []) := by kernel_rfl
theorem h21 (Γ : Orc) (H : Hd) (x : (List VMark)) (y : (List VMark)) (k i : Int) : hed Try.prog cfg Γ 21 H [owMarkS x] [true, false, true] (hdS [(0, .rf 0), (1, nI k), (5, nI i)] [(0, ⟨y.length, 9, goMarkS y⟩)] []) =
  bif decide (i < zN y.length) then
    (bif bif decide (0 ≤ i) then decide (i < zN y.length) else false then
      (bif bif decide (0 ≤ i) then decide (i < zN y.length) else false then
        (bif bif decide (0 ≤ i) then decide (i < zN y.length) else false then
          (bif bif decide (0 ≤ i) then decide (i < zN y.length) else false then
            (bif bif decide (0 ≤ i) then decide (i < zN y.length) else false then
              (bif bif decide (0 ≤ i) then decide (i < zN y.length) else false then
                (bif bif decide (0 ≤ i) then decide (i < zN y.length) else false then
                  (bif bif decide (0 ≤ i) then decide (i < zN y.length) else false then
                    (Option.bind (Γ 40 [nI (IntKind.i64.wrap (IntKind.i64.wrap (IntKind.i64.wrap (IntKind.i64.wrap (IntKind.i64.wrap (IntKind.i64.wrap (IntKind.i64.wrap (IntKind.i64.wrap (k + 1) + 1) + 1) + 1) + 1) + 1) + 1) + 1))] []) fun r9 =>
                    bif bif decide (0 ≤ i) then decide (i < zN y.length) else false then
                      (H [true, false, true] (hdS [(0, AV.rf 0), (1, nI (IntKind.i64.wrap (IntKind.i64.wrap (IntKind.i64.wrap (IntKind.i64.wrap (IntKind.i64.wrap (IntKind.i64.wrap (IntKind.i64.wrap (IntKind.i64.wrap (IntKind.i64.wrap (k + 1) + 1) + 1) + 1) + 1) + 1) + 1) + 1) + 1))), (5, nI (IntKind.i64.wrap (i + 1)))] [(0, ⟨y.length, 9, fun i_1 => lstG [nI (bif decide (i_1 = i.toNat) then k else (y.getD i_1 zMark).Step.Kind), nI (bif decide (i_1 = i.toNat) then IntKind.i64.wrap (k + 1) else (y.getD i_1 zMark).Step.Who), nI (bif decide (i_1 = i.toNat) then IntKind.i64.wrap (IntKind.i64.wrap (k + 1) + 1) else (y.getD i_1 zMark).Step.Leg), nI (bif decide (i_1 = i.toNat) then IntKind.i64.wrap (IntKind.i64.wrap (IntKind.i64.wrap (k + 1) + 1) + 1) else (y.getD i_1 zMark).Reply.Code), nI (bif decide (i_1 = i.toNat) then IntKind.i64.wrap (IntKind.i64.wrap (IntKind.i64.wrap (IntKind.i64.wrap (k + 1) + 1) + 1) + 1) else (y.getD i_1 zMark).Reply.N), nI (bif decide (i_1 = i.toNat) then IntKind.i64.wrap (IntKind.i64.wrap (IntKind.i64.wrap (IntKind.i64.wrap (IntKind.i64.wrap (k + 1) + 1) + 1) + 1) + 1) else (y.getD i_1 zMark).Reply.M), nI (bif decide (i_1 = i.toNat) then IntKind.i64.wrap (IntKind.i64.wrap (IntKind.i64.wrap (IntKind.i64.wrap (IntKind.i64.wrap (IntKind.i64.wrap (k + 1) + 1) + 1) + 1) + 1) + 1) else (y.getD i_1 zMark).Reply.Msg.Kind), nI (bif decide (i_1 = i.toNat) then IntKind.i64.wrap (IntKind.i64.wrap (IntKind.i64.wrap (IntKind.i64.wrap (IntKind.i64.wrap (IntKind.i64.wrap (IntKind.i64.wrap (k + 1) + 1) + 1) + 1) + 1) + 1) + 1) else (y.getD i_1 zMark).Reply.Msg.Num), AV.S (bif decide (i_1 = i.toNat) then asS r9.fst else (y.getD i_1 zMark).Reply.Msg.Text)]⟩)] []))
                    else
                      (none))
                  else
                    (none))
                else
                  (none))
              else
                (none))
            else
              (none))
          else
            (none))
        else
          (none))
      else
        (none))
    else
      (none))
  else
    (bif okT then
      (some (nI k, [AV.own x.length 9 (goMarkS y)]))
    else
      (none)) := by kernel_rfl
theorem e42 (Γ : Orc) (H : Hd) (x : (List VTerm)) (k : Int) : ent Try.prog cfg Γ 42 H [.rf 0, nI k] [owTermS x] =
  H [true, false, true] (hdS [(0, AV.rf 0), (1, nI k), (5, nI 0)] [(0, ⟨x.length, 3, (goTermS x)⟩)] []) := by kernel_rfl
theorem h42 (Γ : Orc) (H : Hd) (x : (List VTerm)) (y : (List VTerm)) (k i : Int) : hed Try.prog cfg Γ 42 H [owTermS x] [true, false, true] (hdS [(0, .rf 0), (1, nI k), (5, nI i)] [(0, ⟨y.length, 3, goTermS y⟩)] []) =
  bif decide (i < zN y.length) then
    (bif bif decide (0 ≤ i) then decide (i < zN y.length) else false then
      (bif bif decide (0 ≤ i) then decide (i < zN y.length) else false then
        (Option.bind (Γ 40 [nI (IntKind.i64.wrap (IntKind.i64.wrap (k + 1) + 1))] []) fun r3 =>
        bif bif decide (0 ≤ i) then decide (i < zN y.length) else false then
          (H [true, false, true] (hdS [(0, AV.rf 0), (1, nI (IntKind.i64.wrap (IntKind.i64.wrap (IntKind.i64.wrap (k + 1) + 1) + 1))), (5, nI (IntKind.i64.wrap (i + 1)))] [(0, ⟨y.length, 3, fun i_1 => lstG [nI (bif decide (i_1 = i.toNat) then k else (y.getD i_1 zTerm).Op), nI (bif decide (i_1 = i.toNat) then IntKind.i64.wrap (k + 1) else (y.getD i_1 zTerm).Num), AV.S (bif decide (i_1 = i.toNat) then asS r3.fst else (y.getD i_1 zTerm).Text)]⟩)] []))
        else
          (none))
      else
        (none))
    else
      (none))
  else
    (bif okT then
      (some (nI k, [AV.own x.length 3 (goTermS y)]))
    else
      (none)) := by kernel_rfl
theorem e43 (Γ : Orc) (H : Hd) (x : (List VTerm)) (k : Int) : ent Try.prog cfg Γ 43 H [slTermS x, nI k] [] =
  H [true, false, true] (hdS [(0, slTermS x), (1, nI k), (5, nI 0)] [] []) := by kernel_rfl
theorem h43 (Γ : Orc) (H : Hd) (x : (List VTerm)) (k i : Int) : hed Try.prog cfg Γ 43 H [] [true, false, true] (hdS [(0, slTermS x), (1, nI k), (5, nI i)] [] []) =
  bif decide (i < zN x.length) then
    (bif bif decide (0 ≤ i) then decide (i < zN x.length) else false then
      (bif !decide ((x.getD i.toNat zTerm).Op = k) then
        (some (nI (-1), []))
      else
        (bif bif decide (0 ≤ i) then decide (i < zN x.length) else false then
          (bif !decide ((x.getD i.toNat zTerm).Num = IntKind.i64.wrap (k + 1)) then
            (some (nI (-1), []))
          else
            (bif bif decide (0 ≤ i) then decide (i < zN x.length) else false then
              (and2
              (Option.bind (Γ 40 [nI (IntKind.i64.wrap (IntKind.i64.wrap (k + 1) + 1))] []) fun r7 =>
                bif !(x.getD i.toNat zTerm).Text.toList == (asS r7.fst).toList then
                  (some (nI (-1), []))
                else
                  (H [true, false, true] (hdS [(0, slTermS x), (1, nI (IntKind.i64.wrap (IntKind.i64.wrap (IntKind.i64.wrap (k + 1) + 1) + 1))), (5, nI (IntKind.i64.wrap (i + 1)))] [] [])))
              (Option.bind (Γ 40 [nI (IntKind.i64.wrap (IntKind.i64.wrap (k + 1) + 1))] []) fun r7 =>
                bif !(x.getD i.toNat zTerm).Text.toList == (asS r7.fst).toList then
                  (some (nI (-1), []))
                else
                  (H [true, false, true] (hdS [(0, slTermS x), (1, nI (IntKind.i64.wrap (IntKind.i64.wrap (IntKind.i64.wrap (k + 1) + 1) + 1))), (5, nI (IntKind.i64.wrap (i + 1)))] [] []))))
            else
              (none)))
        else
          (none)))
    else
      (none))
  else
    (some (nI k, [])) := by kernel_rfl
theorem e39 (Γ : Orc) (H : Hd) (x : (List VCall)) (k : Int) : ent Try.prog cfg Γ 39 H [.rf 0, nI k] [owCallS x] =
  H [true, false, true] (hdS [(0, AV.rf 0), (1, nI k), (5, nI 0)] [(0, ⟨x.length, 9, (goCallS x)⟩)] []) := by kernel_rfl
theorem h39 (Γ : Orc) (H : Hd) (x : (List VCall)) (y : (List VCall)) (k i : Int) : hed Try.prog cfg Γ 39 H [owCallS x] [true, false, true] (hdS [(0, .rf 0), (1, nI k), (5, nI i)] [(0, ⟨y.length, 9, goCallS y⟩)] []) =
  bif decide (i < zN y.length) then
    (bif bif decide (0 ≤ i) then decide (i < zN y.length) else false then
      (bif bif decide (0 ≤ i) then decide (i < zN y.length) else false then
        (bif bif decide (0 ≤ i) then decide (i < zN y.length) else false then
          (bif bif decide (0 ≤ i) then decide (i < zN y.length) else false then
            (Option.bind (Γ 40 [nI (IntKind.i64.wrap (IntKind.i64.wrap (IntKind.i64.wrap (IntKind.i64.wrap (k + 1) + 1) + 1) + 1))] []) fun r5 =>
            bif bif decide (0 ≤ i) then decide (i < zN y.length) else false then
              (bif bif decide (0 ≤ i) then decide (i < zN y.length) else false then
                (bif bif decide (0 ≤ i) then decide (i < zN y.length) else false then
                  (Option.bind (Γ 40 [nI (IntKind.i64.wrap (IntKind.i64.wrap (IntKind.i64.wrap (IntKind.i64.wrap (IntKind.i64.wrap (IntKind.i64.wrap (IntKind.i64.wrap (k + 1) + 1) + 1) + 1) + 1) + 1) + 1))] []) fun r9 =>
                  bif bif decide (0 ≤ i) then decide (i < zN y.length) else false then
                    (bif bif decide (0 ≤ i) then decide (i < zN y.length) else false then
                      (Option.bind (Γ 42 [AV.rf 0, nI (IntKind.i64.wrap (IntKind.i64.wrap (IntKind.i64.wrap (IntKind.i64.wrap (IntKind.i64.wrap (IntKind.i64.wrap (IntKind.i64.wrap (IntKind.i64.wrap (k + 1) + 1) + 1) + 1) + 1) + 1) + 1) + 1))] [owTermS (y.getD i.toNat zCall).Filter]) fun r12 =>
                      H [true, false, true] (hdS [(0, AV.rf 0), (1, nI (asI r12.fst)), (5, nI (IntKind.i64.wrap (i + 1)))] [(0, ⟨y.length, 9, fun i_1 => lstG [nI (bif decide (i_1 = i.toNat) then k else (y.getD i_1 zCall).Op), nI (bif decide (i_1 = i.toNat) then IntKind.i64.wrap (k + 1) else (y.getD i_1 zCall).A), nI (bif decide (i_1 = i.toNat) then IntKind.i64.wrap (IntKind.i64.wrap (k + 1) + 1) else (y.getD i_1 zCall).B), nI (bif decide (i_1 = i.toNat) then IntKind.i64.wrap (IntKind.i64.wrap (IntKind.i64.wrap (k + 1) + 1) + 1) else (y.getD i_1 zCall).Tok), AV.S (bif decide (i_1 = i.toNat) then asS r5.fst else (y.getD i_1 zCall).Name), nI (bif decide (i_1 = i.toNat) then IntKind.i64.wrap (IntKind.i64.wrap (IntKind.i64.wrap (IntKind.i64.wrap (IntKind.i64.wrap (k + 1) + 1) + 1) + 1) + 1) else (y.getD i_1 zCall).Msg.Kind), nI (bif decide (i_1 = i.toNat) then IntKind.i64.wrap (IntKind.i64.wrap (IntKind.i64.wrap (IntKind.i64.wrap (IntKind.i64.wrap (IntKind.i64.wrap (k + 1) + 1) + 1) + 1) + 1) + 1) else (y.getD i_1 zCall).Msg.Num), AV.S (bif decide (i_1 = i.toNat) then asS r9.fst else (y.getD i_1 zCall).Msg.Text), AV.own (bif decide (i_1 = i.toNat) then (y.getD i.toNat zCall).Filter.length else (y.getD i_1 zCall).Filter.length) 3 fun i_2 => lstG [nI (bif decide (i_1 = i.toNat) then asI (asG (r12.snd.headD AV.bad) i_2 0) else ((y.getD i_1 zCall).Filter.getD i_2 zTerm).Op), nI (bif decide (i_1 = i.toNat) then asI (asG (r12.snd.headD AV.bad) i_2 1) else ((y.getD i_1 zCall).Filter.getD i_2 zTerm).Num), AV.S (bif decide (i_1 = i.toNat) then asS (asG (r12.snd.headD AV.bad) i_2 2) else ((y.getD i_1 zCall).Filter.getD i_2 zTerm).Text)]]⟩)] []))
                    else
                      (none))
                  else
                    (none))
                else
                  (none))
              else
                (none))
            else
              (none))
          else
            (none))
        else
          (none))
      else
        (none))
    else
      (none))
  else
    (bif okU then
      (some (nI k, [AV.own x.length 9 (goCallS y)]))
    else
      (none)) := by kernel_rfl
theorem e20 (Γ : Orc) (H : Hd) (x : (List (List VCall))) (k : Int) : ent Try.prog cfg Γ 20 H [.rf 0, nI k] [owCallSS x] =
  H [true, false, true] (hdS [(0, AV.rf 0), (1, nI k), (5, nI 0)] [(0, ⟨x.length, 1, (goCallSS x)⟩)] []) := by kernel_rfl
theorem h20 (Γ : Orc) (H : Hd) (x : (List (List VCall))) (y : (List (List VCall))) (k i : Int) : hed Try.prog cfg Γ 20 H [owCallSS x] [true, false, true] (hdS [(0, .rf 0), (1, nI k), (5, nI i)] [(0, ⟨y.length, 1, goCallSS y⟩)] []) =
  bif decide (i < zN y.length) then
    (bif bif decide (0 ≤ i) then decide (i < zN y.length) else false then
      (Option.bind (Γ 39 [AV.rf 0, nI k] [AV.own (y.getD i.toNat []).length 9 (goCallS (y.getD i.toNat []))]) fun r2 =>
      H [true, false, true] (hdS [(0, AV.rf 0), (1, nI (asI r2.fst)), (5, nI (IntKind.i64.wrap (i + 1)))] [(0, ⟨y.length, 1, fun i_1 => lstG [AV.own (bif decide (i_1 = i.toNat) then (y.getD i.toNat []).length else (y.getD i_1 []).length) 9 fun i_2 => lstG [nI (bif decide (i_1 = i.toNat) then asI (asG (r2.snd.headD AV.bad) i_2 0) else ((y.getD i_1 []).getD i_2 zCall).Op), nI (bif decide (i_1 = i.toNat) then asI (asG (r2.snd.headD AV.bad) i_2 1) else ((y.getD i_1 []).getD i_2 zCall).A), nI (bif decide (i_1 = i.toNat) then asI (asG (r2.snd.headD AV.bad) i_2 2) else ((y.getD i_1 []).getD i_2 zCall).B), nI (bif decide (i_1 = i.toNat) then asI (asG (r2.snd.headD AV.bad) i_2 3) else ((y.getD i_1 []).getD i_2 zCall).Tok), AV.S (bif decide (i_1 = i.toNat) then asS (asG (r2.snd.headD AV.bad) i_2 4) else ((y.getD i_1 []).getD i_2 zCall).Name), nI (bif decide (i_1 = i.toNat) then asI (asG (r2.snd.headD AV.bad) i_2 5) else ((y.getD i_1 []).getD i_2 zCall).Msg.Kind), nI (bif decide (i_1 = i.toNat) then asI (asG (r2.snd.headD AV.bad) i_2 6) else ((y.getD i_1 []).getD i_2 zCall).Msg.Num), AV.S (bif decide (i_1 = i.toNat) then asS (asG (r2.snd.headD AV.bad) i_2 7) else ((y.getD i_1 []).getD i_2 zCall).Msg.Text), AV.own (bif decide (i_1 = i.toNat) then asN (asG (r2.snd.headD AV.bad) i_2 8) else ((y.getD i_1 []).getD i_2 zCall).Filter.length) 3 fun i_3 => lstG [nI (bif decide (i_1 = i.toNat) then asI (asG (asG (r2.snd.headD AV.bad) i_2 8) i_3 0) else (((y.getD i_1 []).getD i_2 zCall).Filter.getD i_3 zTerm).Op), nI (bif decide (i_1 = i.toNat) then asI (asG (asG (r2.snd.headD AV.bad) i_2 8) i_3 1) else (((y.getD i_1 []).getD i_2 zCall).Filter.getD i_3 zTerm).Num), AV.S (bif decide (i_1 = i.toNat) then asS (asG (asG (r2.snd.headD AV.bad) i_2 8) i_3 2) else (((y.getD i_1 []).getD i_2 zCall).Filter.getD i_3 zTerm).Text)]]]⟩)] []))
    else
      (none))
  else
    (bif okV then
      (some (nI k, [AV.own x.length 1 (goCallSS y)]))
    else
      (none)) := by kernel_rfl
theorem e27 (Γ : Orc) (H : Hd) (x : (List VRec)) (k : Int) : ent Try.prog cfg Γ 27 H [.rf 0, nI k] [owRecS x] =
  H [true, false, true] (hdS [(0, AV.rf 0), (1, nI k), (5, nI 0)] [(0, ⟨x.length, 14, (goRecS x)⟩)] []) := by kernel_rfl
theorem h27 (Γ : Orc) (H : Hd) (x : (List VRec)) (y : (List VRec)) (k i : Int) : hed Try.prog cfg Γ 27 H [owRecS x] [true, false, true] (hdS [(0, .rf 0), (1, nI k), (5, nI i)] [(0, ⟨y.length, 14, goRecS y⟩)] []) =
  bif decide (i < zN y.length) then
    (bif bif decide (0 ≤ i) then decide (i < zN y.length) else false then
      (bif bif decide (0 ≤ i) then decide (i < zN y.length) else false then
        (bif bif decide (0 ≤ i) then decide (i < zN y.length) else false then
          (bif bif decide (0 ≤ i) then decide (i < zN y.length) else false then
            (bif bif decide (0 ≤ i) then decide (i < zN y.length) else false then
              (bif bif decide (0 ≤ i) then decide (i < zN y.length) else false then
                (Option.bind (Γ 40 [nI (IntKind.i64.wrap (IntKind.i64.wrap (IntKind.i64.wrap (IntKind.i64.wrap (IntKind.i64.wrap (IntKind.i64.wrap (k + 1) + 1) + 1) + 1) + 1) + 1))] []) fun r7 =>
                bif bif decide (0 ≤ i) then decide (i < zN y.length) else false then
                  (bif bif decide (0 ≤ i) then decide (i < zN y.length) else false then
                    (bif bif decide (0 ≤ i) then decide (i < zN y.length) else false then
                      (Option.bind (Γ 40 [nI (IntKind.i64.wrap (IntKind.i64.wrap (IntKind.i64.wrap (IntKind.i64.wrap (IntKind.i64.wrap (IntKind.i64.wrap (IntKind.i64.wrap (IntKind.i64.wrap (IntKind.i64.wrap (k + 1) + 1) + 1) + 1) + 1) + 1) + 1) + 1) + 1))] []) fun r11 =>
                      bif bif decide (0 ≤ i) then decide (i < zN y.length) else false then
                        (bif bif decide (0 ≤ i) then decide (i < zN y.length) else false then
                          (Option.bind (Γ 42 [AV.rf 0, nI (IntKind.i64.wrap (IntKind.i64.wrap (IntKind.i64.wrap (IntKind.i64.wrap (IntKind.i64.wrap (IntKind.i64.wrap (IntKind.i64.wrap (IntKind.i64.wrap (IntKind.i64.wrap (IntKind.i64.wrap (k + 1) + 1) + 1) + 1) + 1) + 1) + 1) + 1) + 1) + 1))] [owTermS (y.getD i.toNat zRec).Call.Filter]) fun r14 =>
                          bif bif decide (0 ≤ i) then decide (i < zN y.length) else false then
                            (bif bif decide (0 ≤ i) then decide (i < zN y.length) else false then
                              (bif bif decide (0 ≤ i) then decide (i < zN y.length) else false then
                                (H [true, false, true] (hdS [(0, AV.rf 0), (1, nI (IntKind.i64.wrap (IntKind.i64.wrap (IntKind.i64.wrap (asI r14.fst + 1) + 1) + 1))), (5, nI (IntKind.i64.wrap (i + 1)))] [(0, ⟨y.length, 14, fun i_1 => lstG [nI (bif decide (i_1 = i.toNat) then k else (y.getD i_1 zRec).Who), nI (bif decide (i_1 = i.toNat) then IntKind.i64.wrap (k + 1) else (y.getD i_1 zRec).Number), nI (bif decide (i_1 = i.toNat) then IntKind.i64.wrap (IntKind.i64.wrap (k + 1) + 1) else (y.getD i_1 zRec).Call.Op), nI (bif decide (i_1 = i.toNat) then IntKind.i64.wrap (IntKind.i64.wrap (IntKind.i64.wrap (k + 1) + 1) + 1) else (y.getD i_1 zRec).Call.A), nI (bif decide (i_1 = i.toNat) then IntKind.i64.wrap (IntKind.i64.wrap (IntKind.i64.wrap (IntKind.i64.wrap (k + 1) + 1) + 1) + 1) else (y.getD i_1 zRec).Call.B), nI (bif decide (i_1 = i.toNat) then IntKind.i64.wrap (IntKind.i64.wrap (IntKind.i64.wrap (IntKind.i64.wrap (IntKind.i64.wrap (k + 1) + 1) + 1) + 1) + 1) else (y.getD i_1 zRec).Call.Tok), AV.S (bif decide (i_1 = i.toNat) then asS r7.fst else (y.getD i_1 zRec).Call.Name), nI (bif decide (i_1 = i.toNat) then IntKind.i64.wrap (IntKind.i64.wrap (IntKind.i64.wrap (IntKind.i64.wrap (IntKind.i64.wrap (IntKind.i64.wrap (IntKind.i64.wrap (k + 1) + 1) + 1) + 1) + 1) + 1) + 1) else (y.getD i_1 zRec).Call.Msg.Kind), nI (bif decide (i_1 = i.toNat) then IntKind.i64.wrap (IntKind.i64.wrap (IntKind.i64.wrap (IntKind.i64.wrap (IntKind.i64.wrap (IntKind.i64.wrap (IntKind.i64.wrap (IntKind.i64.wrap (k + 1) + 1) + 1) + 1) + 1) + 1) + 1) + 1) else (y.getD i_1 zRec).Call.Msg.Num), AV.S (bif decide (i_1 = i.toNat) then asS r11.fst else (y.getD i_1 zRec).Call.Msg.Text), AV.own (bif decide (i_1 = i.toNat) then (y.getD i.toNat zRec).Call.Filter.length else (y.getD i_1 zRec).Call.Filter.length) 3 fun i_2 => lstG [nI (bif decide (i_1 = i.toNat) then asI (asG (r14.snd.headD AV.bad) i_2 0) else ((y.getD i_1 zRec).Call.Filter.getD i_2 zTerm).Op), nI (bif decide (i_1 = i.toNat) then asI (asG (r14.snd.headD AV.bad) i_2 1) else ((y.getD i_1 zRec).Call.Filter.getD i_2 zTerm).Num), AV.S (bif decide (i_1 = i.toNat) then asS (asG (r14.snd.headD AV.bad) i_2 2) else ((y.getD i_1 zRec).Call.Filter.getD i_2 zTerm).Text)], nI (bif decide (i_1 = i.toNat) then asI r14.fst else (y.getD i_1 zRec).First), nI (bif decide (i_1 = i.toNat) then IntKind.i64.wrap (asI r14.fst + 1) else (y.getD i_1 zRec).Last), nI (bif decide (i_1 = i.toNat) then IntKind.i64.wrap (IntKind.i64.wrap (asI r14.fst + 1) + 1) else (y.getD i_1 zRec).Code)]⟩)] []))
                              else
                                (none))
                            else
                              (none))
                          else
                            (none))
                        else
                          (none))
                      else
                        (none))
                    else
                      (none))
                  else
                    (none))
                else
                  (none))
              else
                (none))
            else
              (none))
          else
            (none))
        else
          (none))
      else
        (none))
    else
      (none))
  else
    (bif okU then
      (some (nI k, [AV.own x.length 14 (goRecS y)]))
    else
      (none)) := by kernel_rfl
theorem e28 (Γ : Orc) (H : Hd) (x : (List VRec)) (k : Int) : ent Try.prog cfg Γ 28 H [slRecS x, nI k] [] =
  H [true, false, true] (hdS [(0, slRecS x), (1, nI k), (5, nI 0)] [] []) := by kernel_rfl
theorem h28 (Γ : Orc) (H : Hd) (x : (List VRec)) (k i : Int) : hed Try.prog cfg Γ 28 H [] [true, false, true] (hdS [(0, slRecS x), (1, nI k), (5, nI i)] [] []) =
  bif decide (i < zN x.length) then
    (bif bif decide (0 ≤ i) then decide (i < zN x.length) else false then
      (bif !decide ((x.getD i.toNat zRec).Who = k) then
        (some (nI (-1), []))
      else
        (bif bif decide (0 ≤ i) then decide (i < zN x.length) else false then
          (bif !decide ((x.getD i.toNat zRec).Number = IntKind.i64.wrap (k + 1)) then
            (some (nI (-1), []))
          else
            (bif bif decide (0 ≤ i) then decide (i < zN x.length) else false then
              (bif !decide ((x.getD i.toNat zRec).Call.Op = IntKind.i64.wrap (IntKind.i64.wrap (k + 1) + 1)) then
                (some (nI (-1), []))
              else
                (bif bif decide (0 ≤ i) then decide (i < zN x.length) else false then
                  (bif !decide ((x.getD i.toNat zRec).Call.A = IntKind.i64.wrap (IntKind.i64.wrap (IntKind.i64.wrap (k + 1) + 1) + 1)) then
                    (some (nI (-1), []))
                  else
                    (bif bif decide (0 ≤ i) then decide (i < zN x.length) else false then
                      (bif !decide ((x.getD i.toNat zRec).Call.B = IntKind.i64.wrap (IntKind.i64.wrap (IntKind.i64.wrap (IntKind.i64.wrap (k + 1) + 1) + 1) + 1)) then
                        (some (nI (-1), []))
                      else
                        (bif bif decide (0 ≤ i) then decide (i < zN x.length) else false then
                          (bif !decide ((x.getD i.toNat zRec).Call.Tok = IntKind.i64.wrap (IntKind.i64.wrap (IntKind.i64.wrap (IntKind.i64.wrap (IntKind.i64.wrap (k + 1) + 1) + 1) + 1) + 1)) then
                            (some (nI (-1), []))
                          else
                            (bif bif decide (0 ≤ i) then decide (i < zN x.length) else false then
                              (and2
                              (Option.bind (Γ 40 [nI (IntKind.i64.wrap (IntKind.i64.wrap (IntKind.i64.wrap (IntKind.i64.wrap (IntKind.i64.wrap (IntKind.i64.wrap (k + 1) + 1) + 1) + 1) + 1) + 1))] []) fun r15 =>
                                bif !(x.getD i.toNat zRec).Call.Name.toList == (asS r15.fst).toList then
                                  (some (nI (-1), []))
                                else
                                  (bif bif decide (0 ≤ i) then decide (i < zN x.length) else false then
                                    (bif !decide ((x.getD i.toNat zRec).Call.Msg.Kind = IntKind.i64.wrap (IntKind.i64.wrap (IntKind.i64.wrap (IntKind.i64.wrap (IntKind.i64.wrap (IntKind.i64.wrap (IntKind.i64.wrap (k + 1) + 1) + 1) + 1) + 1) + 1) + 1)) then
                                      (some (nI (-1), []))
                                    else
                                      (bif bif decide (0 ≤ i) then decide (i < zN x.length) else false then
                                        (bif !decide ((x.getD i.toNat zRec).Call.Msg.Num = IntKind.i64.wrap (IntKind.i64.wrap (IntKind.i64.wrap (IntKind.i64.wrap (IntKind.i64.wrap (IntKind.i64.wrap (IntKind.i64.wrap (IntKind.i64.wrap (k + 1) + 1) + 1) + 1) + 1) + 1) + 1) + 1)) then
                                          (some (nI (-1), []))
                                        else
                                          (bif bif decide (0 ≤ i) then decide (i < zN x.length) else false then
                                            (and2
                                            (Option.bind (Γ 40 [nI (IntKind.i64.wrap (IntKind.i64.wrap (IntKind.i64.wrap (IntKind.i64.wrap (IntKind.i64.wrap (IntKind.i64.wrap (IntKind.i64.wrap (IntKind.i64.wrap (IntKind.i64.wrap (k + 1) + 1) + 1) + 1) + 1) + 1) + 1) + 1) + 1))] []) fun r23 =>
                                              bif !(x.getD i.toNat zRec).Call.Msg.Text.toList == (asS r23.fst).toList then
                                                (some (nI (-1), []))
                                              else
                                                (bif bif decide (0 ≤ i) then decide (i < zN x.length) else false then
                                                  (Option.bind (Γ 43 [slTermS (x.getD i.toNat zRec).Call.Filter, nI (IntKind.i64.wrap (IntKind.i64.wrap (IntKind.i64.wrap (IntKind.i64.wrap (IntKind.i64.wrap (IntKind.i64.wrap (IntKind.i64.wrap (IntKind.i64.wrap (IntKind.i64.wrap (IntKind.i64.wrap (k + 1) + 1) + 1) + 1) + 1) + 1) + 1) + 1) + 1) + 1))] []) fun r26 =>
                                                  bif decide (asI r26.fst < 0) then
                                                    (some (nI (-1), []))
                                                  else
                                                    (bif bif decide (0 ≤ i) then decide (i < zN x.length) else false then
                                                      (bif !decide ((x.getD i.toNat zRec).First = asI r26.fst) then
                                                        (some (nI (-1), []))
                                                      else
                                                        (bif bif decide (0 ≤ i) then decide (i < zN x.length) else false then
                                                          (bif !decide ((x.getD i.toNat zRec).Last = IntKind.i64.wrap (asI r26.fst + 1)) then
                                                            (some (nI (-1), []))
                                                          else
                                                            (bif bif decide (0 ≤ i) then decide (i < zN x.length) else false then
                                                              (bif !decide ((x.getD i.toNat zRec).Code = IntKind.i64.wrap (IntKind.i64.wrap (asI r26.fst + 1) + 1)) then
                                                                (some (nI (-1), []))
                                                              else
                                                                (H [true, false, true] (hdS [(0, slRecS x), (1, nI (IntKind.i64.wrap (IntKind.i64.wrap (IntKind.i64.wrap (asI r26.fst + 1) + 1) + 1))), (5, nI (IntKind.i64.wrap (i + 1)))] [] [])))
                                                            else
                                                              (none)))
                                                        else
                                                          (none)))
                                                    else
                                                      (none)))
                                                else
                                                  (none)))
                                            (Option.bind (Γ 40 [nI (IntKind.i64.wrap (IntKind.i64.wrap (IntKind.i64.wrap (IntKind.i64.wrap (IntKind.i64.wrap (IntKind.i64.wrap (IntKind.i64.wrap (IntKind.i64.wrap (IntKind.i64.wrap (k + 1) + 1) + 1) + 1) + 1) + 1) + 1) + 1) + 1))] []) fun r23 =>
                                              bif !(x.getD i.toNat zRec).Call.Msg.Text.toList == (asS r23.fst).toList then
                                                (some (nI (-1), []))
                                              else
                                                (bif bif decide (0 ≤ i) then decide (i < zN x.length) else false then
                                                  (Option.bind (Γ 43 [slTermS (x.getD i.toNat zRec).Call.Filter, nI (IntKind.i64.wrap (IntKind.i64.wrap (IntKind.i64.wrap (IntKind.i64.wrap (IntKind.i64.wrap (IntKind.i64.wrap (IntKind.i64.wrap (IntKind.i64.wrap (IntKind.i64.wrap (IntKind.i64.wrap (k + 1) + 1) + 1) + 1) + 1) + 1) + 1) + 1) + 1) + 1))] []) fun r26 =>
                                                  bif decide (asI r26.fst < 0) then
                                                    (some (nI (-1), []))
                                                  else
                                                    (bif bif decide (0 ≤ i) then decide (i < zN x.length) else false then
                                                      (bif !decide ((x.getD i.toNat zRec).First = asI r26.fst) then
                                                        (some (nI (-1), []))
                                                      else
                                                        (bif bif decide (0 ≤ i) then decide (i < zN x.length) else false then
                                                          (bif !decide ((x.getD i.toNat zRec).Last = IntKind.i64.wrap (asI r26.fst + 1)) then
                                                            (some (nI (-1), []))
                                                          else
                                                            (bif bif decide (0 ≤ i) then decide (i < zN x.length) else false then
                                                              (bif !decide ((x.getD i.toNat zRec).Code = IntKind.i64.wrap (IntKind.i64.wrap (asI r26.fst + 1) + 1)) then
                                                                (some (nI (-1), []))
                                                              else
                                                                (H [true, false, true] (hdS [(0, slRecS x), (1, nI (IntKind.i64.wrap (IntKind.i64.wrap (IntKind.i64.wrap (asI r26.fst + 1) + 1) + 1))), (5, nI (IntKind.i64.wrap (i + 1)))] [] [])))
                                                            else
                                                              (none)))
                                                        else
                                                          (none)))
                                                    else
                                                      (none)))
                                                else
                                                  (none))))
                                          else
                                            (none)))
                                      else
                                        (none)))
                                  else
                                    (none)))
                              (Option.bind (Γ 40 [nI (IntKind.i64.wrap (IntKind.i64.wrap (IntKind.i64.wrap (IntKind.i64.wrap (IntKind.i64.wrap (IntKind.i64.wrap (k + 1) + 1) + 1) + 1) + 1) + 1))] []) fun r15 =>
                                bif !(x.getD i.toNat zRec).Call.Name.toList == (asS r15.fst).toList then
                                  (some (nI (-1), []))
                                else
                                  (bif bif decide (0 ≤ i) then decide (i < zN x.length) else false then
                                    (bif !decide ((x.getD i.toNat zRec).Call.Msg.Kind = IntKind.i64.wrap (IntKind.i64.wrap (IntKind.i64.wrap (IntKind.i64.wrap (IntKind.i64.wrap (IntKind.i64.wrap (IntKind.i64.wrap (k + 1) + 1) + 1) + 1) + 1) + 1) + 1)) then
                                      (some (nI (-1), []))
                                    else
                                      (bif bif decide (0 ≤ i) then decide (i < zN x.length) else false then
                                        (bif !decide ((x.getD i.toNat zRec).Call.Msg.Num = IntKind.i64.wrap (IntKind.i64.wrap (IntKind.i64.wrap (IntKind.i64.wrap (IntKind.i64.wrap (IntKind.i64.wrap (IntKind.i64.wrap (IntKind.i64.wrap (k + 1) + 1) + 1) + 1) + 1) + 1) + 1) + 1)) then
                                          (some (nI (-1), []))
                                        else
                                          (bif bif decide (0 ≤ i) then decide (i < zN x.length) else false then
                                            (and2
                                            (Option.bind (Γ 40 [nI (IntKind.i64.wrap (IntKind.i64.wrap (IntKind.i64.wrap (IntKind.i64.wrap (IntKind.i64.wrap (IntKind.i64.wrap (IntKind.i64.wrap (IntKind.i64.wrap (IntKind.i64.wrap (k + 1) + 1) + 1) + 1) + 1) + 1) + 1) + 1) + 1))] []) fun r23 =>
                                              bif !(x.getD i.toNat zRec).Call.Msg.Text.toList == (asS r23.fst).toList then
                                                (some (nI (-1), []))
                                              else
                                                (bif bif decide (0 ≤ i) then decide (i < zN x.length) else false then
                                                  (Option.bind (Γ 43 [slTermS (x.getD i.toNat zRec).Call.Filter, nI (IntKind.i64.wrap (IntKind.i64.wrap (IntKind.i64.wrap (IntKind.i64.wrap (IntKind.i64.wrap (IntKind.i64.wrap (IntKind.i64.wrap (IntKind.i64.wrap (IntKind.i64.wrap (IntKind.i64.wrap (k + 1) + 1) + 1) + 1) + 1) + 1) + 1) + 1) + 1) + 1))] []) fun r26 =>
                                                  bif decide (asI r26.fst < 0) then
                                                    (some (nI (-1), []))
                                                  else
                                                    (bif bif decide (0 ≤ i) then decide (i < zN x.length) else false then
                                                      (bif !decide ((x.getD i.toNat zRec).First = asI r26.fst) then
                                                        (some (nI (-1), []))
                                                      else
                                                        (bif bif decide (0 ≤ i) then decide (i < zN x.length) else false then
                                                          (bif !decide ((x.getD i.toNat zRec).Last = IntKind.i64.wrap (asI r26.fst + 1)) then
                                                            (some (nI (-1), []))
                                                          else
                                                            (bif bif decide (0 ≤ i) then decide (i < zN x.length) else false then
                                                              (bif !decide ((x.getD i.toNat zRec).Code = IntKind.i64.wrap (IntKind.i64.wrap (asI r26.fst + 1) + 1)) then
                                                                (some (nI (-1), []))
                                                              else
                                                                (H [true, false, true] (hdS [(0, slRecS x), (1, nI (IntKind.i64.wrap (IntKind.i64.wrap (IntKind.i64.wrap (asI r26.fst + 1) + 1) + 1))), (5, nI (IntKind.i64.wrap (i + 1)))] [] [])))
                                                            else
                                                              (none)))
                                                        else
                                                          (none)))
                                                    else
                                                      (none)))
                                                else
                                                  (none)))
                                            (Option.bind (Γ 40 [nI (IntKind.i64.wrap (IntKind.i64.wrap (IntKind.i64.wrap (IntKind.i64.wrap (IntKind.i64.wrap (IntKind.i64.wrap (IntKind.i64.wrap (IntKind.i64.wrap (IntKind.i64.wrap (k + 1) + 1) + 1) + 1) + 1) + 1) + 1) + 1) + 1))] []) fun r23 =>
                                              bif !(x.getD i.toNat zRec).Call.Msg.Text.toList == (asS r23.fst).toList then
                                                (some (nI (-1), []))
                                              else
                                                (bif bif decide (0 ≤ i) then decide (i < zN x.length) else false then
                                                  (Option.bind (Γ 43 [slTermS (x.getD i.toNat zRec).Call.Filter, nI (IntKind.i64.wrap (IntKind.i64.wrap (IntKind.i64.wrap (IntKind.i64.wrap (IntKind.i64.wrap (IntKind.i64.wrap (IntKind.i64.wrap (IntKind.i64.wrap (IntKind.i64.wrap (IntKind.i64.wrap (k + 1) + 1) + 1) + 1) + 1) + 1) + 1) + 1) + 1) + 1))] []) fun r26 =>
                                                  bif decide (asI r26.fst < 0) then
                                                    (some (nI (-1), []))
                                                  else
                                                    (bif bif decide (0 ≤ i) then decide (i < zN x.length) else false then
                                                      (bif !decide ((x.getD i.toNat zRec).First = asI r26.fst) then
                                                        (some (nI (-1), []))
                                                      else
                                                        (bif bif decide (0 ≤ i) then decide (i < zN x.length) else false then
                                                          (bif !decide ((x.getD i.toNat zRec).Last = IntKind.i64.wrap (asI r26.fst + 1)) then
                                                            (some (nI (-1), []))
                                                          else
                                                            (bif bif decide (0 ≤ i) then decide (i < zN x.length) else false then
                                                              (bif !decide ((x.getD i.toNat zRec).Code = IntKind.i64.wrap (IntKind.i64.wrap (asI r26.fst + 1) + 1)) then
                                                                (some (nI (-1), []))
                                                              else
                                                                (H [true, false, true] (hdS [(0, slRecS x), (1, nI (IntKind.i64.wrap (IntKind.i64.wrap (IntKind.i64.wrap (asI r26.fst + 1) + 1) + 1))), (5, nI (IntKind.i64.wrap (i + 1)))] [] [])))
                                                            else
                                                              (none)))
                                                        else
                                                          (none)))
                                                    else
                                                      (none)))
                                                else
                                                  (none))))
                                          else
                                            (none)))
                                      else
                                        (none)))
                                  else
                                    (none))))
                            else
                              (none)))
                        else
                          (none)))
                    else
                      (none)))
                else
                  (none)))
            else
              (none)))
        else
          (none)))
    else
      (none))
  else
    (some (nI k, [])) := by kernel_rfl
theorem e40 (Γ : Orc) (H : Hd) (k : Int) : ent Try.prog cfg Γ 40 H [nI k] [] =
  bif decide (k ≤ 0) then
    (some (AV.S { data := { toList := [OfNat.ofNat 109, OfNat.ofNat 48] } }, []))
  else
    (H [true, true, true, false] (hdS [(0, nI k), (3, AV.S ByteArray.empty)] [] [])) := by kernel_rfl
theorem h40 (Γ : Orc) (H : Hd) (k : Int) (s : ByteArray) : hed Try.prog cfg Γ 40 H [] [true, true, true, false] (hdS [(0, nI k), (3, .S s)] [] []) =
  bif decide (0 < k) then
    (bif decide (1 + s.size ≤ 4294967296) then
      (H [true, true, true, false] (hdS [(0, nI (IntKind.i64.wrap (k.tdiv 10))), (3, AV.S ({ data := { toList := [UInt8.ofNat ((IntKind.u8.wrap (IntKind.i64.wrap (48 + k.tmod 10))).toNat)] } } ++ s))] [] []))
    else
      (none))
  else
    (bif decide (1 + s.size ≤ 4294967296) then
      (some (AV.S ({ data := { toList := [OfNat.ofNat 109] } } ++ s), []))
    else
      (none)) := by kernel_rfl
theorem e37 (Γ : Orc) (H : Hd) (a b c : Int) : ent Try.prog cfg Γ 37 H [nI a, nI b, nI c] [] =
  bif decide (b ≤ a) then
    (some (AV.B (decide (a ≤ c)), []))
  else
    (some (AV.B false, [])) := by kernel_rfl
theorem e38 (Γ : Orc) (H : Hd) (a b c : Int) : ent Try.prog cfg Γ 38 H [nI a, nI b, nI c] [] =
  bif decide (b ≤ a) then
    (some (AV.B (decide (a ≤ c)), []))
  else
    (some (AV.B false, [])) := by kernel_rfl
theorem e54 (Γ : Orc) (H : Hd) (c : VCall) : ent Try.prog cfg Γ 54 H [slCall c] [] =
  bif decide (0 + c.Filter.length ≤ 4294967296) && true && true && true && true then
    (bif bif okT then true else false then
      (some (AV.ag 9 (lstG [nI c.Op, nI c.A, nI c.B, nI c.Tok, AV.S c.Name, nI c.Msg.Kind, nI c.Msg.Num, AV.S c.Msg.Text, AV.own (0 + c.Filter.length) 3 fun i => lstG [nI (c.Filter.getD (i - 0) zTerm).Op, nI (c.Filter.getD (i - 0) zTerm).Num, AV.S (c.Filter.getD (i - 0) zTerm).Text]]), []))
    else
      (none))
  else
    (none) := by kernel_rfl
theorem e65n (Γ : Orc) (H : Hd) (xs : List VTerm) : ent Try.prog cfg Γ 65 H [.sln xs.length 3 (gsTermS xs)] [] =
  bif decide (0 + xs.length ≤ 4294967296) && true && true && true && true then
    (bif okT then
      (some (AV.own (0 + xs.length) 3 fun i => lstG [nI (xs.getD (i - 0) zTerm).Op, nI (xs.getD (i - 0) zTerm).Num, AV.S (xs.getD (i - 0) zTerm).Text], []))
    else
      (none))
  else
    (none) := by kernel_rfl
theorem e65z (Γ : Orc) (H : Hd) (g : Nat → Nat → AV) : ent Try.prog cfg Γ 65 H [.nsl 3 g] [] =
  bif okT then
    (some (AV.own 0 3 fun i => lstG [nI 0, nI 0, AV.S ByteArray.empty], []))
  else
    (none) := by kernel_rfl
theorem e61 (Γ : Orc) (H : Hd) (c : VCall) : ent Try.prog cfg Γ 61 H [slCall c] [] =
  Option.bind (Γ 65 [slTermS c.Filter] []) fun r0 =>
  bif bif okT then true else false then
    (some (AV.ag 9 (lstG [nI c.Op, nI c.A, nI c.B, nI c.Tok, AV.S c.Name, nI c.Msg.Kind, nI c.Msg.Num, AV.S c.Msg.Text, vowTermS r0.fst]), []))
  else
    (none) := by kernel_rfl
theorem e24 (Γ : Orc) (H : Hd) (ps : List (List VCall)) (ms : List VMark) : ent Try.prog cfg Γ 24 H [slCallSS ps, slMarkS ms] [] =
  Option.bind (Γ 36 [slCallSS ps, slMarkS ms] []) fun r0 =>
  bif bif okU then true else false then
    (some (AV.tup 2 (lstG [vowRecS (asA r0.fst 0), AV.B (asB (asA r0.fst 2))]), []))
  else
    (none) := by kernel_rfl
theorem e25 (Γ : Orc) (H : Hd) (ps : List (List VCall)) (ms : List VMark) : ent Try.prog cfg Γ 25 H [slCallSS ps, slMarkS ms] [] =
  Option.bind (Γ 35 [slCallSS ps, slMarkS ms] []) fun r0 =>
  bif bif okU then true else false then
    (some (AV.tup 2 (lstG [vowRecS (asA r0.fst 0), AV.B (asB (asA r0.fst 2))]), []))
  else
    (none) := by kernel_rfl
theorem e9 (Γ : Orc) (H : Hd) (ps : List (List VCall)) (ms : List VMark) : ent Try.prog cfg Γ 9 H [slCallSS ps, slMarkS ms] [] =
  Option.bind (Γ 24 [slCallSS ps, slMarkS ms] []) fun r0 =>
  bif !asB (asA r0.fst 1) then
    (some (AV.B false, []))
  else
    (bif decide (zN ps.length ≤ 4294967296) && decide (zN ps.length ≤ zN ps.length) && true && true && true then
      (bif decide (zN ps.length ≤ 4294967296) && decide (zN ps.length ≤ zN ps.length) && true && true && true then
        (H [true, true, true, true, true, false, true] (hdS [(5, AV.rf 319488), (7, AV.rf 348160), (8, AV.rf 360448), (9, nI 0)] [(319488, ⟨asN (asA r0.fst 0), 14, fun i => lstG [nI (asI (asG (asA r0.fst 0) i 0)), nI (asI (asG (asA r0.fst 0) i 1)), nI (asI (asG (asA r0.fst 0) i 2)), nI (asI (asG (asA r0.fst 0) i 3)), nI (asI (asG (asA r0.fst 0) i 4)), nI (asI (asG (asA r0.fst 0) i 5)), AV.S (asS (asG (asA r0.fst 0) i 6)), nI (asI (asG (asA r0.fst 0) i 7)), nI (asI (asG (asA r0.fst 0) i 8)), AV.S (asS (asG (asA r0.fst 0) i 9)), vowTermS (asG (asA r0.fst 0) i 10), nI (asI (asG (asA r0.fst 0) i 11)), nI (asI (asG (asA r0.fst 0) i 12)), nI (asI (asG (asA r0.fst 0) i 13))]⟩), (348160, ⟨(zN ps.length).toNat, 1, fun i => lstG [nI 0]⟩), (360448, ⟨(zN ps.length).toNat, 1, fun i => lstG [nI 0]⟩)] []))
      else
        (none))
    else
      (none)) := by kernel_rfl
theorem e12 (Γ : Orc) (H : Hd) (ps : List (List VCall)) (ms : List VMark) : ent Try.prog cfg Γ 12 H [slCallSS ps, slMarkS ms] [] =
  Option.bind (Γ 25 [slCallSS ps, slMarkS ms] []) fun r0 =>
  some (AV.B (asB (asA r0.fst 1)), []) := by kernel_rfl
theorem e15 (Γ : Orc) (H : Hd) (ps : List (List VCall)) (ms : List VMark) (a : Int) : ent Try.prog cfg Γ 15 H [slCallSS ps, slMarkS ms, nI a] [] =
  Option.bind (Γ 24 [slCallSS ps, slMarkS ms] []) fun r0 =>
  bif !asB (asA r0.fst 1) then
    (some (AV.tup 4 (lstG [nI 0, nI 0, nI 0, AV.B false]), []))
  else
    (H [true, true, true, true, false, true] (hdS [(2, nI a), (10, AV.rf 344064), (12, nI 0), (13, nI 0), (14, nI 0), (15, nI 0)] [(344064, ⟨asN (asA r0.fst 0), 14, fun i => lstG [nI (asI (asG (asA r0.fst 0) i 0)), nI (asI (asG (asA r0.fst 0) i 1)), nI (asI (asG (asA r0.fst 0) i 2)), nI (asI (asG (asA r0.fst 0) i 3)), nI (asI (asG (asA r0.fst 0) i 4)), nI (asI (asG (asA r0.fst 0) i 5)), AV.S (asS (asG (asA r0.fst 0) i 6)), nI (asI (asG (asA r0.fst 0) i 7)), nI (asI (asG (asA r0.fst 0) i 8)), AV.S (asS (asG (asA r0.fst 0) i 9)), vowTermS (asG (asA r0.fst 0) i 10), nI (asI (asG (asA r0.fst 0) i 11)), nI (asI (asG (asA r0.fst 0) i 12)), nI (asI (asG (asA r0.fst 0) i 13))]⟩)] [])) := by kernel_rfl
theorem e16 (Γ : Orc) (H : Hd) (ps : List (List VCall)) (ms : List VMark) (a : Int) : ent Try.prog cfg Γ 16 H [slCallSS ps, slMarkS ms, nI a] [] =
  Option.bind (Γ 35 [slCallSS ps, slMarkS ms] []) fun r0 =>
  bif !asB (asA r0.fst 2) then
    (some (AV.tup 4 (lstG [nI 0, nI 0, nI 0, AV.B false]), []))
  else
    (H [true, true, true, true, false, true] (hdS [(2, nI a), (13, nI 0), (14, nI 0), (15, nI 0), (27, AV.rf 348160), (28, nI (zN (asN (asA r0.fst 0)))), (29, nI 0)] [(348160, ⟨asN (asA r0.fst 0), 14, fun i => lstG [nI (asI (asG (asA r0.fst 0) i 0)), nI (asI (asG (asA r0.fst 0) i 1)), nI (asI (asG (asA r0.fst 0) i 2)), nI (asI (asG (asA r0.fst 0) i 3)), nI (asI (asG (asA r0.fst 0) i 4)), nI (asI (asG (asA r0.fst 0) i 5)), AV.S (asS (asG (asA r0.fst 0) i 6)), nI (asI (asG (asA r0.fst 0) i 7)), nI (asI (asG (asA r0.fst 0) i 8)), AV.S (asS (asG (asA r0.fst 0) i 9)), vowTermS (asG (asA r0.fst 0) i 10), nI (asI (asG (asA r0.fst 0) i 11)), nI (asI (asG (asA r0.fst 0) i 12)), nI (asI (asG (asA r0.fst 0) i 13))]⟩)] [])) := by kernel_rfl
theorem e17 (Γ : Orc) (H : Hd) (ps : List (List VCall)) (ms : List VMark) (a c : Int) : ent Try.prog cfg Γ 17 H [slCallSS ps, slMarkS ms, nI a, nI c] [] =
  Option.bind (Γ 36 [slCallSS ps, slMarkS ms] []) fun r0 =>
  bif !asB (asA r0.fst 2) then
    (bif bif okT then true else false then
      (some (AV.tup 3 (lstG [AV.own 0 1 fun i => lstG [nI 0], nI 0, AV.B false]), []))
    else
      (none))
  else
    (Option.bind (Γ 37 [nI a, nI 0, nI (IntKind.i64.wrap (zN ps.length - 1))] []) fun r2 =>
    bif !asB r2.fst then
      (bif bif okT then true else false then
        (some (AV.tup 3 (lstG [AV.own 0 1 fun i => lstG [nI 0], nI 0, AV.B false]), []))
      else
        (none))
    else
      (H [true, true, true, true, true, false, true] (hdS [(1, slMarkS ms), (2, nI a), (3, nI c), (11, AV.rf 348160), (12, AV.rf 348224), (14, AV.rf 671744), (15, nI 0), (16, nI 0)] [(348160, ⟨asN (asA r0.fst 0), 14, fun i => lstG [nI (asI (asG (asA r0.fst 0) i 0)), nI (asI (asG (asA r0.fst 0) i 1)), nI (asI (asG (asA r0.fst 0) i 2)), nI (asI (asG (asA r0.fst 0) i 3)), nI (asI (asG (asA r0.fst 0) i 4)), nI (asI (asG (asA r0.fst 0) i 5)), AV.S (asS (asG (asA r0.fst 0) i 6)), nI (asI (asG (asA r0.fst 0) i 7)), nI (asI (asG (asA r0.fst 0) i 8)), AV.S (asS (asG (asA r0.fst 0) i 9)), vowTermS (asG (asA r0.fst 0) i 10), nI (asI (asG (asA r0.fst 0) i 11)), nI (asI (asG (asA r0.fst 0) i 12)), nI (asI (asG (asA r0.fst 0) i 13))]⟩), (348224, ⟨asN (asA r0.fst 1), 1, fun i => lstG [nI (asI (asG (asA r0.fst 1) i 0))]⟩), (671744, ⟨0, 1, fun i => lstG [nI 0]⟩)] []))) := by kernel_rfl
theorem e18 (Γ : Orc) (H : Hd) (ps : List (List VCall)) (ms : List VMark) (a c : Int) : ent Try.prog cfg Γ 18 H [slCallSS ps, slMarkS ms, nI a, nI c] [] =
  Option.bind (Γ 35 [slCallSS ps, slMarkS ms] []) fun r0 =>
  bif !asB (asA r0.fst 2) then
    (bif bif okT then true else false then
      (some (AV.tup 3 (lstG [AV.own 0 1 fun i => lstG [nI 0], nI 0, AV.B false]), []))
    else
      (none))
  else
    (Option.bind (Γ 38 [nI a, nI 0, nI (IntKind.i64.wrap (zN ps.length - 1))] []) fun r2 =>
    bif !asB r2.fst then
      (bif bif okT then true else false then
        (some (AV.tup 3 (lstG [AV.own 0 1 fun i => lstG [nI 0], nI 0, AV.B false]), []))
      else
        (none))
    else
      (H [true, true, true, true, true, false, true] (hdS [(2, nI a), (3, nI c), (11, AV.rf 352256), (12, AV.rf 352320), (14, AV.rf 643072), (15, nI 0), (37, slMarkS ms), (38, nI (zN ms.length)), (39, nI 0)] [(352256, ⟨asN (asA r0.fst 0), 14, fun i => lstG [nI (asI (asG (asA r0.fst 0) i 0)), nI (asI (asG (asA r0.fst 0) i 1)), nI (asI (asG (asA r0.fst 0) i 2)), nI (asI (asG (asA r0.fst 0) i 3)), nI (asI (asG (asA r0.fst 0) i 4)), nI (asI (asG (asA r0.fst 0) i 5)), AV.S (asS (asG (asA r0.fst 0) i 6)), nI (asI (asG (asA r0.fst 0) i 7)), nI (asI (asG (asA r0.fst 0) i 8)), AV.S (asS (asG (asA r0.fst 0) i 9)), vowTermS (asG (asA r0.fst 0) i 10), nI (asI (asG (asA r0.fst 0) i 11)), nI (asI (asG (asA r0.fst 0) i 12)), nI (asI (asG (asA r0.fst 0) i 13))]⟩), (352320, ⟨asN (asA r0.fst 1), 1, fun i => lstG [nI (asI (asG (asA r0.fst 1) i 0))]⟩), (643072, ⟨0, 1, fun i => lstG [nI 0]⟩)] []))) := by kernel_rfl
theorem e36 (Γ : Orc) (H : Hd) (ps : List (List VCall)) (ms : List VMark) : ent Try.prog cfg Γ 36 H [slCallSS ps, slMarkS ms] [] =
  bif decide (400 < zN ms.length) then
    (bif bif okU then bif okT then true else false else false then
      (some (AV.tup 3 (lstG [AV.own 0 14 fun i => lstG [nI 0, nI 0, nI 0, nI 0, nI 0, nI 0, AV.S ByteArray.empty, nI 0, nI 0, AV.S ByteArray.empty, AV.own 0 3 fun i => lstG [nI 0, nI 0, AV.S ByteArray.empty], nI 0, nI 0, nI 0], AV.own 0 1 fun i => lstG [nI 0], AV.B false]), []))
    else
      (none))
  else
    (bif decide (zN ps.length ≤ 4294967296) && decide (zN ps.length ≤ zN ps.length) && true && true && true then
      (bif decide (zN ps.length ≤ 4294967296) && decide (zN ps.length ≤ zN ps.length) && true && true && true then
        (H [true, true, true, true, true, true, false, true] (hdS [(0, slCallSS ps), (1, slMarkS ms), (7, AV.rf 724992), (8, AV.rf 827392), (9, AV.rf 352256), (10, AV.rf 364544), (11, nI 0)] [(352256, ⟨(zN ps.length).toNat, 1, fun i => lstG [nI 0]⟩), (364544, ⟨(zN ps.length).toNat, 1, fun i => lstG [nI 0]⟩), (724992, ⟨0, 14, fun i => lstG [nI 0, nI 0, nI 0, nI 0, nI 0, nI 0, AV.S ByteArray.empty, nI 0, nI 0, AV.S ByteArray.empty, AV.own 0 3 fun i => lstG [nI 0, nI 0, AV.S ByteArray.empty], nI 0, nI 0, nI 0]⟩), (827392, ⟨0, 1, fun i => lstG [nI 0]⟩)] []))
      else
        (none))
    else
      (none)) := by kernel_rfl
theorem e35 (Γ : Orc) (H : Hd) (ps : List (List VCall)) (ms : List VMark) : ent Try.prog cfg Γ 35 H [slCallSS ps, slMarkS ms] [] =
  bif decide (400 < zN ms.length) then
    (bif bif okU then bif okT then true else false else false then
      (some (AV.tup 3 (lstG [AV.own 0 14 fun i => lstG [nI 0, nI 0, nI 0, nI 0, nI 0, nI 0, AV.S ByteArray.empty, nI 0, nI 0, AV.S ByteArray.empty, AV.own 0 3 fun i => lstG [nI 0, nI 0, AV.S ByteArray.empty], nI 0, nI 0, nI 0], AV.own 0 1 fun i => lstG [nI 0], AV.B false]), []))
    else
      (none))
  else
    (H [true, true, true, false, true] (hdS [(0, slCallSS ps), (1, slMarkS ms), (7, AV.pb 80 0), (18, nI (zN ps.length)), (19, nI 0)] [(372736, ⟨0, 1, fun i => lstG [nI 0]⟩)] [(80, 2, [AV.nsl 14 fun x => lstG [nI 0, nI 0, nI 0, nI 0, nI 0, nI 0, AV.S ByteArray.empty, nI 0, nI 0, AV.S ByteArray.empty, AV.own 0 3 fun x => lstG [nI 0, nI 0, AV.S ByteArray.empty], nI 0, nI 0, nI 0], AV.rf 372736])])) := by kernel_rfl
theorem e3 (Γ : Orc) (H : Hd) (ps : List (List VCall)) (ms : List VMark) : ent Try.prog cfg Γ 3 H [slCallSS ps, slMarkS ms] [] =
  Option.bind (Γ 7 [slCallSS ps, nI 1048576] []) fun r0 =>
  bif decide (asI r0.fst < 0) then
    (some (AV.B true, []))
  else
    (Option.bind (Γ 8 [slMarkS ms, nI (asI r0.fst)] []) fun r2 =>
    bif decide (asI r2.fst < 0) then
      (some (AV.B true, []))
    else
      (Option.bind (Γ 10 [slCallSS ps] []) fun r4 =>
      Option.bind (Γ 11 [slMarkS ms] []) fun r5 =>
      Option.bind (Γ 9 [vslCallSS r4.fst, vslMarkS r5.fst] []) fun r6 =>
      Option.bind (Γ 10 [slCallSS ps] []) fun r7 =>
      Option.bind (Γ 11 [slMarkS ms] []) fun r8 =>
      Option.bind (Γ 12 [vslCallSS r7.fst, vslMarkS r8.fst] []) fun r9 =>
      bif !asB r9.fst == asB r6.fst then
        (some (AV.B false, []))
      else
        (Option.bind (Γ 10 [slCallSS ps] []) fun r11 =>
        Option.bind (Γ 13 [vslCallSS r7.fst, vslCallSS r11.fst] []) fun r12 =>
        bif !asB r12.fst then
          (some (AV.B false, []))
        else
          (Option.bind (Γ 11 [slMarkS ms] []) fun r14 =>
          Option.bind (Γ 14 [vslMarkS r8.fst, vslMarkS r14.fst] []) fun r15 =>
          bif !asB r15.fst then
            (some (AV.B false, []))
          else
            (some (AV.B true, [])))))) := by kernel_rfl
theorem e4 (Γ : Orc) (H : Hd) (ps : List (List VCall)) (ms : List VMark) (a : Int) : ent Try.prog cfg Γ 4 H [slCallSS ps, slMarkS ms, nI a] [] =
  Option.bind (Γ 7 [slCallSS ps, nI 1048576] []) fun r0 =>
  bif decide (asI r0.fst < 0) then
    (some (AV.B true, []))
  else
    (Option.bind (Γ 8 [slMarkS ms, nI (asI r0.fst)] []) fun r2 =>
    bif decide (asI r2.fst < 0) then
      (some (AV.B true, []))
    else
      (Option.bind (Γ 10 [slCallSS ps] []) fun r4 =>
      Option.bind (Γ 11 [slMarkS ms] []) fun r5 =>
      Option.bind (Γ 15 [vslCallSS r4.fst, vslMarkS r5.fst, nI a] []) fun r6 =>
      Option.bind (Γ 10 [slCallSS ps] []) fun r7 =>
      Option.bind (Γ 11 [slMarkS ms] []) fun r8 =>
      Option.bind (Γ 16 [vslCallSS r7.fst, vslMarkS r8.fst, nI a] []) fun r9 =>
      bif !decide (asI (asA r9.fst 0) = asI (asA r6.fst 0)) then
        (some (AV.B false, []))
      else
        (bif !decide (asI (asA r9.fst 1) = asI (asA r6.fst 1)) then
          (some (AV.B false, []))
        else
          (bif !decide (asI (asA r9.fst 2) = asI (asA r6.fst 2)) then
            (some (AV.B false, []))
          else
            (bif !asB (asA r9.fst 3) == asB (asA r6.fst 3) then
              (some (AV.B false, []))
            else
              (Option.bind (Γ 10 [slCallSS ps] []) fun r14 =>
              Option.bind (Γ 13 [vslCallSS r7.fst, vslCallSS r14.fst] []) fun r15 =>
              bif !asB r15.fst then
                (some (AV.B false, []))
              else
                (Option.bind (Γ 11 [slMarkS ms] []) fun r17 =>
                Option.bind (Γ 14 [vslMarkS r8.fst, vslMarkS r17.fst] []) fun r18 =>
                bif !asB r18.fst then
                  (some (AV.B false, []))
                else
                  (some (AV.B true, []))))))))) := by kernel_rfl
theorem e5 (Γ : Orc) (H : Hd) (ps : List (List VCall)) (ms : List VMark) (a c : Int) : ent Try.prog cfg Γ 5 H [slCallSS ps, slMarkS ms, nI a, nI c] [] =
  Option.bind (Γ 7 [slCallSS ps, nI 1048576] []) fun r0 =>
  bif decide (asI r0.fst < 0) then
    (some (AV.B true, []))
  else
    (Option.bind (Γ 8 [slMarkS ms, nI (asI r0.fst)] []) fun r2 =>
    bif decide (asI r2.fst < 0) then
      (some (AV.B true, []))
    else
      (Option.bind (Γ 10 [slCallSS ps] []) fun r4 =>
      Option.bind (Γ 11 [slMarkS ms] []) fun r5 =>
      Option.bind (Γ 17 [vslCallSS r4.fst, vslMarkS r5.fst, nI a, nI c] []) fun r6 =>
      Option.bind (Γ 10 [slCallSS ps] []) fun r7 =>
      Option.bind (Γ 11 [slMarkS ms] []) fun r8 =>
      Option.bind (Γ 18 [vslCallSS r7.fst, vslMarkS r8.fst, nI a, nI c] []) fun r9 =>
      Option.bind (Γ 19 [AV.sl (asN (asA r9.fst 0)) 1 fun i => lstG [nI (asI (asG (asA r9.fst 0) i 0))], AV.sl (asN (asA r6.fst 0)) 1 fun i => lstG [nI (asI (asG (asA r6.fst 0) i 0))]] []) fun r10 =>
      bif !asB r10.fst then
        (some (AV.B false, []))
      else
        (bif !decide (asI (asA r9.fst 1) = asI (asA r6.fst 1)) then
          (some (AV.B false, []))
        else
          (bif !asB (asA r9.fst 2) == asB (asA r6.fst 2) then
            (some (AV.B false, []))
          else
            (Option.bind (Γ 10 [slCallSS ps] []) fun r14 =>
            Option.bind (Γ 13 [vslCallSS r7.fst, vslCallSS r14.fst] []) fun r15 =>
            bif !asB r15.fst then
              (some (AV.B false, []))
            else
              (Option.bind (Γ 11 [slMarkS ms] []) fun r17 =>
              Option.bind (Γ 14 [vslMarkS r8.fst, vslMarkS r17.fst] []) fun r18 =>
              bif !asB r18.fst then
                (some (AV.B false, []))
              else
                (Option.bind (Γ 20 [AV.rf 0, nI 1] [vowCallSS r7.fst]) fun r20 =>
                Option.bind (Γ 21 [AV.rf 0, nI (asI r20.fst)] [vowMarkS r8.fst]) fun r21 =>
                bif decide (asI r21.fst < 0) then
                  (some (AV.B false, []))
                else
                  (Option.bind (Γ 19 [AV.sl (asN (asA r9.fst 0)) 1 fun i => lstG [nI (asI (asG (asA r9.fst 0) i 0))], AV.sl (asN (asA r6.fst 0)) 1 fun i => lstG [nI (asI (asG (asA r6.fst 0) i 0))]] []) fun r23 =>
                  bif !asB r23.fst then
                    (some (AV.B false, []))
                  else
                    (bif !decide (asI (asA r9.fst 1) = asI (asA r6.fst 1)) then
                      (some (AV.B false, []))
                    else
                      (bif !asB (asA r9.fst 2) == asB (asA r6.fst 2) then
                        (some (AV.B false, []))
                      else
                        (Option.bind (Γ 22 [AV.rf 0, nI 1] [AV.own (asN (asA r9.fst 0)) 1 fun i => lstG [nI (asI (asG (asA r9.fst 0) i 0))]]) fun r27 =>
                        Option.bind (Γ 23 [AV.sl (asN (asA r9.fst 0)) 1 fun i => lstG [nI (asI (asG (r27.snd.headD AV.bad) i 0))], nI 1] []) fun r28 =>
                        bif decide (asI r28.fst < 0) then
                          (some (AV.B false, []))
                        else
                          (bif !decide (asI r28.fst = asI r27.fst) then
                            (some (AV.B false, []))
                          else
                            (Option.bind (Γ 10 [slCallSS ps] []) fun r31 =>
                            Option.bind (Γ 11 [slMarkS ms] []) fun r32 =>
                            Option.bind (Γ 18 [vslCallSS r31.fst, vslMarkS r32.fst, nI a, nI c] []) fun r33 =>
                            Option.bind (Γ 19 [AV.sl (asN (asA r33.fst 0)) 1 fun i => lstG [nI (asI (asG (asA r33.fst 0) i 0))], AV.sl (asN (asA r6.fst 0)) 1 fun i => lstG [nI (asI (asG (asA r6.fst 0) i 0))]] []) fun r34 =>
                            bif !asB r34.fst then
                              (some (AV.B false, []))
                            else
                              (bif !decide (asI (asA r33.fst 1) = asI (asA r6.fst 1)) then
                                (some (AV.B false, []))
                              else
                                (bif !asB (asA r33.fst 2) == asB (asA r6.fst 2) then
                                  (some (AV.B false, []))
                                else
                                  (Option.bind (Γ 23 [AV.sl (asN (asA r9.fst 0)) 1 fun i => lstG [nI (asI (asG (r27.snd.headD AV.bad) i 0))], nI 1] []) fun r38 =>
                                  bif decide (asI r38.fst < 0) then
                                    (some (AV.B false, []))
                                  else
                                    (bif !decide (asI r38.fst = asI r27.fst) then
                                      (some (AV.B false, []))
                                    else
                                      (some (AV.B true, []))))))))))))))))))) := by kernel_rfl
theorem e6 (Γ : Orc) (H : Hd) (ps : List (List VCall)) (ms : List VMark) : ent Try.prog cfg Γ 6 H [slCallSS ps, slMarkS ms] [] =
  Option.bind (Γ 7 [slCallSS ps, nI 1048576] []) fun r0 =>
  bif decide (asI r0.fst < 0) then
    (some (AV.B true, []))
  else
    (Option.bind (Γ 8 [slMarkS ms, nI (asI r0.fst)] []) fun r2 =>
    bif decide (asI r2.fst < 0) then
      (some (AV.B true, []))
    else
      (Option.bind (Γ 10 [slCallSS ps] []) fun r4 =>
      Option.bind (Γ 11 [slMarkS ms] []) fun r5 =>
      Option.bind (Γ 24 [vslCallSS r4.fst, vslMarkS r5.fst] []) fun r6 =>
      Option.bind (Γ 10 [slCallSS ps] []) fun r7 =>
      Option.bind (Γ 11 [slMarkS ms] []) fun r8 =>
      Option.bind (Γ 25 [vslCallSS r7.fst, vslMarkS r8.fst] []) fun r9 =>
      Option.bind (Γ 26 [vslRecS (asA r9.fst 0), vslRecS (asA r6.fst 0)] []) fun r10 =>
      bif !asB r10.fst then
        (some (AV.B false, []))
      else
        (bif !asB (asA r9.fst 1) == asB (asA r6.fst 1) then
          (some (AV.B false, []))
        else
          (Option.bind (Γ 10 [slCallSS ps] []) fun r13 =>
          Option.bind (Γ 13 [vslCallSS r7.fst, vslCallSS r13.fst] []) fun r14 =>
          bif !asB r14.fst then
            (some (AV.B false, []))
          else
            (Option.bind (Γ 11 [slMarkS ms] []) fun r16 =>
            Option.bind (Γ 14 [vslMarkS r8.fst, vslMarkS r16.fst] []) fun r17 =>
            bif !asB r17.fst then
              (some (AV.B false, []))
            else
              (Option.bind (Γ 20 [AV.rf 0, nI 1] [vowCallSS r7.fst]) fun r19 =>
              Option.bind (Γ 21 [AV.rf 0, nI (asI r19.fst)] [vowMarkS r8.fst]) fun r20 =>
              bif decide (asI r20.fst < 0) then
                (some (AV.B false, []))
              else
                (Option.bind (Γ 26 [vslRecS (asA r9.fst 0), vslRecS (asA r6.fst 0)] []) fun r22 =>
                bif !asB r22.fst then
                  (some (AV.B false, []))
                else
                  (bif !asB (asA r9.fst 1) == asB (asA r6.fst 1) then
                    (some (AV.B false, []))
                  else
                    (Option.bind (Γ 27 [AV.rf 0, nI 1] [vowRecS (asA r9.fst 0)]) fun r25 =>
                    Option.bind (Γ 28 [AV.sl (asN (asA r9.fst 0)) 14 fun i => lstG [nI (asI (asG (r25.snd.headD AV.bad) i 0)), nI (asI (asG (r25.snd.headD AV.bad) i 1)), nI (asI (asG (r25.snd.headD AV.bad) i 2)), nI (asI (asG (r25.snd.headD AV.bad) i 3)), nI (asI (asG (r25.snd.headD AV.bad) i 4)), nI (asI (asG (r25.snd.headD AV.bad) i 5)), AV.S (asS (asG (r25.snd.headD AV.bad) i 6)), nI (asI (asG (r25.snd.headD AV.bad) i 7)), nI (asI (asG (r25.snd.headD AV.bad) i 8)), AV.S (asS (asG (r25.snd.headD AV.bad) i 9)), vslTermS (asG (r25.snd.headD AV.bad) i 10), nI (asI (asG (r25.snd.headD AV.bad) i 11)), nI (asI (asG (r25.snd.headD AV.bad) i 12)), nI (asI (asG (r25.snd.headD AV.bad) i 13))], nI 1] []) fun r26 =>
                    bif decide (asI r26.fst < 0) then
                      (some (AV.B false, []))
                    else
                      (bif !decide (asI r26.fst = asI r25.fst) then
                        (some (AV.B false, []))
                      else
                        (Option.bind (Γ 10 [slCallSS ps] []) fun r29 =>
                        Option.bind (Γ 11 [slMarkS ms] []) fun r30 =>
                        Option.bind (Γ 25 [vslCallSS r29.fst, vslMarkS r30.fst] []) fun r31 =>
                        Option.bind (Γ 26 [vslRecS (asA r31.fst 0), vslRecS (asA r6.fst 0)] []) fun r32 =>
                        bif !asB r32.fst then
                          (some (AV.B false, []))
                        else
                          (bif !asB (asA r31.fst 1) == asB (asA r6.fst 1) then
                            (some (AV.B false, []))
                          else
                            (Option.bind (Γ 28 [AV.sl (asN (asA r9.fst 0)) 14 fun i => lstG [nI (asI (asG (r25.snd.headD AV.bad) i 0)), nI (asI (asG (r25.snd.headD AV.bad) i 1)), nI (asI (asG (r25.snd.headD AV.bad) i 2)), nI (asI (asG (r25.snd.headD AV.bad) i 3)), nI (asI (asG (r25.snd.headD AV.bad) i 4)), nI (asI (asG (r25.snd.headD AV.bad) i 5)), AV.S (asS (asG (r25.snd.headD AV.bad) i 6)), nI (asI (asG (r25.snd.headD AV.bad) i 7)), nI (asI (asG (r25.snd.headD AV.bad) i 8)), AV.S (asS (asG (r25.snd.headD AV.bad) i 9)), vslTermS (asG (r25.snd.headD AV.bad) i 10), nI (asI (asG (r25.snd.headD AV.bad) i 11)), nI (asI (asG (r25.snd.headD AV.bad) i 12)), nI (asI (asG (r25.snd.headD AV.bad) i 13))], nI 1] []) fun r35 =>
                            bif decide (asI r35.fst < 0) then
                              (some (AV.B false, []))
                            else
                              (bif !decide (asI r35.fst = asI r25.fst) then
                                (some (AV.B false, []))
                              else
                                (some (AV.B true, [])))))))))))))))) := by kernel_rfl
theorem h36a (Γ : Orc) (H : Hd) (ps : List (List VCall)) (ms : List VMark) (rs : List VRec) (os nx op : List Int) (i : Int) : hed Try.prog cfg Γ 36 H [] [true, true, true, true, true, true, false, true] (hdS [(0, slCallSS ps), (1, slMarkS ms), (7, .rf 724992), (8, .rf 827392), (9, .rf 352256), (10, .rf 364544), (11, nI i)] [(352256, ⟨nx.length, 1, gI nx⟩), (364544, ⟨op.length, 1, gI op⟩), (724992, ⟨rs.length, 14, goRecS rs⟩), (827392, ⟨os.length, 1, gI os⟩)] []) =
  bif decide (i < zN op.length) then
    (bif bif decide (0 ≤ i) then decide (i < zN op.length) else false then
      (H [true, true, true, true, true, true, false, true] (hdS [(0, slCallSS ps), (1, slMarkS ms), (7, AV.rf 724992), (8, AV.rf 827392), (9, AV.rf 352256), (10, AV.rf 364544), (11, nI (IntKind.i64.wrap (i + 1)))] [(352256, ⟨nx.length, 1, gI nx⟩), (364544, ⟨op.length, 1, fun i_1 => lstG [nI (bif decide (i_1 = i.toNat) then -1 else op.getD i_1 0)]⟩), (724992, ⟨rs.length, 14, (goRecS rs)⟩), (827392, ⟨os.length, 1, gI os⟩)] []))
    else
      (none))
  else
    (H [true, true, true, true, true, true, true, false, true] (hdS [(0, slCallSS ps), (1, slMarkS ms), (7, AV.rf 724992), (8, AV.rf 827392), (9, AV.rf 352256), (10, AV.rf 364544), (12, nI 0)] [(352256, ⟨nx.length, 1, gI nx⟩), (364544, ⟨op.length, 1, gI op⟩), (724992, ⟨rs.length, 14, (goRecS rs)⟩), (827392, ⟨os.length, 1, gI os⟩)] [])) := by kernel_rfl
end Go.Fw
