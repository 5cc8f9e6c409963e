/- Trees of the functions' bodies, as printed by the framework's evaluation. -/
import Derived.Test.YtndmnbgcneaggaaGreatDoorProg
import Derived.Test.YtndmnbgcneaggaaGreatDoorFyB
import Derived.KernelRfl
import Derived.Test.YtndmnbgcneaggaaGreatDoorK
set_option linter.unusedVariables false
set_option maxRecDepth 100000
namespace Go.Fw
open Go.Proofs
theorem e177 (Γ : Orc) (H : Hd) (x : (List Bool)) (k : Int) : ent Tryz.prog cfg Γ 177 H [.rf 0, nI k] [owBoolS x] =
 H [true, false, true] (hdS [(0, AV.rf 0), (1, nI k), (5, nI 0)] [(0, ⟨x.length, 1, (goBoolS x)⟩)] []) := by kernel_rfl
theorem h177 (Γ : Orc) (H : Hd) (x : (List Bool)) (y : (List Bool)) (k i : Int) : hed Tryz.prog cfg Γ 177 H [owBoolS x] P177 (S177 x y k i) =
 bif decide (i < zN y.length) then
  (bif bif decide (0 ≤ i) then decide (i < zN y.length) else false then
   (H [true, false, true] (hdS [(0, AV.rf 0), (1, nI (IntKind.i64.wrap (k + 1))), (5, nI (IntKind.i64.wrap (i + 1)))] [(0, ⟨y.length, 1, fun i_1 => lstG [AV.B (bif decide (i_1 = i.toNat) then decide (k.tmod 3 = 0) else y.getD i_1 false)]⟩)] []))
  else
   (none))
 else
  (bif okT then
   (some (nI k, [AV.own x.length 1 (goBoolS y)]))
  else
   (none)) := by kernel_rfl
theorem e107 (Γ : Orc) (H : Hd) (x : (List VCall)) (k : Int) : ent Tryz.prog cfg Γ 107 H [.rf 0, nI k] [owCallS x] =
 H [true, false, true] (hdS [(0, AV.rf 0), (1, nI k), (5, nI 0)] [(0, ⟨x.length, 9, (goCallS x)⟩)] []) := by kernel_rfl
theorem h107 (Γ : Orc) (H : Hd) (x : (List VCall)) (y : (List VCall)) (k i : Int) : hed Tryz.prog cfg Γ 107 H [owCallS x] P107 (S107 x y k i) =
 bif decide (i < zN y.length) then
  (bif bif decide (0 ≤ i) then decide (i < zN y.length) else false then
   (bif bif decide (0 ≤ i) then decide (i < zN y.length) else false then
    (bif bif decide (0 ≤ i) then decide (i < zN y.length) else false then
     (bif bif decide (0 ≤ i) then decide (i < zN y.length) else false then
      (Option.bind (Γ 180 [nI (IntKind.i64.wrap (IntKind.i64.wrap (IntKind.i64.wrap (IntKind.i64.wrap (k + 1) + 1) + 1) + 1))] []) fun r5 =>
      bif bif decide (0 ≤ i) then decide (i < zN y.length) else false then
       (bif bif decide (0 ≤ i) then decide (i < zN y.length) else false then
        (bif bif decide (0 ≤ i) then decide (i < zN y.length) else false then
         (Option.bind (Γ 180 [nI (IntKind.i64.wrap (IntKind.i64.wrap (IntKind.i64.wrap (IntKind.i64.wrap (IntKind.i64.wrap (IntKind.i64.wrap (IntKind.i64.wrap (k + 1) + 1) + 1) + 1) + 1) + 1) + 1))] []) fun r9 =>
         bif bif decide (0 ≤ i) then decide (i < zN y.length) else false then
          (bif bif decide (0 ≤ i) then decide (i < zN y.length) else false then
           (Option.bind (Γ 185 [AV.rf 0, nI (IntKind.i64.wrap (IntKind.i64.wrap (IntKind.i64.wrap (IntKind.i64.wrap (IntKind.i64.wrap (IntKind.i64.wrap (IntKind.i64.wrap (IntKind.i64.wrap (k + 1) + 1) + 1) + 1) + 1) + 1) + 1) + 1))] [owTermS (y.getD i.toNat zCall).Filter]) fun r12 =>
           H [true, false, true] (hdS [(0, AV.rf 0), (1, nI (asI r12.fst)), (5, nI (IntKind.i64.wrap (i + 1)))] [(0, ⟨y.length, 9, fun i_1 => lstG [nI (bif decide (i_1 = i.toNat) then k else (y.getD i_1 zCall).Op), nI (bif decide (i_1 = i.toNat) then IntKind.i64.wrap (k + 1) else (y.getD i_1 zCall).A), nI (bif decide (i_1 = i.toNat) then IntKind.i64.wrap (IntKind.i64.wrap (k + 1) + 1) else (y.getD i_1 zCall).B), nI (bif decide (i_1 = i.toNat) then IntKind.i64.wrap (IntKind.i64.wrap (IntKind.i64.wrap (k + 1) + 1) + 1) else (y.getD i_1 zCall).Tok), AV.S (bif decide (i_1 = i.toNat) then asS r5.fst else (y.getD i_1 zCall).Name), nI (bif decide (i_1 = i.toNat) then IntKind.i64.wrap (IntKind.i64.wrap (IntKind.i64.wrap (IntKind.i64.wrap (IntKind.i64.wrap (k + 1) + 1) + 1) + 1) + 1) else (y.getD i_1 zCall).Msg.Kind), nI (bif decide (i_1 = i.toNat) then IntKind.i64.wrap (IntKind.i64.wrap (IntKind.i64.wrap (IntKind.i64.wrap (IntKind.i64.wrap (IntKind.i64.wrap (k + 1) + 1) + 1) + 1) + 1) + 1) else (y.getD i_1 zCall).Msg.Num), AV.S (bif decide (i_1 = i.toNat) then asS r9.fst else (y.getD i_1 zCall).Msg.Text), AV.own (bif decide (i_1 = i.toNat) then (y.getD i.toNat zCall).Filter.length else (y.getD i_1 zCall).Filter.length) 3 fun i_2 => lstG [nI (bif decide (i_1 = i.toNat) then asI (asG (r12.snd.headD AV.bad) i_2 0) else ((y.getD i_1 zCall).Filter.getD i_2 zTerm).Op), nI (bif decide (i_1 = i.toNat) then asI (asG (r12.snd.headD AV.bad) i_2 1) else ((y.getD i_1 zCall).Filter.getD i_2 zTerm).Num), AV.S (bif decide (i_1 = i.toNat) then asS (asG (r12.snd.headD AV.bad) i_2 2) else ((y.getD i_1 zCall).Filter.getD i_2 zTerm).Text)]]⟩)] []))
          else
           (none))
         else
          (none))
        else
         (none))
       else
        (none))
      else
       (none))
     else
      (none))
    else
     (none))
   else
    (none))
  else
   (none))
 else
  (bif okF 9 (fun j => goCallS x 0 j) (fun i j => (goCallS y i j)) then
   (some (nI k, [AV.own x.length 9 (goCallS y)]))
  else
   (none)) := by kernel_rfl
theorem e103 (Γ : Orc) (H : Hd) (x : (List VCell)) (k : Int) : ent Tryz.prog cfg Γ 103 H [.rf 0, nI k] [owCellS x] =
 H [true, false, true] (hdS [(0, AV.rf 0), (1, nI k), (5, nI 0)] [(0, ⟨x.length, 7, fun i => lstG [nI (x.getD i zCell).Val.Kind, nI (x.getD i zCell).Val.Num, AV.S (x.getD i zCell).Val.Text, nI (x.getD i zCell).Version, AV.B (x.getD i zCell).Closed, AV.own (x.getD i zCell).Line.length 1 (gI (x.getD i zCell).Line), AV.own (x.getD i zCell).Grants.length 1 (gI (x.getD i zCell).Grants)]⟩)] []) := by kernel_rfl
theorem h103 (Γ : Orc) (H : Hd) (x : (List VCell)) (y : (List VCell)) (k i : Int) : hed Tryz.prog cfg Γ 103 H [owCellS x] P103 (S103 x y k i) =
 bif decide (i < zN y.length) then
  (bif bif decide (0 ≤ i) then decide (i < zN y.length) else false then
   (bif bif decide (0 ≤ i) then decide (i < zN y.length) else false then
    (Option.bind (Γ 180 [nI (IntKind.i64.wrap (IntKind.i64.wrap (k + 1) + 1))] []) fun r3 =>
    bif bif decide (0 ≤ i) then decide (i < zN y.length) else false then
     (bif bif decide (0 ≤ i) then decide (i < zN y.length) else false then
      (bif bif decide (0 ≤ i) then decide (i < zN y.length) else false then
       (bif bif decide (0 ≤ i) then decide (i < zN y.length) else false then
        (Option.bind (Γ 15 [AV.rf 0, nI (IntKind.i64.wrap (IntKind.i64.wrap (IntKind.i64.wrap (IntKind.i64.wrap (IntKind.i64.wrap (k + 1) + 1) + 1) + 1) + 1))] [AV.own (y.getD i.toNat zCell).Line.length 1 (gI (y.getD i.toNat zCell).Line)]) fun r8 =>
        bif bif decide (0 ≤ i) then decide (i < zN y.length) else false then
         (Option.bind (Γ 15 [AV.rf 0, nI (asI r8.fst)] [AV.own (y.getD i.toNat zCell).Grants.length 1 (gI (y.getD i.toNat zCell).Grants)]) fun r10 =>
         H [true, false, true] (hdS [(0, AV.rf 0), (1, nI (asI r10.fst)), (5, nI (IntKind.i64.wrap (i + 1)))] [(0, ⟨y.length, 7, fun i_1 => lstG [nI (bif decide (i_1 = i.toNat) then k else (y.getD i_1 zCell).Val.Kind), nI (bif decide (i_1 = i.toNat) then IntKind.i64.wrap (k + 1) else (y.getD i_1 zCell).Val.Num), AV.S (bif decide (i_1 = i.toNat) then asS r3.fst else (y.getD i_1 zCell).Val.Text), nI (bif decide (i_1 = i.toNat) then IntKind.i64.wrap (IntKind.i64.wrap (IntKind.i64.wrap (k + 1) + 1) + 1) else (y.getD i_1 zCell).Version), AV.B (bif decide (i_1 = i.toNat) then decide ((IntKind.i64.wrap (IntKind.i64.wrap (IntKind.i64.wrap (IntKind.i64.wrap (k + 1) + 1) + 1) + 1)).tmod 3 = 0) else (y.getD i_1 zCell).Closed), AV.own (bif decide (i_1 = i.toNat) then (y.getD i.toNat zCell).Line.length else (y.getD i_1 zCell).Line.length) 1 fun i_2 => lstG [nI (bif decide (i_1 = i.toNat) then asI (asG (r8.snd.headD AV.bad) i_2 0) else (y.getD i_1 zCell).Line.getD i_2 0)], AV.own (bif decide (i_1 = i.toNat) then (y.getD i.toNat zCell).Grants.length else (y.getD i_1 zCell).Grants.length) 1 fun i_2 => lstG [nI (bif decide (i_1 = i.toNat) then asI (asG (r10.snd.headD AV.bad) i_2 0) else (y.getD i_1 zCell).Grants.getD i_2 0)]]⟩)] []))
        else
         (none))
       else
        (none))
      else
       (none))
     else
      (none))
    else
     (none))
   else
    (none))
  else
   (none))
 else
  (bif okF 7 (fun j => goCellS x 0 j) (fun i j => (goCellS y i j)) then
   (some (nI k, [AV.own x.length 7 fun i => lstG [nI (y.getD i zCell).Val.Kind, nI (y.getD i zCell).Val.Num, AV.S (y.getD i zCell).Val.Text, nI (y.getD i zCell).Version, AV.B (y.getD i zCell).Closed, AV.own (y.getD i zCell).Line.length 1 (gI (y.getD i zCell).Line), AV.own (y.getD i zCell).Grants.length 1 (gI (y.getD i zCell).Grants)]]))
  else
   (none)) := by kernel_rfl
theorem e33 (Γ : Orc) (H : Hd) (x : (List VClient)) (k : Int) : ent Tryz.prog cfg Γ 33 H [.rf 0, nI k] [owClientS x] =
 H [true, false, true] (hdS [(0, AV.rf 0), (1, nI k), (5, nI 0)] [(0, ⟨x.length, 3, (goClientS x)⟩)] []) := by kernel_rfl
theorem h33 (Γ : Orc) (H : Hd) (x : (List VClient)) (y : (List VClient)) (k i : Int) : hed Tryz.prog cfg Γ 33 H [owClientS x] P33 (S33 x y k i) =
 bif decide (i < zN y.length) then
  (bif bif decide (0 ≤ i) then decide (i < zN y.length) else false then
   (Option.bind (Γ 107 [AV.rf 0, nI k] [AV.own (y.getD i.toNat zClient).Prog.length 9 (goCallS (y.getD i.toNat zClient).Prog)]) fun r2 =>
   bif bif decide (0 ≤ i) then decide (i < zN y.length) else false then
    (bif bif decide (0 ≤ i) then decide (i < zN y.length) else false then
     (H [true, false, true] (hdS [(0, AV.rf 0), (1, nI (IntKind.i64.wrap (IntKind.i64.wrap (asI r2.fst + 1) + 1))), (5, nI (IntKind.i64.wrap (i + 1)))] [(0, ⟨y.length, 3, fun i_1 => lstG [AV.own (bif decide (i_1 = i.toNat) then (y.getD i.toNat zClient).Prog.length else (y.getD i_1 zClient).Prog.length) 9 fun i_2 => lstG [nI (bif decide (i_1 = i.toNat) then asI (asG (r2.snd.headD AV.bad) i_2 0) else ((y.getD i_1 zClient).Prog.getD i_2 zCall).Op), nI (bif decide (i_1 = i.toNat) then asI (asG (r2.snd.headD AV.bad) i_2 1) else ((y.getD i_1 zClient).Prog.getD i_2 zCall).A), nI (bif decide (i_1 = i.toNat) then asI (asG (r2.snd.headD AV.bad) i_2 2) else ((y.getD i_1 zClient).Prog.getD i_2 zCall).B), nI (bif decide (i_1 = i.toNat) then asI (asG (r2.snd.headD AV.bad) i_2 3) else ((y.getD i_1 zClient).Prog.getD i_2 zCall).Tok), AV.S (bif decide (i_1 = i.toNat) then asS (asG (r2.snd.headD AV.bad) i_2 4) else ((y.getD i_1 zClient).Prog.getD i_2 zCall).Name), nI (bif decide (i_1 = i.toNat) then asI (asG (r2.snd.headD AV.bad) i_2 5) else ((y.getD i_1 zClient).Prog.getD i_2 zCall).Msg.Kind), nI (bif decide (i_1 = i.toNat) then asI (asG (r2.snd.headD AV.bad) i_2 6) else ((y.getD i_1 zClient).Prog.getD i_2 zCall).Msg.Num), AV.S (bif decide (i_1 = i.toNat) then asS (asG (r2.snd.headD AV.bad) i_2 7) else ((y.getD i_1 zClient).Prog.getD i_2 zCall).Msg.Text), AV.own (bif decide (i_1 = i.toNat) then asN (asG (r2.snd.headD AV.bad) i_2 8) else ((y.getD i_1 zClient).Prog.getD i_2 zCall).Filter.length) 3 fun i_3 => lstG [nI (bif decide (i_1 = i.toNat) then asI (asG (asG (r2.snd.headD AV.bad) i_2 8) i_3 0) else (((y.getD i_1 zClient).Prog.getD i_2 zCall).Filter.getD i_3 zTerm).Op), nI (bif decide (i_1 = i.toNat) then asI (asG (asG (r2.snd.headD AV.bad) i_2 8) i_3 1) else (((y.getD i_1 zClient).Prog.getD i_2 zCall).Filter.getD i_3 zTerm).Num), AV.S (bif decide (i_1 = i.toNat) then asS (asG (asG (r2.snd.headD AV.bad) i_2 8) i_3 2) else (((y.getD i_1 zClient).Prog.getD i_2 zCall).Filter.getD i_3 zTerm).Text)]], nI (bif decide (i_1 = i.toNat) then asI r2.fst else (y.getD i_1 zClient).At), AV.B (bif decide (i_1 = i.toNat) then decide ((IntKind.i64.wrap (asI r2.fst + 1)).tmod 3 = 0) else (y.getD i_1 zClient).Waiting)]⟩)] []))
    else
     (none))
   else
    (none))
  else
   (none))
 else
  (bif okF 3 (fun j => goClientS x 0 j) (fun i j => (goClientS y i j)) then
   (some (nI k, [AV.own x.length 3 (goClientS y)]))
  else
   (none)) := by kernel_rfl
theorem e101 (Γ : Orc) (H : Hd) (x : (List VEvent)) (k : Int) : ent Tryz.prog cfg Γ 101 H [.rf 0, nI k] [owEventS x] =
 H [true, false, true] (hdS [(0, AV.rf 0), (1, nI k), (5, nI 0)] [(0, ⟨x.length, 7, fun i => lstG [AV.B (x.getD i zEvent).Auto, AV.B (x.getD i zEvent).Up, AV.own (x.getD i zEvent).Line.length 1 (gI (x.getD i zEvent).Line), AV.own (x.getD i zEvent).Grants.length 1 (gI (x.getD i zEvent).Grants), nI (x.getD i zEvent).Sets, nI (x.getD i zEvent).Spilt, nI (x.getD i zEvent).Taken]⟩)] []) := by kernel_rfl
theorem h101 (Γ : Orc) (H : Hd) (x : (List VEvent)) (y : (List VEvent)) (k i : Int) : hed Tryz.prog cfg Γ 101 H [owEventS x] P101 (S101 x y k i) =
 bif decide (i < zN y.length) then
  (bif bif decide (0 ≤ i) then decide (i < zN y.length) else false then
   (bif bif decide (0 ≤ i) then decide (i < zN y.length) else false then
    (bif bif decide (0 ≤ i) then decide (i < zN y.length) else false then
     (Option.bind (Γ 15 [AV.rf 0, nI (IntKind.i64.wrap (IntKind.i64.wrap (k + 1) + 1))] [AV.own (y.getD i.toNat zEvent).Line.length 1 (gI (y.getD i.toNat zEvent).Line)]) fun r4 =>
     bif bif decide (0 ≤ i) then decide (i < zN y.length) else false then
      (Option.bind (Γ 15 [AV.rf 0, nI (asI r4.fst)] [AV.own (y.getD i.toNat zEvent).Grants.length 1 (gI (y.getD i.toNat zEvent).Grants)]) fun r6 =>
      bif bif decide (0 ≤ i) then decide (i < zN y.length) else false then
       (bif bif decide (0 ≤ i) then decide (i < zN y.length) else false then
        (bif bif decide (0 ≤ i) then decide (i < zN y.length) else false then
         (H [true, false, true] (hdS [(0, AV.rf 0), (1, nI (IntKind.i64.wrap (IntKind.i64.wrap (IntKind.i64.wrap (asI r6.fst + 1) + 1) + 1))), (5, nI (IntKind.i64.wrap (i + 1)))] [(0, ⟨y.length, 7, fun i_1 => lstG [AV.B (bif decide (i_1 = i.toNat) then decide (k.tmod 3 = 0) else (y.getD i_1 zEvent).Auto), AV.B (bif decide (i_1 = i.toNat) then decide ((IntKind.i64.wrap (k + 1)).tmod 3 = 0) else (y.getD i_1 zEvent).Up), AV.own (bif decide (i_1 = i.toNat) then (y.getD i.toNat zEvent).Line.length else (y.getD i_1 zEvent).Line.length) 1 fun i_2 => lstG [nI (bif decide (i_1 = i.toNat) then asI (asG (r4.snd.headD AV.bad) i_2 0) else (y.getD i_1 zEvent).Line.getD i_2 0)], AV.own (bif decide (i_1 = i.toNat) then (y.getD i.toNat zEvent).Grants.length else (y.getD i_1 zEvent).Grants.length) 1 fun i_2 => lstG [nI (bif decide (i_1 = i.toNat) then asI (asG (r6.snd.headD AV.bad) i_2 0) else (y.getD i_1 zEvent).Grants.getD i_2 0)], nI (bif decide (i_1 = i.toNat) then asI r6.fst else (y.getD i_1 zEvent).Sets), nI (bif decide (i_1 = i.toNat) then IntKind.i64.wrap (asI r6.fst + 1) else (y.getD i_1 zEvent).Spilt), nI (bif decide (i_1 = i.toNat) then IntKind.i64.wrap (IntKind.i64.wrap (asI r6.fst + 1) + 1) else (y.getD i_1 zEvent).Taken)]⟩)] []))
        else
         (none))
       else
        (none))
      else
       (none))
     else
      (none))
    else
     (none))
   else
    (none))
  else
   (none))
 else
  (bif okF 7 (fun j => goEventS x 0 j) (fun i j => (goEventS y i j)) then
   (some (nI k, [AV.own x.length 7 fun i => lstG [AV.B (y.getD i zEvent).Auto, AV.B (y.getD i zEvent).Up, AV.own (y.getD i zEvent).Line.length 1 (gI (y.getD i zEvent).Line), AV.own (y.getD i zEvent).Grants.length 1 (gI (y.getD i zEvent).Grants), nI (y.getD i zEvent).Sets, nI (y.getD i zEvent).Spilt, nI (y.getD i zEvent).Taken]]))
  else
   (none)) := by kernel_rfl
theorem e179 (Γ : Orc) (H : Hd) (x : (List VGrant)) (k : Int) : ent Tryz.prog cfg Γ 179 H [.rf 0, nI k] [owGrantS x] =
 H [true, false, true] (hdS [(0, AV.rf 0), (1, nI k), (5, nI 0)] [(0, ⟨x.length, 2, (goGrantS x)⟩)] []) := by kernel_rfl
theorem h179 (Γ : Orc) (H : Hd) (x : (List VGrant)) (y : (List VGrant)) (k i : Int) : hed Tryz.prog cfg Γ 179 H [owGrantS x] P179 (S179 x y k i) =
 bif decide (i < zN y.length) then
  (bif bif decide (0 ≤ i) then decide (i < zN y.length) else false then
   (bif bif decide (0 ≤ i) then decide (i < zN y.length) else false then
    (H [true, false, true] (hdS [(0, AV.rf 0), (1, nI (IntKind.i64.wrap (IntKind.i64.wrap (k + 1) + 1))), (5, nI (IntKind.i64.wrap (i + 1)))] [(0, ⟨y.length, 2, fun i_1 => lstG [nI (bif decide (i_1 = i.toNat) then k else (y.getD i_1 zGrant).Who), AV.B (bif decide (i_1 = i.toNat) then decide ((IntKind.i64.wrap (k + 1)).tmod 3 = 0) else (y.getD i_1 zGrant).One)]⟩)] []))
   else
    (none))
  else
   (none))
 else
  (bif okT then
   (some (nI k, [AV.own x.length 2 (goGrantS y)]))
  else
   (none)) := by kernel_rfl
theorem e184 (Γ : Orc) (H : Hd) (x : (List VHit)) (k : Int) : ent Tryz.prog cfg Γ 184 H [.rf 0, nI k] [owHitS x] =
 H [true, false, true] (hdS [(0, AV.rf 0), (1, nI k), (5, nI 0)] [(0, ⟨x.length, 2, (goHitS x)⟩)] []) := by kernel_rfl
theorem h184 (Γ : Orc) (H : Hd) (x : (List VHit)) (y : (List VHit)) (k i : Int) : hed Tryz.prog cfg Γ 184 H [owHitS x] P184 (S184 x y k i) =
 bif decide (i < zN y.length) then
  (bif bif decide (0 ≤ i) then decide (i < zN y.length) else false then
   (bif bif decide (0 ≤ i) then decide (i < zN y.length) else false then
    (H [true, false, true] (hdS [(0, AV.rf 0), (1, nI (IntKind.i64.wrap (IntKind.i64.wrap (k + 1) + 1))), (5, nI (IntKind.i64.wrap (i + 1)))] [(0, ⟨y.length, 2, fun i_1 => lstG [nI (bif decide (i_1 = i.toNat) then k else (y.getD i_1 zHit).Topic), nI (bif decide (i_1 = i.toNat) then IntKind.i64.wrap (k + 1) else (y.getD i_1 zHit).Id)]⟩)] []))
   else
    (none))
  else
   (none))
 else
  (bif okT then
   (some (nI k, [AV.own x.length 2 (goHitS y)]))
  else
   (none)) := by kernel_rfl
theorem e15 (Γ : Orc) (H : Hd) (x : (List Int)) (k : Int) : ent Tryz.prog cfg Γ 15 H [.rf 0, nI k] [owIntS x] =
 H [true, false, true] (hdS [(0, AV.rf 0), (1, nI k), (5, nI 0)] [(0, ⟨x.length, 1, gI x⟩)] []) := by kernel_rfl
theorem h15 (Γ : Orc) (H : Hd) (x : (List Int)) (y : (List Int)) (k i : Int) : hed Tryz.prog cfg Γ 15 H [owIntS x] P15 (S15 x y k i) =
 bif decide (i < zN y.length) then
  (bif bif decide (0 ≤ i) then decide (i < zN y.length) else false then
   (H [true, false, true] (hdS [(0, AV.rf 0), (1, nI (IntKind.i64.wrap (k + 1))), (5, nI (IntKind.i64.wrap (i + 1)))] [(0, ⟨y.length, 1, fun i_1 => lstG [nI (bif decide (i_1 = i.toNat) then k else y.getD i_1 0)]⟩)] []))
  else
   (none))
 else
  (bif okT then
   (some (nI k, [AV.own x.length 1 (gI y)]))
  else
   (none)) := by kernel_rfl
theorem e102 (Γ : Orc) (H : Hd) (x : (List VLatch)) (k : Int) : ent Tryz.prog cfg Γ 102 H [.rf 0, nI k] [owLatchS x] =
 H [true, false, true] (hdS [(0, AV.rf 0), (1, nI k), (5, nI 0)] [(0, ⟨x.length, 3, fun i => lstG [nI (x.getD i zLatch).Count, AV.own (x.getD i zLatch).Line.length 1 (gI (x.getD i zLatch).Line), AV.own (x.getD i zLatch).Grants.length 1 (gI (x.getD i zLatch).Grants)]⟩)] []) := by kernel_rfl
theorem h102 (Γ : Orc) (H : Hd) (x : (List VLatch)) (y : (List VLatch)) (k i : Int) : hed Tryz.prog cfg Γ 102 H [owLatchS x] P102 (S102 x y k i) =
 bif decide (i < zN y.length) then
  (bif bif decide (0 ≤ i) then decide (i < zN y.length) else false then
   (bif bif decide (0 ≤ i) then decide (i < zN y.length) else false then
    (Option.bind (Γ 15 [AV.rf 0, nI (IntKind.i64.wrap (k + 1))] [AV.own (y.getD i.toNat zLatch).Line.length 1 (gI (y.getD i.toNat zLatch).Line)]) fun r3 =>
    bif bif decide (0 ≤ i) then decide (i < zN y.length) else false then
     (Option.bind (Γ 15 [AV.rf 0, nI (asI r3.fst)] [AV.own (y.getD i.toNat zLatch).Grants.length 1 (gI (y.getD i.toNat zLatch).Grants)]) fun r5 =>
     H [true, false, true] (hdS [(0, AV.rf 0), (1, nI (asI r5.fst)), (5, nI (IntKind.i64.wrap (i + 1)))] [(0, ⟨y.length, 3, fun i_1 => lstG [nI (bif decide (i_1 = i.toNat) then k else (y.getD i_1 zLatch).Count), AV.own (bif decide (i_1 = i.toNat) then (y.getD i.toNat zLatch).Line.length else (y.getD i_1 zLatch).Line.length) 1 fun i_2 => lstG [nI (bif decide (i_1 = i.toNat) then asI (asG (r3.snd.headD AV.bad) i_2 0) else (y.getD i_1 zLatch).Line.getD i_2 0)], AV.own (bif decide (i_1 = i.toNat) then (y.getD i.toNat zLatch).Grants.length else (y.getD i_1 zLatch).Grants.length) 1 fun i_2 => lstG [nI (bif decide (i_1 = i.toNat) then asI (asG (r5.snd.headD AV.bad) i_2 0) else (y.getD i_1 zLatch).Grants.getD i_2 0)]]⟩)] []))
    else
     (none))
   else
    (none))
  else
   (none))
 else
  (bif okF 3 (fun j => goLatchS x 0 j) (fun i j => (goLatchS y i j)) then
   (some (nI k, [AV.own x.length 3 fun i => lstG [nI (y.getD i zLatch).Count, AV.own (y.getD i zLatch).Line.length 1 (gI (y.getD i zLatch).Line), AV.own (y.getD i zLatch).Grants.length 1 (gI (y.getD i zLatch).Grants)]]))
  else
   (none)) := by kernel_rfl
theorem e183 (Γ : Orc) (H : Hd) (x : (List VLeg)) (k : Int) : ent Tryz.prog cfg Γ 183 H [.rf 0, nI k] [owLegS x] =
 H [true, false, true] (hdS [(0, AV.rf 0), (1, nI k), (5, nI 0)] [(0, ⟨x.length, 4, (goLegS x)⟩)] []) := by kernel_rfl
theorem h183 (Γ : Orc) (H : Hd) (x : (List VLeg)) (y : (List VLeg)) (k i : Int) : hed Tryz.prog cfg Γ 183 H [owLegS x] P183 (S183 x y k i) =
 bif decide (i < zN y.length) then
  (bif bif decide (0 ≤ i) then decide (i < zN y.length) else false then
   (bif bif decide (0 ≤ i) then decide (i < zN y.length) else false then
    (bif bif decide (0 ≤ i) then decide (i < zN y.length) else false then
     (bif bif decide (0 ≤ i) then decide (i < zN y.length) else false then
      (H [true, false, true] (hdS [(0, AV.rf 0), (1, nI (IntKind.i64.wrap (IntKind.i64.wrap (IntKind.i64.wrap (IntKind.i64.wrap (k + 1) + 1) + 1) + 1))), (5, nI (IntKind.i64.wrap (i + 1)))] [(0, ⟨y.length, 4, fun i_1 => lstG [nI (bif decide (i_1 = i.toNat) then k else (y.getD i_1 zLeg).Topic), nI (bif decide (i_1 = i.toNat) then IntKind.i64.wrap (k + 1) else (y.getD i_1 zLeg).Id), nI (bif decide (i_1 = i.toNat) then IntKind.i64.wrap (IntKind.i64.wrap (k + 1) + 1) else (y.getD i_1 zLeg).Lost), AV.B (bif decide (i_1 = i.toNat) then decide ((IntKind.i64.wrap (IntKind.i64.wrap (IntKind.i64.wrap (k + 1) + 1) + 1)).tmod 3 = 0) else (y.getD i_1 zLeg).Over)]⟩)] []))
     else
      (none))
    else
     (none))
   else
    (none))
  else
   (none))
 else
  (bif okT then
   (some (nI k, [AV.own x.length 4 (goLegS y)]))
  else
   (none)) := by kernel_rfl
theorem e105 (Γ : Orc) (H : Hd) (x : (List VMerge)) (k : Int) : ent Tryz.prog cfg Γ 105 H [.rf 0, nI k] [owMergeS x] =
 H [true, false, true] (hdS [(0, AV.rf 0), (1, nI k), (5, nI 0)] [(0, ⟨x.length, 3, (goMergeS x)⟩)] []) := by kernel_rfl
theorem h105 (Γ : Orc) (H : Hd) (x : (List VMerge)) (y : (List VMerge)) (k i : Int) : hed Tryz.prog cfg Γ 105 H [owMergeS x] P105 (S105 x y k i) =
 bif decide (i < zN y.length) then
  (bif bif decide (0 ≤ i) then decide (i < zN y.length) else false then
   (Option.bind (Γ 183 [AV.rf 0, nI k] [owLegS (y.getD i.toNat zMerge).Legs]) fun r2 =>
   bif bif decide (0 ≤ i) then decide (i < zN y.length) else false then
    (bif bif decide (0 ≤ i) then decide (i < zN y.length) else false then
     (H [true, false, true] (hdS [(0, AV.rf 0), (1, nI (IntKind.i64.wrap (IntKind.i64.wrap (asI r2.fst + 1) + 1))), (5, nI (IntKind.i64.wrap (i + 1)))] [(0, ⟨y.length, 3, fun i_1 => lstG [AV.own (bif decide (i_1 = i.toNat) then (y.getD i.toNat zMerge).Legs.length else (y.getD i_1 zMerge).Legs.length) 4 fun i_2 => lstG [nI (bif decide (i_1 = i.toNat) then asI (asG (r2.snd.headD AV.bad) i_2 0) else ((y.getD i_1 zMerge).Legs.getD i_2 zLeg).Topic), nI (bif decide (i_1 = i.toNat) then asI (asG (r2.snd.headD AV.bad) i_2 1) else ((y.getD i_1 zMerge).Legs.getD i_2 zLeg).Id), nI (bif decide (i_1 = i.toNat) then asI (asG (r2.snd.headD AV.bad) i_2 2) else ((y.getD i_1 zMerge).Legs.getD i_2 zLeg).Lost), AV.B (bif decide (i_1 = i.toNat) then asB (asG (r2.snd.headD AV.bad) i_2 3) else ((y.getD i_1 zMerge).Legs.getD i_2 zLeg).Over)], nI (bif decide (i_1 = i.toNat) then asI r2.fst else (y.getD i_1 zMerge).Into), nI (bif decide (i_1 = i.toNat) then IntKind.i64.wrap (asI r2.fst + 1) else (y.getD i_1 zMerge).Moved)]⟩)] []))
    else
     (none))
   else
    (none))
  else
   (none))
 else
  (bif okF 3 (fun j => goMergeS x 0 j) (fun i j => (goMergeS y i j)) then
   (some (nI k, [AV.own x.length 3 (goMergeS y)]))
  else
   (none)) := by kernel_rfl
theorem e181 (Γ : Orc) (H : Hd) (x : (List VMsg)) (k : Int) : ent Tryz.prog cfg Γ 181 H [.rf 0, nI k] [owMsgS x] =
 H [true, false, true] (hdS [(0, AV.rf 0), (1, nI k), (5, nI 0)] [(0, ⟨x.length, 3, (goMsgS x)⟩)] []) := by kernel_rfl
theorem h181 (Γ : Orc) (H : Hd) (x : (List VMsg)) (y : (List VMsg)) (k i : Int) : hed Tryz.prog cfg Γ 181 H [owMsgS x] P181 (S181 x y k i) =
 bif decide (i < zN y.length) then
  (bif bif decide (0 ≤ i) then decide (i < zN y.length) else false then
   (bif bif decide (0 ≤ i) then decide (i < zN y.length) else false then
    (Option.bind (Γ 180 [nI (IntKind.i64.wrap (IntKind.i64.wrap (k + 1) + 1))] []) fun r3 =>
    bif bif decide (0 ≤ i) then decide (i < zN y.length) else false then
     (H [true, false, true] (hdS [(0, AV.rf 0), (1, nI (IntKind.i64.wrap (IntKind.i64.wrap (IntKind.i64.wrap (k + 1) + 1) + 1))), (5, nI (IntKind.i64.wrap (i + 1)))] [(0, ⟨y.length, 3, fun i_1 => lstG [nI (bif decide (i_1 = i.toNat) then k else (y.getD i_1 zMsg).Kind), nI (bif decide (i_1 = i.toNat) then IntKind.i64.wrap (k + 1) else (y.getD i_1 zMsg).Num), AV.S (bif decide (i_1 = i.toNat) then asS r3.fst else (y.getD i_1 zMsg).Text)]⟩)] []))
    else
     (none))
   else
    (none))
  else
   (none))
 else
  (bif okT then
   (some (nI k, [AV.own x.length 3 (goMsgS y)]))
  else
   (none)) := by kernel_rfl
theorem e100 (Γ : Orc) (H : Hd) (x : (List VNotify)) (k : Int) : ent Tryz.prog cfg Γ 100 H [.rf 0, nI k] [owNotifyS x] =
 H [true, false, true] (hdS [(0, AV.rf 0), (1, nI k), (5, nI 0)] [(0, ⟨x.length, 6, fun i => lstG [AV.B (x.getD i zNotify).Permit, AV.own (x.getD i zNotify).Line.length 1 (gI (x.getD i zNotify).Line), owGrantS (x.getD i zNotify).Grants, nI (x.getD i zNotify).Ones, nI (x.getD i zNotify).Spilt, nI (x.getD i zNotify).Taken]⟩)] []) := by kernel_rfl
theorem h100 (Γ : Orc) (H : Hd) (x : (List VNotify)) (y : (List VNotify)) (k i : Int) : hed Tryz.prog cfg Γ 100 H [owNotifyS x] P100 (S100 x y k i) =
 bif decide (i < zN y.length) then
  (bif bif decide (0 ≤ i) then decide (i < zN y.length) else false then
   (bif bif decide (0 ≤ i) then decide (i < zN y.length) else false then
    (Option.bind (Γ 15 [AV.rf 0, nI (IntKind.i64.wrap (k + 1))] [AV.own (y.getD i.toNat zNotify).Line.length 1 (gI (y.getD i.toNat zNotify).Line)]) fun r3 =>
    bif bif decide (0 ≤ i) then decide (i < zN y.length) else false then
     (Option.bind (Γ 179 [AV.rf 0, nI (asI r3.fst)] [owGrantS (y.getD i.toNat zNotify).Grants]) fun r5 =>
     bif bif decide (0 ≤ i) then decide (i < zN y.length) else false then
      (bif bif decide (0 ≤ i) then decide (i < zN y.length) else false then
       (bif bif decide (0 ≤ i) then decide (i < zN y.length) else false then
        (H [true, false, true] (hdS [(0, AV.rf 0), (1, nI (IntKind.i64.wrap (IntKind.i64.wrap (IntKind.i64.wrap (asI r5.fst + 1) + 1) + 1))), (5, nI (IntKind.i64.wrap (i + 1)))] [(0, ⟨y.length, 6, fun i_1 => lstG [AV.B (bif decide (i_1 = i.toNat) then decide (k.tmod 3 = 0) else (y.getD i_1 zNotify).Permit), AV.own (bif decide (i_1 = i.toNat) then (y.getD i.toNat zNotify).Line.length else (y.getD i_1 zNotify).Line.length) 1 fun i_2 => lstG [nI (bif decide (i_1 = i.toNat) then asI (asG (r3.snd.headD AV.bad) i_2 0) else (y.getD i_1 zNotify).Line.getD i_2 0)], AV.own (bif decide (i_1 = i.toNat) then (y.getD i.toNat zNotify).Grants.length else (y.getD i_1 zNotify).Grants.length) 2 fun i_2 => lstG [nI (bif decide (i_1 = i.toNat) then asI (asG (r5.snd.headD AV.bad) i_2 0) else ((y.getD i_1 zNotify).Grants.getD i_2 zGrant).Who), AV.B (bif decide (i_1 = i.toNat) then asB (asG (r5.snd.headD AV.bad) i_2 1) else ((y.getD i_1 zNotify).Grants.getD i_2 zGrant).One)], nI (bif decide (i_1 = i.toNat) then asI r5.fst else (y.getD i_1 zNotify).Ones), nI (bif decide (i_1 = i.toNat) then IntKind.i64.wrap (asI r5.fst + 1) else (y.getD i_1 zNotify).Spilt), nI (bif decide (i_1 = i.toNat) then IntKind.i64.wrap (IntKind.i64.wrap (asI r5.fst + 1) + 1) else (y.getD i_1 zNotify).Taken)]⟩)] []))
       else
        (none))
      else
       (none))
     else
      (none))
    else
     (none))
   else
    (none))
  else
   (none))
 else
  (bif okF 6 (fun j => goNotifyS x 0 j) (fun i j => (goNotifyS y i j)) then
   (some (nI k, [AV.own x.length 6 fun i => lstG [AV.B (y.getD i zNotify).Permit, AV.own (y.getD i zNotify).Line.length 1 (gI (y.getD i zNotify).Line), owGrantS (y.getD i zNotify).Grants, nI (y.getD i zNotify).Ones, nI (y.getD i zNotify).Spilt, nI (y.getD i zNotify).Taken]]))
  else
   (none)) := by kernel_rfl
theorem e182 (Γ : Orc) (H : Hd) (x : (List VSub)) (k : Int) : ent Tryz.prog cfg Γ 182 H [.rf 0, nI k] [owSubS x] =
 H [true, false, true] (hdS [(0, AV.rf 0), (1, nI k), (5, nI 0)] [(0, ⟨x.length, 7, (goSubS x)⟩)] []) := by kernel_rfl
theorem h182 (Γ : Orc) (H : Hd) (x : (List VSub)) (y : (List VSub)) (k i : Int) : hed Tryz.prog cfg Γ 182 H [owSubS x] P182 (S182 x y k i) =
 bif decide (i < zN y.length) then
  (bif bif decide (0 ≤ i) then decide (i < zN y.length) else false then
   (bif bif decide (0 ≤ i) then decide (i < zN y.length) else false then
    (bif bif decide (0 ≤ i) then decide (i < zN y.length) else false then
     (bif bif decide (0 ≤ i) then decide (i < zN y.length) else false then
      (bif bif decide (0 ≤ i) then decide (i < zN y.length) else false then
       (bif bif decide (0 ≤ i) then decide (i < zN y.length) else false then
        (bif bif decide (0 ≤ i) then decide (i < zN y.length) else false then
         (Option.bind (Γ 185 [AV.rf 0, nI (IntKind.i64.wrap (IntKind.i64.wrap (IntKind.i64.wrap (IntKind.i64.wrap (IntKind.i64.wrap (IntKind.i64.wrap (k + 1) + 1) + 1) + 1) + 1) + 1))] [owTermS (y.getD i.toNat zSub).Filter]) fun r8 =>
         H [true, false, true] (hdS [(0, AV.rf 0), (1, nI (asI r8.fst)), (5, nI (IntKind.i64.wrap (i + 1)))] [(0, ⟨y.length, 7, fun i_1 => lstG [nI (bif decide (i_1 = i.toNat) then k else (y.getD i_1 zSub).Id), nI (bif decide (i_1 = i.toNat) then IntKind.i64.wrap (k + 1) else (y.getD i_1 zSub).Start), nI (bif decide (i_1 = i.toNat) then IntKind.i64.wrap (IntKind.i64.wrap (k + 1) + 1) else (y.getD i_1 zSub).Cursor), nI (bif decide (i_1 = i.toNat) then IntKind.i64.wrap (IntKind.i64.wrap (IntKind.i64.wrap (k + 1) + 1) + 1) else (y.getD i_1 zSub).Got), nI (bif decide (i_1 = i.toNat) then IntKind.i64.wrap (IntKind.i64.wrap (IntKind.i64.wrap (IntKind.i64.wrap (k + 1) + 1) + 1) + 1) else (y.getD i_1 zSub).Lost), nI (bif decide (i_1 = i.toNat) then IntKind.i64.wrap (IntKind.i64.wrap (IntKind.i64.wrap (IntKind.i64.wrap (IntKind.i64.wrap (k + 1) + 1) + 1) + 1) + 1) else (y.getD i_1 zSub).Passed), AV.own (bif decide (i_1 = i.toNat) then (y.getD i.toNat zSub).Filter.length else (y.getD i_1 zSub).Filter.length) 3 fun i_2 => lstG [nI (bif decide (i_1 = i.toNat) then asI (asG (r8.snd.headD AV.bad) i_2 0) else ((y.getD i_1 zSub).Filter.getD i_2 zTerm).Op), nI (bif decide (i_1 = i.toNat) then asI (asG (r8.snd.headD AV.bad) i_2 1) else ((y.getD i_1 zSub).Filter.getD i_2 zTerm).Num), AV.S (bif decide (i_1 = i.toNat) then asS (asG (r8.snd.headD AV.bad) i_2 2) else ((y.getD i_1 zSub).Filter.getD i_2 zTerm).Text)]]⟩)] []))
        else
         (none))
       else
        (none))
      else
       (none))
     else
      (none))
    else
     (none))
   else
    (none))
  else
   (none))
 else
  (bif okF 7 (fun j => goSubS x 0 j) (fun i j => (goSubS y i j)) then
   (some (nI k, [AV.own x.length 7 (goSubS y)]))
  else
   (none)) := by kernel_rfl
theorem e185 (Γ : Orc) (H : Hd) (x : (List VTerm)) (k : Int) : ent Tryz.prog cfg Γ 185 H [.rf 0, nI k] [owTermS x] =
 H [true, false, true] (hdS [(0, AV.rf 0), (1, nI k), (5, nI 0)] [(0, ⟨x.length, 3, (goTermS x)⟩)] []) := by kernel_rfl
theorem h185 (Γ : Orc) (H : Hd) (x : (List VTerm)) (y : (List VTerm)) (k i : Int) : hed Tryz.prog cfg Γ 185 H [owTermS x] P185 (S185 x y k i) =
 bif decide (i < zN y.length) then
  (bif bif decide (0 ≤ i) then decide (i < zN y.length) else false then
   (bif bif decide (0 ≤ i) then decide (i < zN y.length) else false then
    (Option.bind (Γ 180 [nI (IntKind.i64.wrap (IntKind.i64.wrap (k + 1) + 1))] []) fun r3 =>
    bif bif decide (0 ≤ i) then decide (i < zN y.length) else false then
     (H [true, false, true] (hdS [(0, AV.rf 0), (1, nI (IntKind.i64.wrap (IntKind.i64.wrap (IntKind.i64.wrap (k + 1) + 1) + 1))), (5, nI (IntKind.i64.wrap (i + 1)))] [(0, ⟨y.length, 3, fun i_1 => lstG [nI (bif decide (i_1 = i.toNat) then k else (y.getD i_1 zTerm).Op), nI (bif decide (i_1 = i.toNat) then IntKind.i64.wrap (k + 1) else (y.getD i_1 zTerm).Num), AV.S (bif decide (i_1 = i.toNat) then asS r3.fst else (y.getD i_1 zTerm).Text)]⟩)] []))
    else
     (none))
   else
    (none))
  else
   (none))
 else
  (bif okT then
   (some (nI k, [AV.own x.length 3 (goTermS y)]))
  else
   (none)) := by kernel_rfl
theorem e178 (Γ : Orc) (H : Hd) (x : (List VTimer)) (k : Int) : ent Tryz.prog cfg Γ 178 H [.rf 0, nI k] [owTimerS x] =
 H [true, false, true] (hdS [(0, AV.rf 0), (1, nI k), (5, nI 0)] [(0, ⟨x.length, 2, (goTimerS x)⟩)] []) := by kernel_rfl
theorem h178 (Γ : Orc) (H : Hd) (x : (List VTimer)) (y : (List VTimer)) (k i : Int) : hed Tryz.prog cfg Γ 178 H [owTimerS x] P178 (S178 x y k i) =
 bif decide (i < zN y.length) then
  (bif bif decide (0 ≤ i) then decide (i < zN y.length) else false then
   (bif bif decide (0 ≤ i) then decide (i < zN y.length) else false then
    (H [true, false, true] (hdS [(0, AV.rf 0), (1, nI (IntKind.i64.wrap (IntKind.i64.wrap (k + 1) + 1))), (5, nI (IntKind.i64.wrap (i + 1)))] [(0, ⟨y.length, 2, fun i_1 => lstG [nI (bif decide (i_1 = i.toNat) then k else (y.getD i_1 zTimer).At), nI (bif decide (i_1 = i.toNat) then IntKind.i64.wrap (k + 1) else (y.getD i_1 zTimer).Token)]⟩)] []))
   else
    (none))
  else
   (none))
 else
  (bif okT then
   (some (nI k, [AV.own x.length 2 (goTimerS y)]))
  else
   (none)) := by kernel_rfl
theorem e104 (Γ : Orc) (H : Hd) (x : (List VTopic)) (k : Int) : ent Tryz.prog cfg Γ 104 H [.rf 0, nI k] [owTopicS x] =
 H [true, false, true] (hdS [(0, AV.rf 0), (1, nI k), (5, nI 0)] [(0, ⟨x.length, 9, fun i => lstG [AV.S (x.getD i zTopic).Name, nI (x.getD i zTopic).Ring.Cap, nI (x.getD i zTopic).Ring.Sent, owMsgS (x.getD i zTopic).Ring.Items, nI (x.getD i zTopic).Ring.Next, owSubS (x.getD i zTopic).Ring.Subs, AV.own (x.getD i zTopic).Ring.Line.length 1 (gI (x.getD i zTopic).Ring.Line), AV.own (x.getD i zTopic).Ring.Grants.length 1 (gI (x.getD i zTopic).Ring.Grants), AV.B (x.getD i zTopic).Ring.Closed]⟩)] []) := by kernel_rfl
theorem h104 (Γ : Orc) (H : Hd) (x : (List VTopic)) (y : (List VTopic)) (k i : Int) : hed Tryz.prog cfg Γ 104 H [owTopicS x] P104 (S104 x y k i) =
 bif decide (i < zN y.length) then
  (Option.bind (Γ 180 [nI k] []) fun r1 =>
  bif bif decide (0 ≤ i) then decide (i < zN y.length) else false then
   (bif bif decide (0 ≤ i) then decide (i < zN y.length) else false then
    (bif bif decide (0 ≤ i) then decide (i < zN y.length) else false then
     (bif bif decide (0 ≤ i) then decide (i < zN y.length) else false then
      (Option.bind (Γ 181 [AV.rf 0, nI (IntKind.i64.wrap (IntKind.i64.wrap (IntKind.i64.wrap (k + 1) + 1) + 1))] [owMsgS (y.getD i.toNat zTopic).Ring.Items]) fun r6 =>
      bif bif decide (0 ≤ i) then decide (i < zN y.length) else false then
       (bif bif decide (0 ≤ i) then decide (i < zN y.length) else false then
        (Option.bind (Γ 182 [AV.rf 0, nI (IntKind.i64.wrap (asI r6.fst + 1))] [AV.own (y.getD i.toNat zTopic).Ring.Subs.length 7 (goSubS (y.getD i.toNat zTopic).Ring.Subs)]) fun r9 =>
        bif bif decide (0 ≤ i) then decide (i < zN y.length) else false then
         (Option.bind (Γ 15 [AV.rf 0, nI (asI r9.fst)] [AV.own (y.getD i.toNat zTopic).Ring.Line.length 1 (gI (y.getD i.toNat zTopic).Ring.Line)]) fun r11 =>
         bif bif decide (0 ≤ i) then decide (i < zN y.length) else false then
          (Option.bind (Γ 15 [AV.rf 0, nI (asI r11.fst)] [AV.own (y.getD i.toNat zTopic).Ring.Grants.length 1 (gI (y.getD i.toNat zTopic).Ring.Grants)]) fun r13 =>
          bif bif decide (0 ≤ i) then decide (i < zN y.length) else false then
           (H [true, false, true] (hdS [(0, AV.rf 0), (1, nI (IntKind.i64.wrap (asI r13.fst + 1))), (5, nI (IntKind.i64.wrap (i + 1)))] [(0, ⟨y.length, 9, fun i_1 => lstG [AV.S (bif decide (i_1 = i.toNat) then asS r1.fst else (y.getD i_1 zTopic).Name), nI (bif decide (i_1 = i.toNat) then IntKind.i64.wrap (k + 1) else (y.getD i_1 zTopic).Ring.Cap), nI (bif decide (i_1 = i.toNat) then IntKind.i64.wrap (IntKind.i64.wrap (k + 1) + 1) else (y.getD i_1 zTopic).Ring.Sent), AV.own (bif decide (i_1 = i.toNat) then (y.getD i.toNat zTopic).Ring.Items.length else (y.getD i_1 zTopic).Ring.Items.length) 3 fun i_2 => lstG [nI (bif decide (i_1 = i.toNat) then asI (asG (r6.snd.headD AV.bad) i_2 0) else ((y.getD i_1 zTopic).Ring.Items.getD i_2 zMsg).Kind), nI (bif decide (i_1 = i.toNat) then asI (asG (r6.snd.headD AV.bad) i_2 1) else ((y.getD i_1 zTopic).Ring.Items.getD i_2 zMsg).Num), AV.S (bif decide (i_1 = i.toNat) then asS (asG (r6.snd.headD AV.bad) i_2 2) else ((y.getD i_1 zTopic).Ring.Items.getD i_2 zMsg).Text)], nI (bif decide (i_1 = i.toNat) then asI r6.fst else (y.getD i_1 zTopic).Ring.Next), AV.own (bif decide (i_1 = i.toNat) then (y.getD i.toNat zTopic).Ring.Subs.length else (y.getD i_1 zTopic).Ring.Subs.length) 7 fun i_2 => lstG [nI (bif decide (i_1 = i.toNat) then asI (asG (r9.snd.headD AV.bad) i_2 0) else ((y.getD i_1 zTopic).Ring.Subs.getD i_2 zSub).Id), nI (bif decide (i_1 = i.toNat) then asI (asG (r9.snd.headD AV.bad) i_2 1) else ((y.getD i_1 zTopic).Ring.Subs.getD i_2 zSub).Start), nI (bif decide (i_1 = i.toNat) then asI (asG (r9.snd.headD AV.bad) i_2 2) else ((y.getD i_1 zTopic).Ring.Subs.getD i_2 zSub).Cursor), nI (bif decide (i_1 = i.toNat) then asI (asG (r9.snd.headD AV.bad) i_2 3) else ((y.getD i_1 zTopic).Ring.Subs.getD i_2 zSub).Got), nI (bif decide (i_1 = i.toNat) then asI (asG (r9.snd.headD AV.bad) i_2 4) else ((y.getD i_1 zTopic).Ring.Subs.getD i_2 zSub).Lost), nI (bif decide (i_1 = i.toNat) then asI (asG (r9.snd.headD AV.bad) i_2 5) else ((y.getD i_1 zTopic).Ring.Subs.getD i_2 zSub).Passed), AV.own (bif decide (i_1 = i.toNat) then asN (asG (r9.snd.headD AV.bad) i_2 6) else ((y.getD i_1 zTopic).Ring.Subs.getD i_2 zSub).Filter.length) 3 fun i_3 => lstG [nI (bif decide (i_1 = i.toNat) then asI (asG (asG (r9.snd.headD AV.bad) i_2 6) i_3 0) else (((y.getD i_1 zTopic).Ring.Subs.getD i_2 zSub).Filter.getD i_3 zTerm).Op), nI (bif decide (i_1 = i.toNat) then asI (asG (asG (r9.snd.headD AV.bad) i_2 6) i_3 1) else (((y.getD i_1 zTopic).Ring.Subs.getD i_2 zSub).Filter.getD i_3 zTerm).Num), AV.S (bif decide (i_1 = i.toNat) then asS (asG (asG (r9.snd.headD AV.bad) i_2 6) i_3 2) else (((y.getD i_1 zTopic).Ring.Subs.getD i_2 zSub).Filter.getD i_3 zTerm).Text)]], AV.own (bif decide (i_1 = i.toNat) then (y.getD i.toNat zTopic).Ring.Line.length else (y.getD i_1 zTopic).Ring.Line.length) 1 fun i_2 => lstG [nI (bif decide (i_1 = i.toNat) then asI (asG (r11.snd.headD AV.bad) i_2 0) else (y.getD i_1 zTopic).Ring.Line.getD i_2 0)], AV.own (bif decide (i_1 = i.toNat) then (y.getD i.toNat zTopic).Ring.Grants.length else (y.getD i_1 zTopic).Ring.Grants.length) 1 fun i_2 => lstG [nI (bif decide (i_1 = i.toNat) then asI (asG (r13.snd.headD AV.bad) i_2 0) else (y.getD i_1 zTopic).Ring.Grants.getD i_2 0)], AV.B (bif decide (i_1 = i.toNat) then decide ((asI r13.fst).tmod 3 = 0) else (y.getD i_1 zTopic).Ring.Closed)]⟩)] []))
          else
           (none))
         else
          (none))
        else
         (none))
       else
        (none))
      else
       (none))
     else
      (none))
    else
     (none))
   else
    (none))
  else
   (none))
 else
  (bif okF 9 (fun j => goTopicS x 0 j) (fun i j => (goTopicS y i j)) then
   (some (nI k, [AV.own x.length 9 fun i => lstG [AV.S (y.getD i zTopic).Name, nI (y.getD i zTopic).Ring.Cap, nI (y.getD i zTopic).Ring.Sent, owMsgS (y.getD i zTopic).Ring.Items, nI (y.getD i zTopic).Ring.Next, owSubS (y.getD i zTopic).Ring.Subs, AV.own (y.getD i zTopic).Ring.Line.length 1 (gI (y.getD i zTopic).Ring.Line), AV.own (y.getD i zTopic).Ring.Grants.length 1 (gI (y.getD i zTopic).Ring.Grants), AV.B (y.getD i zTopic).Ring.Closed]]))
  else
   (none)) := by kernel_rfl
theorem e106 (Γ : Orc) (H : Hd) (x : (List VUser)) (k : Int) : ent Tryz.prog cfg Γ 106 H [.rf 0, nI k] [owUserS x] =
 H [true, false, true] (hdS [(0, AV.rf 0), (1, nI k), (5, nI 0)] [(0, ⟨x.length, 2, fun i => lstG [owHitS (x.getD i zUser).Subs, AV.own (x.getD i zUser).Seen.length 1 (gI (x.getD i zUser).Seen)]⟩)] []) := by kernel_rfl
theorem h106 (Γ : Orc) (H : Hd) (x : (List VUser)) (y : (List VUser)) (k i : Int) : hed Tryz.prog cfg Γ 106 H [owUserS x] P106 (S106 x y k i) =
 bif decide (i < zN y.length) then
  (bif bif decide (0 ≤ i) then decide (i < zN y.length) else false then
   (Option.bind (Γ 184 [AV.rf 0, nI k] [owHitS (y.getD i.toNat zUser).Subs]) fun r2 =>
   bif bif decide (0 ≤ i) then decide (i < zN y.length) else false then
    (Option.bind (Γ 15 [AV.rf 0, nI (asI r2.fst)] [AV.own (y.getD i.toNat zUser).Seen.length 1 (gI (y.getD i.toNat zUser).Seen)]) fun r4 =>
    H [true, false, true] (hdS [(0, AV.rf 0), (1, nI (asI r4.fst)), (5, nI (IntKind.i64.wrap (i + 1)))] [(0, ⟨y.length, 2, fun i_1 => lstG [AV.own (bif decide (i_1 = i.toNat) then (y.getD i.toNat zUser).Subs.length else (y.getD i_1 zUser).Subs.length) 2 fun i_2 => lstG [nI (bif decide (i_1 = i.toNat) then asI (asG (r2.snd.headD AV.bad) i_2 0) else ((y.getD i_1 zUser).Subs.getD i_2 zHit).Topic), nI (bif decide (i_1 = i.toNat) then asI (asG (r2.snd.headD AV.bad) i_2 1) else ((y.getD i_1 zUser).Subs.getD i_2 zHit).Id)], AV.own (bif decide (i_1 = i.toNat) then (y.getD i.toNat zUser).Seen.length else (y.getD i_1 zUser).Seen.length) 1 fun i_2 => lstG [nI (bif decide (i_1 = i.toNat) then asI (asG (r4.snd.headD AV.bad) i_2 0) else (y.getD i_1 zUser).Seen.getD i_2 0)]]⟩)] []))
   else
    (none))
  else
   (none))
 else
  (bif okF 2 (fun j => goUserS x 0 j) (fun i j => (goUserS y i j)) then
   (some (nI k, [AV.own x.length 2 fun i => lstG [owHitS (y.getD i zUser).Subs, AV.own (y.getD i zUser).Seen.length 1 (gI (y.getD i zUser).Seen)]]))
  else
   (none)) := by kernel_rfl
theorem e16 (Γ : Orc) (H : Hd) (x : (List Int)) (k : Int) : ent Tryz.prog cfg Γ 16 H [slIntS x, nI k] [] =
 H P16 (S16 x k 0) := by kernel_rfl
theorem h16 (Γ : Orc) (H : Hd) (x : (List Int)) (k i : Int) : hed Tryz.prog cfg Γ 16 H [] P16 (S16 x k i) =
 bif decide (i < zN x.length) then
  (bif bif decide (0 ≤ i) then decide (i < zN x.length) else false then
   (bif !decide (x.getD i.toNat 0 = k) then
    (some (nI (-1), []))
   else
    (H P16 (S16 x (IntKind.i64.wrap (k + 1)) (IntKind.i64.wrap (i + 1)))))
  else
   (none))
 else
  (some (nI k, [])) := by kernel_rfl
theorem e98 (Γ : Orc) (H : Hd) (x : VTokens) (k : Int) : ent Tryz.prog cfg Γ 98 H [.ag 2 (lstG [.rf 0, .rf 4096]), nI k] [owIntS x.Parents, owBoolS x.Off] =
 Option.bind (Γ 15 [AV.rf 0, nI k] [AV.own x.Parents.length 1 (gI x.Parents)]) fun r0 =>
 Option.bind (Γ 177 [AV.rf 0, nI (asI r0.fst)] [owBoolS x.Off]) fun r1 =>
 bif okT then
  (bif okT then
   (some (nI (asI r1.fst), [AV.own x.Parents.length 1 fun i => lstG [nI (asI (asG (r0.snd.headD AV.bad) i 0))], AV.own x.Off.length 1 fun i => lstG [AV.B (asB (asG (r1.snd.headD AV.bad) i 0))]]))
  else
   (none))
 else
  (none) := by kernel_rfl
theorem e99 (Γ : Orc) (H : Hd) (x : VClock) (k : Int) : ent Tryz.prog cfg Γ 99 H [.ag 2 (lstG [nI x.Now, .rf 0]), nI k] [owTimerS x.Timers] =
 Option.bind (Γ 178 [AV.rf 0, nI k] [owTimerS x.Timers]) fun r0 =>
 bif okT then
  (some (nI (asI r0.fst), [AV.own x.Timers.length 2 fun i => lstG [nI (asI (asG (r0.snd.headD AV.bad) i 0)), nI (asI (asG (r0.snd.headD AV.bad) i 1))]]))
 else
  (none) := by kernel_rfl
theorem e32 (Γ : Orc) (H : Hd) (x : VHub) (k : Int) : ent Tryz.prog cfg Γ 32 H [.ag 11 (lstG [.rf 0, .rf 4096, nI x.Clock.Now, .rf 8192, .rf 12288, .rf 16384, .rf 20480, .rf 24576, .rf 28672, .rf 32768, .rf 36864]), nI k] [owIntS x.Tokens.Parents, owBoolS x.Tokens.Off, owTimerS x.Clock.Timers, owNotifyS x.Notes, owEventS x.Events, owLatchS x.Latches, owCellS x.Cells, owTopicS x.Topics, owMergeS x.Merges, owUserS x.Users] =
 Option.bind (Γ 98 [AV.ag 2 (lstG [AV.rf 0, AV.rf 4096]), nI k] [AV.own x.Tokens.Parents.length 1 (gI x.Tokens.Parents), owBoolS x.Tokens.Off]) fun r0 =>
 Option.bind (Γ 99 [AV.ag 2 (lstG [nI x.Clock.Now, AV.rf 0]), nI (asI r0.fst)] [owTimerS x.Clock.Timers]) fun r1 =>
 Option.bind (Γ 100 [AV.rf 0, nI (asI r1.fst)] [AV.own x.Notes.length 6 fun i => lstG [AV.B (x.Notes.getD i zNotify).Permit, AV.own (x.Notes.getD i zNotify).Line.length 1 (gI (x.Notes.getD i zNotify).Line), owGrantS (x.Notes.getD i zNotify).Grants, nI (x.Notes.getD i zNotify).Ones, nI (x.Notes.getD i zNotify).Spilt, nI (x.Notes.getD i zNotify).Taken]]) fun r2 =>
 Option.bind (Γ 101 [AV.rf 0, nI (asI r2.fst)] [AV.own x.Events.length 7 fun i => lstG [AV.B (x.Events.getD i zEvent).Auto, AV.B (x.Events.getD i zEvent).Up, AV.own (x.Events.getD i zEvent).Line.length 1 (gI (x.Events.getD i zEvent).Line), AV.own (x.Events.getD i zEvent).Grants.length 1 (gI (x.Events.getD i zEvent).Grants), nI (x.Events.getD i zEvent).Sets, nI (x.Events.getD i zEvent).Spilt, nI (x.Events.getD i zEvent).Taken]]) fun r3 =>
 Option.bind (Γ 102 [AV.rf 0, nI (asI r3.fst)] [AV.own x.Latches.length 3 fun i => lstG [nI (x.Latches.getD i zLatch).Count, AV.own (x.Latches.getD i zLatch).Line.length 1 (gI (x.Latches.getD i zLatch).Line), AV.own (x.Latches.getD i zLatch).Grants.length 1 (gI (x.Latches.getD i zLatch).Grants)]]) fun r4 =>
 Option.bind (Γ 103 [AV.rf 0, nI (asI r4.fst)] [AV.own x.Cells.length 7 fun i => lstG [nI (x.Cells.getD i zCell).Val.Kind, nI (x.Cells.getD i zCell).Val.Num, AV.S (x.Cells.getD i zCell).Val.Text, nI (x.Cells.getD i zCell).Version, AV.B (x.Cells.getD i zCell).Closed, AV.own (x.Cells.getD i zCell).Line.length 1 (gI (x.Cells.getD i zCell).Line), AV.own (x.Cells.getD i zCell).Grants.length 1 (gI (x.Cells.getD i zCell).Grants)]]) fun r5 =>
 Option.bind (Γ 104 [AV.rf 0, nI (asI r5.fst)] [AV.own x.Topics.length 9 fun i => lstG [AV.S (x.Topics.getD i zTopic).Name, nI (x.Topics.getD i zTopic).Ring.Cap, nI (x.Topics.getD i zTopic).Ring.Sent, owMsgS (x.Topics.getD i zTopic).Ring.Items, nI (x.Topics.getD i zTopic).Ring.Next, AV.own (x.Topics.getD i zTopic).Ring.Subs.length 7 (goSubS (x.Topics.getD i zTopic).Ring.Subs), AV.own (x.Topics.getD i zTopic).Ring.Line.length 1 (gI (x.Topics.getD i zTopic).Ring.Line), AV.own (x.Topics.getD i zTopic).Ring.Grants.length 1 (gI (x.Topics.getD i zTopic).Ring.Grants), AV.B (x.Topics.getD i zTopic).Ring.Closed]]) fun r6 =>
 Option.bind (Γ 105 [AV.rf 0, nI (asI r6.fst)] [owMergeS x.Merges]) fun r7 =>
 Option.bind (Γ 106 [AV.rf 0, nI (asI r7.fst)] [AV.own x.Users.length 2 fun i => lstG [owHitS (x.Users.getD i zUser).Subs, AV.own (x.Users.getD i zUser).Seen.length 1 (gI (x.Users.getD i zUser).Seen)]]) fun r8 =>
 bif okT then
  (bif okT then
   (bif okT then
    (bif okF 6 (fun j => goNotifyS x.Notes 0 j) (fun i j => (lstG [AV.B (asB (asG (r2.snd.headD AV.bad) i 0)), vowIntS (asG (r2.snd.headD AV.bad) i 1), vowGrantS (asG (r2.snd.headD AV.bad) i 2), nI (asI (asG (r2.snd.headD AV.bad) i 3)), nI (asI (asG (r2.snd.headD AV.bad) i 4)), nI (asI (asG (r2.snd.headD AV.bad) i 5))] j)) then
     (bif okF 7 (fun j => goEventS x.Events 0 j) (fun i j => (lstG [AV.B (asB (asG (r3.snd.headD AV.bad) i 0)), AV.B (asB (asG (r3.snd.headD AV.bad) i 1)), vowIntS (asG (r3.snd.headD AV.bad) i 2), vowIntS (asG (r3.snd.headD AV.bad) i 3), nI (asI (asG (r3.snd.headD AV.bad) i 4)), nI (asI (asG (r3.snd.headD AV.bad) i 5)), nI (asI (asG (r3.snd.headD AV.bad) i 6))] j)) then
      (bif okF 3 (fun j => goLatchS x.Latches 0 j) (fun i j => (lstG [nI (asI (asG (r4.snd.headD AV.bad) i 0)), vowIntS (asG (r4.snd.headD AV.bad) i 1), vowIntS (asG (r4.snd.headD AV.bad) i 2)] j)) then
       (bif okF 7 (fun j => goCellS x.Cells 0 j) (fun i j => (lstG [nI (asI (asG (r5.snd.headD AV.bad) i 0)), nI (asI (asG (r5.snd.headD AV.bad) i 1)), AV.S (asS (asG (r5.snd.headD AV.bad) i 2)), nI (asI (asG (r5.snd.headD AV.bad) i 3)), AV.B (asB (asG (r5.snd.headD AV.bad) i 4)), vowIntS (asG (r5.snd.headD AV.bad) i 5), vowIntS (asG (r5.snd.headD AV.bad) i 6)] j)) then
        (bif okF 9 (fun j => goTopicS x.Topics 0 j) (fun i j => (lstG [AV.S (asS (asG (r6.snd.headD AV.bad) i 0)), nI (asI (asG (r6.snd.headD AV.bad) i 1)), nI (asI (asG (r6.snd.headD AV.bad) i 2)), vowMsgS (asG (r6.snd.headD AV.bad) i 3), nI (asI (asG (r6.snd.headD AV.bad) i 4)), AV.own (asN (asG (r6.snd.headD AV.bad) i 5)) 7 fun i_1 => lstG [nI (asI (asG (asG (r6.snd.headD AV.bad) i 5) i_1 0)), nI (asI (asG (asG (r6.snd.headD AV.bad) i 5) i_1 1)), nI (asI (asG (asG (r6.snd.headD AV.bad) i 5) i_1 2)), nI (asI (asG (asG (r6.snd.headD AV.bad) i 5) i_1 3)), nI (asI (asG (asG (r6.snd.headD AV.bad) i 5) i_1 4)), nI (asI (asG (asG (r6.snd.headD AV.bad) i 5) i_1 5)), vowMsgS (asG (asG (r6.snd.headD AV.bad) i 5) i_1 6)], vowIntS (asG (r6.snd.headD AV.bad) i 6), vowIntS (asG (r6.snd.headD AV.bad) i 7), AV.B (asB (asG (r6.snd.headD AV.bad) i 8))] j)) then
         (bif okF 3 (fun j => goMergeS x.Merges 0 j) (fun i j => (lstG [vowLegS (asG (r7.snd.headD AV.bad) i 0), nI (asI (asG (r7.snd.headD AV.bad) i 1)), nI (asI (asG (r7.snd.headD AV.bad) i 2))] j)) then
          (bif okF 2 (fun j => goUserS x.Users 0 j) (fun i j => (lstG [vowTimerS (asG (r8.snd.headD AV.bad) i 0), vowIntS (asG (r8.snd.headD AV.bad) i 1)] j)) then
           (some (nI (asI r8.fst), [AV.own x.Tokens.Parents.length 1 fun i => lstG [nI (asI (asG (r0.snd.headD AV.bad) i 0))], AV.own x.Tokens.Off.length 1 fun i => lstG [AV.B (asB (asG (r0.snd.tail.headD AV.bad) i 0))], AV.own x.Clock.Timers.length 2 fun i => lstG [nI (asI (asG (r1.snd.headD AV.bad) i 0)), nI (asI (asG (r1.snd.headD AV.bad) i 1))], AV.own x.Notes.length 6 fun i => lstG [AV.B (asB (asG (r2.snd.headD AV.bad) i 0)), vowIntS (asG (r2.snd.headD AV.bad) i 1), vowGrantS (asG (r2.snd.headD AV.bad) i 2), nI (asI (asG (r2.snd.headD AV.bad) i 3)), nI (asI (asG (r2.snd.headD AV.bad) i 4)), nI (asI (asG (r2.snd.headD AV.bad) i 5))], AV.own x.Events.length 7 fun i => lstG [AV.B (asB (asG (r3.snd.headD AV.bad) i 0)), AV.B (asB (asG (r3.snd.headD AV.bad) i 1)), vowIntS (asG (r3.snd.headD AV.bad) i 2), vowIntS (asG (r3.snd.headD AV.bad) i 3), nI (asI (asG (r3.snd.headD AV.bad) i 4)), nI (asI (asG (r3.snd.headD AV.bad) i 5)), nI (asI (asG (r3.snd.headD AV.bad) i 6))], AV.own x.Latches.length 3 fun i => lstG [nI (asI (asG (r4.snd.headD AV.bad) i 0)), vowIntS (asG (r4.snd.headD AV.bad) i 1), vowIntS (asG (r4.snd.headD AV.bad) i 2)], AV.own x.Cells.length 7 fun i => lstG [nI (asI (asG (r5.snd.headD AV.bad) i 0)), nI (asI (asG (r5.snd.headD AV.bad) i 1)), AV.S (asS (asG (r5.snd.headD AV.bad) i 2)), nI (asI (asG (r5.snd.headD AV.bad) i 3)), AV.B (asB (asG (r5.snd.headD AV.bad) i 4)), vowIntS (asG (r5.snd.headD AV.bad) i 5), vowIntS (asG (r5.snd.headD AV.bad) i 6)], AV.own x.Topics.length 9 fun i => lstG [AV.S (asS (asG (r6.snd.headD AV.bad) i 0)), nI (asI (asG (r6.snd.headD AV.bad) i 1)), nI (asI (asG (r6.snd.headD AV.bad) i 2)), vowMsgS (asG (r6.snd.headD AV.bad) i 3), nI (asI (asG (r6.snd.headD AV.bad) i 4)), AV.own (asN (asG (r6.snd.headD AV.bad) i 5)) 7 fun i_1 => lstG [nI (asI (asG (asG (r6.snd.headD AV.bad) i 5) i_1 0)), nI (asI (asG (asG (r6.snd.headD AV.bad) i 5) i_1 1)), nI (asI (asG (asG (r6.snd.headD AV.bad) i 5) i_1 2)), nI (asI (asG (asG (r6.snd.headD AV.bad) i 5) i_1 3)), nI (asI (asG (asG (r6.snd.headD AV.bad) i 5) i_1 4)), nI (asI (asG (asG (r6.snd.headD AV.bad) i 5) i_1 5)), vowMsgS (asG (asG (r6.snd.headD AV.bad) i 5) i_1 6)], vowIntS (asG (r6.snd.headD AV.bad) i 6), vowIntS (asG (r6.snd.headD AV.bad) i 7), AV.B (asB (asG (r6.snd.headD AV.bad) i 8))], AV.own x.Merges.length 3 fun i => lstG [vowLegS (asG (r7.snd.headD AV.bad) i 0), nI (asI (asG (r7.snd.headD AV.bad) i 1)), nI (asI (asG (r7.snd.headD AV.bad) i 2))], AV.own x.Users.length 2 fun i => lstG [vowTimerS (asG (r8.snd.headD AV.bad) i 0), vowIntS (asG (r8.snd.headD AV.bad) i 1)]]))
          else
           (none))
         else
          (none))
        else
         (none))
       else
        (none))
      else
       (none))
     else
      (none))
    else
     (none))
   else
    (none))
  else
   (none))
 else
  (none) := by kernel_rfl
theorem e14 (Γ : Orc) (H : Hd) (x : VState) (k : Int) : ent Tryz.prog cfg Γ 14 H [.ag 12 (lstG [.rf 0, .rf 4096, nI x.Hub.Clock.Now, .rf 8192, .rf 12288, .rf 16384, .rf 20480, .rf 24576, .rf 28672, .rf 32768, .rf 36864, .rf 40960]), nI k] [owIntS x.Hub.Tokens.Parents, owBoolS x.Hub.Tokens.Off, owTimerS x.Hub.Clock.Timers, owNotifyS x.Hub.Notes, owEventS x.Hub.Events, owLatchS x.Hub.Latches, owCellS x.Hub.Cells, owTopicS x.Hub.Topics, owMergeS x.Hub.Merges, owUserS x.Hub.Users, owClientS x.Clients] =
 Option.bind (Γ 32 [AV.ag 11 (lstG [AV.rf 0, AV.rf 4096, nI x.Hub.Clock.Now, AV.rf 8192, AV.rf 12288, AV.rf 16384, AV.rf 20480, AV.rf 24576, AV.rf 28672, AV.rf 32768, AV.rf 36864]), nI k] [AV.own x.Hub.Tokens.Parents.length 1 (gI x.Hub.Tokens.Parents), owBoolS x.Hub.Tokens.Off, owTimerS x.Hub.Clock.Timers, AV.own x.Hub.Notes.length 6 fun i => lstG [AV.B (x.Hub.Notes.getD i zNotify).Permit, AV.own (x.Hub.Notes.getD i zNotify).Line.length 1 (gI (x.Hub.Notes.getD i zNotify).Line), owGrantS (x.Hub.Notes.getD i zNotify).Grants, nI (x.Hub.Notes.getD i zNotify).Ones, nI (x.Hub.Notes.getD i zNotify).Spilt, nI (x.Hub.Notes.getD i zNotify).Taken], AV.own x.Hub.Events.length 7 fun i => lstG [AV.B (x.Hub.Events.getD i zEvent).Auto, AV.B (x.Hub.Events.getD i zEvent).Up, AV.own (x.Hub.Events.getD i zEvent).Line.length 1 (gI (x.Hub.Events.getD i zEvent).Line), AV.own (x.Hub.Events.getD i zEvent).Grants.length 1 (gI (x.Hub.Events.getD i zEvent).Grants), nI (x.Hub.Events.getD i zEvent).Sets, nI (x.Hub.Events.getD i zEvent).Spilt, nI (x.Hub.Events.getD i zEvent).Taken], AV.own x.Hub.Latches.length 3 fun i => lstG [nI (x.Hub.Latches.getD i zLatch).Count, AV.own (x.Hub.Latches.getD i zLatch).Line.length 1 (gI (x.Hub.Latches.getD i zLatch).Line), AV.own (x.Hub.Latches.getD i zLatch).Grants.length 1 (gI (x.Hub.Latches.getD i zLatch).Grants)], AV.own x.Hub.Cells.length 7 fun i => lstG [nI (x.Hub.Cells.getD i zCell).Val.Kind, nI (x.Hub.Cells.getD i zCell).Val.Num, AV.S (x.Hub.Cells.getD i zCell).Val.Text, nI (x.Hub.Cells.getD i zCell).Version, AV.B (x.Hub.Cells.getD i zCell).Closed, AV.own (x.Hub.Cells.getD i zCell).Line.length 1 (gI (x.Hub.Cells.getD i zCell).Line), AV.own (x.Hub.Cells.getD i zCell).Grants.length 1 (gI (x.Hub.Cells.getD i zCell).Grants)], AV.own x.Hub.Topics.length 9 fun i => lstG [AV.S (x.Hub.Topics.getD i zTopic).Name, nI (x.Hub.Topics.getD i zTopic).Ring.Cap, nI (x.Hub.Topics.getD i zTopic).Ring.Sent, owMsgS (x.Hub.Topics.getD i zTopic).Ring.Items, nI (x.Hub.Topics.getD i zTopic).Ring.Next, AV.own (x.Hub.Topics.getD i zTopic).Ring.Subs.length 7 (goSubS (x.Hub.Topics.getD i zTopic).Ring.Subs), AV.own (x.Hub.Topics.getD i zTopic).Ring.Line.length 1 (gI (x.Hub.Topics.getD i zTopic).Ring.Line), AV.own (x.Hub.Topics.getD i zTopic).Ring.Grants.length 1 (gI (x.Hub.Topics.getD i zTopic).Ring.Grants), AV.B (x.Hub.Topics.getD i zTopic).Ring.Closed], owMergeS x.Hub.Merges, AV.own x.Hub.Users.length 2 fun i => lstG [owHitS (x.Hub.Users.getD i zUser).Subs, AV.own (x.Hub.Users.getD i zUser).Seen.length 1 (gI (x.Hub.Users.getD i zUser).Seen)]]) fun r0 =>
 Option.bind (Γ 33 [AV.rf 0, nI (asI r0.fst)] [AV.own x.Clients.length 3 fun i => lstG [AV.own (x.Clients.getD i zClient).Prog.length 9 (goCallS (x.Clients.getD i zClient).Prog), nI (x.Clients.getD i zClient).At, AV.B (x.Clients.getD i zClient).Waiting]]) fun r1 =>
 bif okT then
  (bif okT then
   (bif okT then
    (bif okF 6 (fun j => goNotifyS x.Hub.Notes 0 j) (fun i j => (lstG [AV.B (asB (asG (r0.snd.tail.tail.tail.headD AV.bad) i 0)), vowIntS (asG (r0.snd.tail.tail.tail.headD AV.bad) i 1), vowGrantS (asG (r0.snd.tail.tail.tail.headD AV.bad) i 2), nI (asI (asG (r0.snd.tail.tail.tail.headD AV.bad) i 3)), nI (asI (asG (r0.snd.tail.tail.tail.headD AV.bad) i 4)), nI (asI (asG (r0.snd.tail.tail.tail.headD AV.bad) i 5))] j)) then
     (bif okF 7 (fun j => goEventS x.Hub.Events 0 j) (fun i j => (lstG [AV.B (asB (asG (r0.snd.tail.tail.tail.tail.headD AV.bad) i 0)), AV.B (asB (asG (r0.snd.tail.tail.tail.tail.headD AV.bad) i 1)), vowIntS (asG (r0.snd.tail.tail.tail.tail.headD AV.bad) i 2), vowIntS (asG (r0.snd.tail.tail.tail.tail.headD AV.bad) i 3), nI (asI (asG (r0.snd.tail.tail.tail.tail.headD AV.bad) i 4)), nI (asI (asG (r0.snd.tail.tail.tail.tail.headD AV.bad) i 5)), nI (asI (asG (r0.snd.tail.tail.tail.tail.headD AV.bad) i 6))] j)) then
      (bif okF 3 (fun j => goLatchS x.Hub.Latches 0 j) (fun i j => (lstG [nI (asI (asG (r0.snd.tail.tail.tail.tail.tail.headD AV.bad) i 0)), vowIntS (asG (r0.snd.tail.tail.tail.tail.tail.headD AV.bad) i 1), vowIntS (asG (r0.snd.tail.tail.tail.tail.tail.headD AV.bad) i 2)] j)) then
       (bif okF 7 (fun j => goCellS x.Hub.Cells 0 j) (fun i j => (lstG [nI (asI (asG (r0.snd.tail.tail.tail.tail.tail.tail.headD AV.bad) i 0)), nI (asI (asG (r0.snd.tail.tail.tail.tail.tail.tail.headD AV.bad) i 1)), AV.S (asS (asG (r0.snd.tail.tail.tail.tail.tail.tail.headD AV.bad) i 2)), nI (asI (asG (r0.snd.tail.tail.tail.tail.tail.tail.headD AV.bad) i 3)), AV.B (asB (asG (r0.snd.tail.tail.tail.tail.tail.tail.headD AV.bad) i 4)), vowIntS (asG (r0.snd.tail.tail.tail.tail.tail.tail.headD AV.bad) i 5), vowIntS (asG (r0.snd.tail.tail.tail.tail.tail.tail.headD AV.bad) i 6)] j)) then
        (bif okF 9 (fun j => goTopicS x.Hub.Topics 0 j) (fun i j => (lstG [AV.S (asS (asG (r0.snd.tail.tail.tail.tail.tail.tail.tail.headD AV.bad) i 0)), nI (asI (asG (r0.snd.tail.tail.tail.tail.tail.tail.tail.headD AV.bad) i 1)), nI (asI (asG (r0.snd.tail.tail.tail.tail.tail.tail.tail.headD AV.bad) i 2)), vowMsgS (asG (r0.snd.tail.tail.tail.tail.tail.tail.tail.headD AV.bad) i 3), nI (asI (asG (r0.snd.tail.tail.tail.tail.tail.tail.tail.headD AV.bad) i 4)), AV.own (asN (asG (r0.snd.tail.tail.tail.tail.tail.tail.tail.headD AV.bad) i 5)) 7 fun i_1 => lstG [nI (asI (asG (asG (r0.snd.tail.tail.tail.tail.tail.tail.tail.headD AV.bad) i 5) i_1 0)), nI (asI (asG (asG (r0.snd.tail.tail.tail.tail.tail.tail.tail.headD AV.bad) i 5) i_1 1)), nI (asI (asG (asG (r0.snd.tail.tail.tail.tail.tail.tail.tail.headD AV.bad) i 5) i_1 2)), nI (asI (asG (asG (r0.snd.tail.tail.tail.tail.tail.tail.tail.headD AV.bad) i 5) i_1 3)), nI (asI (asG (asG (r0.snd.tail.tail.tail.tail.tail.tail.tail.headD AV.bad) i 5) i_1 4)), nI (asI (asG (asG (r0.snd.tail.tail.tail.tail.tail.tail.tail.headD AV.bad) i 5) i_1 5)), vowMsgS (asG (asG (r0.snd.tail.tail.tail.tail.tail.tail.tail.headD AV.bad) i 5) i_1 6)], vowIntS (asG (r0.snd.tail.tail.tail.tail.tail.tail.tail.headD AV.bad) i 6), vowIntS (asG (r0.snd.tail.tail.tail.tail.tail.tail.tail.headD AV.bad) i 7), AV.B (asB (asG (r0.snd.tail.tail.tail.tail.tail.tail.tail.headD AV.bad) i 8))] j)) then
         (bif okF 3 (fun j => goMergeS x.Hub.Merges 0 j) (fun i j => (lstG [vowLegS (asG (r0.snd.tail.tail.tail.tail.tail.tail.tail.tail.headD AV.bad) i 0), nI (asI (asG (r0.snd.tail.tail.tail.tail.tail.tail.tail.tail.headD AV.bad) i 1)), nI (asI (asG (r0.snd.tail.tail.tail.tail.tail.tail.tail.tail.headD AV.bad) i 2))] j)) then
          (bif okF 2 (fun j => goUserS x.Hub.Users 0 j) (fun i j => (lstG [vowTimerS (asG (r0.snd.tail.tail.tail.tail.tail.tail.tail.tail.tail.headD AV.bad) i 0), vowIntS (asG (r0.snd.tail.tail.tail.tail.tail.tail.tail.tail.tail.headD AV.bad) i 1)] j)) then
           (bif okF 3 (fun j => goClientS x.Clients 0 j) (fun i j => (lstG [AV.own (asN (asG (r1.snd.headD AV.bad) i 0)) 9 fun i_1 => lstG [nI (asI (asG (asG (r1.snd.headD AV.bad) i 0) i_1 0)), nI (asI (asG (asG (r1.snd.headD AV.bad) i 0) i_1 1)), nI (asI (asG (asG (r1.snd.headD AV.bad) i 0) i_1 2)), nI (asI (asG (asG (r1.snd.headD AV.bad) i 0) i_1 3)), AV.S (asS (asG (asG (r1.snd.headD AV.bad) i 0) i_1 4)), nI (asI (asG (asG (r1.snd.headD AV.bad) i 0) i_1 5)), nI (asI (asG (asG (r1.snd.headD AV.bad) i 0) i_1 6)), AV.S (asS (asG (asG (r1.snd.headD AV.bad) i 0) i_1 7)), vowMsgS (asG (asG (r1.snd.headD AV.bad) i 0) i_1 8)], nI (asI (asG (r1.snd.headD AV.bad) i 1)), AV.B (asB (asG (r1.snd.headD AV.bad) i 2))] j)) then
            (some (nI (asI r1.fst), [AV.own x.Hub.Tokens.Parents.length 1 fun i => lstG [nI (asI (asG (r0.snd.headD AV.bad) i 0))], AV.own x.Hub.Tokens.Off.length 1 fun i => lstG [AV.B (asB (asG (r0.snd.tail.headD AV.bad) i 0))], AV.own x.Hub.Clock.Timers.length 2 fun i => lstG [nI (asI (asG (r0.snd.tail.tail.headD AV.bad) i 0)), nI (asI (asG (r0.snd.tail.tail.headD AV.bad) i 1))], AV.own x.Hub.Notes.length 6 fun i => lstG [AV.B (asB (asG (r0.snd.tail.tail.tail.headD AV.bad) i 0)), vowIntS (asG (r0.snd.tail.tail.tail.headD AV.bad) i 1), vowGrantS (asG (r0.snd.tail.tail.tail.headD AV.bad) i 2), nI (asI (asG (r0.snd.tail.tail.tail.headD AV.bad) i 3)), nI (asI (asG (r0.snd.tail.tail.tail.headD AV.bad) i 4)), nI (asI (asG (r0.snd.tail.tail.tail.headD AV.bad) i 5))], AV.own x.Hub.Events.length 7 fun i => lstG [AV.B (asB (asG (r0.snd.tail.tail.tail.tail.headD AV.bad) i 0)), AV.B (asB (asG (r0.snd.tail.tail.tail.tail.headD AV.bad) i 1)), vowIntS (asG (r0.snd.tail.tail.tail.tail.headD AV.bad) i 2), vowIntS (asG (r0.snd.tail.tail.tail.tail.headD AV.bad) i 3), nI (asI (asG (r0.snd.tail.tail.tail.tail.headD AV.bad) i 4)), nI (asI (asG (r0.snd.tail.tail.tail.tail.headD AV.bad) i 5)), nI (asI (asG (r0.snd.tail.tail.tail.tail.headD AV.bad) i 6))], AV.own x.Hub.Latches.length 3 fun i => lstG [nI (asI (asG (r0.snd.tail.tail.tail.tail.tail.headD AV.bad) i 0)), vowIntS (asG (r0.snd.tail.tail.tail.tail.tail.headD AV.bad) i 1), vowIntS (asG (r0.snd.tail.tail.tail.tail.tail.headD AV.bad) i 2)], AV.own x.Hub.Cells.length 7 fun i => lstG [nI (asI (asG (r0.snd.tail.tail.tail.tail.tail.tail.headD AV.bad) i 0)), nI (asI (asG (r0.snd.tail.tail.tail.tail.tail.tail.headD AV.bad) i 1)), AV.S (asS (asG (r0.snd.tail.tail.tail.tail.tail.tail.headD AV.bad) i 2)), nI (asI (asG (r0.snd.tail.tail.tail.tail.tail.tail.headD AV.bad) i 3)), AV.B (asB (asG (r0.snd.tail.tail.tail.tail.tail.tail.headD AV.bad) i 4)), vowIntS (asG (r0.snd.tail.tail.tail.tail.tail.tail.headD AV.bad) i 5), vowIntS (asG (r0.snd.tail.tail.tail.tail.tail.tail.headD AV.bad) i 6)], AV.own x.Hub.Topics.length 9 fun i => lstG [AV.S (asS (asG (r0.snd.tail.tail.tail.tail.tail.tail.tail.headD AV.bad) i 0)), nI (asI (asG (r0.snd.tail.tail.tail.tail.tail.tail.tail.headD AV.bad) i 1)), nI (asI (asG (r0.snd.tail.tail.tail.tail.tail.tail.tail.headD AV.bad) i 2)), vowMsgS (asG (r0.snd.tail.tail.tail.tail.tail.tail.tail.headD AV.bad) i 3), nI (asI (asG (r0.snd.tail.tail.tail.tail.tail.tail.tail.headD AV.bad) i 4)), AV.own (asN (asG (r0.snd.tail.tail.tail.tail.tail.tail.tail.headD AV.bad) i 5)) 7 fun i_1 => lstG [nI (asI (asG (asG (r0.snd.tail.tail.tail.tail.tail.tail.tail.headD AV.bad) i 5) i_1 0)), nI (asI (asG (asG (r0.snd.tail.tail.tail.tail.tail.tail.tail.headD AV.bad) i 5) i_1 1)), nI (asI (asG (asG (r0.snd.tail.tail.tail.tail.tail.tail.tail.headD AV.bad) i 5) i_1 2)), nI (asI (asG (asG (r0.snd.tail.tail.tail.tail.tail.tail.tail.headD AV.bad) i 5) i_1 3)), nI (asI (asG (asG (r0.snd.tail.tail.tail.tail.tail.tail.tail.headD AV.bad) i 5) i_1 4)), nI (asI (asG (asG (r0.snd.tail.tail.tail.tail.tail.tail.tail.headD AV.bad) i 5) i_1 5)), vowMsgS (asG (asG (r0.snd.tail.tail.tail.tail.tail.tail.tail.headD AV.bad) i 5) i_1 6)], vowIntS (asG (r0.snd.tail.tail.tail.tail.tail.tail.tail.headD AV.bad) i 6), vowIntS (asG (r0.snd.tail.tail.tail.tail.tail.tail.tail.headD AV.bad) i 7), AV.B (asB (asG (r0.snd.tail.tail.tail.tail.tail.tail.tail.headD AV.bad) i 8))], AV.own x.Hub.Merges.length 3 fun i => lstG [vowLegS (asG (r0.snd.tail.tail.tail.tail.tail.tail.tail.tail.headD AV.bad) i 0), nI (asI (asG (r0.snd.tail.tail.tail.tail.tail.tail.tail.tail.headD AV.bad) i 1)), nI (asI (asG (r0.snd.tail.tail.tail.tail.tail.tail.tail.tail.headD AV.bad) i 2))], AV.own x.Hub.Users.length 2 fun i => lstG [vowTimerS (asG (r0.snd.tail.tail.tail.tail.tail.tail.tail.tail.tail.headD AV.bad) i 0), vowIntS (asG (r0.snd.tail.tail.tail.tail.tail.tail.tail.tail.tail.headD AV.bad) i 1)], AV.own x.Clients.length 3 fun i => lstG [AV.own (asN (asG (r1.snd.headD AV.bad) i 0)) 9 fun i_1 => lstG [nI (asI (asG (asG (r1.snd.headD AV.bad) i 0) i_1 0)), nI (asI (asG (asG (r1.snd.headD AV.bad) i 0) i_1 1)), nI (asI (asG (asG (r1.snd.headD AV.bad) i 0) i_1 2)), nI (asI (asG (asG (r1.snd.headD AV.bad) i 0) i_1 3)), AV.S (asS (asG (asG (r1.snd.headD AV.bad) i 0) i_1 4)), nI (asI (asG (asG (r1.snd.headD AV.bad) i 0) i_1 5)), nI (asI (asG (asG (r1.snd.headD AV.bad) i 0) i_1 6)), AV.S (asS (asG (asG (r1.snd.headD AV.bad) i 0) i_1 7)), vowMsgS (asG (asG (r1.snd.headD AV.bad) i 0) i_1 8)], nI (asI (asG (r1.snd.headD AV.bad) i 1)), AV.B (asB (asG (r1.snd.headD AV.bad) i 2))]]))
           else
            (none))
          else
           (none))
         else
          (none))
        else
         (none))
       else
        (none))
      else
       (none))
     else
      (none))
    else
     (none))
   else
    (none))
  else
   (none))
 else
  (none) := by kernel_rfl
theorem e180 (Γ : Orc) (H : Hd) (k : Int) : ent Tryz.prog cfg Γ 180 H [nI k] [] =
 bif decide (k ≤ 0) then
  (some (AV.S (bs [109, 48]), []))
 else
  (H [true, true, true, false] (hdS [(0, nI k), (3, AV.S ByteArray.empty)] [] [])) := by kernel_rfl
theorem h180 (Γ : Orc) (H : Hd) (k : Int) (s : ByteArray) : hed Tryz.prog cfg Γ 180 H [] [true, true, true, false] (hdS [(0, nI k), (3, .S s)] [] []) =
 bif decide (0 < k) then
  (bif decide (1 + s.size ≤ 4294967296) then
   (H [true, true, true, false] (hdS [(0, nI (IntKind.i64.wrap (k.tdiv 10))), (3, AV.S ((byS 1 fun x x_1 => mrg (decide (x = 0)) (lstG [AV.I IntKind.u8 (IntKind.u8.wrap (IntKind.i64.wrap (48 + k.tmod 10)))] x_1) (lstG [AV.I IntKind.u8 0] x_1)) ++ s))] [] []))
  else
   (none))
 else
  (bif decide (1 + s.size ≤ 4294967296) then
   (some (AV.S ((bs [109]) ++ s), []))
  else
   (none)) := by kernel_rfl
end Go.Fw
