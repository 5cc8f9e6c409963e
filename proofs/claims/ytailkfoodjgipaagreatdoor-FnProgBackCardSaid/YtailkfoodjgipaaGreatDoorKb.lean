/- Trees of the functions' bodies, as printed by the framework's evaluation. -/
import Derived.Test.YtailkfoodjgipaaGreatDoorProg
import Derived.Test.YtailkfoodjgipaaGreatDoorFyB
import Derived.KernelRfl
import Derived.Test.YtailkfoodjgipaaGreatDoorK
set_option linter.unusedVariables false
set_option maxRecDepth 100000
namespace Go.Fw
open Go.Proofs
theorem e71 (Γ : Orc) (H : Hd) (s : ByteArray) : ent Tryz.prog cfg Γ 70 H [.S s] [] =
  bif decide (0 < zN s.size) then
    (bif decide (0 < zN s.size) then
      (bif decide (byN s 0 = 45) then
        (bif decide (1 ≤ zN s.size) && decide (zN s.size ≤ zN s.size) then
          (Option.bind (Γ 29 [nI (zN (s.extract 1 (zN s.size).toNat).size), nI 1, nI 9] []) fun r4 =>
          bif !asB r4.fst then
            (some (AV.tup 2 (lstG [nI 0, AV.B false]), []))
          else
            (bif decide (0 < zN (s.extract 1 (zN s.size).toNat).size) then
              (bif decide (byN (s.extract 1 (zN s.size).toNat) 0 = 48) then
                (bif decide (1 < zN (s.extract 1 (zN s.size).toNat).size) then
                  (some (AV.tup 2 (lstG [nI 0, AV.B false]), []))
                else
                  (bif decide (byN s 0 = 45) then
                    (some (AV.tup 2 (lstG [nI 0, AV.B false]), []))
                  else
                    (H [true, true, true, true, true, false, true] (hdS [(0, AV.S (s.extract 1 (zN s.size).toNat)), (4, AV.B (decide (byN s 0 = 45))), (5, nI 0), (6, nI 0)] [] []))))
              else
                (H [true, true, true, true, true, false, true] (hdS [(0, AV.S (s.extract 1 (zN s.size).toNat)), (4, AV.B (decide (byN s 0 = 45))), (5, nI 0), (6, nI 0)] [] [])))
            else
              (none)))
        else
          (none))
      else
        (Option.bind (Γ 29 [nI (zN s.size), nI 1, nI 9] []) fun r3 =>
        bif !asB r3.fst then
          (some (AV.tup 2 (lstG [nI 0, AV.B false]), []))
        else
          (bif decide (0 < zN s.size) then
            (bif decide (byN s 0 = 48) then
              (bif decide (1 < zN s.size) then
                (some (AV.tup 2 (lstG [nI 0, AV.B false]), []))
              else
                (bif decide (byN s 0 = 45) then
                  (some (AV.tup 2 (lstG [nI 0, AV.B false]), []))
                else
                  (H [true, true, true, true, true, false, true] (hdS [(0, AV.S s), (4, AV.B (decide (byN s 0 = 45))), (5, nI 0), (6, nI 0)] [] []))))
            else
              (H [true, true, true, true, true, false, true] (hdS [(0, AV.S s), (4, AV.B (decide (byN s 0 = 45))), (5, nI 0), (6, nI 0)] [] [])))
          else
            (none))))
    else
      (none))
  else
    (Option.bind (Γ 29 [nI (zN s.size), nI 1, nI 9] []) fun r1 =>
    bif !asB r1.fst then
      (some (AV.tup 2 (lstG [nI 0, AV.B false]), []))
    else
      (bif decide (0 < zN s.size) then
        (bif decide (byN s 0 = 48) then
          (bif decide (1 < zN s.size) then
            (some (AV.tup 2 (lstG [nI 0, AV.B false]), []))
          else
            (H [true, true, true, true, true, false, true] (hdS [(0, AV.S s), (4, AV.B false), (5, nI 0), (6, nI 0)] [] [])))
        else
          (H [true, true, true, true, true, false, true] (hdS [(0, AV.S s), (4, AV.B false), (5, nI 0), (6, nI 0)] [] [])))
      else
        (none))) := by kernel_rfl
theorem e72 (Γ : Orc) (H : Hd) (s : ByteArray) : ent Tryz.prog cfg Γ 71 H [.S s] [] =
  Option.bind (Γ 70 [AV.S s] []) fun r0 =>
  bif asB (asA r0.fst 1) then
    (some (AV.tup 2 (lstG [AV.ag 3 (lstG [nI 1, nI (asI (asA r0.fst 0)), AV.S ByteArray.empty]), AV.B true]), []))
  else
    (bif decide (zN s.size < 2) then
      (some (AV.tup 2 (lstG [AV.ag 3 (lstG [nI 0, nI 0, AV.S ByteArray.empty]), AV.B false]), []))
    else
      (bif decide (0 < zN s.size) then
        (bif !decide (byN s 0 = 34) then
          (some (AV.tup 2 (lstG [AV.ag 3 (lstG [nI 0, nI 0, AV.S ByteArray.empty]), AV.B false]), []))
        else
          (bif bif decide (0 ≤ IntKind.i64.wrap (zN s.size - 1)) then decide (IntKind.i64.wrap (zN s.size - 1) < zN s.size) else false then
            (bif !decide (byN s ((IntKind.i64.wrap (zN s.size - 1)).toNat) = 34) then
              (some (AV.tup 2 (lstG [AV.ag 3 (lstG [nI 0, nI 0, AV.S ByteArray.empty]), AV.B false]), []))
            else
              (bif decide (1 ≤ IntKind.i64.wrap (zN s.size - 1)) && decide (IntKind.i64.wrap (zN s.size - 1) ≤ zN s.size) then
                (Option.bind (Γ 83 [AV.S (s.extract 1 (IntKind.i64.wrap (zN s.size - 1)).toNat)] []) fun r8 =>
                bif !asB r8.fst then
                  (some (AV.tup 2 (lstG [AV.ag 3 (lstG [nI 0, nI 0, AV.S ByteArray.empty]), AV.B false]), []))
                else
                  (bif decide (1 ≤ IntKind.i64.wrap (zN s.size - 1)) && decide (IntKind.i64.wrap (zN s.size - 1) ≤ zN s.size) then
                    (some (AV.tup 2 (lstG [AV.ag 3 (lstG [nI 2, nI 0, AV.S (s.extract 1 (IntKind.i64.wrap (zN s.size - 1)).toNat)]), AV.B true]), []))
                  else
                    (none)))
              else
                (none)))
          else
            (none)))
      else
        (none))) := by kernel_rfl
theorem e73 (Γ : Orc) (H : Hd) (s : ByteArray) : ent Tryz.prog cfg Γ 72 H [.S s] [] =
  bif decide (144 < zN s.size) then
    (bif bif okT then true else false then
      (some (AV.tup 2 (lstG [AV.own 0 3 fun i => lstG [nI 0, nI 0, AV.S ByteArray.empty], AV.B false]), []))
    else
      (none))
  else
    (H [true, true, true, true, false, true] (hdS [(0, AV.S s), (4, AV.rf 458752), (5, nI 0), (6, nI 0)] [(458752, ⟨0, 3, fun i => lstG [nI 0, nI 0, AV.S ByteArray.empty]⟩)] [])) := by kernel_rfl
theorem e89 (Γ : Orc) (H : Hd) (s : ByteArray) : ent Tryz.prog cfg Γ 89 H [.S s] [] =
  H [true, false, true] (hdS [(0, AV.S s), (2, AV.pb 66 0), (4, nI 1)] [] [(66, 3, [nI 0, nI 0, AV.S ByteArray.empty])]) := by kernel_rfl
theorem e41 (Γ : Orc) (H : Hd) (s : ByteArray) : ent Tryz.prog cfg Γ 38 H [.S s] [] =
  Option.bind (Γ 69 [AV.S s] []) fun r0 =>
  Option.bind (Γ 26 [] []) fun r1 =>
  H [true, true, true, true, false, true] (hdS [(2, AV.pb 66 0), (3, AV.pb 67 0), (4, AV.S (asS (asA r0.fst 0))), (5, AV.S (asS (asA r0.fst 1))), (6, AV.rf 352256), (7, nI 1)] [(352256, ⟨asN r1.fst, 1, fun i => lstG [AV.S (asS (asG r1.fst i 0))]⟩)] [(66, 9, [nI 0, nI 0, nI 0, nI 0, AV.S ByteArray.empty, nI 0, nI 0, AV.S ByteArray.empty, AV.nsl 3 fun x => lstG [nI 0, nI 0, AV.S ByteArray.empty]]), (67, 9, [nI 0, nI 0, nI 0, nI (-1), AV.S ByteArray.empty, nI 0, nI 0, AV.S ByteArray.empty, AV.nsl 3 fun x => lstG [nI 0, nI 0, AV.S ByteArray.empty]])]) := by kernel_rfl
theorem e17 (Γ : Orc) (H : Hd) (s : ByteArray) : ent Tryz.prog cfg Γ 12 H [.S s] [] =
  bif decide (160 < zN s.size) then
    (bif bif bif okT then true else false then true else false then
      (some (AV.tup 2 (lstG [AV.ag 9 (lstG [nI 0, nI 0, nI 0, nI 0, AV.S ByteArray.empty, nI 0, nI 0, AV.S ByteArray.empty, AV.own 0 3 fun i => lstG [nI 0, nI 0, AV.S ByteArray.empty]]), AV.B false]), []))
    else
      (none))
  else
    (Option.bind (Γ 38 [AV.S s] []) fun r1 =>
    Option.bind (Γ 8 [AV.ag 9 (lstG [nI (asI (asA r1.fst 0)), nI (asI (asA r1.fst 1)), nI (asI (asA r1.fst 2)), nI (asI (asA r1.fst 3)), AV.S (asS (asA r1.fst 4)), nI (asI (asA r1.fst 5)), nI (asI (asA r1.fst 6)), AV.S (asS (asA r1.fst 7)), vslTermS (asA r1.fst 8)])] []) fun r2 =>
    bif !asB (asA r2.fst 1) then
      (bif bif bif okT then true else false then true else false then
        (some (AV.tup 2 (lstG [AV.ag 9 (lstG [nI 0, nI 0, nI 0, nI 0, AV.S ByteArray.empty, nI 0, nI 0, AV.S ByteArray.empty, AV.own 0 3 fun i => lstG [nI 0, nI 0, AV.S ByteArray.empty]]), AV.B false]), []))
      else
        (none))
    else
      (bif !(asS (asA r2.fst 0)).toList == s.toList then
        (bif bif bif okT then true else false then true else false then
          (some (AV.tup 2 (lstG [AV.ag 9 (lstG [nI 0, nI 0, nI 0, nI 0, AV.S ByteArray.empty, nI 0, nI 0, AV.S ByteArray.empty, AV.own 0 3 fun i => lstG [nI 0, nI 0, AV.S ByteArray.empty]]), AV.B false]), []))
        else
          (none))
      else
        (bif bif bif okT then true else false then true else false then
          (some (AV.tup 2 (lstG [AV.ag 9 (lstG [nI (asI (asA r1.fst 0)), nI (asI (asA r1.fst 1)), nI (asI (asA r1.fst 2)), nI (asI (asA r1.fst 3)), AV.S (asS (asA r1.fst 4)), nI (asI (asA r1.fst 5)), nI (asI (asA r1.fst 6)), AV.S (asS (asA r1.fst 7)), vowTermS (asA r1.fst 8)]), AV.B true]), []))
        else
          (none)))) := by kernel_rfl
theorem e91 (Γ : Orc) (H : Hd) (s p : ByteArray) : ent Tryz.prog cfg Γ 87 H [.S s, .S p] [] =
  Option.bind (Γ 102 [AV.S s, AV.S p] []) fun r0 =>
  some (AV.S (asS r0.fst), []) := by kernel_rfl
theorem e104 (Γ : Orc) (H : Hd) (s p : ByteArray) : ent Tryz.prog cfg Γ 102 H [.S s, .S p] [] =
  Option.bind (Γ 108 [AV.S s, AV.S p] []) fun r0 =>
  bif asB r0.fst then
    (bif decide (zN p.size ≤ zN s.size) && decide (zN s.size ≤ zN s.size) then
      (some (AV.S (s.extract (zN p.size).toNat (zN s.size).toNat), []))
    else
      (none))
  else
    (some (AV.S s, [])) := by kernel_rfl
theorem e110 (Γ : Orc) (H : Hd) (s p : ByteArray) : ent Tryz.prog cfg Γ 108 H [.S s, .S p] [] =
  bif decide (zN p.size ≤ zN s.size) then
    (bif decide (zN p.size ≤ zN s.size) then
      (some (AV.B ((s.extract 0 (zN p.size).toNat).toList == p.toList), []))
    else
      (none))
  else
    (some (AV.B false, [])) := by kernel_rfl
theorem e75 (Γ : Orc) (H : Hd) (ws : List ByteArray) (s : ByteArray) : ent Tryz.prog cfg Γ 63 H [slStrS ws, .S s] [] =
  H [true, false, true] (hdS [(0, slStrS ws), (1, AV.S s), (7, nI (zN ws.length)), (8, nI 0)] [] []) := by kernel_rfl
theorem e45 (Γ : Orc) (H : Hd) (c : VCall) (s : ByteArray) : ent Tryz.prog cfg Γ 35 H [.pb 0 0, .S s] [.nbx 9 (lstG [nI c.Op, nI c.A, nI c.B, nI c.Tok, .S c.Name, nI c.Msg.Kind, nI c.Msg.Num, .S c.Msg.Text, owTermS c.Filter])] =
  Option.bind (Γ 32 [AV.S s, AV.S (bs [32])] []) fun r0 =>
  bif decide (c.Op = 9) then
    (bif decide (c.Op = 9) then
      (Option.bind (Γ 65 [AV.S s] []) fun r3 =>
      bif bif okT then true else false then
        (some (AV.tup 0 (lstG []), [AV.nbx 9 (lstG [nI c.Op, nI c.A, nI c.B, nI c.Tok, AV.S c.Name, nI (asI (asA (asA r3.fst 0) 0)), nI (asI (asA (asA r3.fst 0) 1)), AV.S (asS (asA (asA r3.fst 0) 2)), owTermS c.Filter])]))
      else
        (none))
    else
      (bif decide (c.Op = 7) then
        (bif decide (c.Op = 7) then
          (Option.bind (Γ 34 [AV.S s] []) fun r5 =>
          bif bif okT then true else false then
            (some (AV.tup 0 (lstG []), [AV.nbx 9 (lstG [nI c.Op, nI c.A, nI (asI (asA r5.fst 0)), nI c.Tok, AV.S c.Name, nI c.Msg.Kind, nI c.Msg.Num, AV.S c.Msg.Text, owTermS c.Filter])]))
          else
            (none))
        else
          (bif decide (c.Op = 14) then
            (bif (asS (asA r0.fst 0)).toList == (bs [98, 97, 99, 107]).toList then
              (Option.bind (Γ 32 [AV.S (asS (asA r0.fst 1)), AV.S (bs [32])] []) fun r7 =>
              bif (asS (asA r7.fst 0)).toList == (bs [105, 102]).toList then
                (Option.bind (Γ 66 [AV.S (asS (asA r7.fst 1))] []) fun r9 =>
                bif bif okT then true else false then
                  (some (AV.tup 0 (lstG []), [AV.nbx 9 (lstG [nI c.Op, nI c.A, nI 1, nI c.Tok, AV.S c.Name, nI c.Msg.Kind, nI c.Msg.Num, AV.S c.Msg.Text, vowTermS (asA r9.fst 0)])]))
                else
                  (none))
              else
                (bif bif okT then true else false then
                  (some (AV.tup 0 (lstG []), [AV.nbx 9 (lstG [nI c.Op, nI c.A, nI 1, nI c.Tok, AV.S c.Name, nI c.Msg.Kind, nI c.Msg.Num, AV.S c.Msg.Text, owTermS c.Filter])]))
                else
                  (none)))
            else
              (bif (asS (asA r0.fst 0)).toList == (bs [105, 102]).toList then
                (Option.bind (Γ 66 [AV.S (asS (asA r0.fst 1))] []) fun r8 =>
                bif bif okT then true else false then
                  (some (AV.tup 0 (lstG []), [AV.nbx 9 (lstG [nI c.Op, nI c.A, nI c.B, nI c.Tok, AV.S c.Name, nI c.Msg.Kind, nI c.Msg.Num, AV.S c.Msg.Text, vowTermS (asA r8.fst 0)])]))
                else
                  (none))
              else
                (bif bif okT then true else false then
                  (some (AV.tup 0 (lstG []), [AV.nbx 9 (lstG [nI c.Op, nI c.A, nI c.B, nI c.Tok, AV.S c.Name, nI c.Msg.Kind, nI c.Msg.Num, AV.S c.Msg.Text, owTermS c.Filter])]))
                else
                  (none))))
          else
            (bif (asS (asA r0.fst 0)).toList == (bs [98, 121]).toList then
              (Option.bind (Γ 34 [AV.S (asS (asA r0.fst 1))] []) fun r7 =>
              bif bif okT then true else false then
                (some (AV.tup 0 (lstG []), [AV.nbx 9 (lstG [nI c.Op, nI c.A, nI c.B, nI (asI (asA r7.fst 0)), AV.S c.Name, nI c.Msg.Kind, nI c.Msg.Num, AV.S c.Msg.Text, owTermS c.Filter])]))
              else
                (none))
            else
              (bif bif okT then true else false then
                (some (AV.tup 0 (lstG []), [AV.nbx 9 (lstG [nI c.Op, nI c.A, nI c.B, nI c.Tok, AV.S c.Name, nI c.Msg.Kind, nI c.Msg.Num, AV.S c.Msg.Text, owTermS c.Filter])]))
              else
                (none)))))
      else
        (bif decide (c.Op = 19) then
          (Option.bind (Γ 34 [AV.S s] []) fun r5 =>
          bif bif okT then true else false then
            (some (AV.tup 0 (lstG []), [AV.nbx 9 (lstG [nI c.Op, nI c.A, nI (asI (asA r5.fst 0)), nI c.Tok, AV.S c.Name, nI c.Msg.Kind, nI c.Msg.Num, AV.S c.Msg.Text, owTermS c.Filter])]))
          else
            (none))
        else
          (bif decide (c.Op = 14) then
            (bif (asS (asA r0.fst 0)).toList == (bs [98, 97, 99, 107]).toList then
              (Option.bind (Γ 32 [AV.S (asS (asA r0.fst 1)), AV.S (bs [32])] []) fun r7 =>
              bif (asS (asA r7.fst 0)).toList == (bs [105, 102]).toList then
                (Option.bind (Γ 66 [AV.S (asS (asA r7.fst 1))] []) fun r9 =>
                bif bif okT then true else false then
                  (some (AV.tup 0 (lstG []), [AV.nbx 9 (lstG [nI c.Op, nI c.A, nI 1, nI c.Tok, AV.S c.Name, nI c.Msg.Kind, nI c.Msg.Num, AV.S c.Msg.Text, vowTermS (asA r9.fst 0)])]))
                else
                  (none))
              else
                (bif bif okT then true else false then
                  (some (AV.tup 0 (lstG []), [AV.nbx 9 (lstG [nI c.Op, nI c.A, nI 1, nI c.Tok, AV.S c.Name, nI c.Msg.Kind, nI c.Msg.Num, AV.S c.Msg.Text, owTermS c.Filter])]))
                else
                  (none)))
            else
              (bif (asS (asA r0.fst 0)).toList == (bs [105, 102]).toList then
                (Option.bind (Γ 66 [AV.S (asS (asA r0.fst 1))] []) fun r8 =>
                bif bif okT then true else false then
                  (some (AV.tup 0 (lstG []), [AV.nbx 9 (lstG [nI c.Op, nI c.A, nI c.B, nI c.Tok, AV.S c.Name, nI c.Msg.Kind, nI c.Msg.Num, AV.S c.Msg.Text, vowTermS (asA r8.fst 0)])]))
                else
                  (none))
              else
                (bif bif okT then true else false then
                  (some (AV.tup 0 (lstG []), [AV.nbx 9 (lstG [nI c.Op, nI c.A, nI c.B, nI c.Tok, AV.S c.Name, nI c.Msg.Kind, nI c.Msg.Num, AV.S c.Msg.Text, owTermS c.Filter])]))
                else
                  (none))))
          else
            (bif (asS (asA r0.fst 0)).toList == (bs [98, 121]).toList then
              (Option.bind (Γ 34 [AV.S (asS (asA r0.fst 1))] []) fun r7 =>
              bif bif okT then true else false then
                (some (AV.tup 0 (lstG []), [AV.nbx 9 (lstG [nI c.Op, nI c.A, nI c.B, nI (asI (asA r7.fst 0)), AV.S c.Name, nI c.Msg.Kind, nI c.Msg.Num, AV.S c.Msg.Text, owTermS c.Filter])]))
              else
                (none))
            else
              (bif bif okT then true else false then
                (some (AV.tup 0 (lstG []), [AV.nbx 9 (lstG [nI c.Op, nI c.A, nI c.B, nI c.Tok, AV.S c.Name, nI c.Msg.Kind, nI c.Msg.Num, AV.S c.Msg.Text, owTermS c.Filter])]))
              else
                (none)))))))
  else
    (bif decide (c.Op = 13) then
      (Option.bind (Γ 65 [AV.S s] []) fun r3 =>
      bif bif okT then true else false then
        (some (AV.tup 0 (lstG []), [AV.nbx 9 (lstG [nI c.Op, nI c.A, nI c.B, nI c.Tok, AV.S c.Name, nI (asI (asA (asA r3.fst 0) 0)), nI (asI (asA (asA r3.fst 0) 1)), AV.S (asS (asA (asA r3.fst 0) 2)), owTermS c.Filter])]))
      else
        (none))
    else
      (bif decide (c.Op = 7) then
        (bif decide (c.Op = 7) then
          (Option.bind (Γ 34 [AV.S s] []) fun r5 =>
          bif bif okT then true else false then
            (some (AV.tup 0 (lstG []), [AV.nbx 9 (lstG [nI c.Op, nI c.A, nI (asI (asA r5.fst 0)), nI c.Tok, AV.S c.Name, nI c.Msg.Kind, nI c.Msg.Num, AV.S c.Msg.Text, owTermS c.Filter])]))
          else
            (none))
        else
          (bif decide (c.Op = 14) then
            (bif (asS (asA r0.fst 0)).toList == (bs [98, 97, 99, 107]).toList then
              (Option.bind (Γ 32 [AV.S (asS (asA r0.fst 1)), AV.S (bs [32])] []) fun r7 =>
              bif (asS (asA r7.fst 0)).toList == (bs [105, 102]).toList then
                (Option.bind (Γ 66 [AV.S (asS (asA r7.fst 1))] []) fun r9 =>
                bif bif okT then true else false then
                  (some (AV.tup 0 (lstG []), [AV.nbx 9 (lstG [nI c.Op, nI c.A, nI 1, nI c.Tok, AV.S c.Name, nI c.Msg.Kind, nI c.Msg.Num, AV.S c.Msg.Text, vowTermS (asA r9.fst 0)])]))
                else
                  (none))
              else
                (bif bif okT then true else false then
                  (some (AV.tup 0 (lstG []), [AV.nbx 9 (lstG [nI c.Op, nI c.A, nI 1, nI c.Tok, AV.S c.Name, nI c.Msg.Kind, nI c.Msg.Num, AV.S c.Msg.Text, owTermS c.Filter])]))
                else
                  (none)))
            else
              (bif (asS (asA r0.fst 0)).toList == (bs [105, 102]).toList then
                (Option.bind (Γ 66 [AV.S (asS (asA r0.fst 1))] []) fun r8 =>
                bif bif okT then true else false then
                  (some (AV.tup 0 (lstG []), [AV.nbx 9 (lstG [nI c.Op, nI c.A, nI c.B, nI c.Tok, AV.S c.Name, nI c.Msg.Kind, nI c.Msg.Num, AV.S c.Msg.Text, vowTermS (asA r8.fst 0)])]))
                else
                  (none))
              else
                (bif bif okT then true else false then
                  (some (AV.tup 0 (lstG []), [AV.nbx 9 (lstG [nI c.Op, nI c.A, nI c.B, nI c.Tok, AV.S c.Name, nI c.Msg.Kind, nI c.Msg.Num, AV.S c.Msg.Text, owTermS c.Filter])]))
                else
                  (none))))
          else
            (bif (asS (asA r0.fst 0)).toList == (bs [98, 121]).toList then
              (Option.bind (Γ 34 [AV.S (asS (asA r0.fst 1))] []) fun r7 =>
              bif bif okT then true else false then
                (some (AV.tup 0 (lstG []), [AV.nbx 9 (lstG [nI c.Op, nI c.A, nI c.B, nI (asI (asA r7.fst 0)), AV.S c.Name, nI c.Msg.Kind, nI c.Msg.Num, AV.S c.Msg.Text, owTermS c.Filter])]))
              else
                (none))
            else
              (bif bif okT then true else false then
                (some (AV.tup 0 (lstG []), [AV.nbx 9 (lstG [nI c.Op, nI c.A, nI c.B, nI c.Tok, AV.S c.Name, nI c.Msg.Kind, nI c.Msg.Num, AV.S c.Msg.Text, owTermS c.Filter])]))
              else
                (none)))))
      else
        (bif decide (c.Op = 19) then
          (Option.bind (Γ 34 [AV.S s] []) fun r5 =>
          bif bif okT then true else false then
            (some (AV.tup 0 (lstG []), [AV.nbx 9 (lstG [nI c.Op, nI c.A, nI (asI (asA r5.fst 0)), nI c.Tok, AV.S c.Name, nI c.Msg.Kind, nI c.Msg.Num, AV.S c.Msg.Text, owTermS c.Filter])]))
          else
            (none))
        else
          (bif decide (c.Op = 14) then
            (bif (asS (asA r0.fst 0)).toList == (bs [98, 97, 99, 107]).toList then
              (Option.bind (Γ 32 [AV.S (asS (asA r0.fst 1)), AV.S (bs [32])] []) fun r7 =>
              bif (asS (asA r7.fst 0)).toList == (bs [105, 102]).toList then
                (Option.bind (Γ 66 [AV.S (asS (asA r7.fst 1))] []) fun r9 =>
                bif bif okT then true else false then
                  (some (AV.tup 0 (lstG []), [AV.nbx 9 (lstG [nI c.Op, nI c.A, nI 1, nI c.Tok, AV.S c.Name, nI c.Msg.Kind, nI c.Msg.Num, AV.S c.Msg.Text, vowTermS (asA r9.fst 0)])]))
                else
                  (none))
              else
                (bif bif okT then true else false then
                  (some (AV.tup 0 (lstG []), [AV.nbx 9 (lstG [nI c.Op, nI c.A, nI 1, nI c.Tok, AV.S c.Name, nI c.Msg.Kind, nI c.Msg.Num, AV.S c.Msg.Text, owTermS c.Filter])]))
                else
                  (none)))
            else
              (bif (asS (asA r0.fst 0)).toList == (bs [105, 102]).toList then
                (Option.bind (Γ 66 [AV.S (asS (asA r0.fst 1))] []) fun r8 =>
                bif bif okT then true else false then
                  (some (AV.tup 0 (lstG []), [AV.nbx 9 (lstG [nI c.Op, nI c.A, nI c.B, nI c.Tok, AV.S c.Name, nI c.Msg.Kind, nI c.Msg.Num, AV.S c.Msg.Text, vowTermS (asA r8.fst 0)])]))
                else
                  (none))
              else
                (bif bif okT then true else false then
                  (some (AV.tup 0 (lstG []), [AV.nbx 9 (lstG [nI c.Op, nI c.A, nI c.B, nI c.Tok, AV.S c.Name, nI c.Msg.Kind, nI c.Msg.Num, AV.S c.Msg.Text, owTermS c.Filter])]))
                else
                  (none))))
          else
            (bif (asS (asA r0.fst 0)).toList == (bs [98, 121]).toList then
              (Option.bind (Γ 34 [AV.S (asS (asA r0.fst 1))] []) fun r7 =>
              bif bif okT then true else false then
                (some (AV.tup 0 (lstG []), [AV.nbx 9 (lstG [nI c.Op, nI c.A, nI c.B, nI (asI (asA r7.fst 0)), AV.S c.Name, nI c.Msg.Kind, nI c.Msg.Num, AV.S c.Msg.Text, owTermS c.Filter])]))
              else
                (none))
            else
              (bif bif okT then true else false then
                (some (AV.tup 0 (lstG []), [AV.nbx 9 (lstG [nI c.Op, nI c.A, nI c.B, nI c.Tok, AV.S c.Name, nI c.Msg.Kind, nI c.Msg.Num, AV.S c.Msg.Text, owTermS c.Filter])]))
              else
                (none))))))) := by kernel_rfl
theorem h70 (Γ : Orc) (H : Hd) (s : ByteArray) (i : Int) : hed Tryz.prog cfg Γ 69 H [] [true, false, true] (hdS [(0, .S s), (4, nI i)] [] []) =
  bif decide (i < zN s.size) then
    (bif bif decide (0 ≤ i) then decide (i < zN s.size) else false then
      (bif decide (byN s i.toNat = 32) then
        (bif decide (0 ≤ i) && decide (i ≤ zN s.size) then
          (bif decide (0 ≤ IntKind.i64.wrap (i + 1)) && decide (IntKind.i64.wrap (i + 1) ≤ zN s.size) && decide (zN s.size ≤ zN s.size) then
            (some (AV.tup 2 (lstG [AV.S (s.extract 0 i.toNat), AV.S (s.extract (IntKind.i64.wrap (i + 1)).toNat (zN s.size).toNat)]), []))
          else
            (none))
        else
          (none))
      else
        (H [true, false, true] (hdS [(0, AV.S s), (4, nI (IntKind.i64.wrap (i + 1)))] [] [])))
    else
      (none))
  else
    (some (AV.tup 2 (lstG [AV.S s, AV.S ByteArray.empty]), [])) := by kernel_rfl
theorem h71 (Γ : Orc) (H : Hd) (s : ByteArray) (b : Bool) (n i : Int) : hed Tryz.prog cfg Γ 70 H [] [true, true, true, true, true, false, true] (hdS [(0, .S s), (4, .B b), (5, nI n), (6, nI i)] [] []) =
  bif decide (i < zN s.size) then
    (bif bif decide (0 ≤ i) then decide (i < zN s.size) else false then
      (bif decide (byN s i.toNat < 48) then
        (some (AV.tup 2 (lstG [nI 0, AV.B false]), []))
      else
        (bif bif decide (0 ≤ i) then decide (i < zN s.size) else false then
          (bif decide (57 < byN s i.toNat) then
            (some (AV.tup 2 (lstG [nI 0, AV.B false]), []))
          else
            (bif bif decide (0 ≤ i) then decide (i < zN s.size) else false then
              (H [true, true, true, true, true, false, true] (hdS [(0, AV.S s), (4, AV.B b), (5, nI (IntKind.i64.wrap (IntKind.i64.wrap (n * 10) + IntKind.i64.wrap (IntKind.u8.wrap (byN s i.toNat - 48))))), (6, nI (IntKind.i64.wrap (i + 1)))] [] []))
            else
              (none)))
        else
          (none)))
    else
      (none))
  else
    (bif b then
      (some (AV.tup 2 (lstG [nI (IntKind.i64.wrap (0 - n)), AV.B true]), []))
    else
      (some (AV.tup 2 (lstG [nI n, AV.B true]), []))) := by kernel_rfl
theorem h73 (Γ : Orc) (H : Hd) (s : ByteArray) (ts : List VTerm) (a i : Int) : hed Tryz.prog cfg Γ 72 H [] [true, true, true, true, false, true] (hdS [(0, .S s), (4, .rf 458752), (5, nI a), (6, nI i)] [(458752, ⟨ts.length, 3, gsTermS ts⟩)] []) =
  bif decide (i ≤ zN s.size) then
    (bif !s.toList == ByteArray.empty.toList then
      (bif decide (i < zN s.size) then
        (bif bif decide (0 ≤ i) then decide (i < zN s.size) else false then
          (bif !decide (byN s i.toNat = 32) then
            (H [true, true, true, true, false, true] (hdS [(0, AV.S s), (4, AV.rf 458752), (5, nI a), (6, nI (IntKind.i64.wrap (i + 1)))] [(458752, ⟨ts.length, 3, (goTermS ts)⟩)] []))
          else
            (bif decide (0 ≤ a) && decide (a ≤ i) && decide (i ≤ zN s.size) then
              (Option.bind (Γ 89 [AV.S (s.extract a.toNat i.toNat)] []) fun r6 =>
              bif !asB (asA r6.fst 1) then
                (bif bif okT then true else false then
                  (some (AV.tup 2 (lstG [AV.own 0 3 fun i => lstG [nI 0, nI 0, AV.S ByteArray.empty], AV.B false]), []))
                else
                  (none))
              else
                (bif decide (ts.length + 1 ≤ 4294967296) && true && true && true && true then
                  (H [true, true, true, true, false, true] (hdS [(0, AV.S s), (4, AV.rf 458752), (5, nI (IntKind.i64.wrap (i + 1))), (6, nI (IntKind.i64.wrap (i + 1)))] [(458752, ⟨ts.length + 1, 3, fun i => lstG [nI (bif decide (i < ts.length) then (ts.getD i zTerm).Op else bif decide (i - ts.length = 0) then asI (asA (asA r6.fst 0) 0) else 0), nI (bif decide (i < ts.length) then (ts.getD i zTerm).Num else bif decide (i - ts.length = 0) then asI (asA (asA r6.fst 0) 1) else 0), AV.S (bif decide (i < ts.length) then (ts.getD i zTerm).Text else bif decide (i - ts.length = 0) then asS (asA (asA r6.fst 0) 2) else ByteArray.empty)]⟩)] []))
                else
                  (none)))
            else
              (none)))
        else
          (none))
      else
        (bif decide (0 ≤ a) && decide (a ≤ i) && decide (i ≤ zN s.size) then
          (Option.bind (Γ 89 [AV.S (s.extract a.toNat i.toNat)] []) fun r4 =>
          bif !asB (asA r4.fst 1) then
            (bif bif okT then true else false then
              (some (AV.tup 2 (lstG [AV.own 0 3 fun i => lstG [nI 0, nI 0, AV.S ByteArray.empty], AV.B false]), []))
            else
              (none))
          else
            (bif decide (ts.length + 1 ≤ 4294967296) && true && true && true && true then
              (H [true, true, true, true, false, true] (hdS [(0, AV.S s), (4, AV.rf 458752), (5, nI (IntKind.i64.wrap (i + 1))), (6, nI (IntKind.i64.wrap (i + 1)))] [(458752, ⟨ts.length + 1, 3, fun i => lstG [nI (bif decide (i < ts.length) then (ts.getD i zTerm).Op else bif decide (i - ts.length = 0) then asI (asA (asA r4.fst 0) 0) else 0), nI (bif decide (i < ts.length) then (ts.getD i zTerm).Num else bif decide (i - ts.length = 0) then asI (asA (asA r4.fst 0) 1) else 0), AV.S (bif decide (i < ts.length) then (ts.getD i zTerm).Text else bif decide (i - ts.length = 0) then asS (asA (asA r4.fst 0) 2) else ByteArray.empty)]⟩)] []))
            else
              (none)))
        else
          (none)))
    else
      (Option.bind (Γ 31 [slTermS ts] []) fun r2 =>
      bif !asB (asA r2.fst 1) then
        (bif bif okT then true else false then
          (some (AV.tup 2 (lstG [AV.own 0 3 fun i => lstG [nI 0, nI 0, AV.S ByteArray.empty], AV.B false]), []))
        else
          (none))
      else
        (bif !(asS (asA r2.fst 0)).toList == s.toList then
          (bif bif okT then true else false then
            (some (AV.tup 2 (lstG [AV.own 0 3 fun i => lstG [nI 0, nI 0, AV.S ByteArray.empty], AV.B false]), []))
          else
            (none))
        else
          (bif bif okT then true else false then
            (some (AV.tup 2 (lstG [owTermS ts, AV.B true]), []))
          else
            (none)))))
  else
    (Option.bind (Γ 31 [slTermS ts] []) fun r1 =>
    bif !asB (asA r1.fst 1) then
      (bif bif okT then true else false then
        (some (AV.tup 2 (lstG [AV.own 0 3 fun i => lstG [nI 0, nI 0, AV.S ByteArray.empty], AV.B false]), []))
      else
        (none))
    else
      (bif !(asS (asA r1.fst 0)).toList == s.toList then
        (bif bif okT then true else false then
          (some (AV.tup 2 (lstG [AV.own 0 3 fun i => lstG [nI 0, nI 0, AV.S ByteArray.empty], AV.B false]), []))
        else
          (none))
      else
        (bif bif okT then true else false then
          (some (AV.tup 2 (lstG [owTermS ts, AV.B true]), []))
        else
          (none)))) := by kernel_rfl
theorem h78 (Γ : Orc) (H : Hd) (s : ByteArray) (ts : List VTerm) (ws : List ByteArray) (m i : Int) : hed Tryz.prog cfg Γ 66 H [] [true, true, true, false, true] (hdS [(0, .S s), (4, .rf 368640), (15, .rf 323584), (16, nI m), (17, nI i)] [(368640, ⟨ts.length, 3, gsTermS ts⟩), (323584, ⟨ws.length, 1, gsStrS ws⟩)] []) =
  bif decide (i < m) then
    (bif bif decide (0 ≤ i) then decide (i < zN ws.length) else false then
      (Option.bind (Γ 88 [AV.S (ws.getD i.toNat ByteArray.empty)] []) fun r2 =>
      bif decide (ts.length + 1 ≤ 4294967296) && true && true && true && true then
        (H [true, true, true, false, true] (hdS [(0, AV.S s), (4, AV.rf 368640), (15, AV.rf 323584), (16, nI m), (17, nI (IntKind.i64.wrap (i + 1)))] [(368640, ⟨ts.length + 1, 3, fun i => lstG [nI (bif decide (i < ts.length) then (ts.getD i zTerm).Op else bif decide (i - ts.length = 0) then asI (asA r2.fst 0) else 0), nI (bif decide (i < ts.length) then (ts.getD i zTerm).Num else bif decide (i - ts.length = 0) then asI (asA r2.fst 1) else 0), AV.S (bif decide (i < ts.length) then (ts.getD i zTerm).Text else bif decide (i - ts.length = 0) then asS (asA r2.fst 2) else ByteArray.empty)]⟩), (323584, ⟨ws.length, 1, fun i => lstG [AV.S (ws.getD i ByteArray.empty)]⟩)] []))
      else
        (none))
    else
      (none))
  else
    (Option.bind (Γ 53 [slTermS ts] []) fun r1 =>
    bif !asB (asA r1.fst 1) then
      (bif bif okT then true else false then
        (some (AV.tup 2 (lstG [AV.own 0 3 fun i => lstG [nI 0, nI 0, AV.S ByteArray.empty], AV.B false]), []))
      else
        (none))
    else
      (bif !(asS (asA r1.fst 0)).toList == s.toList then
        (bif bif okT then true else false then
          (some (AV.tup 2 (lstG [AV.own 0 3 fun i => lstG [nI 0, nI 0, AV.S ByteArray.empty], AV.B false]), []))
        else
          (none))
      else
        (bif bif okT then true else false then
          (some (AV.tup 2 (lstG [owTermS ts, AV.B true]), []))
        else
          (none)))) := by kernel_rfl
theorem h89 (Γ : Orc) (H : Hd) (s : ByteArray) (i : Int) : hed Tryz.prog cfg Γ 89 H [] [true, false, true] (hdS [(0, .S s), (2, .pb 66 0), (4, nI i)] [] [(66, 3, [nI 0, nI 0, .S ByteArray.empty])]) =
  bif decide (i ≤ 10) then
    (Option.bind (Γ 61 [nI i] []) fun r1 =>
    bif s.toList == (asS r1.fst).toList then
      (some (AV.tup 2 (lstG [AV.ag 3 (lstG [nI i, nI 0, AV.S ByteArray.empty]), AV.B true]), []))
    else
      (bif decide (zN s.size ≤ zN (asS r1.fst).size) then
        (H [true, false, true] (hdS [(0, AV.S s), (2, AV.pb 66 0), (4, nI (IntKind.i64.wrap (i + 1)))] [] [(66, 3, [nI 0, nI 0, AV.S ByteArray.empty])]))
      else
        (bif decide (zN (asS r1.fst).size ≤ zN s.size) then
          (bif !(s.extract 0 (zN (asS r1.fst).size).toNat).toList == (asS r1.fst).toList then
            (H [true, false, true] (hdS [(0, AV.S s), (2, AV.pb 66 0), (4, nI (IntKind.i64.wrap (i + 1)))] [] [(66, 3, [nI 0, nI 0, AV.S ByteArray.empty])]))
          else
            (bif decide (zN (asS r1.fst).size ≤ zN s.size) && decide (zN s.size ≤ zN s.size) then
              (bif decide (i = 4) then
                (Option.bind (Γ 70 [AV.S (s.extract (zN (asS r1.fst).size).toNat (zN s.size).toNat)] []) fun r8 =>
                some (AV.tup 2 (lstG [AV.ag 3 (lstG [nI i, nI (asI (asA r8.fst 0)), AV.S ByteArray.empty]), AV.B (asB (asA r8.fst 1))]), []))
              else
                (bif decide (i = 5) then
                  (Option.bind (Γ 70 [AV.S (s.extract (zN (asS r1.fst).size).toNat (zN s.size).toNat)] []) fun r9 =>
                  some (AV.tup 2 (lstG [AV.ag 3 (lstG [nI i, nI (asI (asA r9.fst 0)), AV.S ByteArray.empty]), AV.B (asB (asA r9.fst 1))]), []))
                else
                  (bif decide (i = 6) then
                    (some (AV.tup 2 (lstG [AV.ag 3 (lstG [nI i, nI 0, AV.S (s.extract (zN (asS r1.fst).size).toNat (zN s.size).toNat)]), AV.B true]), []))
                  else
                    (bif decide (i = 7) then
                      (some (AV.tup 2 (lstG [AV.ag 3 (lstG [nI i, nI 0, AV.S (s.extract (zN (asS r1.fst).size).toNat (zN s.size).toNat)]), AV.B true]), []))
                    else
                      (H [true, false, true] (hdS [(0, AV.S s), (2, AV.pb 66 0), (4, nI (IntKind.i64.wrap (i + 1)))] [] [(66, 3, [nI 0, nI 0, AV.S ByteArray.empty])]))))))
            else
              (none)))
        else
          (none))))
  else
    (some (AV.tup 2 (lstG [AV.ag 3 (lstG [nI 0, nI 0, AV.S ByteArray.empty]), AV.B false]), [])) := by kernel_rfl
theorem h92 (Γ : Orc) (H : Hd) (s : ByteArray) (i : Int) : hed Tryz.prog cfg Γ 88 H [] [true, false, true] (hdS [(0, .S s), (2, .pb 66 0), (3, nI i)] [] [(66, 3, [nI 0, nI 0, .S ByteArray.empty])]) =
  bif decide (i ≤ 10) then
    (Option.bind (Γ 80 [AV.ag 3 (lstG [nI i, nI 0, AV.S ByteArray.empty])] []) fun r1 =>
    bif s.toList == (asS r1.fst).toList then
      (some (AV.ag 3 (lstG [nI i, nI 0, AV.S ByteArray.empty]), []))
    else
      (H [true, false, true] (hdS [(0, AV.S s), (2, AV.pb 66 0), (3, nI (IntKind.i64.wrap (i + 1)))] [] [(66, 3, [nI 0, nI 0, AV.S ByteArray.empty])])))
  else
    (bif s.toList == ByteArray.empty.toList then
      (some (AV.ag 3 (lstG [nI 0, nI 0, AV.S ByteArray.empty]), []))
    else
      (bif decide (1 ≤ zN s.size) && decide (zN s.size ≤ zN s.size) then
        (Option.bind (Γ 64 [AV.S (s.extract 1 (zN s.size).toNat)] []) fun r3 =>
        bif decide (0 < zN s.size) then
          (bif decide (byN s 0 = 60) then
            (some (AV.ag 3 (lstG [nI 4, nI (asI (asA r3.fst 0)), AV.S ByteArray.empty]), []))
          else
            (bif decide (byN s 0 = 37) then
              (some (AV.ag 3 (lstG [nI 5, nI (asI (asA r3.fst 0)), AV.S ByteArray.empty]), []))
            else
              (bif decide (byN s 0 = 94) then
                (bif decide (1 ≤ zN s.size) && decide (zN s.size ≤ zN s.size) then
                  (some (AV.ag 3 (lstG [nI 6, nI 0, AV.S (s.extract 1 (zN s.size).toNat)]), []))
                else
                  (none))
              else
                (bif decide (byN s 0 = 126) then
                  (bif decide (1 ≤ zN s.size) && decide (zN s.size ≤ zN s.size) then
                    (some (AV.ag 3 (lstG [nI 7, nI 0, AV.S (s.extract 1 (zN s.size).toNat)]), []))
                  else
                    (none))
                else
                  (some (AV.ag 3 (lstG [nI 0, nI 0, AV.S ByteArray.empty]), []))))))
        else
          (none))
      else
        (none))) := by kernel_rfl
theorem h75 (Γ : Orc) (H : Hd) (ws : List ByteArray) (s : ByteArray) (m i : Int) : hed Tryz.prog cfg Γ 63 H [] [true, false, true] (hdS [(0, slStrS ws), (1, .S s), (7, nI m), (8, nI i)] [] []) =
  bif decide (i < m) then
    (bif bif decide (0 ≤ i) then decide (i < zN ws.length) else false then
      (bif s.toList == (ws.getD i.toNat ByteArray.empty).toList then
        (some (nI i, []))
      else
        (H [true, false, true] (hdS [(0, slStrS ws), (1, AV.S s), (7, nI m), (8, nI (IntKind.i64.wrap (i + 1)))] [] [])))
    else
      (none))
  else
    (some (nI (-1), [])) := by kernel_rfl
theorem h76 (Γ : Orc) (H : Hd) (s t : ByteArray) (n m i : Int) : hed Tryz.prog cfg Γ 64 H [] [true, true, true, true, false, true] (hdS [(0, .S s), (4, .S t), (5, nI n), (17, nI m), (18, nI i)] [] []) =
  bif decide (i < m) then
    (bif bif decide (0 ≤ i) then decide (i < zN t.size) else false then
      (bif decide (byN t i.toNat < 48) then
        (some (AV.tup 2 (lstG [nI 0, AV.B false]), []))
      else
        (bif bif decide (0 ≤ i) then decide (i < zN t.size) else false then
          (bif decide (57 < byN t i.toNat) then
            (some (AV.tup 2 (lstG [nI 0, AV.B false]), []))
          else
            (bif bif decide (0 ≤ i) then decide (i < zN t.size) else false then
              (H [true, true, true, true, false, true] (hdS [(0, AV.S s), (4, AV.S t), (5, nI (IntKind.i64.wrap (IntKind.i64.wrap (10 * n) + IntKind.i64.wrap (IntKind.u8.wrap (byN t i.toNat - 48))))), (17, nI m), (18, nI (IntKind.i64.wrap (i + 1)))] [] []))
            else
              (none)))
        else
          (none)))
    else
      (none))
  else
    (bif decide (zN t.size < zN s.size) then
      (Option.bind (Γ 51 [nI (IntKind.i64.wrap (0 - n))] []) fun r2 =>
      some (AV.tup 2 (lstG [nI (IntKind.i64.wrap (0 - n)), AV.B ((asS r2.fst).toList == s.toList)]), []))
    else
      (Option.bind (Γ 51 [nI n] []) fun r2 =>
      some (AV.tup 2 (lstG [nI n, AV.B ((asS r2.fst).toList == s.toList)]), []))) := by kernel_rfl
theorem h41a (Γ : Orc) (H : Hd) (w r : ByteArray) (ws : List ByteArray) (op bb i : Int) : hed Tryz.prog cfg Γ 38 H [] [true, true, true, true, false, true] (hdS [(2, .pb 66 0), (3, .pb 67 0), (4, .S w), (5, .S r), (6, .rf 352256), (7, nI i)] [(352256, ⟨ws.length, 1, gsStrS ws⟩)] [(66, 9, [nI 0, nI 0, nI 0, nI 0, .S ByteArray.empty, nI 0, nI 0, .S ByteArray.empty, .nsl 3 (fun _ => lstG [nI 0, nI 0, .S ByteArray.empty])]), (67, 9, [nI op, nI 0, nI bb, nI (-1), .S ByteArray.empty, nI 0, nI 0, .S ByteArray.empty, .nsl 3 (fun _ => lstG [nI 0, nI 0, .S ByteArray.empty])])]) =
  bif decide (i ≤ 19) then
    (bif bif decide (0 ≤ i) then decide (i < zN ws.length) else false then
      (bif (ws.getD i.toNat ByteArray.empty).toList == w.toList then
        (H [true, true, true, true, false, true] (hdS [(2, AV.pb 66 0), (3, AV.pb 67 0), (4, AV.S w), (5, AV.S r), (6, AV.rf 352256), (7, nI (IntKind.i64.wrap (i + 1)))] [(352256, ⟨ws.length, 1, fun i => lstG [AV.S (ws.getD i ByteArray.empty)]⟩)] [(66, 9, [nI 0, nI 0, nI 0, nI 0, AV.S ByteArray.empty, nI 0, nI 0, AV.S ByteArray.empty, AV.nsl 3 fun x => lstG [nI 0, nI 0, AV.S ByteArray.empty]]), (67, 9, [nI i, nI 0, nI bb, nI (-1), AV.S ByteArray.empty, nI 0, nI 0, AV.S ByteArray.empty, AV.nsl 3 fun x => lstG [nI 0, nI 0, AV.S ByteArray.empty]])]))
      else
        (H [true, true, true, true, false, true] (hdS [(2, AV.pb 66 0), (3, AV.pb 67 0), (4, AV.S w), (5, AV.S r), (6, AV.rf 352256), (7, nI (IntKind.i64.wrap (i + 1)))] [(352256, ⟨ws.length, 1, fun i => lstG [AV.S (ws.getD i ByteArray.empty)]⟩)] [(66, 9, [nI 0, nI 0, nI 0, nI 0, AV.S ByteArray.empty, nI 0, nI 0, AV.S ByteArray.empty, AV.nsl 3 fun x => lstG [nI 0, nI 0, AV.S ByteArray.empty]]), (67, 9, [nI op, nI 0, nI bb, nI (-1), AV.S ByteArray.empty, nI 0, nI 0, AV.S ByteArray.empty, AV.nsl 3 fun x => lstG [nI 0, nI 0, AV.S ByteArray.empty]])])))
    else
      (none))
  else
    (Option.bind (Γ 27 [] []) fun r1 =>
    H [true, true, true, true, true, true, false, true] (hdS [(2, AV.pb 66 0), (3, AV.pb 67 0), (4, AV.S w), (5, AV.S r), (8, AV.rf 405504), (9, nI 1)] [(405504, ⟨asN r1.fst, 1, fun i => lstG [AV.S (asS (asG r1.fst i 0))]⟩)] [(66, 9, [nI 0, nI 0, nI 0, nI 0, AV.S ByteArray.empty, nI 0, nI 0, AV.S ByteArray.empty, AV.nsl 3 fun x => lstG [nI 0, nI 0, AV.S ByteArray.empty]]), (67, 9, [nI op, nI 0, nI bb, nI (-1), AV.S ByteArray.empty, nI 0, nI 0, AV.S ByteArray.empty, AV.nsl 3 fun x => lstG [nI 0, nI 0, AV.S ByteArray.empty]])])) := by kernel_rfl
theorem h41b (Γ : Orc) (H : Hd) (w r : ByteArray) (ws : List ByteArray) (op bb i : Int) : hed Tryz.prog cfg Γ 38 H [] [true, true, true, true, true, true, false, true] (hdS [(2, .pb 66 0), (3, .pb 67 0), (4, .S w), (5, .S r), (8, .rf 405504), (9, nI i)] [(405504, ⟨ws.length, 1, gsStrS ws⟩)] [(66, 9, [nI 0, nI 0, nI 0, nI 0, .S ByteArray.empty, nI 0, nI 0, .S ByteArray.empty, .nsl 3 (fun _ => lstG [nI 0, nI 0, .S ByteArray.empty])]), (67, 9, [nI op, nI 0, nI bb, nI (-1), .S ByteArray.empty, nI 0, nI 0, .S ByteArray.empty, .nsl 3 (fun _ => lstG [nI 0, nI 0, .S ByteArray.empty])])]) =
  bif decide (i ≤ 4) then
    (bif bif decide (0 ≤ i) then decide (i < zN ws.length) else false then
      (bif (ws.getD i.toNat ByteArray.empty).toList == w.toList then
        (H [true, true, true, true, true, true, false, true] (hdS [(2, AV.pb 66 0), (3, AV.pb 67 0), (4, AV.S w), (5, AV.S r), (8, AV.rf 405504), (9, nI (IntKind.i64.wrap (i + 1)))] [(405504, ⟨ws.length, 1, fun i => lstG [AV.S (ws.getD i ByteArray.empty)]⟩)] [(66, 9, [nI 0, nI 0, nI 0, nI 0, AV.S ByteArray.empty, nI 0, nI 0, AV.S ByteArray.empty, AV.nsl 3 fun x => lstG [nI 0, nI 0, AV.S ByteArray.empty]]), (67, 9, [nI 9, nI 0, nI i, nI (-1), AV.S ByteArray.empty, nI 0, nI 0, AV.S ByteArray.empty, AV.nsl 3 fun x => lstG [nI 0, nI 0, AV.S ByteArray.empty]])]))
      else
        (H [true, true, true, true, true, true, false, true] (hdS [(2, AV.pb 66 0), (3, AV.pb 67 0), (4, AV.S w), (5, AV.S r), (8, AV.rf 405504), (9, nI (IntKind.i64.wrap (i + 1)))] [(405504, ⟨ws.length, 1, fun i => lstG [AV.S (ws.getD i ByteArray.empty)]⟩)] [(66, 9, [nI 0, nI 0, nI 0, nI 0, AV.S ByteArray.empty, nI 0, nI 0, AV.S ByteArray.empty, AV.nsl 3 fun x => lstG [nI 0, nI 0, AV.S ByteArray.empty]]), (67, 9, [nI op, nI 0, nI bb, nI (-1), AV.S ByteArray.empty, nI 0, nI 0, AV.S ByteArray.empty, AV.nsl 3 fun x => lstG [nI 0, nI 0, AV.S ByteArray.empty]])])))
    else
      (none))
  else
    (Option.bind (Γ 69 [AV.S r] []) fun r1 =>
    Option.bind (Γ 70 [AV.S (asS (asA r1.fst 0))] []) fun r2 =>
    bif decide (op = 13) then
      (Option.bind (Γ 71 [AV.S (asS (asA r1.fst 1))] []) fun r4 =>
      bif bif okT then true else false then
        (some (AV.ag 9 (lstG [nI op, nI 0, nI bb, nI (-1), AV.S (asS (asA r1.fst 0)), nI (asI (asA (asA r4.fst 0) 0)), nI (asI (asA (asA r4.fst 0) 1)), AV.S (asS (asA (asA r4.fst 0) 2)), AV.own 0 3 fun i => lstG [nI 0, nI 0, AV.S ByteArray.empty]]), []))
      else
        (none))
    else
      (bif decide (op = 15) then
        (bif decide (op = 15) then
          (Option.bind (Γ 69 [AV.S (asS (asA r1.fst 1))] []) fun r6 =>
          bif decide (op = 9) then
            (Option.bind (Γ 71 [AV.S (asS (asA r1.fst 1))] []) fun r8 =>
            bif bif okT then true else false then
              (some (AV.ag 9 (lstG [nI op, nI 0, nI (asI (asA r2.fst 0)), nI (-1), AV.S ByteArray.empty, nI (asI (asA (asA r8.fst 0) 0)), nI (asI (asA (asA r8.fst 0) 1)), AV.S (asS (asA (asA r8.fst 0) 2)), AV.own 0 3 fun i => lstG [nI 0, nI 0, AV.S ByteArray.empty]]), []))
            else
              (none))
          else
            (bif decide (op = 7) then
              (bif decide (op = 7) then
                (Option.bind (Γ 70 [AV.S (asS (asA r6.fst 0))] []) fun r10 =>
                bif bif okT then true else false then
                  (some (AV.ag 9 (lstG [nI op, nI 0, nI (asI (asA r10.fst 0)), nI (-1), AV.S ByteArray.empty, nI 0, nI 0, AV.S ByteArray.empty, AV.own 0 3 fun i => lstG [nI 0, nI 0, AV.S ByteArray.empty]]), []))
                else
                  (none))
              else
                (bif decide (op = 14) then
                  (bif (asS (asA r6.fst 0)).toList == (bs [98, 97, 99, 107]).toList then
                    (Option.bind (Γ 69 [AV.S (asS (asA r6.fst 1))] []) fun r12 =>
                    bif (asS (asA r12.fst 0)).toList == (bs [105, 102]).toList then
                      (Option.bind (Γ 72 [AV.S (asS (asA r12.fst 1))] []) fun r14 =>
                      bif bif okT then true else false then
                        (some (AV.ag 9 (lstG [nI op, nI 0, nI 1, nI (-1), AV.S ByteArray.empty, nI 0, nI 0, AV.S ByteArray.empty, vowTermS (asA r14.fst 0)]), []))
                      else
                        (none))
                    else
                      (bif bif okT then true else false then
                        (some (AV.ag 9 (lstG [nI op, nI 0, nI 1, nI (-1), AV.S ByteArray.empty, nI 0, nI 0, AV.S ByteArray.empty, AV.own 0 3 fun i => lstG [nI 0, nI 0, AV.S ByteArray.empty]]), []))
                      else
                        (none)))
                  else
                    (bif (asS (asA r6.fst 0)).toList == (bs [105, 102]).toList then
                      (Option.bind (Γ 72 [AV.S (asS (asA r6.fst 1))] []) fun r13 =>
                      bif bif okT then true else false then
                        (some (AV.ag 9 (lstG [nI op, nI 0, nI (asI (asA r2.fst 0)), nI (-1), AV.S ByteArray.empty, nI 0, nI 0, AV.S ByteArray.empty, vowTermS (asA r13.fst 0)]), []))
                      else
                        (none))
                    else
                      (bif bif okT then true else false then
                        (some (AV.ag 9 (lstG [nI op, nI 0, nI (asI (asA r2.fst 0)), nI (-1), AV.S ByteArray.empty, nI 0, nI 0, AV.S ByteArray.empty, AV.own 0 3 fun i => lstG [nI 0, nI 0, AV.S ByteArray.empty]]), []))
                      else
                        (none))))
                else
                  (bif (asS (asA r6.fst 0)).toList == (bs [98, 121]).toList then
                    (Option.bind (Γ 70 [AV.S (asS (asA r6.fst 1))] []) fun r12 =>
                    bif bif okT then true else false then
                      (some (AV.ag 9 (lstG [nI op, nI 0, nI (asI (asA r2.fst 0)), nI (asI (asA r12.fst 0)), AV.S ByteArray.empty, nI 0, nI 0, AV.S ByteArray.empty, AV.own 0 3 fun i => lstG [nI 0, nI 0, AV.S ByteArray.empty]]), []))
                    else
                      (none))
                  else
                    (bif bif okT then true else false then
                      (some (AV.ag 9 (lstG [nI op, nI 0, nI (asI (asA r2.fst 0)), nI (-1), AV.S ByteArray.empty, nI 0, nI 0, AV.S ByteArray.empty, AV.own 0 3 fun i => lstG [nI 0, nI 0, AV.S ByteArray.empty]]), []))
                    else
                      (none)))))
            else
              (bif decide (op = 19) then
                (Option.bind (Γ 70 [AV.S (asS (asA r6.fst 0))] []) fun r10 =>
                bif bif okT then true else false then
                  (some (AV.ag 9 (lstG [nI op, nI 0, nI (asI (asA r10.fst 0)), nI (-1), AV.S ByteArray.empty, nI 0, nI 0, AV.S ByteArray.empty, AV.own 0 3 fun i => lstG [nI 0, nI 0, AV.S ByteArray.empty]]), []))
                else
                  (none))
              else
                (bif decide (op = 14) then
                  (bif (asS (asA r6.fst 0)).toList == (bs [98, 97, 99, 107]).toList then
                    (Option.bind (Γ 69 [AV.S (asS (asA r6.fst 1))] []) fun r12 =>
                    bif (asS (asA r12.fst 0)).toList == (bs [105, 102]).toList then
                      (Option.bind (Γ 72 [AV.S (asS (asA r12.fst 1))] []) fun r14 =>
                      bif bif okT then true else false then
                        (some (AV.ag 9 (lstG [nI op, nI 0, nI 1, nI (-1), AV.S ByteArray.empty, nI 0, nI 0, AV.S ByteArray.empty, vowTermS (asA r14.fst 0)]), []))
                      else
                        (none))
                    else
                      (bif bif okT then true else false then
                        (some (AV.ag 9 (lstG [nI op, nI 0, nI 1, nI (-1), AV.S ByteArray.empty, nI 0, nI 0, AV.S ByteArray.empty, AV.own 0 3 fun i => lstG [nI 0, nI 0, AV.S ByteArray.empty]]), []))
                      else
                        (none)))
                  else
                    (bif (asS (asA r6.fst 0)).toList == (bs [105, 102]).toList then
                      (Option.bind (Γ 72 [AV.S (asS (asA r6.fst 1))] []) fun r13 =>
                      bif bif okT then true else false then
                        (some (AV.ag 9 (lstG [nI op, nI 0, nI (asI (asA r2.fst 0)), nI (-1), AV.S ByteArray.empty, nI 0, nI 0, AV.S ByteArray.empty, vowTermS (asA r13.fst 0)]), []))
                      else
                        (none))
                    else
                      (bif bif okT then true else false then
                        (some (AV.ag 9 (lstG [nI op, nI 0, nI (asI (asA r2.fst 0)), nI (-1), AV.S ByteArray.empty, nI 0, nI 0, AV.S ByteArray.empty, AV.own 0 3 fun i => lstG [nI 0, nI 0, AV.S ByteArray.empty]]), []))
                      else
                        (none))))
                else
                  (bif (asS (asA r6.fst 0)).toList == (bs [98, 121]).toList then
                    (Option.bind (Γ 70 [AV.S (asS (asA r6.fst 1))] []) fun r12 =>
                    bif bif okT then true else false then
                      (some (AV.ag 9 (lstG [nI op, nI 0, nI (asI (asA r2.fst 0)), nI (asI (asA r12.fst 0)), AV.S ByteArray.empty, nI 0, nI 0, AV.S ByteArray.empty, AV.own 0 3 fun i => lstG [nI 0, nI 0, AV.S ByteArray.empty]]), []))
                    else
                      (none))
                  else
                    (bif bif okT then true else false then
                      (some (AV.ag 9 (lstG [nI op, nI 0, nI (asI (asA r2.fst 0)), nI (-1), AV.S ByteArray.empty, nI 0, nI 0, AV.S ByteArray.empty, AV.own 0 3 fun i => lstG [nI 0, nI 0, AV.S ByteArray.empty]]), []))
                    else
                      (none)))))))
        else
          (Option.bind (Γ 69 [AV.S (asS (asA r1.fst 1))] []) fun r6 =>
          bif decide (op = 9) then
            (Option.bind (Γ 71 [AV.S (asS (asA r1.fst 1))] []) fun r8 =>
            bif bif okT then true else false then
              (some (AV.ag 9 (lstG [nI op, nI (asI (asA r2.fst 0)), nI bb, nI (-1), AV.S ByteArray.empty, nI (asI (asA (asA r8.fst 0) 0)), nI (asI (asA (asA r8.fst 0) 1)), AV.S (asS (asA (asA r8.fst 0) 2)), AV.own 0 3 fun i => lstG [nI 0, nI 0, AV.S ByteArray.empty]]), []))
            else
              (none))
          else
            (bif decide (op = 7) then
              (bif decide (op = 7) then
                (Option.bind (Γ 70 [AV.S (asS (asA r6.fst 0))] []) fun r10 =>
                bif bif okT then true else false then
                  (some (AV.ag 9 (lstG [nI op, nI (asI (asA r2.fst 0)), nI (asI (asA r10.fst 0)), nI (-1), AV.S ByteArray.empty, nI 0, nI 0, AV.S ByteArray.empty, AV.own 0 3 fun i => lstG [nI 0, nI 0, AV.S ByteArray.empty]]), []))
                else
                  (none))
              else
                (bif decide (op = 14) then
                  (bif (asS (asA r6.fst 0)).toList == (bs [98, 97, 99, 107]).toList then
                    (Option.bind (Γ 69 [AV.S (asS (asA r6.fst 1))] []) fun r12 =>
                    bif (asS (asA r12.fst 0)).toList == (bs [105, 102]).toList then
                      (Option.bind (Γ 72 [AV.S (asS (asA r12.fst 1))] []) fun r14 =>
                      bif bif okT then true else false then
                        (some (AV.ag 9 (lstG [nI op, nI (asI (asA r2.fst 0)), nI 1, nI (-1), AV.S ByteArray.empty, nI 0, nI 0, AV.S ByteArray.empty, vowTermS (asA r14.fst 0)]), []))
                      else
                        (none))
                    else
                      (bif bif okT then true else false then
                        (some (AV.ag 9 (lstG [nI op, nI (asI (asA r2.fst 0)), nI 1, nI (-1), AV.S ByteArray.empty, nI 0, nI 0, AV.S ByteArray.empty, AV.own 0 3 fun i => lstG [nI 0, nI 0, AV.S ByteArray.empty]]), []))
                      else
                        (none)))
                  else
                    (bif (asS (asA r6.fst 0)).toList == (bs [105, 102]).toList then
                      (Option.bind (Γ 72 [AV.S (asS (asA r6.fst 1))] []) fun r13 =>
                      bif bif okT then true else false then
                        (some (AV.ag 9 (lstG [nI op, nI (asI (asA r2.fst 0)), nI bb, nI (-1), AV.S ByteArray.empty, nI 0, nI 0, AV.S ByteArray.empty, vowTermS (asA r13.fst 0)]), []))
                      else
                        (none))
                    else
                      (bif bif okT then true else false then
                        (some (AV.ag 9 (lstG [nI op, nI (asI (asA r2.fst 0)), nI bb, nI (-1), AV.S ByteArray.empty, nI 0, nI 0, AV.S ByteArray.empty, AV.own 0 3 fun i => lstG [nI 0, nI 0, AV.S ByteArray.empty]]), []))
                      else
                        (none))))
                else
                  (bif (asS (asA r6.fst 0)).toList == (bs [98, 121]).toList then
                    (Option.bind (Γ 70 [AV.S (asS (asA r6.fst 1))] []) fun r12 =>
                    bif bif okT then true else false then
                      (some (AV.ag 9 (lstG [nI op, nI (asI (asA r2.fst 0)), nI bb, nI (asI (asA r12.fst 0)), AV.S ByteArray.empty, nI 0, nI 0, AV.S ByteArray.empty, AV.own 0 3 fun i => lstG [nI 0, nI 0, AV.S ByteArray.empty]]), []))
                    else
                      (none))
                  else
                    (bif bif okT then true else false then
                      (some (AV.ag 9 (lstG [nI op, nI (asI (asA r2.fst 0)), nI bb, nI (-1), AV.S ByteArray.empty, nI 0, nI 0, AV.S ByteArray.empty, AV.own 0 3 fun i => lstG [nI 0, nI 0, AV.S ByteArray.empty]]), []))
                    else
                      (none)))))
            else
              (bif decide (op = 19) then
                (Option.bind (Γ 70 [AV.S (asS (asA r6.fst 0))] []) fun r10 =>
                bif bif okT then true else false then
                  (some (AV.ag 9 (lstG [nI op, nI (asI (asA r2.fst 0)), nI (asI (asA r10.fst 0)), nI (-1), AV.S ByteArray.empty, nI 0, nI 0, AV.S ByteArray.empty, AV.own 0 3 fun i => lstG [nI 0, nI 0, AV.S ByteArray.empty]]), []))
                else
                  (none))
              else
                (bif decide (op = 14) then
                  (bif (asS (asA r6.fst 0)).toList == (bs [98, 97, 99, 107]).toList then
                    (Option.bind (Γ 69 [AV.S (asS (asA r6.fst 1))] []) fun r12 =>
                    bif (asS (asA r12.fst 0)).toList == (bs [105, 102]).toList then
                      (Option.bind (Γ 72 [AV.S (asS (asA r12.fst 1))] []) fun r14 =>
                      bif bif okT then true else false then
                        (some (AV.ag 9 (lstG [nI op, nI (asI (asA r2.fst 0)), nI 1, nI (-1), AV.S ByteArray.empty, nI 0, nI 0, AV.S ByteArray.empty, vowTermS (asA r14.fst 0)]), []))
                      else
                        (none))
                    else
                      (bif bif okT then true else false then
                        (some (AV.ag 9 (lstG [nI op, nI (asI (asA r2.fst 0)), nI 1, nI (-1), AV.S ByteArray.empty, nI 0, nI 0, AV.S ByteArray.empty, AV.own 0 3 fun i => lstG [nI 0, nI 0, AV.S ByteArray.empty]]), []))
                      else
                        (none)))
                  else
                    (bif (asS (asA r6.fst 0)).toList == (bs [105, 102]).toList then
                      (Option.bind (Γ 72 [AV.S (asS (asA r6.fst 1))] []) fun r13 =>
                      bif bif okT then true else false then
                        (some (AV.ag 9 (lstG [nI op, nI (asI (asA r2.fst 0)), nI bb, nI (-1), AV.S ByteArray.empty, nI 0, nI 0, AV.S ByteArray.empty, vowTermS (asA r13.fst 0)]), []))
                      else
                        (none))
                    else
                      (bif bif okT then true else false then
                        (some (AV.ag 9 (lstG [nI op, nI (asI (asA r2.fst 0)), nI bb, nI (-1), AV.S ByteArray.empty, nI 0, nI 0, AV.S ByteArray.empty, AV.own 0 3 fun i => lstG [nI 0, nI 0, AV.S ByteArray.empty]]), []))
                      else
                        (none))))
                else
                  (bif (asS (asA r6.fst 0)).toList == (bs [98, 121]).toList then
                    (Option.bind (Γ 70 [AV.S (asS (asA r6.fst 1))] []) fun r12 =>
                    bif bif okT then true else false then
                      (some (AV.ag 9 (lstG [nI op, nI (asI (asA r2.fst 0)), nI bb, nI (asI (asA r12.fst 0)), AV.S ByteArray.empty, nI 0, nI 0, AV.S ByteArray.empty, AV.own 0 3 fun i => lstG [nI 0, nI 0, AV.S ByteArray.empty]]), []))
                    else
                      (none))
                  else
                    (bif bif okT then true else false then
                      (some (AV.ag 9 (lstG [nI op, nI (asI (asA r2.fst 0)), nI bb, nI (-1), AV.S ByteArray.empty, nI 0, nI 0, AV.S ByteArray.empty, AV.own 0 3 fun i => lstG [nI 0, nI 0, AV.S ByteArray.empty]]), []))
                    else
                      (none))))))))
      else
        (bif decide (op = 16) then
          (Option.bind (Γ 69 [AV.S (asS (asA r1.fst 1))] []) fun r6 =>
          bif decide (op = 9) then
            (Option.bind (Γ 71 [AV.S (asS (asA r1.fst 1))] []) fun r8 =>
            bif bif okT then true else false then
              (some (AV.ag 9 (lstG [nI op, nI 0, nI (asI (asA r2.fst 0)), nI (-1), AV.S ByteArray.empty, nI (asI (asA (asA r8.fst 0) 0)), nI (asI (asA (asA r8.fst 0) 1)), AV.S (asS (asA (asA r8.fst 0) 2)), AV.own 0 3 fun i => lstG [nI 0, nI 0, AV.S ByteArray.empty]]), []))
            else
              (none))
          else
            (bif decide (op = 7) then
              (bif decide (op = 7) then
                (Option.bind (Γ 70 [AV.S (asS (asA r6.fst 0))] []) fun r10 =>
                bif bif okT then true else false then
                  (some (AV.ag 9 (lstG [nI op, nI 0, nI (asI (asA r10.fst 0)), nI (-1), AV.S ByteArray.empty, nI 0, nI 0, AV.S ByteArray.empty, AV.own 0 3 fun i => lstG [nI 0, nI 0, AV.S ByteArray.empty]]), []))
                else
                  (none))
              else
                (bif decide (op = 14) then
                  (bif (asS (asA r6.fst 0)).toList == (bs [98, 97, 99, 107]).toList then
                    (Option.bind (Γ 69 [AV.S (asS (asA r6.fst 1))] []) fun r12 =>
                    bif (asS (asA r12.fst 0)).toList == (bs [105, 102]).toList then
                      (Option.bind (Γ 72 [AV.S (asS (asA r12.fst 1))] []) fun r14 =>
                      bif bif okT then true else false then
                        (some (AV.ag 9 (lstG [nI op, nI 0, nI 1, nI (-1), AV.S ByteArray.empty, nI 0, nI 0, AV.S ByteArray.empty, vowTermS (asA r14.fst 0)]), []))
                      else
                        (none))
                    else
                      (bif bif okT then true else false then
                        (some (AV.ag 9 (lstG [nI op, nI 0, nI 1, nI (-1), AV.S ByteArray.empty, nI 0, nI 0, AV.S ByteArray.empty, AV.own 0 3 fun i => lstG [nI 0, nI 0, AV.S ByteArray.empty]]), []))
                      else
                        (none)))
                  else
                    (bif (asS (asA r6.fst 0)).toList == (bs [105, 102]).toList then
                      (Option.bind (Γ 72 [AV.S (asS (asA r6.fst 1))] []) fun r13 =>
                      bif bif okT then true else false then
                        (some (AV.ag 9 (lstG [nI op, nI 0, nI (asI (asA r2.fst 0)), nI (-1), AV.S ByteArray.empty, nI 0, nI 0, AV.S ByteArray.empty, vowTermS (asA r13.fst 0)]), []))
                      else
                        (none))
                    else
                      (bif bif okT then true else false then
                        (some (AV.ag 9 (lstG [nI op, nI 0, nI (asI (asA r2.fst 0)), nI (-1), AV.S ByteArray.empty, nI 0, nI 0, AV.S ByteArray.empty, AV.own 0 3 fun i => lstG [nI 0, nI 0, AV.S ByteArray.empty]]), []))
                      else
                        (none))))
                else
                  (bif (asS (asA r6.fst 0)).toList == (bs [98, 121]).toList then
                    (Option.bind (Γ 70 [AV.S (asS (asA r6.fst 1))] []) fun r12 =>
                    bif bif okT then true else false then
                      (some (AV.ag 9 (lstG [nI op, nI 0, nI (asI (asA r2.fst 0)), nI (asI (asA r12.fst 0)), AV.S ByteArray.empty, nI 0, nI 0, AV.S ByteArray.empty, AV.own 0 3 fun i => lstG [nI 0, nI 0, AV.S ByteArray.empty]]), []))
                    else
                      (none))
                  else
                    (bif bif okT then true else false then
                      (some (AV.ag 9 (lstG [nI op, nI 0, nI (asI (asA r2.fst 0)), nI (-1), AV.S ByteArray.empty, nI 0, nI 0, AV.S ByteArray.empty, AV.own 0 3 fun i => lstG [nI 0, nI 0, AV.S ByteArray.empty]]), []))
                    else
                      (none)))))
            else
              (bif decide (op = 19) then
                (Option.bind (Γ 70 [AV.S (asS (asA r6.fst 0))] []) fun r10 =>
                bif bif okT then true else false then
                  (some (AV.ag 9 (lstG [nI op, nI 0, nI (asI (asA r10.fst 0)), nI (-1), AV.S ByteArray.empty, nI 0, nI 0, AV.S ByteArray.empty, AV.own 0 3 fun i => lstG [nI 0, nI 0, AV.S ByteArray.empty]]), []))
                else
                  (none))
              else
                (bif decide (op = 14) then
                  (bif (asS (asA r6.fst 0)).toList == (bs [98, 97, 99, 107]).toList then
                    (Option.bind (Γ 69 [AV.S (asS (asA r6.fst 1))] []) fun r12 =>
                    bif (asS (asA r12.fst 0)).toList == (bs [105, 102]).toList then
                      (Option.bind (Γ 72 [AV.S (asS (asA r12.fst 1))] []) fun r14 =>
                      bif bif okT then true else false then
                        (some (AV.ag 9 (lstG [nI op, nI 0, nI 1, nI (-1), AV.S ByteArray.empty, nI 0, nI 0, AV.S ByteArray.empty, vowTermS (asA r14.fst 0)]), []))
                      else
                        (none))
                    else
                      (bif bif okT then true else false then
                        (some (AV.ag 9 (lstG [nI op, nI 0, nI 1, nI (-1), AV.S ByteArray.empty, nI 0, nI 0, AV.S ByteArray.empty, AV.own 0 3 fun i => lstG [nI 0, nI 0, AV.S ByteArray.empty]]), []))
                      else
                        (none)))
                  else
                    (bif (asS (asA r6.fst 0)).toList == (bs [105, 102]).toList then
                      (Option.bind (Γ 72 [AV.S (asS (asA r6.fst 1))] []) fun r13 =>
                      bif bif okT then true else false then
                        (some (AV.ag 9 (lstG [nI op, nI 0, nI (asI (asA r2.fst 0)), nI (-1), AV.S ByteArray.empty, nI 0, nI 0, AV.S ByteArray.empty, vowTermS (asA r13.fst 0)]), []))
                      else
                        (none))
                    else
                      (bif bif okT then true else false then
                        (some (AV.ag 9 (lstG [nI op, nI 0, nI (asI (asA r2.fst 0)), nI (-1), AV.S ByteArray.empty, nI 0, nI 0, AV.S ByteArray.empty, AV.own 0 3 fun i => lstG [nI 0, nI 0, AV.S ByteArray.empty]]), []))
                      else
                        (none))))
                else
                  (bif (asS (asA r6.fst 0)).toList == (bs [98, 121]).toList then
                    (Option.bind (Γ 70 [AV.S (asS (asA r6.fst 1))] []) fun r12 =>
                    bif bif okT then true else false then
                      (some (AV.ag 9 (lstG [nI op, nI 0, nI (asI (asA r2.fst 0)), nI (asI (asA r12.fst 0)), AV.S ByteArray.empty, nI 0, nI 0, AV.S ByteArray.empty, AV.own 0 3 fun i => lstG [nI 0, nI 0, AV.S ByteArray.empty]]), []))
                    else
                      (none))
                  else
                    (bif bif okT then true else false then
                      (some (AV.ag 9 (lstG [nI op, nI 0, nI (asI (asA r2.fst 0)), nI (-1), AV.S ByteArray.empty, nI 0, nI 0, AV.S ByteArray.empty, AV.own 0 3 fun i => lstG [nI 0, nI 0, AV.S ByteArray.empty]]), []))
                    else
                      (none)))))))
        else
          (Option.bind (Γ 69 [AV.S (asS (asA r1.fst 1))] []) fun r6 =>
          bif decide (op = 9) then
            (Option.bind (Γ 71 [AV.S (asS (asA r1.fst 1))] []) fun r8 =>
            bif bif okT then true else false then
              (some (AV.ag 9 (lstG [nI op, nI (asI (asA r2.fst 0)), nI bb, nI (-1), AV.S ByteArray.empty, nI (asI (asA (asA r8.fst 0) 0)), nI (asI (asA (asA r8.fst 0) 1)), AV.S (asS (asA (asA r8.fst 0) 2)), AV.own 0 3 fun i => lstG [nI 0, nI 0, AV.S ByteArray.empty]]), []))
            else
              (none))
          else
            (bif decide (op = 7) then
              (bif decide (op = 7) then
                (Option.bind (Γ 70 [AV.S (asS (asA r6.fst 0))] []) fun r10 =>
                bif bif okT then true else false then
                  (some (AV.ag 9 (lstG [nI op, nI (asI (asA r2.fst 0)), nI (asI (asA r10.fst 0)), nI (-1), AV.S ByteArray.empty, nI 0, nI 0, AV.S ByteArray.empty, AV.own 0 3 fun i => lstG [nI 0, nI 0, AV.S ByteArray.empty]]), []))
                else
                  (none))
              else
                (bif decide (op = 14) then
                  (bif (asS (asA r6.fst 0)).toList == (bs [98, 97, 99, 107]).toList then
                    (Option.bind (Γ 69 [AV.S (asS (asA r6.fst 1))] []) fun r12 =>
                    bif (asS (asA r12.fst 0)).toList == (bs [105, 102]).toList then
                      (Option.bind (Γ 72 [AV.S (asS (asA r12.fst 1))] []) fun r14 =>
                      bif bif okT then true else false then
                        (some (AV.ag 9 (lstG [nI op, nI (asI (asA r2.fst 0)), nI 1, nI (-1), AV.S ByteArray.empty, nI 0, nI 0, AV.S ByteArray.empty, vowTermS (asA r14.fst 0)]), []))
                      else
                        (none))
                    else
                      (bif bif okT then true else false then
                        (some (AV.ag 9 (lstG [nI op, nI (asI (asA r2.fst 0)), nI 1, nI (-1), AV.S ByteArray.empty, nI 0, nI 0, AV.S ByteArray.empty, AV.own 0 3 fun i => lstG [nI 0, nI 0, AV.S ByteArray.empty]]), []))
                      else
                        (none)))
                  else
                    (bif (asS (asA r6.fst 0)).toList == (bs [105, 102]).toList then
                      (Option.bind (Γ 72 [AV.S (asS (asA r6.fst 1))] []) fun r13 =>
                      bif bif okT then true else false then
                        (some (AV.ag 9 (lstG [nI op, nI (asI (asA r2.fst 0)), nI bb, nI (-1), AV.S ByteArray.empty, nI 0, nI 0, AV.S ByteArray.empty, vowTermS (asA r13.fst 0)]), []))
                      else
                        (none))
                    else
                      (bif bif okT then true else false then
                        (some (AV.ag 9 (lstG [nI op, nI (asI (asA r2.fst 0)), nI bb, nI (-1), AV.S ByteArray.empty, nI 0, nI 0, AV.S ByteArray.empty, AV.own 0 3 fun i => lstG [nI 0, nI 0, AV.S ByteArray.empty]]), []))
                      else
                        (none))))
                else
                  (bif (asS (asA r6.fst 0)).toList == (bs [98, 121]).toList then
                    (Option.bind (Γ 70 [AV.S (asS (asA r6.fst 1))] []) fun r12 =>
                    bif bif okT then true else false then
                      (some (AV.ag 9 (lstG [nI op, nI (asI (asA r2.fst 0)), nI bb, nI (asI (asA r12.fst 0)), AV.S ByteArray.empty, nI 0, nI 0, AV.S ByteArray.empty, AV.own 0 3 fun i => lstG [nI 0, nI 0, AV.S ByteArray.empty]]), []))
                    else
                      (none))
                  else
                    (bif bif okT then true else false then
                      (some (AV.ag 9 (lstG [nI op, nI (asI (asA r2.fst 0)), nI bb, nI (-1), AV.S ByteArray.empty, nI 0, nI 0, AV.S ByteArray.empty, AV.own 0 3 fun i => lstG [nI 0, nI 0, AV.S ByteArray.empty]]), []))
                    else
                      (none)))))
            else
              (bif decide (op = 19) then
                (Option.bind (Γ 70 [AV.S (asS (asA r6.fst 0))] []) fun r10 =>
                bif bif okT then true else false then
                  (some (AV.ag 9 (lstG [nI op, nI (asI (asA r2.fst 0)), nI (asI (asA r10.fst 0)), nI (-1), AV.S ByteArray.empty, nI 0, nI 0, AV.S ByteArray.empty, AV.own 0 3 fun i => lstG [nI 0, nI 0, AV.S ByteArray.empty]]), []))
                else
                  (none))
              else
                (bif decide (op = 14) then
                  (bif (asS (asA r6.fst 0)).toList == (bs [98, 97, 99, 107]).toList then
                    (Option.bind (Γ 69 [AV.S (asS (asA r6.fst 1))] []) fun r12 =>
                    bif (asS (asA r12.fst 0)).toList == (bs [105, 102]).toList then
                      (Option.bind (Γ 72 [AV.S (asS (asA r12.fst 1))] []) fun r14 =>
                      bif bif okT then true else false then
                        (some (AV.ag 9 (lstG [nI op, nI (asI (asA r2.fst 0)), nI 1, nI (-1), AV.S ByteArray.empty, nI 0, nI 0, AV.S ByteArray.empty, vowTermS (asA r14.fst 0)]), []))
                      else
                        (none))
                    else
                      (bif bif okT then true else false then
                        (some (AV.ag 9 (lstG [nI op, nI (asI (asA r2.fst 0)), nI 1, nI (-1), AV.S ByteArray.empty, nI 0, nI 0, AV.S ByteArray.empty, AV.own 0 3 fun i => lstG [nI 0, nI 0, AV.S ByteArray.empty]]), []))
                      else
                        (none)))
                  else
                    (bif (asS (asA r6.fst 0)).toList == (bs [105, 102]).toList then
                      (Option.bind (Γ 72 [AV.S (asS (asA r6.fst 1))] []) fun r13 =>
                      bif bif okT then true else false then
                        (some (AV.ag 9 (lstG [nI op, nI (asI (asA r2.fst 0)), nI bb, nI (-1), AV.S ByteArray.empty, nI 0, nI 0, AV.S ByteArray.empty, vowTermS (asA r13.fst 0)]), []))
                      else
                        (none))
                    else
                      (bif bif okT then true else false then
                        (some (AV.ag 9 (lstG [nI op, nI (asI (asA r2.fst 0)), nI bb, nI (-1), AV.S ByteArray.empty, nI 0, nI 0, AV.S ByteArray.empty, AV.own 0 3 fun i => lstG [nI 0, nI 0, AV.S ByteArray.empty]]), []))
                      else
                        (none))))
                else
                  (bif (asS (asA r6.fst 0)).toList == (bs [98, 121]).toList then
                    (Option.bind (Γ 70 [AV.S (asS (asA r6.fst 1))] []) fun r12 =>
                    bif bif okT then true else false then
                      (some (AV.ag 9 (lstG [nI op, nI (asI (asA r2.fst 0)), nI bb, nI (asI (asA r12.fst 0)), AV.S ByteArray.empty, nI 0, nI 0, AV.S ByteArray.empty, AV.own 0 3 fun i => lstG [nI 0, nI 0, AV.S ByteArray.empty]]), []))
                    else
                      (none))
                  else
                    (bif bif okT then true else false then
                      (some (AV.ag 9 (lstG [nI op, nI (asI (asA r2.fst 0)), nI bb, nI (-1), AV.S ByteArray.empty, nI 0, nI 0, AV.S ByteArray.empty, AV.own 0 3 fun i => lstG [nI 0, nI 0, AV.S ByteArray.empty]]), []))
                    else
                      (none)))))))))) := by kernel_rfl
theorem e21 (Γ : Orc) (H : Hd) (s : ByteArray) : ent Tryz.prog cfg Γ 17 H [.S s] [] =
  H [true, true, true, false] (hdS [(0, AV.S s), (4, AV.rf 479232), (5, nI 0)] [(479232, ⟨0, 9, fun i => lstG [nI 0, nI 0, nI 0, nI 0, AV.S ByteArray.empty, nI 0, nI 0, AV.S ByteArray.empty, AV.own 0 3 fun i => lstG [nI 0, nI 0, AV.S ByteArray.empty]]⟩)] []) := by kernel_rfl
theorem e22 (Γ : Orc) (H : Hd) (s : ByteArray) : ent Tryz.prog cfg Γ 16 H [.S s] [] =
  H [true, true, false] (hdS [(0, AV.S s), (4, AV.rf 425984)] [(425984, ⟨0, 9, fun i => lstG [nI 0, nI 0, nI 0, nI 0, AV.S ByteArray.empty, nI 0, nI 0, AV.S ByteArray.empty, AV.own 0 3 fun i => lstG [nI 0, nI 0, AV.S ByteArray.empty]]⟩)] []) := by kernel_rfl
theorem h22 (Γ : Orc) (H : Hd) (s : ByteArray) (cs : List VCall) : hed Tryz.prog cfg Γ 16 H [] [true, true, false] (hdS [(0, .S s), (4, .rf 425984)] [(425984, ⟨cs.length, 9, goCallS cs⟩)] []) =
  bif !s.toList == ByteArray.empty.toList then
    (Option.bind (Γ 32 [AV.S s, AV.S (bs [10])] []) fun r1 =>
    Option.bind (Γ 9 [AV.S (asS (asA r1.fst 0))] []) fun r2 =>
    bif !asB (asA r2.fst 1) then
      (bif bif okU then true else false then
        (some (AV.tup 2 (lstG [AV.own 0 9 fun i => lstG [nI 0, nI 0, nI 0, nI 0, AV.S ByteArray.empty, nI 0, nI 0, AV.S ByteArray.empty, AV.own 0 3 fun i => lstG [nI 0, nI 0, AV.S ByteArray.empty]], nI (zN cs.length)]), []))
      else
        (none))
    else
      (bif !asB (asA r1.fst 2) then
        (bif bif okU then true else false then
          (some (AV.tup 2 (lstG [AV.own 0 9 fun i => lstG [nI 0, nI 0, nI 0, nI 0, AV.S ByteArray.empty, nI 0, nI 0, AV.S ByteArray.empty, AV.own 0 3 fun i => lstG [nI 0, nI 0, AV.S ByteArray.empty]], nI (zN cs.length)]), []))
        else
          (none))
      else
        (bif decide (zN cs.length = 30) then
          (bif bif okU then true else false then
            (some (AV.tup 2 (lstG [AV.own 0 9 fun i => lstG [nI 0, nI 0, nI 0, nI 0, AV.S ByteArray.empty, nI 0, nI 0, AV.S ByteArray.empty, AV.own 0 3 fun i => lstG [nI 0, nI 0, AV.S ByteArray.empty]], nI (zN cs.length)]), []))
          else
            (none))
        else
          (bif decide (cs.length + 1 ≤ 4294967296) && true && true && true && true then
            (H [true, true, false] (hdS [(0, AV.S (asS (asA r1.fst 1))), (4, AV.rf 425984)] [(425984, ⟨cs.length + 1, 9, fun i => lstG [nI (bif decide (i < cs.length) then (cs.getD i zCall).Op else bif decide (i - cs.length = 0) then asI (asA (asA r2.fst 0) 0) else 0), nI (bif decide (i < cs.length) then (cs.getD i zCall).A else bif decide (i - cs.length = 0) then asI (asA (asA r2.fst 0) 1) else 0), nI (bif decide (i < cs.length) then (cs.getD i zCall).B else bif decide (i - cs.length = 0) then asI (asA (asA r2.fst 0) 2) else 0), nI (bif decide (i < cs.length) then (cs.getD i zCall).Tok else bif decide (i - cs.length = 0) then asI (asA (asA r2.fst 0) 3) else 0), AV.S (bif decide (i < cs.length) then (cs.getD i zCall).Name else bif decide (i - cs.length = 0) then asS (asA (asA r2.fst 0) 4) else ByteArray.empty), nI (bif decide (i < cs.length) then (cs.getD i zCall).Msg.Kind else bif decide (i - cs.length = 0) then asI (asA (asA r2.fst 0) 5) else 0), nI (bif decide (i < cs.length) then (cs.getD i zCall).Msg.Num else bif decide (i - cs.length = 0) then asI (asA (asA r2.fst 0) 6) else 0), AV.S (bif decide (i < cs.length) then (cs.getD i zCall).Msg.Text else bif decide (i - cs.length = 0) then asS (asA (asA r2.fst 0) 7) else ByteArray.empty), AV.own (bif decide (i < cs.length) then (cs.getD i zCall).Filter.length else bif decide (i - cs.length = 0) then asN (asA (asA r2.fst 0) 8) else 0) 3 fun i_1 => lstG [nI (bif decide (i < cs.length) then ((cs.getD i zCall).Filter.getD i_1 zTerm).Op else bif decide (i - cs.length = 0) then asI (asG (asA (asA r2.fst 0) 8) i_1 0) else 0), nI (bif decide (i < cs.length) then ((cs.getD i zCall).Filter.getD i_1 zTerm).Num else bif decide (i - cs.length = 0) then asI (asG (asA (asA r2.fst 0) 8) i_1 1) else 0), AV.S (bif decide (i < cs.length) then ((cs.getD i zCall).Filter.getD i_1 zTerm).Text else bif decide (i - cs.length = 0) then asS (asG (asA (asA r2.fst 0) 8) i_1 2) else ByteArray.empty)]]⟩)] []))
          else
            (none)))))
  else
    (bif bif okU then true else false then
      (some (AV.tup 2 (lstG [owCallS cs, nI (-1)]), []))
    else
      (none)) := by kernel_rfl
theorem h21a (Γ : Orc) (H : Hd) (s : ByteArray) (cs : List VCall) (a : Int) : hed Tryz.prog cfg Γ 17 H [] [true, true, true, false] (hdS [(0, .S s), (4, .rf 479232), (5, nI a)] [(479232, ⟨cs.length, 9, goCallS cs⟩)] []) =
  bif decide (a < zN s.size) then
    (H [true, true, true, false, true, true, true, false] (hdS [(0, AV.S s), (4, AV.rf 479232), (5, nI a), (6, nI a)] [(479232, ⟨cs.length, 9, (goCallS cs)⟩)] []))
  else
    (bif bif okU then true else false then
      (some (AV.tup 2 (lstG [owCallS cs, nI (-1)]), []))
    else
      (none)) := by kernel_rfl
theorem h21b (Γ : Orc) (H : Hd) (s : ByteArray) (cs : List VCall) (a i : Int) : hed Tryz.prog cfg Γ 17 H [] [true, true, true, false, true, true, true, false] (hdS [(0, .S s), (4, .rf 479232), (5, nI a), (6, nI i)] [(479232, ⟨cs.length, 9, goCallS cs⟩)] []) =
  bif decide (i < zN s.size) then
    (bif bif decide (0 ≤ i) then decide (i < zN s.size) else false then
      (bif !decide (byN s i.toNat = 10) then
        (H [true, true, true, false, true, true, true, false] (hdS [(0, AV.S s), (4, AV.rf 479232), (5, nI a), (6, nI (IntKind.i64.wrap (i + 1)))] [(479232, ⟨cs.length, 9, (goCallS cs)⟩)] []))
      else
        (bif decide (0 ≤ a) && decide (a ≤ i) && decide (i ≤ zN s.size) then
          (Option.bind (Γ 12 [AV.S (s.extract a.toNat i.toNat)] []) fun r4 =>
          bif !asB (asA r4.fst 1) then
            (bif bif okU then true else false then
              (some (AV.tup 2 (lstG [AV.own 0 9 fun i => lstG [nI 0, nI 0, nI 0, nI 0, AV.S ByteArray.empty, nI 0, nI 0, AV.S ByteArray.empty, AV.own 0 3 fun i => lstG [nI 0, nI 0, AV.S ByteArray.empty]], nI (zN cs.length)]), []))
            else
              (none))
          else
            (bif decide (i = zN s.size) then
              (bif bif okU then true else false then
                (some (AV.tup 2 (lstG [AV.own 0 9 fun i => lstG [nI 0, nI 0, nI 0, nI 0, AV.S ByteArray.empty, nI 0, nI 0, AV.S ByteArray.empty, AV.own 0 3 fun i => lstG [nI 0, nI 0, AV.S ByteArray.empty]], nI (zN cs.length)]), []))
              else
                (none))
            else
              (bif decide (30 ≤ zN cs.length) then
                (bif bif okU then true else false then
                  (some (AV.tup 2 (lstG [AV.own 0 9 fun i => lstG [nI 0, nI 0, nI 0, nI 0, AV.S ByteArray.empty, nI 0, nI 0, AV.S ByteArray.empty, AV.own 0 3 fun i => lstG [nI 0, nI 0, AV.S ByteArray.empty]], nI (zN cs.length)]), []))
                else
                  (none))
              else
                (bif decide (cs.length + 1 ≤ 4294967296) && true && true && true && true then
                  (H [true, true, true, false] (hdS [(0, AV.S s), (4, AV.rf 479232), (5, nI (IntKind.i64.wrap (i + 1)))] [(479232, ⟨cs.length + 1, 9, fun i => lstG [nI (bif decide (i < cs.length) then (cs.getD i zCall).Op else bif decide (i - cs.length = 0) then asI (asA (asA r4.fst 0) 0) else 0), nI (bif decide (i < cs.length) then (cs.getD i zCall).A else bif decide (i - cs.length = 0) then asI (asA (asA r4.fst 0) 1) else 0), nI (bif decide (i < cs.length) then (cs.getD i zCall).B else bif decide (i - cs.length = 0) then asI (asA (asA r4.fst 0) 2) else 0), nI (bif decide (i < cs.length) then (cs.getD i zCall).Tok else bif decide (i - cs.length = 0) then asI (asA (asA r4.fst 0) 3) else 0), AV.S (bif decide (i < cs.length) then (cs.getD i zCall).Name else bif decide (i - cs.length = 0) then asS (asA (asA r4.fst 0) 4) else ByteArray.empty), nI (bif decide (i < cs.length) then (cs.getD i zCall).Msg.Kind else bif decide (i - cs.length = 0) then asI (asA (asA r4.fst 0) 5) else 0), nI (bif decide (i < cs.length) then (cs.getD i zCall).Msg.Num else bif decide (i - cs.length = 0) then asI (asA (asA r4.fst 0) 6) else 0), AV.S (bif decide (i < cs.length) then (cs.getD i zCall).Msg.Text else bif decide (i - cs.length = 0) then asS (asA (asA r4.fst 0) 7) else ByteArray.empty), AV.own (bif decide (i < cs.length) then (cs.getD i zCall).Filter.length else bif decide (i - cs.length = 0) then asN (asA (asA r4.fst 0) 8) else 0) 3 fun i_1 => lstG [nI (bif decide (i < cs.length) then ((cs.getD i zCall).Filter.getD i_1 zTerm).Op else bif decide (i - cs.length = 0) then asI (asG (asA (asA r4.fst 0) 8) i_1 0) else 0), nI (bif decide (i < cs.length) then ((cs.getD i zCall).Filter.getD i_1 zTerm).Num else bif decide (i - cs.length = 0) then asI (asG (asA (asA r4.fst 0) 8) i_1 1) else 0), AV.S (bif decide (i < cs.length) then ((cs.getD i zCall).Filter.getD i_1 zTerm).Text else bif decide (i - cs.length = 0) then asS (asG (asA (asA r4.fst 0) 8) i_1 2) else ByteArray.empty)]]⟩)] []))
                else
                  (none)))))
        else
          (none)))
    else
      (none))
  else
    (bif decide (0 ≤ a) && decide (a ≤ i) && decide (i ≤ zN s.size) then
      (Option.bind (Γ 12 [AV.S (s.extract a.toNat i.toNat)] []) fun r2 =>
      bif !asB (asA r2.fst 1) then
        (bif bif okU then true else false then
          (some (AV.tup 2 (lstG [AV.own 0 9 fun i => lstG [nI 0, nI 0, nI 0, nI 0, AV.S ByteArray.empty, nI 0, nI 0, AV.S ByteArray.empty, AV.own 0 3 fun i => lstG [nI 0, nI 0, AV.S ByteArray.empty]], nI (zN cs.length)]), []))
        else
          (none))
      else
        (bif decide (i = zN s.size) then
          (bif bif okU then true else false then
            (some (AV.tup 2 (lstG [AV.own 0 9 fun i => lstG [nI 0, nI 0, nI 0, nI 0, AV.S ByteArray.empty, nI 0, nI 0, AV.S ByteArray.empty, AV.own 0 3 fun i => lstG [nI 0, nI 0, AV.S ByteArray.empty]], nI (zN cs.length)]), []))
          else
            (none))
        else
          (bif decide (30 ≤ zN cs.length) then
            (bif bif okU then true else false then
              (some (AV.tup 2 (lstG [AV.own 0 9 fun i => lstG [nI 0, nI 0, nI 0, nI 0, AV.S ByteArray.empty, nI 0, nI 0, AV.S ByteArray.empty, AV.own 0 3 fun i => lstG [nI 0, nI 0, AV.S ByteArray.empty]], nI (zN cs.length)]), []))
            else
              (none))
          else
            (bif decide (cs.length + 1 ≤ 4294967296) && true && true && true && true then
              (H [true, true, true, false] (hdS [(0, AV.S s), (4, AV.rf 479232), (5, nI (IntKind.i64.wrap (i + 1)))] [(479232, ⟨cs.length + 1, 9, fun i => lstG [nI (bif decide (i < cs.length) then (cs.getD i zCall).Op else bif decide (i - cs.length = 0) then asI (asA (asA r2.fst 0) 0) else 0), nI (bif decide (i < cs.length) then (cs.getD i zCall).A else bif decide (i - cs.length = 0) then asI (asA (asA r2.fst 0) 1) else 0), nI (bif decide (i < cs.length) then (cs.getD i zCall).B else bif decide (i - cs.length = 0) then asI (asA (asA r2.fst 0) 2) else 0), nI (bif decide (i < cs.length) then (cs.getD i zCall).Tok else bif decide (i - cs.length = 0) then asI (asA (asA r2.fst 0) 3) else 0), AV.S (bif decide (i < cs.length) then (cs.getD i zCall).Name else bif decide (i - cs.length = 0) then asS (asA (asA r2.fst 0) 4) else ByteArray.empty), nI (bif decide (i < cs.length) then (cs.getD i zCall).Msg.Kind else bif decide (i - cs.length = 0) then asI (asA (asA r2.fst 0) 5) else 0), nI (bif decide (i < cs.length) then (cs.getD i zCall).Msg.Num else bif decide (i - cs.length = 0) then asI (asA (asA r2.fst 0) 6) else 0), AV.S (bif decide (i < cs.length) then (cs.getD i zCall).Msg.Text else bif decide (i - cs.length = 0) then asS (asA (asA r2.fst 0) 7) else ByteArray.empty), AV.own (bif decide (i < cs.length) then (cs.getD i zCall).Filter.length else bif decide (i - cs.length = 0) then asN (asA (asA r2.fst 0) 8) else 0) 3 fun i_1 => lstG [nI (bif decide (i < cs.length) then ((cs.getD i zCall).Filter.getD i_1 zTerm).Op else bif decide (i - cs.length = 0) then asI (asG (asA (asA r2.fst 0) 8) i_1 0) else 0), nI (bif decide (i < cs.length) then ((cs.getD i zCall).Filter.getD i_1 zTerm).Num else bif decide (i - cs.length = 0) then asI (asG (asA (asA r2.fst 0) 8) i_1 1) else 0), AV.S (bif decide (i < cs.length) then ((cs.getD i zCall).Filter.getD i_1 zTerm).Text else bif decide (i - cs.length = 0) then asS (asG (asA (asA r2.fst 0) 8) i_1 2) else ByteArray.empty)]]⟩)] []))
            else
              (none)))))
    else
      (none)) := by kernel_rfl
theorem h27a (Γ : Orc) (H : Hd) (c : VCall) (s t : Int) : hed Tryz.prog cfg Γ 25 H [] [true, true, true, false, false] (hdS [(1, .pb 65 0), (3, .pb 67 0), (21, nI s)] [] [(65, 9, [nI c.Op, nI c.A, nI c.B, nI c.Tok, .S c.Name, nI c.Msg.Kind, nI c.Msg.Num, .S c.Msg.Text, slTermS c.Filter]), (67, 9, [nI c.Op, nI c.A, nI 0, nI t, .S ByteArray.empty, nI 0, nI 0, .S ByteArray.empty, .nsl 3 (fun _ => lstG [nI 0, nI 0, .S ByteArray.empty])])]) =
  bif decide (s = 7) then
    (bif decide (s = 7) then
      (bif !decide (c.Op = 14) then
        (H [true, true, true, true, false, false] (hdS [(1, AV.pb 65 0), (3, AV.pb 67 0), (99, AV.B (decide (0 < zN c.Filter.length)))] [] [(65, 9, [nI c.Op, nI c.A, nI c.B, nI c.Tok, AV.S c.Name, nI c.Msg.Kind, nI c.Msg.Num, AV.S c.Msg.Text, slTermS c.Filter]), (67, 9, [nI c.Op, nI c.A, nI c.B, nI t, AV.S ByteArray.empty, nI 0, nI 0, AV.S ByteArray.empty, AV.nsl 3 fun x => lstG [nI 0, nI 0, AV.S ByteArray.empty]])]))
      else
        (H [true, true, true, true, false, false] (hdS [(1, AV.pb 65 0), (3, AV.pb 67 0), (99, AV.B false)] [] [(65, 9, [nI c.Op, nI c.A, nI c.B, nI c.Tok, AV.S c.Name, nI c.Msg.Kind, nI c.Msg.Num, AV.S c.Msg.Text, slTermS c.Filter]), (67, 9, [nI c.Op, nI c.A, nI c.B, nI t, AV.S ByteArray.empty, nI 0, nI 0, AV.S ByteArray.empty, AV.nsl 3 fun x => lstG [nI 0, nI 0, AV.S ByteArray.empty]])])))
    else
      (bif decide (s = 9) then
        (Option.bind (Γ 29 [nI c.B, nI 1, nI 4] []) fun r3 =>
        bif !asB r3.fst then
          (some (AV.B false, []))
        else
          (Option.bind (Γ 58 [AV.ag 3 (lstG [nI c.Msg.Kind, nI c.Msg.Num, AV.S c.Msg.Text])] []) fun r5 =>
          bif !asB r5.fst then
            (some (AV.B false, []))
          else
            (bif !decide (c.Op = 14) then
              (H [true, true, true, true, false, false] (hdS [(1, AV.pb 65 0), (3, AV.pb 67 0), (99, AV.B (decide (0 < zN c.Filter.length)))] [] [(65, 9, [nI c.Op, nI c.A, nI c.B, nI c.Tok, AV.S c.Name, nI c.Msg.Kind, nI c.Msg.Num, AV.S c.Msg.Text, slTermS c.Filter]), (67, 9, [nI c.Op, nI c.A, nI c.B, nI t, AV.S ByteArray.empty, nI c.Msg.Kind, nI c.Msg.Num, AV.S c.Msg.Text, AV.nsl 3 fun x => lstG [nI 0, nI 0, AV.S ByteArray.empty]])]))
            else
              (H [true, true, true, true, false, false] (hdS [(1, AV.pb 65 0), (3, AV.pb 67 0), (99, AV.B false)] [] [(65, 9, [nI c.Op, nI c.A, nI c.B, nI c.Tok, AV.S c.Name, nI c.Msg.Kind, nI c.Msg.Num, AV.S c.Msg.Text, slTermS c.Filter]), (67, 9, [nI c.Op, nI c.A, nI c.B, nI t, AV.S ByteArray.empty, nI c.Msg.Kind, nI c.Msg.Num, AV.S c.Msg.Text, AV.nsl 3 fun x => lstG [nI 0, nI 0, AV.S ByteArray.empty]])])))))
      else
        (bif decide (s = 13) then
          (Option.bind (Γ 59 [AV.S c.Name] []) fun r4 =>
          bif !asB r4.fst then
            (some (AV.B false, []))
          else
            (Option.bind (Γ 58 [AV.ag 3 (lstG [nI c.Msg.Kind, nI c.Msg.Num, AV.S c.Msg.Text])] []) fun r6 =>
            bif !asB r6.fst then
              (some (AV.B false, []))
            else
              (bif !decide (c.Op = 14) then
                (H [true, true, true, true, false, false] (hdS [(1, AV.pb 65 0), (3, AV.pb 67 0), (99, AV.B (decide (0 < zN c.Filter.length)))] [] [(65, 9, [nI c.Op, nI c.A, nI c.B, nI c.Tok, AV.S c.Name, nI c.Msg.Kind, nI c.Msg.Num, AV.S c.Msg.Text, slTermS c.Filter]), (67, 9, [nI c.Op, nI 0, nI 0, nI t, AV.S c.Name, nI c.Msg.Kind, nI c.Msg.Num, AV.S c.Msg.Text, AV.nsl 3 fun x => lstG [nI 0, nI 0, AV.S ByteArray.empty]])]))
              else
                (H [true, true, true, true, false, false] (hdS [(1, AV.pb 65 0), (3, AV.pb 67 0), (99, AV.B false)] [] [(65, 9, [nI c.Op, nI c.A, nI c.B, nI c.Tok, AV.S c.Name, nI c.Msg.Kind, nI c.Msg.Num, AV.S c.Msg.Text, slTermS c.Filter]), (67, 9, [nI c.Op, nI 0, nI 0, nI t, AV.S c.Name, nI c.Msg.Kind, nI c.Msg.Num, AV.S c.Msg.Text, AV.nsl 3 fun x => lstG [nI 0, nI 0, AV.S ByteArray.empty]])])))))
        else
          (bif decide (s = 14) then
            (bif !decide (c.B = 0) then
              (bif !decide (c.B = 1) then
                (some (AV.B false, []))
              else
                (Option.bind (Γ 60 [slTermS c.Filter] []) fun r7 =>
                bif !asB r7.fst then
                  (some (AV.B false, []))
                else
                  (bif !decide (c.Op = 14) then
                    (H [true, true, true, true, false, false] (hdS [(1, AV.pb 65 0), (3, AV.pb 67 0), (99, AV.B (decide (0 < zN c.Filter.length)))] [] [(65, 9, [nI c.Op, nI c.A, nI c.B, nI c.Tok, AV.S c.Name, nI c.Msg.Kind, nI c.Msg.Num, AV.S c.Msg.Text, slTermS c.Filter]), (67, 9, [nI c.Op, nI c.A, nI c.B, nI t, AV.S ByteArray.empty, nI 0, nI 0, AV.S ByteArray.empty, AV.nsl 3 fun x => lstG [nI 0, nI 0, AV.S ByteArray.empty]])]))
                  else
                    (H [true, true, true, true, false, false] (hdS [(1, AV.pb 65 0), (3, AV.pb 67 0), (99, AV.B false)] [] [(65, 9, [nI c.Op, nI c.A, nI c.B, nI c.Tok, AV.S c.Name, nI c.Msg.Kind, nI c.Msg.Num, AV.S c.Msg.Text, slTermS c.Filter]), (67, 9, [nI c.Op, nI c.A, nI c.B, nI t, AV.S ByteArray.empty, nI 0, nI 0, AV.S ByteArray.empty, AV.nsl 3 fun x => lstG [nI 0, nI 0, AV.S ByteArray.empty]])])))))
            else
              (Option.bind (Γ 60 [slTermS c.Filter] []) fun r6 =>
              bif !asB r6.fst then
                (some (AV.B false, []))
              else
                (bif !decide (c.Op = 14) then
                  (H [true, true, true, true, false, false] (hdS [(1, AV.pb 65 0), (3, AV.pb 67 0), (99, AV.B (decide (0 < zN c.Filter.length)))] [] [(65, 9, [nI c.Op, nI c.A, nI c.B, nI c.Tok, AV.S c.Name, nI c.Msg.Kind, nI c.Msg.Num, AV.S c.Msg.Text, slTermS c.Filter]), (67, 9, [nI c.Op, nI c.A, nI c.B, nI t, AV.S ByteArray.empty, nI 0, nI 0, AV.S ByteArray.empty, AV.nsl 3 fun x => lstG [nI 0, nI 0, AV.S ByteArray.empty]])]))
                else
                  (H [true, true, true, true, false, false] (hdS [(1, AV.pb 65 0), (3, AV.pb 67 0), (99, AV.B false)] [] [(65, 9, [nI c.Op, nI c.A, nI c.B, nI c.Tok, AV.S c.Name, nI c.Msg.Kind, nI c.Msg.Num, AV.S c.Msg.Text, slTermS c.Filter]), (67, 9, [nI c.Op, nI c.A, nI c.B, nI t, AV.S ByteArray.empty, nI 0, nI 0, AV.S ByteArray.empty, AV.nsl 3 fun x => lstG [nI 0, nI 0, AV.S ByteArray.empty]])])))))
          else
            (bif decide (s = 15) then
              (bif decide (s = 15) then
                (bif !decide (c.Op = 14) then
                  (H [true, true, true, true, false, false] (hdS [(1, AV.pb 65 0), (3, AV.pb 67 0), (99, AV.B (decide (0 < zN c.Filter.length)))] [] [(65, 9, [nI c.Op, nI c.A, nI c.B, nI c.Tok, AV.S c.Name, nI c.Msg.Kind, nI c.Msg.Num, AV.S c.Msg.Text, slTermS c.Filter]), (67, 9, [nI c.Op, nI 0, nI c.B, nI t, AV.S ByteArray.empty, nI 0, nI 0, AV.S ByteArray.empty, AV.nsl 3 fun x => lstG [nI 0, nI 0, AV.S ByteArray.empty]])]))
                else
                  (H [true, true, true, true, false, false] (hdS [(1, AV.pb 65 0), (3, AV.pb 67 0), (99, AV.B false)] [] [(65, 9, [nI c.Op, nI c.A, nI c.B, nI c.Tok, AV.S c.Name, nI c.Msg.Kind, nI c.Msg.Num, AV.S c.Msg.Text, slTermS c.Filter]), (67, 9, [nI c.Op, nI 0, nI c.B, nI t, AV.S ByteArray.empty, nI 0, nI 0, AV.S ByteArray.empty, AV.nsl 3 fun x => lstG [nI 0, nI 0, AV.S ByteArray.empty]])])))
              else
                (bif !decide (c.Op = 14) then
                  (H [true, true, true, true, false, false] (hdS [(1, AV.pb 65 0), (3, AV.pb 67 0), (99, AV.B (decide (0 < zN c.Filter.length)))] [] [(65, 9, [nI c.Op, nI c.A, nI c.B, nI c.Tok, AV.S c.Name, nI c.Msg.Kind, nI c.Msg.Num, AV.S c.Msg.Text, slTermS c.Filter]), (67, 9, [nI c.Op, nI c.A, nI 0, nI t, AV.S ByteArray.empty, nI 0, nI 0, AV.S ByteArray.empty, AV.nsl 3 fun x => lstG [nI 0, nI 0, AV.S ByteArray.empty]])]))
                else
                  (H [true, true, true, true, false, false] (hdS [(1, AV.pb 65 0), (3, AV.pb 67 0), (99, AV.B false)] [] [(65, 9, [nI c.Op, nI c.A, nI c.B, nI c.Tok, AV.S c.Name, nI c.Msg.Kind, nI c.Msg.Num, AV.S c.Msg.Text, slTermS c.Filter]), (67, 9, [nI c.Op, nI c.A, nI 0, nI t, AV.S ByteArray.empty, nI 0, nI 0, AV.S ByteArray.empty, AV.nsl 3 fun x => lstG [nI 0, nI 0, AV.S ByteArray.empty]])]))))
            else
              (bif decide (s = 16) then
                (bif !decide (c.Op = 14) then
                  (H [true, true, true, true, false, false] (hdS [(1, AV.pb 65 0), (3, AV.pb 67 0), (99, AV.B (decide (0 < zN c.Filter.length)))] [] [(65, 9, [nI c.Op, nI c.A, nI c.B, nI c.Tok, AV.S c.Name, nI c.Msg.Kind, nI c.Msg.Num, AV.S c.Msg.Text, slTermS c.Filter]), (67, 9, [nI c.Op, nI 0, nI c.B, nI t, AV.S ByteArray.empty, nI 0, nI 0, AV.S ByteArray.empty, AV.nsl 3 fun x => lstG [nI 0, nI 0, AV.S ByteArray.empty]])]))
                else
                  (H [true, true, true, true, false, false] (hdS [(1, AV.pb 65 0), (3, AV.pb 67 0), (99, AV.B false)] [] [(65, 9, [nI c.Op, nI c.A, nI c.B, nI c.Tok, AV.S c.Name, nI c.Msg.Kind, nI c.Msg.Num, AV.S c.Msg.Text, slTermS c.Filter]), (67, 9, [nI c.Op, nI 0, nI c.B, nI t, AV.S ByteArray.empty, nI 0, nI 0, AV.S ByteArray.empty, AV.nsl 3 fun x => lstG [nI 0, nI 0, AV.S ByteArray.empty]])])))
              else
                (bif !decide (c.Op = 14) then
                  (H [true, true, true, true, false, false] (hdS [(1, AV.pb 65 0), (3, AV.pb 67 0), (99, AV.B (decide (0 < zN c.Filter.length)))] [] [(65, 9, [nI c.Op, nI c.A, nI c.B, nI c.Tok, AV.S c.Name, nI c.Msg.Kind, nI c.Msg.Num, AV.S c.Msg.Text, slTermS c.Filter]), (67, 9, [nI c.Op, nI c.A, nI 0, nI t, AV.S ByteArray.empty, nI 0, nI 0, AV.S ByteArray.empty, AV.nsl 3 fun x => lstG [nI 0, nI 0, AV.S ByteArray.empty]])]))
                else
                  (H [true, true, true, true, false, false] (hdS [(1, AV.pb 65 0), (3, AV.pb 67 0), (99, AV.B false)] [] [(65, 9, [nI c.Op, nI c.A, nI c.B, nI c.Tok, AV.S c.Name, nI c.Msg.Kind, nI c.Msg.Num, AV.S c.Msg.Text, slTermS c.Filter]), (67, 9, [nI c.Op, nI c.A, nI 0, nI t, AV.S ByteArray.empty, nI 0, nI 0, AV.S ByteArray.empty, AV.nsl 3 fun x => lstG [nI 0, nI 0, AV.S ByteArray.empty]])])))))))))
  else
    (bif decide (s = 19) then
      (bif !decide (c.Op = 14) then
        (H [true, true, true, true, false, false] (hdS [(1, AV.pb 65 0), (3, AV.pb 67 0), (99, AV.B (decide (0 < zN c.Filter.length)))] [] [(65, 9, [nI c.Op, nI c.A, nI c.B, nI c.Tok, AV.S c.Name, nI c.Msg.Kind, nI c.Msg.Num, AV.S c.Msg.Text, slTermS c.Filter]), (67, 9, [nI c.Op, nI c.A, nI c.B, nI t, AV.S ByteArray.empty, nI 0, nI 0, AV.S ByteArray.empty, AV.nsl 3 fun x => lstG [nI 0, nI 0, AV.S ByteArray.empty]])]))
      else
        (H [true, true, true, true, false, false] (hdS [(1, AV.pb 65 0), (3, AV.pb 67 0), (99, AV.B false)] [] [(65, 9, [nI c.Op, nI c.A, nI c.B, nI c.Tok, AV.S c.Name, nI c.Msg.Kind, nI c.Msg.Num, AV.S c.Msg.Text, slTermS c.Filter]), (67, 9, [nI c.Op, nI c.A, nI c.B, nI t, AV.S ByteArray.empty, nI 0, nI 0, AV.S ByteArray.empty, AV.nsl 3 fun x => lstG [nI 0, nI 0, AV.S ByteArray.empty]])])))
    else
      (bif decide (s = 9) then
        (Option.bind (Γ 29 [nI c.B, nI 1, nI 4] []) fun r3 =>
        bif !asB r3.fst then
          (some (AV.B false, []))
        else
          (Option.bind (Γ 58 [AV.ag 3 (lstG [nI c.Msg.Kind, nI c.Msg.Num, AV.S c.Msg.Text])] []) fun r5 =>
          bif !asB r5.fst then
            (some (AV.B false, []))
          else
            (bif !decide (c.Op = 14) then
              (H [true, true, true, true, false, false] (hdS [(1, AV.pb 65 0), (3, AV.pb 67 0), (99, AV.B (decide (0 < zN c.Filter.length)))] [] [(65, 9, [nI c.Op, nI c.A, nI c.B, nI c.Tok, AV.S c.Name, nI c.Msg.Kind, nI c.Msg.Num, AV.S c.Msg.Text, slTermS c.Filter]), (67, 9, [nI c.Op, nI c.A, nI c.B, nI t, AV.S ByteArray.empty, nI c.Msg.Kind, nI c.Msg.Num, AV.S c.Msg.Text, AV.nsl 3 fun x => lstG [nI 0, nI 0, AV.S ByteArray.empty]])]))
            else
              (H [true, true, true, true, false, false] (hdS [(1, AV.pb 65 0), (3, AV.pb 67 0), (99, AV.B false)] [] [(65, 9, [nI c.Op, nI c.A, nI c.B, nI c.Tok, AV.S c.Name, nI c.Msg.Kind, nI c.Msg.Num, AV.S c.Msg.Text, slTermS c.Filter]), (67, 9, [nI c.Op, nI c.A, nI c.B, nI t, AV.S ByteArray.empty, nI c.Msg.Kind, nI c.Msg.Num, AV.S c.Msg.Text, AV.nsl 3 fun x => lstG [nI 0, nI 0, AV.S ByteArray.empty]])])))))
      else
        (bif decide (s = 13) then
          (Option.bind (Γ 59 [AV.S c.Name] []) fun r4 =>
          bif !asB r4.fst then
            (some (AV.B false, []))
          else
            (Option.bind (Γ 58 [AV.ag 3 (lstG [nI c.Msg.Kind, nI c.Msg.Num, AV.S c.Msg.Text])] []) fun r6 =>
            bif !asB r6.fst then
              (some (AV.B false, []))
            else
              (bif !decide (c.Op = 14) then
                (H [true, true, true, true, false, false] (hdS [(1, AV.pb 65 0), (3, AV.pb 67 0), (99, AV.B (decide (0 < zN c.Filter.length)))] [] [(65, 9, [nI c.Op, nI c.A, nI c.B, nI c.Tok, AV.S c.Name, nI c.Msg.Kind, nI c.Msg.Num, AV.S c.Msg.Text, slTermS c.Filter]), (67, 9, [nI c.Op, nI 0, nI 0, nI t, AV.S c.Name, nI c.Msg.Kind, nI c.Msg.Num, AV.S c.Msg.Text, AV.nsl 3 fun x => lstG [nI 0, nI 0, AV.S ByteArray.empty]])]))
              else
                (H [true, true, true, true, false, false] (hdS [(1, AV.pb 65 0), (3, AV.pb 67 0), (99, AV.B false)] [] [(65, 9, [nI c.Op, nI c.A, nI c.B, nI c.Tok, AV.S c.Name, nI c.Msg.Kind, nI c.Msg.Num, AV.S c.Msg.Text, slTermS c.Filter]), (67, 9, [nI c.Op, nI 0, nI 0, nI t, AV.S c.Name, nI c.Msg.Kind, nI c.Msg.Num, AV.S c.Msg.Text, AV.nsl 3 fun x => lstG [nI 0, nI 0, AV.S ByteArray.empty]])])))))
        else
          (bif decide (s = 14) then
            (bif !decide (c.B = 0) then
              (bif !decide (c.B = 1) then
                (some (AV.B false, []))
              else
                (Option.bind (Γ 60 [slTermS c.Filter] []) fun r7 =>
                bif !asB r7.fst then
                  (some (AV.B false, []))
                else
                  (bif !decide (c.Op = 14) then
                    (H [true, true, true, true, false, false] (hdS [(1, AV.pb 65 0), (3, AV.pb 67 0), (99, AV.B (decide (0 < zN c.Filter.length)))] [] [(65, 9, [nI c.Op, nI c.A, nI c.B, nI c.Tok, AV.S c.Name, nI c.Msg.Kind, nI c.Msg.Num, AV.S c.Msg.Text, slTermS c.Filter]), (67, 9, [nI c.Op, nI c.A, nI c.B, nI t, AV.S ByteArray.empty, nI 0, nI 0, AV.S ByteArray.empty, AV.nsl 3 fun x => lstG [nI 0, nI 0, AV.S ByteArray.empty]])]))
                  else
                    (H [true, true, true, true, false, false] (hdS [(1, AV.pb 65 0), (3, AV.pb 67 0), (99, AV.B false)] [] [(65, 9, [nI c.Op, nI c.A, nI c.B, nI c.Tok, AV.S c.Name, nI c.Msg.Kind, nI c.Msg.Num, AV.S c.Msg.Text, slTermS c.Filter]), (67, 9, [nI c.Op, nI c.A, nI c.B, nI t, AV.S ByteArray.empty, nI 0, nI 0, AV.S ByteArray.empty, AV.nsl 3 fun x => lstG [nI 0, nI 0, AV.S ByteArray.empty]])])))))
            else
              (Option.bind (Γ 60 [slTermS c.Filter] []) fun r6 =>
              bif !asB r6.fst then
                (some (AV.B false, []))
              else
                (bif !decide (c.Op = 14) then
                  (H [true, true, true, true, false, false] (hdS [(1, AV.pb 65 0), (3, AV.pb 67 0), (99, AV.B (decide (0 < zN c.Filter.length)))] [] [(65, 9, [nI c.Op, nI c.A, nI c.B, nI c.Tok, AV.S c.Name, nI c.Msg.Kind, nI c.Msg.Num, AV.S c.Msg.Text, slTermS c.Filter]), (67, 9, [nI c.Op, nI c.A, nI c.B, nI t, AV.S ByteArray.empty, nI 0, nI 0, AV.S ByteArray.empty, AV.nsl 3 fun x => lstG [nI 0, nI 0, AV.S ByteArray.empty]])]))
                else
                  (H [true, true, true, true, false, false] (hdS [(1, AV.pb 65 0), (3, AV.pb 67 0), (99, AV.B false)] [] [(65, 9, [nI c.Op, nI c.A, nI c.B, nI c.Tok, AV.S c.Name, nI c.Msg.Kind, nI c.Msg.Num, AV.S c.Msg.Text, slTermS c.Filter]), (67, 9, [nI c.Op, nI c.A, nI c.B, nI t, AV.S ByteArray.empty, nI 0, nI 0, AV.S ByteArray.empty, AV.nsl 3 fun x => lstG [nI 0, nI 0, AV.S ByteArray.empty]])])))))
          else
            (bif decide (s = 15) then
              (bif decide (s = 15) then
                (bif !decide (c.Op = 14) then
                  (H [true, true, true, true, false, false] (hdS [(1, AV.pb 65 0), (3, AV.pb 67 0), (99, AV.B (decide (0 < zN c.Filter.length)))] [] [(65, 9, [nI c.Op, nI c.A, nI c.B, nI c.Tok, AV.S c.Name, nI c.Msg.Kind, nI c.Msg.Num, AV.S c.Msg.Text, slTermS c.Filter]), (67, 9, [nI c.Op, nI 0, nI c.B, nI t, AV.S ByteArray.empty, nI 0, nI 0, AV.S ByteArray.empty, AV.nsl 3 fun x => lstG [nI 0, nI 0, AV.S ByteArray.empty]])]))
                else
                  (H [true, true, true, true, false, false] (hdS [(1, AV.pb 65 0), (3, AV.pb 67 0), (99, AV.B false)] [] [(65, 9, [nI c.Op, nI c.A, nI c.B, nI c.Tok, AV.S c.Name, nI c.Msg.Kind, nI c.Msg.Num, AV.S c.Msg.Text, slTermS c.Filter]), (67, 9, [nI c.Op, nI 0, nI c.B, nI t, AV.S ByteArray.empty, nI 0, nI 0, AV.S ByteArray.empty, AV.nsl 3 fun x => lstG [nI 0, nI 0, AV.S ByteArray.empty]])])))
              else
                (bif !decide (c.Op = 14) then
                  (H [true, true, true, true, false, false] (hdS [(1, AV.pb 65 0), (3, AV.pb 67 0), (99, AV.B (decide (0 < zN c.Filter.length)))] [] [(65, 9, [nI c.Op, nI c.A, nI c.B, nI c.Tok, AV.S c.Name, nI c.Msg.Kind, nI c.Msg.Num, AV.S c.Msg.Text, slTermS c.Filter]), (67, 9, [nI c.Op, nI c.A, nI 0, nI t, AV.S ByteArray.empty, nI 0, nI 0, AV.S ByteArray.empty, AV.nsl 3 fun x => lstG [nI 0, nI 0, AV.S ByteArray.empty]])]))
                else
                  (H [true, true, true, true, false, false] (hdS [(1, AV.pb 65 0), (3, AV.pb 67 0), (99, AV.B false)] [] [(65, 9, [nI c.Op, nI c.A, nI c.B, nI c.Tok, AV.S c.Name, nI c.Msg.Kind, nI c.Msg.Num, AV.S c.Msg.Text, slTermS c.Filter]), (67, 9, [nI c.Op, nI c.A, nI 0, nI t, AV.S ByteArray.empty, nI 0, nI 0, AV.S ByteArray.empty, AV.nsl 3 fun x => lstG [nI 0, nI 0, AV.S ByteArray.empty]])]))))
            else
              (bif decide (s = 16) then
                (bif !decide (c.Op = 14) then
                  (H [true, true, true, true, false, false] (hdS [(1, AV.pb 65 0), (3, AV.pb 67 0), (99, AV.B (decide (0 < zN c.Filter.length)))] [] [(65, 9, [nI c.Op, nI c.A, nI c.B, nI c.Tok, AV.S c.Name, nI c.Msg.Kind, nI c.Msg.Num, AV.S c.Msg.Text, slTermS c.Filter]), (67, 9, [nI c.Op, nI 0, nI c.B, nI t, AV.S ByteArray.empty, nI 0, nI 0, AV.S ByteArray.empty, AV.nsl 3 fun x => lstG [nI 0, nI 0, AV.S ByteArray.empty]])]))
                else
                  (H [true, true, true, true, false, false] (hdS [(1, AV.pb 65 0), (3, AV.pb 67 0), (99, AV.B false)] [] [(65, 9, [nI c.Op, nI c.A, nI c.B, nI c.Tok, AV.S c.Name, nI c.Msg.Kind, nI c.Msg.Num, AV.S c.Msg.Text, slTermS c.Filter]), (67, 9, [nI c.Op, nI 0, nI c.B, nI t, AV.S ByteArray.empty, nI 0, nI 0, AV.S ByteArray.empty, AV.nsl 3 fun x => lstG [nI 0, nI 0, AV.S ByteArray.empty]])])))
              else
                (bif !decide (c.Op = 14) then
                  (H [true, true, true, true, false, false] (hdS [(1, AV.pb 65 0), (3, AV.pb 67 0), (99, AV.B (decide (0 < zN c.Filter.length)))] [] [(65, 9, [nI c.Op, nI c.A, nI c.B, nI c.Tok, AV.S c.Name, nI c.Msg.Kind, nI c.Msg.Num, AV.S c.Msg.Text, slTermS c.Filter]), (67, 9, [nI c.Op, nI c.A, nI 0, nI t, AV.S ByteArray.empty, nI 0, nI 0, AV.S ByteArray.empty, AV.nsl 3 fun x => lstG [nI 0, nI 0, AV.S ByteArray.empty]])]))
                else
                  (H [true, true, true, true, false, false] (hdS [(1, AV.pb 65 0), (3, AV.pb 67 0), (99, AV.B false)] [] [(65, 9, [nI c.Op, nI c.A, nI c.B, nI c.Tok, AV.S c.Name, nI c.Msg.Kind, nI c.Msg.Num, AV.S c.Msg.Text, slTermS c.Filter]), (67, 9, [nI c.Op, nI c.A, nI 0, nI t, AV.S ByteArray.empty, nI 0, nI 0, AV.S ByteArray.empty, AV.nsl 3 fun x => lstG [nI 0, nI 0, AV.S ByteArray.empty]])]))))))))) := by kernel_rfl
theorem h27b (Γ : Orc) (H : Hd) (c d : VCall) (b : Bool) : hed Tryz.prog cfg Γ 25 H [] [true, true, true, true, false, false] (hdS [(1, .pb 65 0), (3, .pb 67 0), (99, .B b)] [] [(65, 9, [nI c.Op, nI c.A, nI c.B, nI c.Tok, .S c.Name, nI c.Msg.Kind, nI c.Msg.Num, .S c.Msg.Text, slTermS c.Filter]), (67, 9, [nI d.Op, nI d.A, nI d.B, nI d.Tok, .S d.Name, nI d.Msg.Kind, nI d.Msg.Num, .S d.Msg.Text, .nsl 3 (fun _ => lstG [nI 0, nI 0, .S ByteArray.empty])])]) =
  bif b then
    (some (AV.B false, []))
  else
    (Option.bind (Γ 29 [nI c.Op, nI 1, nI 19] []) fun r1 =>
    bif asB r1.fst then
      (bif decide (c.A = d.A) then
        (bif decide (c.B = d.B) then
          (bif decide (c.Tok = d.Tok) then
            (bif c.Name.toList == d.Name.toList then
              (some (AV.B (bif decide (c.Msg.Kind = d.Msg.Kind) then bif decide (c.Msg.Num = d.Msg.Num) then bif c.Msg.Text.toList == d.Msg.Text.toList then true else false else false else false), []))
            else
              (some (AV.B false, [])))
          else
            (some (AV.B false, [])))
        else
          (some (AV.B false, [])))
      else
        (some (AV.B false, [])))
    else
      (some (AV.B false, []))) := by kernel_rfl
theorem h8a (Γ : Orc) (H : Hd) (c : VCall) (s : ByteArray) : hed Tryz.prog cfg Γ 8 H [] [true, true, false] (hdS [(1, .pb 65 0), (4, .S s)] [] [(65, 9, [nI c.Op, nI c.A, nI c.B, nI c.Tok, .S c.Name, nI c.Msg.Kind, nI c.Msg.Num, .S c.Msg.Text, slTermS c.Filter])]) =
  bif decide (c.Op = 9) then
    (and2
    (Option.bind (Γ 27 [] []) fun r2 =>
      bif bif decide (0 ≤ c.B) then decide (c.B < zN (asN r2.fst)) else false then
        (Option.bind (Γ 29 [nI c.A, nI 0, nI 999999999] []) fun r4 =>
        H [true, true, true, true, true, false, false] (hdS [(1, AV.pb 65 0), (4, AV.S (asS (asG r2.fst c.B.toNat 0))), (5, nI c.A), (46, AV.B !asB r4.fst)] [] [(65, 9, [nI c.Op, nI c.A, nI c.B, nI c.Tok, AV.S c.Name, nI c.Msg.Kind, nI c.Msg.Num, AV.S c.Msg.Text, slTermS c.Filter])]))
      else
        (none))
    (Option.bind (Γ 27 [] []) fun r2 =>
      bif bif decide (0 ≤ c.B) then decide (c.B < zN (asN r2.fst)) else false then
        (Option.bind (Γ 29 [nI c.A, nI 0, nI 999999999] []) fun r4 =>
        H [true, true, true, true, true, false, false] (hdS [(1, AV.pb 65 0), (4, AV.S (asS (asG r2.fst c.B.toNat 0))), (5, nI c.A), (46, AV.B !asB r4.fst)] [] [(65, 9, [nI c.Op, nI c.A, nI c.B, nI c.Tok, AV.S c.Name, nI c.Msg.Kind, nI c.Msg.Num, AV.S c.Msg.Text, slTermS c.Filter])]))
      else
        (none)))
  else
    (bif decide (c.Op = 15) then
      (bif decide (c.Op = 15) then
        (Option.bind (Γ 29 [nI c.B, nI 0, nI 999999999] []) fun r3 =>
        H [true, true, true, true, true, false, false] (hdS [(1, AV.pb 65 0), (4, AV.S s), (5, nI c.B), (46, AV.B !asB r3.fst)] [] [(65, 9, [nI c.Op, nI c.A, nI c.B, nI c.Tok, AV.S c.Name, nI c.Msg.Kind, nI c.Msg.Num, AV.S c.Msg.Text, slTermS c.Filter])]))
      else
        (bif decide (c.Op = 13) then
          (bif decide (s.size + 1 ≤ 4294967296) then
            (and2
            (bif decide ((s ++ (bs [32])).size + c.Name.size ≤ 4294967296) then
                (bif decide ((s ++ (bs [32]) ++ c.Name).size + 1 ≤ 4294967296) then
                  (Option.bind (Γ 28 [AV.ag 3 (lstG [nI c.Msg.Kind, nI c.Msg.Num, AV.S c.Msg.Text])] []) fun r8 =>
                  bif decide ((s ++ (bs [32]) ++ c.Name ++ (bs [32])).size + (asS r8.fst).size ≤ 4294967296) then
                    (some (AV.tup 2 (lstG [AV.S (s ++ (bs [32]) ++ c.Name ++ (bs [32]) ++ asS r8.fst), AV.B true]), []))
                  else
                    (none))
                else
                  (none))
              else
                (none))
            (and2
              (bif decide ((s ++ (bs [32])).size + c.Name.size ≤ 4294967296) then
                  (bif decide ((s ++ (bs [32]) ++ c.Name).size + 1 ≤ 4294967296) then
                    (Option.bind (Γ 28 [AV.ag 3 (lstG [nI c.Msg.Kind, nI c.Msg.Num, AV.S c.Msg.Text])] []) fun r9 =>
                    bif decide ((s ++ (bs [32]) ++ c.Name ++ (bs [32])).size + (asS r9.fst).size ≤ 4294967296) then
                      (some (AV.tup 2 (lstG [AV.S (s ++ (bs [32]) ++ c.Name ++ (bs [32]) ++ asS r9.fst), AV.B true]), []))
                    else
                      (none))
                  else
                    (none))
                else
                  (none))
              (Option.bind (Γ 28 [AV.ag 3 (lstG [nI c.Msg.Kind, nI c.Msg.Num, AV.S c.Msg.Text])] []) fun r7 =>
                bif decide ((s ++ (bs [32])).size + c.Name.size ≤ 4294967296) then
                  (bif decide ((s ++ (bs [32]) ++ c.Name).size + 1 ≤ 4294967296) then
                    (bif decide ((s ++ (bs [32]) ++ c.Name ++ (bs [32])).size + (asS r7.fst).size ≤ 4294967296) then
                      (some (AV.tup 2 (lstG [AV.S (s ++ (bs [32]) ++ c.Name ++ (bs [32]) ++ asS r7.fst), AV.B true]), []))
                    else
                      (none))
                  else
                    (none))
                else
                  (none))))
          else
            (none))
        else
          (Option.bind (Γ 29 [nI c.A, nI 0, nI 999999999] []) fun r4 =>
          H [true, true, true, true, true, false, false] (hdS [(1, AV.pb 65 0), (4, AV.S s), (5, nI c.A), (46, AV.B !asB r4.fst)] [] [(65, 9, [nI c.Op, nI c.A, nI c.B, nI c.Tok, AV.S c.Name, nI c.Msg.Kind, nI c.Msg.Num, AV.S c.Msg.Text, slTermS c.Filter])]))))
    else
      (bif decide (c.Op = 16) then
        (Option.bind (Γ 29 [nI c.B, nI 0, nI 999999999] []) fun r3 =>
        H [true, true, true, true, true, false, false] (hdS [(1, AV.pb 65 0), (4, AV.S s), (5, nI c.B), (46, AV.B !asB r3.fst)] [] [(65, 9, [nI c.Op, nI c.A, nI c.B, nI c.Tok, AV.S c.Name, nI c.Msg.Kind, nI c.Msg.Num, AV.S c.Msg.Text, slTermS c.Filter])]))
      else
        (bif decide (c.Op = 13) then
          (bif decide (s.size + 1 ≤ 4294967296) then
            (and2
            (bif decide ((s ++ (bs [32])).size + c.Name.size ≤ 4294967296) then
                (bif decide ((s ++ (bs [32]) ++ c.Name).size + 1 ≤ 4294967296) then
                  (Option.bind (Γ 28 [AV.ag 3 (lstG [nI c.Msg.Kind, nI c.Msg.Num, AV.S c.Msg.Text])] []) fun r8 =>
                  bif decide ((s ++ (bs [32]) ++ c.Name ++ (bs [32])).size + (asS r8.fst).size ≤ 4294967296) then
                    (some (AV.tup 2 (lstG [AV.S (s ++ (bs [32]) ++ c.Name ++ (bs [32]) ++ asS r8.fst), AV.B true]), []))
                  else
                    (none))
                else
                  (none))
              else
                (none))
            (and2
              (bif decide ((s ++ (bs [32])).size + c.Name.size ≤ 4294967296) then
                  (bif decide ((s ++ (bs [32]) ++ c.Name).size + 1 ≤ 4294967296) then
                    (Option.bind (Γ 28 [AV.ag 3 (lstG [nI c.Msg.Kind, nI c.Msg.Num, AV.S c.Msg.Text])] []) fun r9 =>
                    bif decide ((s ++ (bs [32]) ++ c.Name ++ (bs [32])).size + (asS r9.fst).size ≤ 4294967296) then
                      (some (AV.tup 2 (lstG [AV.S (s ++ (bs [32]) ++ c.Name ++ (bs [32]) ++ asS r9.fst), AV.B true]), []))
                    else
                      (none))
                  else
                    (none))
                else
                  (none))
              (Option.bind (Γ 28 [AV.ag 3 (lstG [nI c.Msg.Kind, nI c.Msg.Num, AV.S c.Msg.Text])] []) fun r7 =>
                bif decide ((s ++ (bs [32])).size + c.Name.size ≤ 4294967296) then
                  (bif decide ((s ++ (bs [32]) ++ c.Name).size + 1 ≤ 4294967296) then
                    (bif decide ((s ++ (bs [32]) ++ c.Name ++ (bs [32])).size + (asS r7.fst).size ≤ 4294967296) then
                      (some (AV.tup 2 (lstG [AV.S (s ++ (bs [32]) ++ c.Name ++ (bs [32]) ++ asS r7.fst), AV.B true]), []))
                    else
                      (none))
                  else
                    (none))
                else
                  (none))))
          else
            (none))
        else
          (Option.bind (Γ 29 [nI c.A, nI 0, nI 999999999] []) fun r4 =>
          H [true, true, true, true, true, false, false] (hdS [(1, AV.pb 65 0), (4, AV.S s), (5, nI c.A), (46, AV.B !asB r4.fst)] [] [(65, 9, [nI c.Op, nI c.A, nI c.B, nI c.Tok, AV.S c.Name, nI c.Msg.Kind, nI c.Msg.Num, AV.S c.Msg.Text, slTermS c.Filter])]))))) := by kernel_rfl
theorem h8b (Γ : Orc) (H : Hd) (c : VCall) (s : ByteArray) (n : Int) (b : Bool) : hed Tryz.prog cfg Γ 8 H [] [true, true, true, true, true, false, false] (hdS [(1, .pb 65 0), (4, .S s), (5, nI n), (46, .B b)] [] [(65, 9, [nI c.Op, nI c.A, nI c.B, nI c.Tok, .S c.Name, nI c.Msg.Kind, nI c.Msg.Num, .S c.Msg.Text, slTermS c.Filter])]) =
  bif b then
    (some (AV.tup 2 (lstG [AV.S ByteArray.empty, AV.B false]), []))
  else
    (bif decide (s.size + 1 ≤ 4294967296) then
      (Option.bind (Γ 30 [nI n] []) fun r2 =>
      bif decide ((s ++ (bs [32])).size + (asS r2.fst).size ≤ 4294967296) then
        (H [true, true, true, true, true, true, true, false, false] (hdS [(1, AV.pb 65 0), (4, AV.S (s ++ (bs [32]) ++ asS r2.fst)), (53, nI c.Op)] [] [(65, 9, [nI c.Op, nI c.A, nI c.B, nI c.Tok, AV.S c.Name, nI c.Msg.Kind, nI c.Msg.Num, AV.S c.Msg.Text, slTermS c.Filter])]))
      else
        (none))
    else
      (none)) := by kernel_rfl
theorem h8c (Γ : Orc) (H : Hd) (c : VCall) (s : ByteArray) (n : Int) : hed Tryz.prog cfg Γ 8 H [] [true, true, true, true, true, true, true, false, false] (hdS [(1, .pb 65 0), (4, .S s), (53, nI n)] [] [(65, 9, [nI c.Op, nI c.A, nI c.B, nI c.Tok, .S c.Name, nI c.Msg.Kind, nI c.Msg.Num, .S c.Msg.Text, slTermS c.Filter])]) =
  bif decide (n = 9) then
    (bif decide (s.size + 1 ≤ 4294967296) then
      (Option.bind (Γ 28 [AV.ag 3 (lstG [nI c.Msg.Kind, nI c.Msg.Num, AV.S c.Msg.Text])] []) fun r2 =>
      bif decide ((s ++ (bs [32])).size + (asS r2.fst).size ≤ 4294967296) then
        (some (AV.tup 2 (lstG [AV.S (s ++ (bs [32]) ++ asS r2.fst), AV.B true]), []))
      else
        (none))
    else
      (none))
  else
    (bif decide (n = 7) then
      (bif decide (n = 7) then
        (Option.bind (Γ 29 [nI c.B, nI 0, nI 999999999] []) fun r3 =>
        bif !asB r3.fst then
          (some (AV.tup 2 (lstG [AV.S ByteArray.empty, AV.B false]), []))
        else
          (bif decide (s.size + 1 ≤ 4294967296) then
            (Option.bind (Γ 30 [nI c.B] []) fun r6 =>
            bif decide ((s ++ (bs [32])).size + (asS r6.fst).size ≤ 4294967296) then
              (some (AV.tup 2 (lstG [AV.S (s ++ (bs [32]) ++ asS r6.fst), AV.B true]), []))
            else
              (none))
          else
            (none)))
      else
        (bif decide (n = 14) then
          (bif decide (c.B = 1) then
            (bif decide (s.size + 5 ≤ 4294967296) then
              (bif decide (0 < zN c.Filter.length) then
                (Option.bind (Γ 31 [slTermS c.Filter] []) fun r7 =>
                bif decide ((s ++ (bs [32, 98, 97, 99, 107])).size + 4 ≤ 4294967296) then
                  (bif decide ((s ++ (bs [32, 98, 97, 99, 107]) ++ (bs [32, 105, 102, 32])).size + (asS (asA r7.fst 0)).size ≤ 4294967296) then
                    (some (AV.tup 2 (lstG [AV.S (s ++ (bs [32, 98, 97, 99, 107]) ++ (bs [32, 105, 102, 32]) ++ asS (asA r7.fst 0)), AV.B true]), []))
                  else
                    (none))
                else
                  (none))
              else
                (some (AV.tup 2 (lstG [AV.S (s ++ (bs [32, 98, 97, 99, 107])), AV.B true]), [])))
            else
              (none))
          else
            (bif decide (0 < zN c.Filter.length) then
              (Option.bind (Γ 31 [slTermS c.Filter] []) fun r6 =>
              bif decide (s.size + 4 ≤ 4294967296) then
                (bif decide ((s ++ (bs [32, 105, 102, 32])).size + (asS (asA r6.fst 0)).size ≤ 4294967296) then
                  (some (AV.tup 2 (lstG [AV.S (s ++ (bs [32, 105, 102, 32]) ++ asS (asA r6.fst 0)), AV.B true]), []))
                else
                  (none))
              else
                (none))
            else
              (some (AV.tup 2 (lstG [AV.S s, AV.B true]), []))))
        else
          (H [true, true, true, true, true, true, true, true, false, false] (hdS [(1, AV.pb 65 0), (4, AV.S s), (99, AV.B (decide (0 ≤ c.Tok)))] [] [(65, 9, [nI c.Op, nI c.A, nI c.B, nI c.Tok, AV.S c.Name, nI c.Msg.Kind, nI c.Msg.Num, AV.S c.Msg.Text, slTermS c.Filter])]))))
    else
      (bif decide (n = 19) then
        (Option.bind (Γ 29 [nI c.B, nI 0, nI 999999999] []) fun r3 =>
        bif !asB r3.fst then
          (some (AV.tup 2 (lstG [AV.S ByteArray.empty, AV.B false]), []))
        else
          (bif decide (s.size + 1 ≤ 4294967296) then
            (Option.bind (Γ 30 [nI c.B] []) fun r6 =>
            bif decide ((s ++ (bs [32])).size + (asS r6.fst).size ≤ 4294967296) then
              (some (AV.tup 2 (lstG [AV.S (s ++ (bs [32]) ++ asS r6.fst), AV.B true]), []))
            else
              (none))
          else
            (none)))
      else
        (bif decide (n = 14) then
          (bif decide (c.B = 1) then
            (bif decide (s.size + 5 ≤ 4294967296) then
              (bif decide (0 < zN c.Filter.length) then
                (Option.bind (Γ 31 [slTermS c.Filter] []) fun r7 =>
                bif decide ((s ++ (bs [32, 98, 97, 99, 107])).size + 4 ≤ 4294967296) then
                  (bif decide ((s ++ (bs [32, 98, 97, 99, 107]) ++ (bs [32, 105, 102, 32])).size + (asS (asA r7.fst 0)).size ≤ 4294967296) then
                    (some (AV.tup 2 (lstG [AV.S (s ++ (bs [32, 98, 97, 99, 107]) ++ (bs [32, 105, 102, 32]) ++ asS (asA r7.fst 0)), AV.B true]), []))
                  else
                    (none))
                else
                  (none))
              else
                (some (AV.tup 2 (lstG [AV.S (s ++ (bs [32, 98, 97, 99, 107])), AV.B true]), [])))
            else
              (none))
          else
            (bif decide (0 < zN c.Filter.length) then
              (Option.bind (Γ 31 [slTermS c.Filter] []) fun r6 =>
              bif decide (s.size + 4 ≤ 4294967296) then
                (bif decide ((s ++ (bs [32, 105, 102, 32])).size + (asS (asA r6.fst 0)).size ≤ 4294967296) then
                  (some (AV.tup 2 (lstG [AV.S (s ++ (bs [32, 105, 102, 32]) ++ asS (asA r6.fst 0)), AV.B true]), []))
                else
                  (none))
              else
                (none))
            else
              (some (AV.tup 2 (lstG [AV.S s, AV.B true]), []))))
        else
          (H [true, true, true, true, true, true, true, true, false, false] (hdS [(1, AV.pb 65 0), (4, AV.S s), (99, AV.B (decide (0 ≤ c.Tok)))] [] [(65, 9, [nI c.Op, nI c.A, nI c.B, nI c.Tok, AV.S c.Name, nI c.Msg.Kind, nI c.Msg.Num, AV.S c.Msg.Text, slTermS c.Filter])]))))) := by kernel_rfl
theorem h8d (Γ : Orc) (H : Hd) (c : VCall) (s : ByteArray) (b : Bool) : hed Tryz.prog cfg Γ 8 H [] [true, true, true, true, true, true, true, true, false, false] (hdS [(1, .pb 65 0), (4, .S s), (99, .B b)] [] [(65, 9, [nI c.Op, nI c.A, nI c.B, nI c.Tok, .S c.Name, nI c.Msg.Kind, nI c.Msg.Num, .S c.Msg.Text, slTermS c.Filter])]) =
  bif b then
    (bif decide (999999999 < c.Tok) then
      (some (AV.tup 2 (lstG [AV.S ByteArray.empty, AV.B false]), []))
    else
      (bif decide (s.size + 4 ≤ 4294967296) then
        (Option.bind (Γ 30 [nI c.Tok] []) fun r3 =>
        bif decide ((s ++ (bs [32, 98, 121, 32])).size + (asS r3.fst).size ≤ 4294967296) then
          (some (AV.tup 2 (lstG [AV.S (s ++ (bs [32, 98, 121, 32]) ++ asS r3.fst), AV.B true]), []))
        else
          (none))
      else
        (none)))
  else
    (some (AV.tup 2 (lstG [AV.S s, AV.B true]), [])) := by kernel_rfl
end Go.Fw
