/- Trees of the functions' bodies, as printed by the framework's evaluation. -/
import Derived.Test.YtailkfoodjgipaaGreatDoorProg
import Derived.Test.YtailkfoodjgipaaGreatDoorFyB
import Derived.KernelRfl
import Derived.Test.YtailkfoodjgipaaGreatDoorK
set_option linter.unusedVariables false
set_option maxRecDepth 100000
namespace Go.Fw
open Go.Proofs
theorem e31 (Γ : Orc) (H : Hd) (a b c : Int) : ent Tryz.prog cfg Γ 29 H [nI a, nI b, nI c] [] =
  bif decide (b ≤ a) then
    (some (AV.B (decide (a ≤ c)), []))
  else
    (some (AV.B false, [])) := by kernel_rfl
theorem e56 (Γ : Orc) (H : Hd) (a b c : Int) : ent Tryz.prog cfg Γ 44 H [nI a, nI b, nI c] [] =
  bif decide (b ≤ a) then
    (some (AV.B (decide (a ≤ c)), []))
  else
    (some (AV.B false, [])) := by kernel_rfl
theorem e32 (Γ : Orc) (H : Hd) (n : Int) : ent Tryz.prog cfg Γ 30 H [nI n] [] =
  bif decide (n = 0) then
    (some (AV.S (bs [48]), []))
  else
    (H [true, true, true, true, false] (hdS [(0, nI n), (3, AV.S ByteArray.empty), (4, AV.B (decide (n < 0)))] [] [])) := by kernel_rfl
theorem e63 (Γ : Orc) (H : Hd) (n : Int) : ent Tryz.prog cfg Γ 51 H [nI n] [] =
  bif decide (n < 0) then
    (bif decide (-10 < n) then
      (Option.bind (Γ 51 [nI (IntKind.i64.wrap (0 - n))] []) fun r2 =>
      bif decide (1 + (asS r2.fst).size ≤ 4294967296) then
        (some (AV.S ((bs [45]) ++ asS r2.fst), []))
      else
        (none))
    else
      (bif decide (n < 0) then
        (Option.bind (Γ 51 [nI (IntKind.i64.wrap (n.tdiv 10))] []) fun r3 =>
        Option.bind (Γ 51 [nI (IntKind.i64.wrap (0 - n.tmod 10))] []) fun r4 =>
        bif decide ((asS r3.fst).size + (asS r4.fst).size ≤ 4294967296) then
          (some (AV.S (asS r3.fst ++ asS r4.fst), []))
        else
          (none))
      else
        (bif decide (n < 10) then
          (some (AV.S (Utf8.encode (IntKind.i32.wrap (IntKind.i64.wrap (48 + n)))), []))
        else
          (Option.bind (Γ 51 [nI (IntKind.i64.wrap (n.tdiv 10))] []) fun r4 =>
          bif decide ((asS r4.fst).size + (Utf8.encode (IntKind.i32.wrap (IntKind.i64.wrap (48 + n.tmod 10)))).size ≤ 4294967296) then
            (some (AV.S (asS r4.fst ++ Utf8.encode (IntKind.i32.wrap (IntKind.i64.wrap (48 + n.tmod 10)))), []))
          else
            (none)))))
  else
    (bif decide (n < 0) then
      (Option.bind (Γ 51 [nI (IntKind.i64.wrap (n.tdiv 10))] []) fun r2 =>
      Option.bind (Γ 51 [nI (IntKind.i64.wrap (0 - n.tmod 10))] []) fun r3 =>
      bif decide ((asS r2.fst).size + (asS r3.fst).size ≤ 4294967296) then
        (some (AV.S (asS r2.fst ++ asS r3.fst), []))
      else
        (none))
    else
      (bif decide (n < 10) then
        (some (AV.S (Utf8.encode (IntKind.i32.wrap (IntKind.i64.wrap (48 + n)))), []))
      else
        (Option.bind (Γ 51 [nI (IntKind.i64.wrap (n.tdiv 10))] []) fun r3 =>
        bif decide ((asS r3.fst).size + (Utf8.encode (IntKind.i32.wrap (IntKind.i64.wrap (48 + n.tmod 10)))).size ≤ 4294967296) then
          (some (AV.S (asS r3.fst ++ Utf8.encode (IntKind.i32.wrap (IntKind.i64.wrap (48 + n.tmod 10)))), []))
        else
          (none)))) := by kernel_rfl
theorem e50 (Γ : Orc) (H : Hd) (n : Int) : ent Tryz.prog cfg Γ 57 H [nI n] [] =
  bif decide (n = 3) then
    (some (AV.B true, []))
  else
    (bif decide (n = 6) then
      (some (AV.B true, []))
    else
      (bif decide (n = 8) then
        (some (AV.B true, []))
      else
        (bif decide (n = 11) then
          (some (AV.B true, []))
        else
          (some (AV.B (decide (n = 15)), []))))) := by kernel_rfl
theorem e60 (Γ : Orc) (H : Hd) (n : Int) : ent Tryz.prog cfg Γ 48 H [nI n] [] =
  bif decide (n = 3) then
    (some (AV.B true, []))
  else
    (bif decide (n = 6) then
      (some (AV.B true, []))
    else
      (bif decide (n = 8) then
        (some (AV.B true, []))
      else
        (bif decide (n = 11) then
          (some (AV.B true, []))
        else
          (some (AV.B (decide (n = 15)), []))))) := by kernel_rfl
theorem e54 (Γ : Orc) (H : Hd) (n : Int) : ent Tryz.prog cfg Γ 61 H [nI n] [] =
  bif bif decide (0 ≤ n) then decide (n < 11) else false then
    (some (AV.S (bif decide (n.toNat = 0) then ByteArray.empty else bif decide (n.toNat - 1 = 0) then (bs [97, 108, 108]) else bif decide (n.toNat - 1 - 1 = 0) then (bs [110, 117, 109]) else bif decide (n.toNat - 1 - 1 - 1 = 0) then (bs [116, 101, 120, 116]) else bif decide (n.toNat - 1 - 1 - 1 - 1 = 0) then (bs [60]) else bif decide (n.toNat - 1 - 1 - 1 - 1 - 1 = 0) then (bs [37]) else bif decide (n.toNat - 1 - 1 - 1 - 1 - 1 - 1 = 0) then (bs [94]) else bif decide (n.toNat - 1 - 1 - 1 - 1 - 1 - 1 - 1 = 0) then (bs [126]) else bif decide (n.toNat - 1 - 1 - 1 - 1 - 1 - 1 - 1 - 1 = 0) then (bs [33]) else bif decide (n.toNat - 1 - 1 - 1 - 1 - 1 - 1 - 1 - 1 - 1 = 0) then (bs [38]) else bif decide (n.toNat - 1 - 1 - 1 - 1 - 1 - 1 - 1 - 1 - 1 - 1 = 0) then (bs [124]) else ByteArray.empty), []))
  else
    (none) := by kernel_rfl
theorem e28 (Γ : Orc) (H : Hd)  : ent Tryz.prog cfg Γ 26 H [] [] =
  bif okT then
    (some (AV.own 20 1 fun i => lstG [AV.S (bif decide (i = 0) then ByteArray.empty else bif decide (i - 1 = 0) then (bs [116, 101, 108, 108]) else bif decide (i - 1 - 1 = 0) then (bs [116, 101, 108, 108, 97, 108, 108]) else bif decide (i - 1 - 1 - 1 = 0) then (bs [97, 119, 97, 105, 116]) else bif decide (i - 1 - 1 - 1 - 1 = 0) then (bs [114, 97, 105, 115, 101]) else bif decide (i - 1 - 1 - 1 - 1 - 1 = 0) then (bs [114, 101, 115, 101, 116]) else bif decide (i - 1 - 1 - 1 - 1 - 1 - 1 = 0) then (bs [115, 116, 97, 110, 100]) else bif decide (i - 1 - 1 - 1 - 1 - 1 - 1 - 1 = 0) then (bs [100, 111, 119, 110]) else bif decide (i - 1 - 1 - 1 - 1 - 1 - 1 - 1 - 1 = 0) then (bs [108, 97, 116, 99, 104]) else bif decide (i - 1 - 1 - 1 - 1 - 1 - 1 - 1 - 1 - 1 = 0) then ByteArray.empty else bif decide (i - 1 - 1 - 1 - 1 - 1 - 1 - 1 - 1 - 1 - 1 = 0) then (bs [108, 111, 111, 107]) else bif decide (i - 1 - 1 - 1 - 1 - 1 - 1 - 1 - 1 - 1 - 1 - 1 = 0) then (bs [119, 97, 116, 99, 104]) else bif decide (i - 1 - 1 - 1 - 1 - 1 - 1 - 1 - 1 - 1 - 1 - 1 - 1 = 0) then (bs [115, 104, 117, 116]) else bif decide (i - 1 - 1 - 1 - 1 - 1 - 1 - 1 - 1 - 1 - 1 - 1 - 1 - 1 = 0) then (bs [112, 117, 98]) else bif decide (i - 1 - 1 - 1 - 1 - 1 - 1 - 1 - 1 - 1 - 1 - 1 - 1 - 1 - 1 = 0) then (bs [115, 117, 98]) else bif decide (i - 1 - 1 - 1 - 1 - 1 - 1 - 1 - 1 - 1 - 1 - 1 - 1 - 1 - 1 - 1 = 0) then (bs [114, 101, 99, 118]) else bif decide (i - 1 - 1 - 1 - 1 - 1 - 1 - 1 - 1 - 1 - 1 - 1 - 1 - 1 - 1 - 1 - 1 = 0) then (bs [117, 110, 115, 117, 98]) else bif decide (i - 1 - 1 - 1 - 1 - 1 - 1 - 1 - 1 - 1 - 1 - 1 - 1 - 1 - 1 - 1 - 1 - 1 = 0) then (bs [99, 108, 111, 115, 101]) else bif decide (i - 1 - 1 - 1 - 1 - 1 - 1 - 1 - 1 - 1 - 1 - 1 - 1 - 1 - 1 - 1 - 1 - 1 - 1 = 0) then (bs [99, 97, 110, 99, 101, 108]) else bif decide (i - 1 - 1 - 1 - 1 - 1 - 1 - 1 - 1 - 1 - 1 - 1 - 1 - 1 - 1 - 1 - 1 - 1 - 1 - 1 = 0) then (bs [116, 105, 109, 101, 114]) else ByteArray.empty)], []))
  else
    (none) := by kernel_rfl
theorem e29 (Γ : Orc) (H : Hd)  : ent Tryz.prog cfg Γ 27 H [] [] =
  bif okT then
    (some (AV.own 5 1 fun i => lstG [AV.S (bif decide (i = 0) then ByteArray.empty else bif decide (i - 1 = 0) then (bs [112, 117, 116]) else bif decide (i - 1 - 1 = 0) then (bs [97, 100, 100]) else bif decide (i - 1 - 1 - 1 = 0) then (bs [106, 111, 105, 110]) else bif decide (i - 1 - 1 - 1 - 1 = 0) then (bs [109, 111, 115, 116]) else ByteArray.empty)], []))
  else
    (none) := by kernel_rfl
theorem e30 (Γ : Orc) (H : Hd) (m : VMsg) : ent Tryz.prog cfg Γ 28 H [slMsg m] [] =
  Option.bind (Γ 58 [AV.ag 3 (lstG [nI m.Kind, nI m.Num, AV.S m.Text])] []) fun r0 =>
  bif !asB r0.fst then
    (some (AV.S (bs [63]), []))
  else
    (bif decide (m.Kind = 1) then
      (Option.bind (Γ 30 [nI m.Num] []) fun r3 =>
      some (AV.S (asS r3.fst), []))
    else
      (bif decide (1 + m.Text.size ≤ 4294967296) then
        (bif decide (((bs [34]) ++ m.Text).size + 1 ≤ 4294967296) then
          (some (AV.S ((bs [34]) ++ m.Text ++ (bs [34])), []))
        else
          (none))
      else
        (none))) := by kernel_rfl
theorem e64 (Γ : Orc) (H : Hd) (m : VMsg) : ent Tryz.prog cfg Γ 52 H [slMsg m] [] =
  Option.bind (Γ 46 [AV.ag 3 (lstG [nI m.Kind, nI m.Num, AV.S m.Text])] []) fun r0 =>
  bif !asB r0.fst then
    (some (AV.S (bs [63]), []))
  else
    (bif decide (m.Kind = 1) then
      (Option.bind (Γ 51 [nI m.Num] []) fun r3 =>
      some (AV.S (asS r3.fst), []))
    else
      (bif decide (1 + m.Text.size ≤ 4294967296) then
        (bif decide (((bs [34]) ++ m.Text).size + 1 ≤ 4294967296) then
          (some (AV.S ((bs [34]) ++ m.Text ++ (bs [34])), []))
        else
          (none))
      else
        (none))) := by kernel_rfl
theorem e51 (Γ : Orc) (H : Hd) (m : VMsg) : ent Tryz.prog cfg Γ 58 H [slMsg m] [] =
  bif decide (m.Kind = 1) then
    (bif m.Text.toList == ByteArray.empty.toList then
      (Option.bind (Γ 29 [nI m.Num, nI (-999999999), nI 999999999] []) fun r2 =>
      some (AV.B (asB r2.fst), []))
    else
      (some (AV.B false, [])))
  else
    (bif decide (m.Kind = 2) then
      (bif decide (m.Num = 0) then
        (Option.bind (Γ 83 [AV.S m.Text] []) fun r3 =>
        some (AV.B (asB r3.fst), []))
      else
        (some (AV.B false, [])))
    else
      (some (AV.B false, []))) := by kernel_rfl
theorem e58 (Γ : Orc) (H : Hd) (m : VMsg) : ent Tryz.prog cfg Γ 46 H [slMsg m] [] =
  bif decide (m.Kind = 1) then
    (Option.bind (Γ 44 [nI m.Num, nI (-999999999), nI 999999999] []) fun r1 =>
    bif asB r1.fst then
      (some (AV.B (m.Text.toList == ByteArray.empty.toList), []))
    else
      (some (AV.B false, [])))
  else
    (bif decide (m.Kind = 2) then
      (H [true, false, true, true, true, true, false, false, true] (hdS [(1, AV.pb 65 0), (20, nI (zN m.Text.size)), (21, nI 0)] [] [(65, 3, [nI m.Kind, nI m.Num, AV.S m.Text])]))
    else
      (some (AV.B false, []))) := by kernel_rfl
theorem e27 (Γ : Orc) (H : Hd) (c : VCall) : ent Tryz.prog cfg Γ 25 H [slCall c] [] =
  Option.bind (Γ 57 [nI c.Op] []) fun r0 =>
  bif asB r0.fst then
    (bif decide (-1 ≤ c.Tok) then
      (H [true, true, true, false, false] (hdS [(1, AV.pb 65 0), (3, AV.pb 67 0), (21, nI c.Op)] [] [(65, 9, [nI c.Op, nI c.A, nI c.B, nI c.Tok, AV.S c.Name, nI c.Msg.Kind, nI c.Msg.Num, AV.S c.Msg.Text, slTermS c.Filter]), (67, 9, [nI c.Op, nI c.A, nI 0, nI c.Tok, AV.S ByteArray.empty, nI 0, nI 0, AV.S ByteArray.empty, AV.nsl 3 fun x => lstG [nI 0, nI 0, AV.S ByteArray.empty]])]))
    else
      (H [true, true, true, false, false] (hdS [(1, AV.pb 65 0), (3, AV.pb 67 0), (21, nI c.Op)] [] [(65, 9, [nI c.Op, nI c.A, nI c.B, nI c.Tok, AV.S c.Name, nI c.Msg.Kind, nI c.Msg.Num, AV.S c.Msg.Text, slTermS c.Filter]), (67, 9, [nI c.Op, nI c.A, nI 0, nI (-1), AV.S ByteArray.empty, nI 0, nI 0, AV.S ByteArray.empty, AV.nsl 3 fun x => lstG [nI 0, nI 0, AV.S ByteArray.empty]])])))
  else
    (H [true, true, true, false, false] (hdS [(1, AV.pb 65 0), (3, AV.pb 67 0), (21, nI c.Op)] [] [(65, 9, [nI c.Op, nI c.A, nI c.B, nI c.Tok, AV.S c.Name, nI c.Msg.Kind, nI c.Msg.Num, AV.S c.Msg.Text, slTermS c.Filter]), (67, 9, [nI c.Op, nI c.A, nI 0, nI (-1), AV.S ByteArray.empty, nI 0, nI 0, AV.S ByteArray.empty, AV.nsl 3 fun x => lstG [nI 0, nI 0, AV.S ByteArray.empty]])])) := by kernel_rfl
theorem e36 (Γ : Orc) (H : Hd) (c : VCall) : ent Tryz.prog cfg Γ 22 H [slCall c] [] =
  Option.bind (Γ 44 [nI c.Op, nI 1, nI 19] []) fun r0 =>
  bif asB r0.fst then
    (bif decide (-1 ≤ c.Tok) then
      (Option.bind (Γ 45 [slTermS c.Filter] []) fun r3 =>
      bif decide (c.Op = 7) then
        (bif decide (c.Op = 7) then
          (bif asB r3.fst then
            (Option.bind (Γ 48 [nI c.Op] []) fun r7 =>
            bif asB r7.fst then
              (bif c.Name.toList == ByteArray.empty.toList then
                (bif bif decide (c.Msg.Kind = 0) then bif decide (c.Msg.Num = 0) then bif c.Msg.Text.toList == ByteArray.empty.toList then true else false else false else false then
                  (some (AV.B (decide (zN c.Filter.length = 0)), []))
                else
                  (some (AV.B false, [])))
              else
                (some (AV.B false, [])))
            else
              (bif decide (c.Tok = -1) then
                (bif c.Name.toList == ByteArray.empty.toList then
                  (bif bif decide (c.Msg.Kind = 0) then bif decide (c.Msg.Num = 0) then bif c.Msg.Text.toList == ByteArray.empty.toList then true else false else false else false then
                    (some (AV.B (decide (zN c.Filter.length = 0)), []))
                  else
                    (some (AV.B false, [])))
                else
                  (some (AV.B false, [])))
              else
                (some (AV.B false, []))))
          else
            (some (AV.B false, [])))
        else
          (bif decide (c.Op = 9) then
            (bif asB r3.fst then
              (Option.bind (Γ 44 [nI c.B, nI 1, nI 4] []) fun r8 =>
              bif asB r8.fst then
                (Option.bind (Γ 46 [AV.ag 3 (lstG [nI c.Msg.Kind, nI c.Msg.Num, AV.S c.Msg.Text])] []) fun r10 =>
                bif asB r10.fst then
                  (Option.bind (Γ 48 [nI c.Op] []) fun r12 =>
                  bif asB r12.fst then
                    (bif c.Name.toList == ByteArray.empty.toList then
                      (some (AV.B (decide (zN c.Filter.length = 0)), []))
                    else
                      (some (AV.B false, [])))
                  else
                    (bif decide (c.Tok = -1) then
                      (bif c.Name.toList == ByteArray.empty.toList then
                        (some (AV.B (decide (zN c.Filter.length = 0)), []))
                      else
                        (some (AV.B false, [])))
                    else
                      (some (AV.B false, []))))
                else
                  (some (AV.B false, [])))
              else
                (some (AV.B false, [])))
            else
              (some (AV.B false, [])))
          else
            (bif decide (c.Op = 13) then
              (bif asB r3.fst then
                (Option.bind (Γ 47 [AV.S c.Name] []) fun r9 =>
                bif asB r9.fst then
                  (Option.bind (Γ 46 [AV.ag 3 (lstG [nI c.Msg.Kind, nI c.Msg.Num, AV.S c.Msg.Text])] []) fun r11 =>
                  bif asB r11.fst then
                    (bif decide (c.A = 0) then
                      (bif decide (c.B = 0) then
                        (Option.bind (Γ 48 [nI c.Op] []) fun r15 =>
                        bif asB r15.fst then
                          (some (AV.B (decide (zN c.Filter.length = 0)), []))
                        else
                          (bif decide (c.Tok = -1) then
                            (some (AV.B (decide (zN c.Filter.length = 0)), []))
                          else
                            (some (AV.B false, []))))
                      else
                        (some (AV.B false, [])))
                    else
                      (some (AV.B false, [])))
                  else
                    (some (AV.B false, [])))
                else
                  (some (AV.B false, [])))
              else
                (some (AV.B false, [])))
            else
              (bif decide (c.Op = 14) then
                (bif asB r3.fst then
                  (Option.bind (Γ 44 [nI c.B, nI 0, nI 1] []) fun r10 =>
                  bif asB r10.fst then
                    (Option.bind (Γ 48 [nI c.Op] []) fun r12 =>
                    bif asB r12.fst then
                      (bif c.Name.toList == ByteArray.empty.toList then
                        (bif bif decide (c.Msg.Kind = 0) then bif decide (c.Msg.Num = 0) then bif c.Msg.Text.toList == ByteArray.empty.toList then true else false else false else false then
                          (some (AV.B true, []))
                        else
                          (some (AV.B false, [])))
                      else
                        (some (AV.B false, [])))
                    else
                      (bif decide (c.Tok = -1) then
                        (bif c.Name.toList == ByteArray.empty.toList then
                          (bif bif decide (c.Msg.Kind = 0) then bif decide (c.Msg.Num = 0) then bif c.Msg.Text.toList == ByteArray.empty.toList then true else false else false else false then
                            (some (AV.B true, []))
                          else
                            (some (AV.B false, [])))
                        else
                          (some (AV.B false, [])))
                      else
                        (some (AV.B false, []))))
                  else
                    (some (AV.B false, [])))
                else
                  (some (AV.B false, [])))
              else
                (bif decide (c.Op = 15) then
                  (bif decide (c.Op = 15) then
                    (bif asB r3.fst then
                      (bif decide (c.A = 0) then
                        (Option.bind (Γ 48 [nI c.Op] []) fun r13 =>
                        bif asB r13.fst then
                          (bif c.Name.toList == ByteArray.empty.toList then
                            (bif bif decide (c.Msg.Kind = 0) then bif decide (c.Msg.Num = 0) then bif c.Msg.Text.toList == ByteArray.empty.toList then true else false else false else false then
                              (some (AV.B (decide (zN c.Filter.length = 0)), []))
                            else
                              (some (AV.B false, [])))
                          else
                            (some (AV.B false, [])))
                        else
                          (bif decide (c.Tok = -1) then
                            (bif c.Name.toList == ByteArray.empty.toList then
                              (bif bif decide (c.Msg.Kind = 0) then bif decide (c.Msg.Num = 0) then bif c.Msg.Text.toList == ByteArray.empty.toList then true else false else false else false then
                                (some (AV.B (decide (zN c.Filter.length = 0)), []))
                              else
                                (some (AV.B false, [])))
                            else
                              (some (AV.B false, [])))
                          else
                            (some (AV.B false, []))))
                      else
                        (some (AV.B false, [])))
                    else
                      (some (AV.B false, [])))
                  else
                    (bif asB r3.fst then
                      (bif decide (c.B = 0) then
                        (Option.bind (Γ 48 [nI c.Op] []) fun r13 =>
                        bif asB r13.fst then
                          (bif c.Name.toList == ByteArray.empty.toList then
                            (bif bif decide (c.Msg.Kind = 0) then bif decide (c.Msg.Num = 0) then bif c.Msg.Text.toList == ByteArray.empty.toList then true else false else false else false then
                              (some (AV.B (decide (zN c.Filter.length = 0)), []))
                            else
                              (some (AV.B false, [])))
                          else
                            (some (AV.B false, [])))
                        else
                          (bif decide (c.Tok = -1) then
                            (bif c.Name.toList == ByteArray.empty.toList then
                              (bif bif decide (c.Msg.Kind = 0) then bif decide (c.Msg.Num = 0) then bif c.Msg.Text.toList == ByteArray.empty.toList then true else false else false else false then
                                (some (AV.B (decide (zN c.Filter.length = 0)), []))
                              else
                                (some (AV.B false, [])))
                            else
                              (some (AV.B false, [])))
                          else
                            (some (AV.B false, []))))
                      else
                        (some (AV.B false, [])))
                    else
                      (some (AV.B false, []))))
                else
                  (bif decide (c.Op = 16) then
                    (bif asB r3.fst then
                      (bif decide (c.A = 0) then
                        (Option.bind (Γ 48 [nI c.Op] []) fun r13 =>
                        bif asB r13.fst then
                          (bif c.Name.toList == ByteArray.empty.toList then
                            (bif bif decide (c.Msg.Kind = 0) then bif decide (c.Msg.Num = 0) then bif c.Msg.Text.toList == ByteArray.empty.toList then true else false else false else false then
                              (some (AV.B (decide (zN c.Filter.length = 0)), []))
                            else
                              (some (AV.B false, [])))
                          else
                            (some (AV.B false, [])))
                        else
                          (bif decide (c.Tok = -1) then
                            (bif c.Name.toList == ByteArray.empty.toList then
                              (bif bif decide (c.Msg.Kind = 0) then bif decide (c.Msg.Num = 0) then bif c.Msg.Text.toList == ByteArray.empty.toList then true else false else false else false then
                                (some (AV.B (decide (zN c.Filter.length = 0)), []))
                              else
                                (some (AV.B false, [])))
                            else
                              (some (AV.B false, [])))
                          else
                            (some (AV.B false, []))))
                      else
                        (some (AV.B false, [])))
                    else
                      (some (AV.B false, [])))
                  else
                    (bif asB r3.fst then
                      (bif decide (c.B = 0) then
                        (Option.bind (Γ 48 [nI c.Op] []) fun r13 =>
                        bif asB r13.fst then
                          (bif c.Name.toList == ByteArray.empty.toList then
                            (bif bif decide (c.Msg.Kind = 0) then bif decide (c.Msg.Num = 0) then bif c.Msg.Text.toList == ByteArray.empty.toList then true else false else false else false then
                              (some (AV.B (decide (zN c.Filter.length = 0)), []))
                            else
                              (some (AV.B false, [])))
                          else
                            (some (AV.B false, [])))
                        else
                          (bif decide (c.Tok = -1) then
                            (bif c.Name.toList == ByteArray.empty.toList then
                              (bif bif decide (c.Msg.Kind = 0) then bif decide (c.Msg.Num = 0) then bif c.Msg.Text.toList == ByteArray.empty.toList then true else false else false else false then
                                (some (AV.B (decide (zN c.Filter.length = 0)), []))
                              else
                                (some (AV.B false, [])))
                            else
                              (some (AV.B false, [])))
                          else
                            (some (AV.B false, []))))
                      else
                        (some (AV.B false, [])))
                    else
                      (some (AV.B false, [])))))))))
      else
        (bif decide (c.Op = 19) then
          (bif asB r3.fst then
            (Option.bind (Γ 48 [nI c.Op] []) fun r7 =>
            bif asB r7.fst then
              (bif c.Name.toList == ByteArray.empty.toList then
                (bif bif decide (c.Msg.Kind = 0) then bif decide (c.Msg.Num = 0) then bif c.Msg.Text.toList == ByteArray.empty.toList then true else false else false else false then
                  (some (AV.B (decide (zN c.Filter.length = 0)), []))
                else
                  (some (AV.B false, [])))
              else
                (some (AV.B false, [])))
            else
              (bif decide (c.Tok = -1) then
                (bif c.Name.toList == ByteArray.empty.toList then
                  (bif bif decide (c.Msg.Kind = 0) then bif decide (c.Msg.Num = 0) then bif c.Msg.Text.toList == ByteArray.empty.toList then true else false else false else false then
                    (some (AV.B (decide (zN c.Filter.length = 0)), []))
                  else
                    (some (AV.B false, [])))
                else
                  (some (AV.B false, [])))
              else
                (some (AV.B false, []))))
          else
            (some (AV.B false, [])))
        else
          (bif decide (c.Op = 9) then
            (bif asB r3.fst then
              (Option.bind (Γ 44 [nI c.B, nI 1, nI 4] []) fun r8 =>
              bif asB r8.fst then
                (Option.bind (Γ 46 [AV.ag 3 (lstG [nI c.Msg.Kind, nI c.Msg.Num, AV.S c.Msg.Text])] []) fun r10 =>
                bif asB r10.fst then
                  (Option.bind (Γ 48 [nI c.Op] []) fun r12 =>
                  bif asB r12.fst then
                    (bif c.Name.toList == ByteArray.empty.toList then
                      (some (AV.B (decide (zN c.Filter.length = 0)), []))
                    else
                      (some (AV.B false, [])))
                  else
                    (bif decide (c.Tok = -1) then
                      (bif c.Name.toList == ByteArray.empty.toList then
                        (some (AV.B (decide (zN c.Filter.length = 0)), []))
                      else
                        (some (AV.B false, [])))
                    else
                      (some (AV.B false, []))))
                else
                  (some (AV.B false, [])))
              else
                (some (AV.B false, [])))
            else
              (some (AV.B false, [])))
          else
            (bif decide (c.Op = 13) then
              (bif asB r3.fst then
                (Option.bind (Γ 47 [AV.S c.Name] []) fun r9 =>
                bif asB r9.fst then
                  (Option.bind (Γ 46 [AV.ag 3 (lstG [nI c.Msg.Kind, nI c.Msg.Num, AV.S c.Msg.Text])] []) fun r11 =>
                  bif asB r11.fst then
                    (bif decide (c.A = 0) then
                      (bif decide (c.B = 0) then
                        (Option.bind (Γ 48 [nI c.Op] []) fun r15 =>
                        bif asB r15.fst then
                          (some (AV.B (decide (zN c.Filter.length = 0)), []))
                        else
                          (bif decide (c.Tok = -1) then
                            (some (AV.B (decide (zN c.Filter.length = 0)), []))
                          else
                            (some (AV.B false, []))))
                      else
                        (some (AV.B false, [])))
                    else
                      (some (AV.B false, [])))
                  else
                    (some (AV.B false, [])))
                else
                  (some (AV.B false, [])))
              else
                (some (AV.B false, [])))
            else
              (bif decide (c.Op = 14) then
                (bif asB r3.fst then
                  (Option.bind (Γ 44 [nI c.B, nI 0, nI 1] []) fun r10 =>
                  bif asB r10.fst then
                    (Option.bind (Γ 48 [nI c.Op] []) fun r12 =>
                    bif asB r12.fst then
                      (bif c.Name.toList == ByteArray.empty.toList then
                        (bif bif decide (c.Msg.Kind = 0) then bif decide (c.Msg.Num = 0) then bif c.Msg.Text.toList == ByteArray.empty.toList then true else false else false else false then
                          (some (AV.B true, []))
                        else
                          (some (AV.B false, [])))
                      else
                        (some (AV.B false, [])))
                    else
                      (bif decide (c.Tok = -1) then
                        (bif c.Name.toList == ByteArray.empty.toList then
                          (bif bif decide (c.Msg.Kind = 0) then bif decide (c.Msg.Num = 0) then bif c.Msg.Text.toList == ByteArray.empty.toList then true else false else false else false then
                            (some (AV.B true, []))
                          else
                            (some (AV.B false, [])))
                        else
                          (some (AV.B false, [])))
                      else
                        (some (AV.B false, []))))
                  else
                    (some (AV.B false, [])))
                else
                  (some (AV.B false, [])))
              else
                (bif decide (c.Op = 15) then
                  (bif decide (c.Op = 15) then
                    (bif asB r3.fst then
                      (bif decide (c.A = 0) then
                        (Option.bind (Γ 48 [nI c.Op] []) fun r13 =>
                        bif asB r13.fst then
                          (bif c.Name.toList == ByteArray.empty.toList then
                            (bif bif decide (c.Msg.Kind = 0) then bif decide (c.Msg.Num = 0) then bif c.Msg.Text.toList == ByteArray.empty.toList then true else false else false else false then
                              (some (AV.B (decide (zN c.Filter.length = 0)), []))
                            else
                              (some (AV.B false, [])))
                          else
                            (some (AV.B false, [])))
                        else
                          (bif decide (c.Tok = -1) then
                            (bif c.Name.toList == ByteArray.empty.toList then
                              (bif bif decide (c.Msg.Kind = 0) then bif decide (c.Msg.Num = 0) then bif c.Msg.Text.toList == ByteArray.empty.toList then true else false else false else false then
                                (some (AV.B (decide (zN c.Filter.length = 0)), []))
                              else
                                (some (AV.B false, [])))
                            else
                              (some (AV.B false, [])))
                          else
                            (some (AV.B false, []))))
                      else
                        (some (AV.B false, [])))
                    else
                      (some (AV.B false, [])))
                  else
                    (bif asB r3.fst then
                      (bif decide (c.B = 0) then
                        (Option.bind (Γ 48 [nI c.Op] []) fun r13 =>
                        bif asB r13.fst then
                          (bif c.Name.toList == ByteArray.empty.toList then
                            (bif bif decide (c.Msg.Kind = 0) then bif decide (c.Msg.Num = 0) then bif c.Msg.Text.toList == ByteArray.empty.toList then true else false else false else false then
                              (some (AV.B (decide (zN c.Filter.length = 0)), []))
                            else
                              (some (AV.B false, [])))
                          else
                            (some (AV.B false, [])))
                        else
                          (bif decide (c.Tok = -1) then
                            (bif c.Name.toList == ByteArray.empty.toList then
                              (bif bif decide (c.Msg.Kind = 0) then bif decide (c.Msg.Num = 0) then bif c.Msg.Text.toList == ByteArray.empty.toList then true else false else false else false then
                                (some (AV.B (decide (zN c.Filter.length = 0)), []))
                              else
                                (some (AV.B false, [])))
                            else
                              (some (AV.B false, [])))
                          else
                            (some (AV.B false, []))))
                      else
                        (some (AV.B false, [])))
                    else
                      (some (AV.B false, []))))
                else
                  (bif decide (c.Op = 16) then
                    (bif asB r3.fst then
                      (bif decide (c.A = 0) then
                        (Option.bind (Γ 48 [nI c.Op] []) fun r13 =>
                        bif asB r13.fst then
                          (bif c.Name.toList == ByteArray.empty.toList then
                            (bif bif decide (c.Msg.Kind = 0) then bif decide (c.Msg.Num = 0) then bif c.Msg.Text.toList == ByteArray.empty.toList then true else false else false else false then
                              (some (AV.B (decide (zN c.Filter.length = 0)), []))
                            else
                              (some (AV.B false, [])))
                          else
                            (some (AV.B false, [])))
                        else
                          (bif decide (c.Tok = -1) then
                            (bif c.Name.toList == ByteArray.empty.toList then
                              (bif bif decide (c.Msg.Kind = 0) then bif decide (c.Msg.Num = 0) then bif c.Msg.Text.toList == ByteArray.empty.toList then true else false else false else false then
                                (some (AV.B (decide (zN c.Filter.length = 0)), []))
                              else
                                (some (AV.B false, [])))
                            else
                              (some (AV.B false, [])))
                          else
                            (some (AV.B false, []))))
                      else
                        (some (AV.B false, [])))
                    else
                      (some (AV.B false, [])))
                  else
                    (bif asB r3.fst then
                      (bif decide (c.B = 0) then
                        (Option.bind (Γ 48 [nI c.Op] []) fun r13 =>
                        bif asB r13.fst then
                          (bif c.Name.toList == ByteArray.empty.toList then
                            (bif bif decide (c.Msg.Kind = 0) then bif decide (c.Msg.Num = 0) then bif c.Msg.Text.toList == ByteArray.empty.toList then true else false else false else false then
                              (some (AV.B (decide (zN c.Filter.length = 0)), []))
                            else
                              (some (AV.B false, [])))
                          else
                            (some (AV.B false, [])))
                        else
                          (bif decide (c.Tok = -1) then
                            (bif c.Name.toList == ByteArray.empty.toList then
                              (bif bif decide (c.Msg.Kind = 0) then bif decide (c.Msg.Num = 0) then bif c.Msg.Text.toList == ByteArray.empty.toList then true else false else false else false then
                                (some (AV.B (decide (zN c.Filter.length = 0)), []))
                              else
                                (some (AV.B false, [])))
                            else
                              (some (AV.B false, [])))
                          else
                            (some (AV.B false, []))))
                      else
                        (some (AV.B false, [])))
                    else
                      (some (AV.B false, []))))))))))
    else
      (bif decide (c.Op = 7) then
        (bif decide (c.Op = 7) then
          (some (AV.B false, []))
        else
          (bif decide (c.Op = 9) then
            (some (AV.B false, []))
          else
            (bif decide (c.Op = 13) then
              (some (AV.B false, []))
            else
              (bif decide (c.Op = 14) then
                (some (AV.B false, []))
              else
                (bif decide (c.Op = 15) then
                  (bif decide (c.Op = 15) then
                    (some (AV.B false, []))
                  else
                    (some (AV.B false, [])))
                else
                  (bif decide (c.Op = 16) then
                    (some (AV.B false, []))
                  else
                    (some (AV.B false, []))))))))
      else
        (bif decide (c.Op = 19) then
          (some (AV.B false, []))
        else
          (bif decide (c.Op = 9) then
            (some (AV.B false, []))
          else
            (bif decide (c.Op = 13) then
              (some (AV.B false, []))
            else
              (bif decide (c.Op = 14) then
                (some (AV.B false, []))
              else
                (bif decide (c.Op = 15) then
                  (bif decide (c.Op = 15) then
                    (some (AV.B false, []))
                  else
                    (some (AV.B false, [])))
                else
                  (bif decide (c.Op = 16) then
                    (some (AV.B false, []))
                  else
                    (some (AV.B false, []))))))))))
  else
    (bif decide (c.Op = 7) then
      (bif decide (c.Op = 7) then
        (some (AV.B false, []))
      else
        (bif decide (c.Op = 9) then
          (some (AV.B false, []))
        else
          (bif decide (c.Op = 13) then
            (some (AV.B false, []))
          else
            (bif decide (c.Op = 14) then
              (some (AV.B false, []))
            else
              (bif decide (c.Op = 15) then
                (bif decide (c.Op = 15) then
                  (some (AV.B false, []))
                else
                  (some (AV.B false, [])))
              else
                (bif decide (c.Op = 16) then
                  (some (AV.B false, []))
                else
                  (some (AV.B false, []))))))))
    else
      (bif decide (c.Op = 19) then
        (some (AV.B false, []))
      else
        (bif decide (c.Op = 9) then
          (some (AV.B false, []))
        else
          (bif decide (c.Op = 13) then
            (some (AV.B false, []))
          else
            (bif decide (c.Op = 14) then
              (some (AV.B false, []))
            else
              (bif decide (c.Op = 15) then
                (bif decide (c.Op = 15) then
                  (some (AV.B false, []))
                else
                  (some (AV.B false, [])))
              else
                (bif decide (c.Op = 16) then
                  (some (AV.B false, []))
                else
                  (some (AV.B false, []))))))))) := by kernel_rfl
theorem e37 (Γ : Orc) (H : Hd) (c : VCall) : ent Tryz.prog cfg Γ 23 H [slCall c] [] =
  Option.bind (Γ 49 [AV.ag 9 (lstG [nI c.Op, nI c.A, nI c.B, nI c.Tok, AV.S c.Name, nI c.Msg.Kind, nI c.Msg.Num, AV.S c.Msg.Text, slTermS c.Filter])] []) fun r0 =>
  H [true, true, true, true, false, false] (hdS [(1, AV.pb 65 0), (4, AV.pb 68 0), (5, AV.pb 69 0), (6, AV.clo 50 2 (lstG [AV.pb 69 0, AV.pb 68 0])), (14, nI c.Op)] [(643072, ⟨1, 1, fun i => lstG [AV.S (bif decide (i = 0) then asS r0.fst else ByteArray.empty)]⟩)] [(65, 9, [nI c.Op, nI c.A, nI c.B, nI c.Tok, AV.S c.Name, nI c.Msg.Kind, nI c.Msg.Num, AV.S c.Msg.Text, slTermS c.Filter]), (68, 1, [AV.rf 643072]), (69, 1, [AV.B true])]) := by kernel_rfl
theorem e61 (Γ : Orc) (H : Hd) (c : VCall) : ent Tryz.prog cfg Γ 49 H [slCall c] [] =
  bif decide (c.Op = 9) then
    (bif bif decide (0 ≤ IntKind.i64.wrap (c.B - 1)) then decide (IntKind.i64.wrap (c.B - 1) < 4) else false then
      (some (AV.S (bif decide ((IntKind.i64.wrap (c.B - 1)).toNat = 0) then (bs [112, 117, 116]) else bif decide ((IntKind.i64.wrap (c.B - 1)).toNat - 1 = 0) then (bs [97, 100, 100]) else bif decide ((IntKind.i64.wrap (c.B - 1)).toNat - 1 - 1 = 0) then (bs [106, 111, 105, 110]) else bif decide ((IntKind.i64.wrap (c.B - 1)).toNat - 1 - 1 - 1 = 0) then (bs [109, 111, 115, 116]) else ByteArray.empty), []))
    else
      (none))
  else
    (bif bif decide (0 ≤ IntKind.i64.wrap (c.Op - 1)) then decide (IntKind.i64.wrap (c.Op - 1) < 19) else false then
      (some (AV.S (bif decide ((IntKind.i64.wrap (c.Op - 1)).toNat = 0) then (bs [116, 101, 108, 108]) else bif decide ((IntKind.i64.wrap (c.Op - 1)).toNat - 1 = 0) then (bs [116, 101, 108, 108, 97, 108, 108]) else bif decide ((IntKind.i64.wrap (c.Op - 1)).toNat - 1 - 1 = 0) then (bs [97, 119, 97, 105, 116]) else bif decide ((IntKind.i64.wrap (c.Op - 1)).toNat - 1 - 1 - 1 = 0) then (bs [114, 97, 105, 115, 101]) else bif decide ((IntKind.i64.wrap (c.Op - 1)).toNat - 1 - 1 - 1 - 1 = 0) then (bs [114, 101, 115, 101, 116]) else bif decide ((IntKind.i64.wrap (c.Op - 1)).toNat - 1 - 1 - 1 - 1 - 1 = 0) then (bs [115, 116, 97, 110, 100]) else bif decide ((IntKind.i64.wrap (c.Op - 1)).toNat - 1 - 1 - 1 - 1 - 1 - 1 = 0) then (bs [100, 111, 119, 110]) else bif decide ((IntKind.i64.wrap (c.Op - 1)).toNat - 1 - 1 - 1 - 1 - 1 - 1 - 1 = 0) then (bs [108, 97, 116, 99, 104]) else bif decide ((IntKind.i64.wrap (c.Op - 1)).toNat - 1 - 1 - 1 - 1 - 1 - 1 - 1 - 1 = 0) then (bs [112, 117, 116]) else bif decide ((IntKind.i64.wrap (c.Op - 1)).toNat - 1 - 1 - 1 - 1 - 1 - 1 - 1 - 1 - 1 = 0) then (bs [108, 111, 111, 107]) else bif decide ((IntKind.i64.wrap (c.Op - 1)).toNat - 1 - 1 - 1 - 1 - 1 - 1 - 1 - 1 - 1 - 1 = 0) then (bs [119, 97, 116, 99, 104]) else bif decide ((IntKind.i64.wrap (c.Op - 1)).toNat - 1 - 1 - 1 - 1 - 1 - 1 - 1 - 1 - 1 - 1 - 1 = 0) then (bs [115, 104, 117, 116]) else bif decide ((IntKind.i64.wrap (c.Op - 1)).toNat - 1 - 1 - 1 - 1 - 1 - 1 - 1 - 1 - 1 - 1 - 1 - 1 = 0) then (bs [112, 117, 98]) else bif decide ((IntKind.i64.wrap (c.Op - 1)).toNat - 1 - 1 - 1 - 1 - 1 - 1 - 1 - 1 - 1 - 1 - 1 - 1 - 1 = 0) then (bs [115, 117, 98]) else bif decide ((IntKind.i64.wrap (c.Op - 1)).toNat - 1 - 1 - 1 - 1 - 1 - 1 - 1 - 1 - 1 - 1 - 1 - 1 - 1 - 1 = 0) then (bs [114, 101, 99, 118]) else bif decide ((IntKind.i64.wrap (c.Op - 1)).toNat - 1 - 1 - 1 - 1 - 1 - 1 - 1 - 1 - 1 - 1 - 1 - 1 - 1 - 1 - 1 = 0) then (bs [117, 110, 115, 117, 98]) else bif decide ((IntKind.i64.wrap (c.Op - 1)).toNat - 1 - 1 - 1 - 1 - 1 - 1 - 1 - 1 - 1 - 1 - 1 - 1 - 1 - 1 - 1 - 1 = 0) then (bs [99, 108, 111, 115, 101]) else bif decide ((IntKind.i64.wrap (c.Op - 1)).toNat - 1 - 1 - 1 - 1 - 1 - 1 - 1 - 1 - 1 - 1 - 1 - 1 - 1 - 1 - 1 - 1 - 1 = 0) then (bs [99, 97, 110, 99, 101, 108]) else bif decide ((IntKind.i64.wrap (c.Op - 1)).toNat - 1 - 1 - 1 - 1 - 1 - 1 - 1 - 1 - 1 - 1 - 1 - 1 - 1 - 1 - 1 - 1 - 1 - 1 = 0) then (bs [116, 105, 109, 101, 114]) else ByteArray.empty), []))
    else
      (none)) := by kernel_rfl
theorem e10 (Γ : Orc) (H : Hd) (c : VCall) : ent Tryz.prog cfg Γ 7 H [slCall c] [] =
  Option.bind (Γ 22 [AV.ag 9 (lstG [nI c.Op, nI c.A, nI c.B, nI c.Tok, AV.S c.Name, nI c.Msg.Kind, nI c.Msg.Num, AV.S c.Msg.Text, slTermS c.Filter])] []) fun r0 =>
  bif !asB r0.fst then
    (some (AV.tup 2 (lstG [AV.S ByteArray.empty, AV.B false]), []))
  else
    (Option.bind (Γ 23 [AV.ag 9 (lstG [nI c.Op, nI c.A, nI c.B, nI c.Tok, AV.S c.Name, nI c.Msg.Kind, nI c.Msg.Num, AV.S c.Msg.Text, slTermS c.Filter])] []) fun r2 =>
    bif !asB (asA r2.fst 1) then
      (some (AV.tup 2 (lstG [AV.S ByteArray.empty, AV.B false]), []))
    else
      (Option.bind (Γ 24 [vslStrS (asA r2.fst 0), AV.S (bs [32])] []) fun r4 =>
      some (AV.tup 2 (lstG [AV.S (asS r4.fst), AV.B true]), []))) := by kernel_rfl
theorem e8 (Γ : Orc) (H : Hd) (c : VCall) : ent Tryz.prog cfg Γ 8 H [slCall c] [] =
  Option.bind (Γ 25 [AV.ag 9 (lstG [nI c.Op, nI c.A, nI c.B, nI c.Tok, AV.S c.Name, nI c.Msg.Kind, nI c.Msg.Num, AV.S c.Msg.Text, slTermS c.Filter])] []) fun r0 =>
  bif !asB r0.fst then
    (some (AV.tup 2 (lstG [AV.S ByteArray.empty, AV.B false]), []))
  else
    (and2
    (Option.bind (Γ 26 [] []) fun r3 =>
      bif bif decide (0 ≤ c.Op) then decide (c.Op < zN (asN r3.fst)) else false then
        (H [true, true, false] (hdS [(1, AV.pb 65 0), (4, AV.S (asS (asG r3.fst c.Op.toNat 0)))] [] [(65, 9, [nI c.Op, nI c.A, nI c.B, nI c.Tok, AV.S c.Name, nI c.Msg.Kind, nI c.Msg.Num, AV.S c.Msg.Text, slTermS c.Filter])]))
      else
        (none))
    (Option.bind (Γ 26 [] []) fun r3 =>
      bif bif decide (0 ≤ c.Op) then decide (c.Op < zN (asN r3.fst)) else false then
        (H [true, true, false] (hdS [(1, AV.pb 65 0), (4, AV.S (asS (asG r3.fst c.Op.toNat 0)))] [] [(65, 9, [nI c.Op, nI c.A, nI c.B, nI c.Tok, AV.S c.Name, nI c.Msg.Kind, nI c.Msg.Num, AV.S c.Msg.Text, slTermS c.Filter])]))
      else
        (none))) := by kernel_rfl
theorem e33 (Γ : Orc) (H : Hd) (xs : List VTerm) : ent Tryz.prog cfg Γ 31 H [slTermS xs] [] =
  Option.bind (Γ 60 [slTermS xs] []) fun r0 =>
  bif !asB r0.fst then
    (some (AV.tup 2 (lstG [AV.S ByteArray.empty, AV.B false]), []))
  else
    (H [true, true, true, false, true] (hdS [(0, slTermS xs), (4, AV.S ByteArray.empty), (5, nI 0)] [] [])) := by kernel_rfl
theorem e65 (Γ : Orc) (H : Hd) (xs : List VTerm) : ent Tryz.prog cfg Γ 53 H [slTermS xs] [] =
  Option.bind (Γ 45 [slTermS xs] []) fun r0 =>
  bif !asB r0.fst then
    (some (AV.tup 2 (lstG [AV.S ByteArray.empty, AV.B false]), []))
  else
    (H [true, true, true, false, true] (hdS [(4, AV.rf 348160), (11, slTermS xs), (12, nI (zN xs.length)), (13, nI 0)] [(348160, ⟨0, 1, fun i => lstG [AV.S ByteArray.empty]⟩)] [])) := by kernel_rfl
theorem e53 (Γ : Orc) (H : Hd) (xs : List VTerm) : ent Tryz.prog cfg Γ 60 H [slTermS xs] [] =
  bif decide (12 < zN xs.length) then
    (some (AV.B false, []))
  else
    (H [true, true, true, false, true] (hdS [(0, slTermS xs), (3, nI 0), (4, nI 0)] [] [])) := by kernel_rfl
theorem e57 (Γ : Orc) (H : Hd) (xs : List VTerm) : ent Tryz.prog cfg Γ 45 H [slTermS xs] [] =
  H [true, true, false, true] (hdS [(0, slTermS xs), (3, nI 0), (6, slTermS xs), (7, nI (zN xs.length)), (8, nI 0)] [] []) := by kernel_rfl
theorem e52 (Γ : Orc) (H : Hd) (s : ByteArray) : ent Tryz.prog cfg Γ 59 H [.S s] [] =
  Option.bind (Γ 84 [AV.S s, AV.B true] []) fun r0 =>
  some (AV.B (asB r0.fst), []) := by kernel_rfl
theorem e59 (Γ : Orc) (H : Hd) (s : ByteArray) : ent Tryz.prog cfg Γ 47 H [.S s] [] =
  Option.bind (Γ 78 [AV.S s, AV.S (bs [46])] []) fun r0 =>
  H [true, true, false, true] (hdS [(0, AV.S s), (3, AV.rf 290816), (8, AV.rf 290816), (9, nI (zN (asN r0.fst))), (10, nI 0)] [(290816, ⟨asN r0.fst, 1, fun i => lstG [AV.S (asS (asG r0.fst i 0))]⟩)] []) := by kernel_rfl
theorem e85 (Γ : Orc) (H : Hd) (s : ByteArray) : ent Tryz.prog cfg Γ 79 H [.S s] [] =
  H [true, false, true] (hdS [(0, AV.S s), (5, nI (zN s.size)), (6, nI 0)] [] []) := by kernel_rfl
theorem e96 (Γ : Orc) (H : Hd) (s : ByteArray) : ent Tryz.prog cfg Γ 91 H [.S s] [] =
  H [true, false, true] (hdS [(0, AV.S s), (5, nI (zN s.size)), (6, nI 0)] [] []) := by kernel_rfl
theorem e79 (Γ : Orc) (H : Hd) (s : ByteArray) : ent Tryz.prog cfg Γ 83 H [.S s] [] =
  bif decide (40 < zN s.size) then
    (some (AV.B false, []))
  else
    (H [true, true, false, true] (hdS [(0, AV.S s), (3, nI 0)] [] [])) := by kernel_rfl
theorem e93 (Γ : Orc) (H : Hd) (s : ByteArray) : ent Tryz.prog cfg Γ 95 H [.S s] [] =
  H [true, true, true, false, true] (hdS [(0, AV.S s), (3, AV.rf 380928), (4, nI 0), (5, nI 0)] [(380928, ⟨0, 1, fun i => lstG [AV.S ByteArray.empty]⟩)] []) := by kernel_rfl
theorem e94 (Γ : Orc) (H : Hd) (s : ByteArray) : ent Tryz.prog cfg Γ 96 H [.S s] [] =
  bif s.toList == ByteArray.empty.toList then
    (some (AV.B false, []))
  else
    (H [true, true, false, true] (hdS [(0, AV.S s), (3, nI 0)] [] [])) := by kernel_rfl
theorem e95 (Γ : Orc) (H : Hd) (s : ByteArray) : ent Tryz.prog cfg Γ 97 H [.S s] [] =
  Option.bind (Γ 29 [nI (zN s.size), nI 1, nI 10] []) fun r0 =>
  bif !asB r0.fst then
    (some (AV.B false, []))
  else
    (H [true, true, false, true] (hdS [(0, AV.S s), (3, nI 0)] [] [])) := by kernel_rfl
theorem e80 (Γ : Orc) (H : Hd) (s : ByteArray) (b : Bool) : ent Tryz.prog cfg Γ 84 H [.S s, .B b] [] =
  Option.bind (Γ 29 [nI (zN s.size), nI 1, nI 24] []) fun r0 =>
  bif !asB r0.fst then
    (some (AV.B false, []))
  else
    (Option.bind (Γ 95 [AV.S s] []) fun r2 =>
    H [true, true, true, false, true] (hdS [(1, AV.B b), (5, AV.rf 315392), (6, nI 0)] [(315392, ⟨asN r2.fst, 1, fun i => lstG [AV.S (asS (asG r2.fst i 0))]⟩)] [])) := by kernel_rfl
theorem e82 (Γ : Orc) (H : Hd) (t : VTerm) : ent Tryz.prog cfg Γ 76 H [slTerm t] [] =
  bif decide (t.Op = 1) then
    (bif decide (t.Op = 1) then
      (bif decide (t.Num = 0) then
        (some (AV.B (t.Text.toList == ByteArray.empty.toList), []))
      else
        (some (AV.B false, [])))
    else
      (bif decide (t.Op = 4) then
        (Option.bind (Γ 44 [nI t.Num, nI (-999999999), nI 999999999] []) fun r3 =>
        bif asB r3.fst then
          (some (AV.B (t.Text.toList == ByteArray.empty.toList), []))
        else
          (some (AV.B false, [])))
      else
        (bif decide (t.Op = 5) then
          (Option.bind (Γ 44 [nI t.Num, nI 1, nI 999999999] []) fun r4 =>
          bif asB r4.fst then
            (some (AV.B (t.Text.toList == ByteArray.empty.toList), []))
          else
            (some (AV.B false, [])))
        else
          (bif decide (t.Op = 6) then
            (bif decide (t.Op = 6) then
              (bif decide (t.Num = 0) then
                (Option.bind (Γ 91 [AV.S t.Text] []) fun r7 =>
                some (AV.B (asB r7.fst), []))
              else
                (some (AV.B false, [])))
            else
              (some (AV.B false, [])))
          else
            (bif decide (t.Op = 7) then
              (bif decide (t.Num = 0) then
                (Option.bind (Γ 91 [AV.S t.Text] []) fun r7 =>
                some (AV.B (asB r7.fst), []))
              else
                (some (AV.B false, [])))
            else
              (some (AV.B false, [])))))))
  else
    (bif decide (t.Op = 2) then
      (bif decide (t.Op = 2) then
        (bif decide (t.Num = 0) then
          (some (AV.B (t.Text.toList == ByteArray.empty.toList), []))
        else
          (some (AV.B false, [])))
      else
        (bif decide (t.Op = 4) then
          (Option.bind (Γ 44 [nI t.Num, nI (-999999999), nI 999999999] []) fun r4 =>
          bif asB r4.fst then
            (some (AV.B (t.Text.toList == ByteArray.empty.toList), []))
          else
            (some (AV.B false, [])))
        else
          (bif decide (t.Op = 5) then
            (Option.bind (Γ 44 [nI t.Num, nI 1, nI 999999999] []) fun r5 =>
            bif asB r5.fst then
              (some (AV.B (t.Text.toList == ByteArray.empty.toList), []))
            else
              (some (AV.B false, [])))
          else
            (bif decide (t.Op = 6) then
              (bif decide (t.Op = 6) then
                (bif decide (t.Num = 0) then
                  (Option.bind (Γ 91 [AV.S t.Text] []) fun r8 =>
                  some (AV.B (asB r8.fst), []))
                else
                  (some (AV.B false, [])))
              else
                (some (AV.B false, [])))
            else
              (bif decide (t.Op = 7) then
                (bif decide (t.Num = 0) then
                  (Option.bind (Γ 91 [AV.S t.Text] []) fun r8 =>
                  some (AV.B (asB r8.fst), []))
                else
                  (some (AV.B false, [])))
              else
                (some (AV.B false, [])))))))
    else
      (bif decide (t.Op = 3) then
        (bif decide (t.Op = 3) then
          (bif decide (t.Num = 0) then
            (some (AV.B (t.Text.toList == ByteArray.empty.toList), []))
          else
            (some (AV.B false, [])))
        else
          (bif decide (t.Op = 4) then
            (Option.bind (Γ 44 [nI t.Num, nI (-999999999), nI 999999999] []) fun r5 =>
            bif asB r5.fst then
              (some (AV.B (t.Text.toList == ByteArray.empty.toList), []))
            else
              (some (AV.B false, [])))
          else
            (bif decide (t.Op = 5) then
              (Option.bind (Γ 44 [nI t.Num, nI 1, nI 999999999] []) fun r6 =>
              bif asB r6.fst then
                (some (AV.B (t.Text.toList == ByteArray.empty.toList), []))
              else
                (some (AV.B false, [])))
            else
              (bif decide (t.Op = 6) then
                (bif decide (t.Op = 6) then
                  (bif decide (t.Num = 0) then
                    (Option.bind (Γ 91 [AV.S t.Text] []) fun r9 =>
                    some (AV.B (asB r9.fst), []))
                  else
                    (some (AV.B false, [])))
                else
                  (some (AV.B false, [])))
              else
                (bif decide (t.Op = 7) then
                  (bif decide (t.Num = 0) then
                    (Option.bind (Γ 91 [AV.S t.Text] []) fun r9 =>
                    some (AV.B (asB r9.fst), []))
                  else
                    (some (AV.B false, [])))
                else
                  (some (AV.B false, [])))))))
      else
        (bif decide (t.Op = 8) then
          (bif decide (t.Op = 8) then
            (bif decide (t.Num = 0) then
              (some (AV.B (t.Text.toList == ByteArray.empty.toList), []))
            else
              (some (AV.B false, [])))
          else
            (bif decide (t.Op = 4) then
              (Option.bind (Γ 44 [nI t.Num, nI (-999999999), nI 999999999] []) fun r6 =>
              bif asB r6.fst then
                (some (AV.B (t.Text.toList == ByteArray.empty.toList), []))
              else
                (some (AV.B false, [])))
            else
              (bif decide (t.Op = 5) then
                (Option.bind (Γ 44 [nI t.Num, nI 1, nI 999999999] []) fun r7 =>
                bif asB r7.fst then
                  (some (AV.B (t.Text.toList == ByteArray.empty.toList), []))
                else
                  (some (AV.B false, [])))
              else
                (bif decide (t.Op = 6) then
                  (bif decide (t.Op = 6) then
                    (bif decide (t.Num = 0) then
                      (Option.bind (Γ 91 [AV.S t.Text] []) fun r10 =>
                      some (AV.B (asB r10.fst), []))
                    else
                      (some (AV.B false, [])))
                  else
                    (some (AV.B false, [])))
                else
                  (bif decide (t.Op = 7) then
                    (bif decide (t.Num = 0) then
                      (Option.bind (Γ 91 [AV.S t.Text] []) fun r10 =>
                      some (AV.B (asB r10.fst), []))
                    else
                      (some (AV.B false, [])))
                  else
                    (some (AV.B false, [])))))))
        else
          (bif decide (t.Op = 9) then
            (bif decide (t.Op = 9) then
              (bif decide (t.Num = 0) then
                (some (AV.B (t.Text.toList == ByteArray.empty.toList), []))
              else
                (some (AV.B false, [])))
            else
              (bif decide (t.Op = 4) then
                (Option.bind (Γ 44 [nI t.Num, nI (-999999999), nI 999999999] []) fun r7 =>
                bif asB r7.fst then
                  (some (AV.B (t.Text.toList == ByteArray.empty.toList), []))
                else
                  (some (AV.B false, [])))
              else
                (bif decide (t.Op = 5) then
                  (Option.bind (Γ 44 [nI t.Num, nI 1, nI 999999999] []) fun r8 =>
                  bif asB r8.fst then
                    (some (AV.B (t.Text.toList == ByteArray.empty.toList), []))
                  else
                    (some (AV.B false, [])))
                else
                  (bif decide (t.Op = 6) then
                    (bif decide (t.Op = 6) then
                      (bif decide (t.Num = 0) then
                        (Option.bind (Γ 91 [AV.S t.Text] []) fun r11 =>
                        some (AV.B (asB r11.fst), []))
                      else
                        (some (AV.B false, [])))
                    else
                      (some (AV.B false, [])))
                  else
                    (bif decide (t.Op = 7) then
                      (bif decide (t.Num = 0) then
                        (Option.bind (Γ 91 [AV.S t.Text] []) fun r11 =>
                        some (AV.B (asB r11.fst), []))
                      else
                        (some (AV.B false, [])))
                    else
                      (some (AV.B false, [])))))))
          else
            (bif decide (t.Op = 10) then
              (bif decide (t.Num = 0) then
                (some (AV.B (t.Text.toList == ByteArray.empty.toList), []))
              else
                (some (AV.B false, [])))
            else
              (bif decide (t.Op = 4) then
                (Option.bind (Γ 44 [nI t.Num, nI (-999999999), nI 999999999] []) fun r7 =>
                bif asB r7.fst then
                  (some (AV.B (t.Text.toList == ByteArray.empty.toList), []))
                else
                  (some (AV.B false, [])))
              else
                (bif decide (t.Op = 5) then
                  (Option.bind (Γ 44 [nI t.Num, nI 1, nI 999999999] []) fun r8 =>
                  bif asB r8.fst then
                    (some (AV.B (t.Text.toList == ByteArray.empty.toList), []))
                  else
                    (some (AV.B false, [])))
                else
                  (bif decide (t.Op = 6) then
                    (bif decide (t.Op = 6) then
                      (bif decide (t.Num = 0) then
                        (Option.bind (Γ 91 [AV.S t.Text] []) fun r11 =>
                        some (AV.B (asB r11.fst), []))
                      else
                        (some (AV.B false, [])))
                    else
                      (some (AV.B false, [])))
                  else
                    (bif decide (t.Op = 7) then
                      (bif decide (t.Num = 0) then
                        (Option.bind (Γ 91 [AV.S t.Text] []) fun r11 =>
                        some (AV.B (asB r11.fst), []))
                      else
                        (some (AV.B false, [])))
                    else
                      (some (AV.B false, []))))))))))) := by kernel_rfl
theorem e83 (Γ : Orc) (H : Hd) (t : VTerm) : ent Tryz.prog cfg Γ 77 H [slTerm t] [] =
  bif decide (t.Op = 8) then
    (some (nI 1, []))
  else
    (bif decide (t.Op = 9) then
      (bif decide (t.Op = 9) then
        (some (nI 2, []))
      else
        (some (nI 0, [])))
    else
      (bif decide (t.Op = 10) then
        (some (nI 2, []))
      else
        (some (nI 0, [])))) := by kernel_rfl
theorem e86 (Γ : Orc) (H : Hd) (t : VTerm) : ent Tryz.prog cfg Γ 80 H [slTerm t] [] =
  bif decide (t.Op = 1) then
    (some (AV.S (bs [97, 108, 108]), []))
  else
    (bif decide (t.Op = 2) then
      (some (AV.S (bs [110, 117, 109]), []))
    else
      (bif decide (t.Op = 3) then
        (some (AV.S (bs [116, 101, 120, 116]), []))
      else
        (bif decide (t.Op = 4) then
          (Option.bind (Γ 51 [nI t.Num] []) fun r4 =>
          bif decide (1 + (asS r4.fst).size ≤ 4294967296) then
            (some (AV.S ((bs [60]) ++ asS r4.fst), []))
          else
            (none))
        else
          (bif decide (t.Op = 5) then
            (Option.bind (Γ 51 [nI t.Num] []) fun r5 =>
            bif decide (1 + (asS r5.fst).size ≤ 4294967296) then
              (some (AV.S ((bs [37]) ++ asS r5.fst), []))
            else
              (none))
          else
            (bif decide (t.Op = 6) then
              (bif decide (1 + t.Text.size ≤ 4294967296) then
                (some (AV.S ((bs [94]) ++ t.Text), []))
              else
                (none))
            else
              (bif decide (t.Op = 7) then
                (bif decide (1 + t.Text.size ≤ 4294967296) then
                  (some (AV.S ((bs [126]) ++ t.Text), []))
                else
                  (none))
              else
                (bif decide (t.Op = 8) then
                  (some (AV.S (bs [33]), []))
                else
                  (bif decide (t.Op = 9) then
                    (some (AV.S (bs [38]), []))
                  else
                    (some (AV.S (bs [124]), [])))))))))) := by kernel_rfl
theorem e81 (Γ : Orc) (H : Hd) (t : VTerm) : ent Tryz.prog cfg Γ 85 H [slTerm t] [] =
  bif decide (t.Num = 0) then
    (bif decide (t.Op = 1) then
      (bif decide (t.Op = 1) then
        (bif t.Text.toList == ByteArray.empty.toList then
          (some (nI 0, []))
        else
          (some (nI (-1), [])))
      else
        (bif decide (t.Op = 4) then
          (bif t.Text.toList == ByteArray.empty.toList then
            (Option.bind (Γ 29 [nI t.Num, nI (-999999999), nI 999999999] []) fun r5 =>
            bif asB r5.fst then
              (some (nI 0, []))
            else
              (some (nI (-1), [])))
          else
            (some (nI (-1), [])))
        else
          (bif decide (t.Op = 5) then
            (bif t.Text.toList == ByteArray.empty.toList then
              (Option.bind (Γ 29 [nI t.Num, nI 1, nI 999999999] []) fun r6 =>
              bif asB r6.fst then
                (some (nI 0, []))
              else
                (some (nI (-1), [])))
            else
              (some (nI (-1), [])))
          else
            (bif decide (t.Op = 6) then
              (bif decide (t.Op = 6) then
                (bif decide (t.Num = 0) then
                  (Option.bind (Γ 97 [AV.S t.Text] []) fun r8 =>
                  bif asB r8.fst then
                    (some (nI 0, []))
                  else
                    (some (nI (-1), [])))
                else
                  (some (nI (-1), [])))
              else
                (bif decide (t.Op = 8) then
                  (bif t.Text.toList == ByteArray.empty.toList then
                    (some (nI 1, []))
                  else
                    (some (nI (-1), [])))
                else
                  (bif decide (t.Op = 9) then
                    (bif decide (t.Op = 9) then
                      (bif t.Text.toList == ByteArray.empty.toList then
                        (some (nI 2, []))
                      else
                        (some (nI (-1), [])))
                    else
                      (some (nI (-1), [])))
                  else
                    (bif decide (t.Op = 10) then
                      (bif t.Text.toList == ByteArray.empty.toList then
                        (some (nI 2, []))
                      else
                        (some (nI (-1), [])))
                    else
                      (some (nI (-1), []))))))
            else
              (bif decide (t.Op = 7) then
                (bif decide (t.Num = 0) then
                  (Option.bind (Γ 97 [AV.S t.Text] []) fun r8 =>
                  bif asB r8.fst then
                    (some (nI 0, []))
                  else
                    (some (nI (-1), [])))
                else
                  (some (nI (-1), [])))
              else
                (bif decide (t.Op = 8) then
                  (bif t.Text.toList == ByteArray.empty.toList then
                    (some (nI 1, []))
                  else
                    (some (nI (-1), [])))
                else
                  (bif decide (t.Op = 9) then
                    (bif decide (t.Op = 9) then
                      (bif t.Text.toList == ByteArray.empty.toList then
                        (some (nI 2, []))
                      else
                        (some (nI (-1), [])))
                    else
                      (some (nI (-1), [])))
                  else
                    (bif decide (t.Op = 10) then
                      (bif t.Text.toList == ByteArray.empty.toList then
                        (some (nI 2, []))
                      else
                        (some (nI (-1), [])))
                    else
                      (some (nI (-1), []))))))))))
    else
      (bif decide (t.Op = 2) then
        (bif decide (t.Op = 2) then
          (bif t.Text.toList == ByteArray.empty.toList then
            (some (nI 0, []))
          else
            (some (nI (-1), [])))
        else
          (bif decide (t.Op = 4) then
            (bif t.Text.toList == ByteArray.empty.toList then
              (Option.bind (Γ 29 [nI t.Num, nI (-999999999), nI 999999999] []) fun r6 =>
              bif asB r6.fst then
                (some (nI 0, []))
              else
                (some (nI (-1), [])))
            else
              (some (nI (-1), [])))
          else
            (bif decide (t.Op = 5) then
              (bif t.Text.toList == ByteArray.empty.toList then
                (Option.bind (Γ 29 [nI t.Num, nI 1, nI 999999999] []) fun r7 =>
                bif asB r7.fst then
                  (some (nI 0, []))
                else
                  (some (nI (-1), [])))
              else
                (some (nI (-1), [])))
            else
              (bif decide (t.Op = 6) then
                (bif decide (t.Op = 6) then
                  (bif decide (t.Num = 0) then
                    (Option.bind (Γ 97 [AV.S t.Text] []) fun r9 =>
                    bif asB r9.fst then
                      (some (nI 0, []))
                    else
                      (some (nI (-1), [])))
                  else
                    (some (nI (-1), [])))
                else
                  (bif decide (t.Op = 8) then
                    (bif t.Text.toList == ByteArray.empty.toList then
                      (some (nI 1, []))
                    else
                      (some (nI (-1), [])))
                  else
                    (bif decide (t.Op = 9) then
                      (bif decide (t.Op = 9) then
                        (bif t.Text.toList == ByteArray.empty.toList then
                          (some (nI 2, []))
                        else
                          (some (nI (-1), [])))
                      else
                        (some (nI (-1), [])))
                    else
                      (bif decide (t.Op = 10) then
                        (bif t.Text.toList == ByteArray.empty.toList then
                          (some (nI 2, []))
                        else
                          (some (nI (-1), [])))
                      else
                        (some (nI (-1), []))))))
              else
                (bif decide (t.Op = 7) then
                  (bif decide (t.Num = 0) then
                    (Option.bind (Γ 97 [AV.S t.Text] []) fun r9 =>
                    bif asB r9.fst then
                      (some (nI 0, []))
                    else
                      (some (nI (-1), [])))
                  else
                    (some (nI (-1), [])))
                else
                  (bif decide (t.Op = 8) then
                    (bif t.Text.toList == ByteArray.empty.toList then
                      (some (nI 1, []))
                    else
                      (some (nI (-1), [])))
                  else
                    (bif decide (t.Op = 9) then
                      (bif decide (t.Op = 9) then
                        (bif t.Text.toList == ByteArray.empty.toList then
                          (some (nI 2, []))
                        else
                          (some (nI (-1), [])))
                      else
                        (some (nI (-1), [])))
                    else
                      (bif decide (t.Op = 10) then
                        (bif t.Text.toList == ByteArray.empty.toList then
                          (some (nI 2, []))
                        else
                          (some (nI (-1), [])))
                      else
                        (some (nI (-1), []))))))))))
      else
        (bif decide (t.Op = 3) then
          (bif t.Text.toList == ByteArray.empty.toList then
            (some (nI 0, []))
          else
            (some (nI (-1), [])))
        else
          (bif decide (t.Op = 4) then
            (bif t.Text.toList == ByteArray.empty.toList then
              (Option.bind (Γ 29 [nI t.Num, nI (-999999999), nI 999999999] []) fun r6 =>
              bif asB r6.fst then
                (some (nI 0, []))
              else
                (some (nI (-1), [])))
            else
              (some (nI (-1), [])))
          else
            (bif decide (t.Op = 5) then
              (bif t.Text.toList == ByteArray.empty.toList then
                (Option.bind (Γ 29 [nI t.Num, nI 1, nI 999999999] []) fun r7 =>
                bif asB r7.fst then
                  (some (nI 0, []))
                else
                  (some (nI (-1), [])))
              else
                (some (nI (-1), [])))
            else
              (bif decide (t.Op = 6) then
                (bif decide (t.Op = 6) then
                  (bif decide (t.Num = 0) then
                    (Option.bind (Γ 97 [AV.S t.Text] []) fun r9 =>
                    bif asB r9.fst then
                      (some (nI 0, []))
                    else
                      (some (nI (-1), [])))
                  else
                    (some (nI (-1), [])))
                else
                  (bif decide (t.Op = 8) then
                    (bif t.Text.toList == ByteArray.empty.toList then
                      (some (nI 1, []))
                    else
                      (some (nI (-1), [])))
                  else
                    (bif decide (t.Op = 9) then
                      (bif decide (t.Op = 9) then
                        (bif t.Text.toList == ByteArray.empty.toList then
                          (some (nI 2, []))
                        else
                          (some (nI (-1), [])))
                      else
                        (some (nI (-1), [])))
                    else
                      (bif decide (t.Op = 10) then
                        (bif t.Text.toList == ByteArray.empty.toList then
                          (some (nI 2, []))
                        else
                          (some (nI (-1), [])))
                      else
                        (some (nI (-1), []))))))
              else
                (bif decide (t.Op = 7) then
                  (bif decide (t.Num = 0) then
                    (Option.bind (Γ 97 [AV.S t.Text] []) fun r9 =>
                    bif asB r9.fst then
                      (some (nI 0, []))
                    else
                      (some (nI (-1), [])))
                  else
                    (some (nI (-1), [])))
                else
                  (bif decide (t.Op = 8) then
                    (bif t.Text.toList == ByteArray.empty.toList then
                      (some (nI 1, []))
                    else
                      (some (nI (-1), [])))
                  else
                    (bif decide (t.Op = 9) then
                      (bif decide (t.Op = 9) then
                        (bif t.Text.toList == ByteArray.empty.toList then
                          (some (nI 2, []))
                        else
                          (some (nI (-1), [])))
                      else
                        (some (nI (-1), [])))
                    else
                      (bif decide (t.Op = 10) then
                        (bif t.Text.toList == ByteArray.empty.toList then
                          (some (nI 2, []))
                        else
                          (some (nI (-1), [])))
                      else
                        (some (nI (-1), []))))))))))))
  else
    (bif decide (t.Op = 1) then
      (bif decide (t.Op = 1) then
        (some (nI (-1), []))
      else
        (bif decide (t.Op = 4) then
          (bif t.Text.toList == ByteArray.empty.toList then
            (Option.bind (Γ 29 [nI t.Num, nI (-999999999), nI 999999999] []) fun r5 =>
            bif asB r5.fst then
              (some (nI 0, []))
            else
              (some (nI (-1), [])))
          else
            (some (nI (-1), [])))
        else
          (bif decide (t.Op = 5) then
            (bif t.Text.toList == ByteArray.empty.toList then
              (Option.bind (Γ 29 [nI t.Num, nI 1, nI 999999999] []) fun r6 =>
              bif asB r6.fst then
                (some (nI 0, []))
              else
                (some (nI (-1), [])))
            else
              (some (nI (-1), [])))
          else
            (bif decide (t.Op = 6) then
              (bif decide (t.Op = 6) then
                (bif decide (t.Num = 0) then
                  (Option.bind (Γ 97 [AV.S t.Text] []) fun r8 =>
                  bif asB r8.fst then
                    (some (nI 0, []))
                  else
                    (some (nI (-1), [])))
                else
                  (some (nI (-1), [])))
              else
                (bif decide (t.Op = 8) then
                  (some (nI (-1), []))
                else
                  (bif decide (t.Op = 9) then
                    (bif decide (t.Op = 9) then
                      (some (nI (-1), []))
                    else
                      (some (nI (-1), [])))
                  else
                    (bif decide (t.Op = 10) then
                      (some (nI (-1), []))
                    else
                      (some (nI (-1), []))))))
            else
              (bif decide (t.Op = 7) then
                (bif decide (t.Num = 0) then
                  (Option.bind (Γ 97 [AV.S t.Text] []) fun r8 =>
                  bif asB r8.fst then
                    (some (nI 0, []))
                  else
                    (some (nI (-1), [])))
                else
                  (some (nI (-1), [])))
              else
                (bif decide (t.Op = 8) then
                  (some (nI (-1), []))
                else
                  (bif decide (t.Op = 9) then
                    (bif decide (t.Op = 9) then
                      (some (nI (-1), []))
                    else
                      (some (nI (-1), [])))
                  else
                    (bif decide (t.Op = 10) then
                      (some (nI (-1), []))
                    else
                      (some (nI (-1), []))))))))))
    else
      (bif decide (t.Op = 2) then
        (bif decide (t.Op = 2) then
          (some (nI (-1), []))
        else
          (bif decide (t.Op = 4) then
            (bif t.Text.toList == ByteArray.empty.toList then
              (Option.bind (Γ 29 [nI t.Num, nI (-999999999), nI 999999999] []) fun r6 =>
              bif asB r6.fst then
                (some (nI 0, []))
              else
                (some (nI (-1), [])))
            else
              (some (nI (-1), [])))
          else
            (bif decide (t.Op = 5) then
              (bif t.Text.toList == ByteArray.empty.toList then
                (Option.bind (Γ 29 [nI t.Num, nI 1, nI 999999999] []) fun r7 =>
                bif asB r7.fst then
                  (some (nI 0, []))
                else
                  (some (nI (-1), [])))
              else
                (some (nI (-1), [])))
            else
              (bif decide (t.Op = 6) then
                (bif decide (t.Op = 6) then
                  (bif decide (t.Num = 0) then
                    (Option.bind (Γ 97 [AV.S t.Text] []) fun r9 =>
                    bif asB r9.fst then
                      (some (nI 0, []))
                    else
                      (some (nI (-1), [])))
                  else
                    (some (nI (-1), [])))
                else
                  (bif decide (t.Op = 8) then
                    (some (nI (-1), []))
                  else
                    (bif decide (t.Op = 9) then
                      (bif decide (t.Op = 9) then
                        (some (nI (-1), []))
                      else
                        (some (nI (-1), [])))
                    else
                      (bif decide (t.Op = 10) then
                        (some (nI (-1), []))
                      else
                        (some (nI (-1), []))))))
              else
                (bif decide (t.Op = 7) then
                  (bif decide (t.Num = 0) then
                    (Option.bind (Γ 97 [AV.S t.Text] []) fun r9 =>
                    bif asB r9.fst then
                      (some (nI 0, []))
                    else
                      (some (nI (-1), [])))
                  else
                    (some (nI (-1), [])))
                else
                  (bif decide (t.Op = 8) then
                    (some (nI (-1), []))
                  else
                    (bif decide (t.Op = 9) then
                      (bif decide (t.Op = 9) then
                        (some (nI (-1), []))
                      else
                        (some (nI (-1), [])))
                    else
                      (bif decide (t.Op = 10) then
                        (some (nI (-1), []))
                      else
                        (some (nI (-1), []))))))))))
      else
        (bif decide (t.Op = 3) then
          (some (nI (-1), []))
        else
          (bif decide (t.Op = 4) then
            (bif t.Text.toList == ByteArray.empty.toList then
              (Option.bind (Γ 29 [nI t.Num, nI (-999999999), nI 999999999] []) fun r6 =>
              bif asB r6.fst then
                (some (nI 0, []))
              else
                (some (nI (-1), [])))
            else
              (some (nI (-1), [])))
          else
            (bif decide (t.Op = 5) then
              (bif t.Text.toList == ByteArray.empty.toList then
                (Option.bind (Γ 29 [nI t.Num, nI 1, nI 999999999] []) fun r7 =>
                bif asB r7.fst then
                  (some (nI 0, []))
                else
                  (some (nI (-1), [])))
              else
                (some (nI (-1), [])))
            else
              (bif decide (t.Op = 6) then
                (bif decide (t.Op = 6) then
                  (bif decide (t.Num = 0) then
                    (Option.bind (Γ 97 [AV.S t.Text] []) fun r9 =>
                    bif asB r9.fst then
                      (some (nI 0, []))
                    else
                      (some (nI (-1), [])))
                  else
                    (some (nI (-1), [])))
                else
                  (bif decide (t.Op = 8) then
                    (some (nI (-1), []))
                  else
                    (bif decide (t.Op = 9) then
                      (bif decide (t.Op = 9) then
                        (some (nI (-1), []))
                      else
                        (some (nI (-1), [])))
                    else
                      (bif decide (t.Op = 10) then
                        (some (nI (-1), []))
                      else
                        (some (nI (-1), []))))))
              else
                (bif decide (t.Op = 7) then
                  (bif decide (t.Num = 0) then
                    (Option.bind (Γ 97 [AV.S t.Text] []) fun r9 =>
                    bif asB r9.fst then
                      (some (nI 0, []))
                    else
                      (some (nI (-1), [])))
                  else
                    (some (nI (-1), [])))
                else
                  (bif decide (t.Op = 8) then
                    (some (nI (-1), []))
                  else
                    (bif decide (t.Op = 9) then
                      (bif decide (t.Op = 9) then
                        (some (nI (-1), []))
                      else
                        (some (nI (-1), [])))
                    else
                      (bif decide (t.Op = 10) then
                        (some (nI (-1), []))
                      else
                        (some (nI (-1), [])))))))))))) := by kernel_rfl
theorem e13 (Γ : Orc) (H : Hd) (cs : List VCall) : ent Tryz.prog cfg Γ 15 H [slCallS cs] [] =
  bif decide (30 < zN cs.length) then
    (some (AV.tup 2 (lstG [AV.S ByteArray.empty, AV.B false]), []))
  else
    (H [true, true, true, false, true] (hdS [(0, slCallS cs), (4, AV.S ByteArray.empty), (5, nI 0)] [] [])) := by kernel_rfl
theorem e15 (Γ : Orc) (H : Hd) (cs : List VCall) : ent Tryz.prog cfg Γ 14 H [slCallS cs] [] =
  H [true, true, false, true] (hdS [(0, slCallS cs), (4, AV.S ByteArray.empty), (9, slCallS cs), (10, nI (zN cs.length)), (11, nI 0)] [] []) := by kernel_rfl
theorem e62 (Γ : Orc) (H : Hd) (n : Int) (b : Bool) (ws : List ByteArray) : ent Tryz.prog cfg Γ 50 H [nI n, .pb 0 0, .pb 1 0] [.nbx 1 (lstG [.B b]), .nbx 1 (lstG [owStrS ws])] =
  bif b then
    (Option.bind (Γ 44 [nI n, nI 0, nI 999999999] []) fun r1 =>
    and2
    (Option.bind (Γ 51 [nI n] []) fun r3 =>
      bif decide (ws.length + 1 ≤ 4294967296) && true && true && true && true then
        (bif bif okT then true else false then
          (some (AV.tup 0 (lstG []), [AV.nbx 1 (lstG [AV.B (asB r1.fst)]), AV.nbx 1 (lstG [AV.own (ws.length + 1) 1 fun i => lstG [AV.S (bif decide (i < ws.length) then ws.getD i ByteArray.empty else bif decide (i - ws.length = 0) then asS r3.fst else ByteArray.empty)]])]))
        else
          (none))
      else
        (none))
    (Option.bind (Γ 51 [nI n] []) fun r3 =>
      bif decide (ws.length + 1 ≤ 4294967296) && true && true && true && true then
        (bif bif okT then true else false then
          (some (AV.tup 0 (lstG []), [AV.nbx 1 (lstG [AV.B (asB r1.fst)]), AV.nbx 1 (lstG [AV.own (ws.length + 1) 1 fun i => lstG [AV.S (bif decide (i < ws.length) then ws.getD i ByteArray.empty else bif decide (i - ws.length = 0) then asS r3.fst else ByteArray.empty)]])]))
        else
          (none))
      else
        (none)))
  else
    (and2
    (Option.bind (Γ 51 [nI n] []) fun r2 =>
      bif decide (ws.length + 1 ≤ 4294967296) && true && true && true && true then
        (bif bif okT then true else false then
          (some (AV.tup 0 (lstG []), [AV.nbx 1 (lstG [AV.B false]), AV.nbx 1 (lstG [AV.own (ws.length + 1) 1 fun i => lstG [AV.S (bif decide (i < ws.length) then ws.getD i ByteArray.empty else bif decide (i - ws.length = 0) then asS r2.fst else ByteArray.empty)]])]))
        else
          (none))
      else
        (none))
    (Option.bind (Γ 51 [nI n] []) fun r2 =>
      bif decide (ws.length + 1 ≤ 4294967296) && true && true && true && true then
        (bif bif okT then true else false then
          (some (AV.tup 0 (lstG []), [AV.nbx 1 (lstG [AV.B false]), AV.nbx 1 (lstG [AV.own (ws.length + 1) 1 fun i => lstG [AV.S (bif decide (i < ws.length) then ws.getD i ByteArray.empty else bif decide (i - ws.length = 0) then asS r2.fst else ByteArray.empty)]])]))
        else
          (none))
      else
        (none))) := by kernel_rfl
theorem h93 (Γ : Orc) (H : Hd) (s : ByteArray) (os : List ByteArray) (a i : Int) : hed Tryz.prog cfg Γ 95 H [] [true, true, true, false, true] (hdS [(0, .S s), (3, .rf 380928), (4, nI a), (5, nI i)] [(380928, ⟨os.length, 1, gsStrS os⟩)] []) =
  bif decide (i ≤ zN s.size) then
    (bif decide (i = zN s.size) then
      (bif decide (0 ≤ a) && decide (a ≤ i) && decide (i ≤ zN s.size) then
        (bif decide (os.length + 1 ≤ 4294967296) && true && true && true && true then
          (H [true, true, true, false, true] (hdS [(0, AV.S s), (3, AV.rf 380928), (4, nI (IntKind.i64.wrap (i + 1))), (5, nI (IntKind.i64.wrap (i + 1)))] [(380928, ⟨os.length + 1, 1, fun i_1 => lstG [AV.S (bif decide (i_1 < os.length) then os.getD i_1 ByteArray.empty else bif decide (i_1 - os.length = 0) then s.extract a.toNat i.toNat else ByteArray.empty)]⟩)] []))
        else
          (none))
      else
        (none))
    else
      (bif bif decide (0 ≤ i) then decide (i < zN s.size) else false then
        (bif decide (byN s i.toNat = 46) then
          (bif decide (0 ≤ a) && decide (a ≤ i) && decide (i ≤ zN s.size) then
            (bif decide (os.length + 1 ≤ 4294967296) && true && true && true && true then
              (H [true, true, true, false, true] (hdS [(0, AV.S s), (3, AV.rf 380928), (4, nI (IntKind.i64.wrap (i + 1))), (5, nI (IntKind.i64.wrap (i + 1)))] [(380928, ⟨os.length + 1, 1, fun i_1 => lstG [AV.S (bif decide (i_1 < os.length) then os.getD i_1 ByteArray.empty else bif decide (i_1 - os.length = 0) then s.extract a.toNat i.toNat else ByteArray.empty)]⟩)] []))
            else
              (none))
          else
            (none))
        else
          (H [true, true, true, false, true] (hdS [(0, AV.S s), (3, AV.rf 380928), (4, nI a), (5, nI (IntKind.i64.wrap (i + 1)))] [(380928, ⟨os.length, 1, fun i => lstG [AV.S (os.getD i ByteArray.empty)]⟩)] [])))
      else
        (none)))
  else
    (bif okT then
      (some (AV.own os.length 1 fun i => lstG [AV.S (os.getD i ByteArray.empty)], []))
    else
      (none)) := by kernel_rfl
theorem h80 (Γ : Orc) (H : Hd) (b : Bool) (ps : List ByteArray) (i : Int) : hed Tryz.prog cfg Γ 84 H [] [true, true, true, false, true] (hdS [(1, .B b), (5, .rf 315392), (6, nI i)] [(315392, ⟨ps.length, 1, gsStrS ps⟩)] []) =
  bif decide (i < zN ps.length) then
    (bif b then
      (bif bif decide (0 ≤ i) then decide (i < zN ps.length) else false then
        (bif (ps.getD i.toNat ByteArray.empty).toList == (bs [42]).toList then
          (H [true, true, true, false, true] (hdS [(1, AV.B b), (5, AV.rf 315392), (6, nI (IntKind.i64.wrap (i + 1)))] [(315392, ⟨ps.length, 1, fun i => lstG [AV.S (ps.getD i ByteArray.empty)]⟩)] []))
        else
          (bif bif decide (0 ≤ i) then decide (i < zN ps.length) else false then
            (bif (ps.getD i.toNat ByteArray.empty).toList == (bs [62]).toList then
              (bif !decide (i = IntKind.i64.wrap (zN ps.length - 1)) then
                (bif bif decide (0 ≤ i) then decide (i < zN ps.length) else false then
                  (Option.bind (Γ 96 [AV.S (ps.getD i.toNat ByteArray.empty)] []) fun r8 =>
                  bif !asB r8.fst then
                    (some (AV.B false, []))
                  else
                    (H [true, true, true, false, true] (hdS [(1, AV.B b), (5, AV.rf 315392), (6, nI (IntKind.i64.wrap (i + 1)))] [(315392, ⟨ps.length, 1, fun i => lstG [AV.S (ps.getD i ByteArray.empty)]⟩)] [])))
                else
                  (none))
              else
                (H [true, true, true, false, true] (hdS [(1, AV.B b), (5, AV.rf 315392), (6, nI (IntKind.i64.wrap (i + 1)))] [(315392, ⟨ps.length, 1, fun i => lstG [AV.S (ps.getD i ByteArray.empty)]⟩)] [])))
            else
              (bif bif decide (0 ≤ i) then decide (i < zN ps.length) else false then
                (Option.bind (Γ 96 [AV.S (ps.getD i.toNat ByteArray.empty)] []) fun r7 =>
                bif !asB r7.fst then
                  (some (AV.B false, []))
                else
                  (H [true, true, true, false, true] (hdS [(1, AV.B b), (5, AV.rf 315392), (6, nI (IntKind.i64.wrap (i + 1)))] [(315392, ⟨ps.length, 1, fun i => lstG [AV.S (ps.getD i ByteArray.empty)]⟩)] [])))
              else
                (none)))
          else
            (none)))
      else
        (none))
    else
      (bif bif decide (0 ≤ i) then decide (i < zN ps.length) else false then
        (Option.bind (Γ 96 [AV.S (ps.getD i.toNat ByteArray.empty)] []) fun r3 =>
        bif !asB r3.fst then
          (some (AV.B false, []))
        else
          (H [true, true, true, false, true] (hdS [(1, AV.B b), (5, AV.rf 315392), (6, nI (IntKind.i64.wrap (i + 1)))] [(315392, ⟨ps.length, 1, fun i => lstG [AV.S (ps.getD i ByteArray.empty)]⟩)] [])))
      else
        (none)))
  else
    (some (AV.B true, [])) := by kernel_rfl
theorem h59 (Γ : Orc) (H : Hd) (s : ByteArray) (ps : List ByteArray) (m i : Int) : hed Tryz.prog cfg Γ 47 H [] [true, true, false, true] (hdS [(0, .S s), (3, .rf 290816), (8, .rf 290816), (9, nI m), (10, nI i)] [(290816, ⟨ps.length, 1, gsStrS ps⟩)] []) =
  bif decide (i < m) then
    (bif bif decide (0 ≤ i) then decide (i < zN ps.length) else false then
      (bif !(ps.getD i.toNat ByteArray.empty).toList == (bs [42]).toList then
        (bif (ps.getD i.toNat ByteArray.empty).toList == (bs [62]).toList then
          (bif !decide (i = IntKind.i64.wrap (zN ps.length - 1)) then
            (Option.bind (Γ 79 [AV.S (ps.getD i.toNat ByteArray.empty)] []) fun r5 =>
            bif !asB r5.fst then
              (some (AV.B false, []))
            else
              (H [true, true, false, true] (hdS [(0, AV.S s), (3, AV.rf 290816), (8, AV.rf 290816), (9, nI m), (10, nI (IntKind.i64.wrap (i + 1)))] [(290816, ⟨ps.length, 1, fun i => lstG [AV.S (ps.getD i ByteArray.empty)]⟩)] [])))
          else
            (H [true, true, false, true] (hdS [(0, AV.S s), (3, AV.rf 290816), (8, AV.rf 290816), (9, nI m), (10, nI (IntKind.i64.wrap (i + 1)))] [(290816, ⟨ps.length, 1, fun i => lstG [AV.S (ps.getD i ByteArray.empty)]⟩)] [])))
        else
          (Option.bind (Γ 79 [AV.S (ps.getD i.toNat ByteArray.empty)] []) fun r4 =>
          bif !asB r4.fst then
            (some (AV.B false, []))
          else
            (H [true, true, false, true] (hdS [(0, AV.S s), (3, AV.rf 290816), (8, AV.rf 290816), (9, nI m), (10, nI (IntKind.i64.wrap (i + 1)))] [(290816, ⟨ps.length, 1, fun i => lstG [AV.S (ps.getD i ByteArray.empty)]⟩)] []))))
      else
        (H [true, true, false, true] (hdS [(0, AV.S s), (3, AV.rf 290816), (8, AV.rf 290816), (9, nI m), (10, nI (IntKind.i64.wrap (i + 1)))] [(290816, ⟨ps.length, 1, fun i => lstG [AV.S (ps.getD i ByteArray.empty)]⟩)] [])))
    else
      (none))
  else
    (Option.bind (Γ 44 [nI (zN s.size), nI 1, nI 24] []) fun r1 =>
    some (AV.B (asB r1.fst), [])) := by kernel_rfl
theorem h65 (Γ : Orc) (H : Hd) (ts : List VTerm) (ws : List ByteArray) (m i : Int) : hed Tryz.prog cfg Γ 53 H [] [true, true, true, false, true] (hdS [(4, .rf 348160), (11, slTermS ts), (12, nI m), (13, nI i)] [(348160, ⟨ws.length, 1, gsStrS ws⟩)] []) =
  bif decide (i < m) then
    (bif bif decide (0 ≤ i) then decide (i < zN ts.length) else false then
      (Option.bind (Γ 80 [AV.ag 3 (lstG [nI (ts.getD i.toNat zTerm).Op, nI (ts.getD i.toNat zTerm).Num, AV.S (ts.getD i.toNat zTerm).Text])] []) fun r2 =>
      bif decide (ws.length + 1 ≤ 4294967296) && true && true && true && true then
        (H [true, true, true, false, true] (hdS [(4, AV.rf 348160), (11, slTermS ts), (12, nI m), (13, nI (IntKind.i64.wrap (i + 1)))] [(348160, ⟨ws.length + 1, 1, fun i => lstG [AV.S (bif decide (i < ws.length) then ws.getD i ByteArray.empty else bif decide (i - ws.length = 0) then asS r2.fst else ByteArray.empty)]⟩)] []))
      else
        (none))
    else
      (none))
  else
    (Option.bind (Γ 24 [AV.sl ws.length 1 fun i => lstG [AV.S (ws.getD i ByteArray.empty)], AV.S (bs [32])] []) fun r1 =>
    some (AV.tup 2 (lstG [AV.S (asS r1.fst), AV.B true]), [])) := by kernel_rfl
theorem h33 (Γ : Orc) (H : Hd) (ts : List VTerm) (s : ByteArray) (i : Int) : hed Tryz.prog cfg Γ 31 H [] [true, true, true, false, true] (hdS [(0, slTermS ts), (4, .S s), (5, nI i)] [] []) =
  bif decide (i < zN ts.length) then
    (bif decide (0 < i) then
      (bif decide (s.size + 1 ≤ 4294967296) then
        (bif bif decide (0 ≤ i) then decide (i < zN ts.length) else false then
          (bif bif decide (0 ≤ i) then decide (i < zN ts.length) else false then
            (and2
            (Option.bind (Γ 61 [nI (ts.getD i.toNat zTerm).Op] []) fun r6 =>
              bif decide ((s ++ (bs [32])).size + (asS r6.fst).size ≤ 4294967296) then
                (bif decide ((s ++ (bs [32]) ++ asS r6.fst).size + (ts.getD i.toNat zTerm).Text.size ≤ 4294967296) then
                  (bif bif decide (0 ≤ i) then decide (i < zN ts.length) else false then
                    (bif decide ((ts.getD i.toNat zTerm).Op = 4) then
                      (bif bif decide (0 ≤ i) then decide (i < zN ts.length) else false then
                        (Option.bind (Γ 30 [nI (ts.getD i.toNat zTerm).Num] []) fun r12 =>
                        bif decide ((s ++ (bs [32]) ++ asS r6.fst ++ (ts.getD i.toNat zTerm).Text).size + (asS r12.fst).size ≤ 4294967296) then
                          (H [true, true, true, false, true] (hdS [(0, slTermS ts), (4, AV.S (s ++ (bs [32]) ++ asS r6.fst ++ (ts.getD i.toNat zTerm).Text ++ asS r12.fst)), (5, nI (IntKind.i64.wrap (i + 1)))] [] []))
                        else
                          (none))
                      else
                        (none))
                    else
                      (bif bif decide (0 ≤ i) then decide (i < zN ts.length) else false then
                        (bif decide ((ts.getD i.toNat zTerm).Op = 5) then
                          (bif bif decide (0 ≤ i) then decide (i < zN ts.length) else false then
                            (Option.bind (Γ 30 [nI (ts.getD i.toNat zTerm).Num] []) fun r14 =>
                            bif decide ((s ++ (bs [32]) ++ asS r6.fst ++ (ts.getD i.toNat zTerm).Text).size + (asS r14.fst).size ≤ 4294967296) then
                              (H [true, true, true, false, true] (hdS [(0, slTermS ts), (4, AV.S (s ++ (bs [32]) ++ asS r6.fst ++ (ts.getD i.toNat zTerm).Text ++ asS r14.fst)), (5, nI (IntKind.i64.wrap (i + 1)))] [] []))
                            else
                              (none))
                          else
                            (none))
                        else
                          (H [true, true, true, false, true] (hdS [(0, slTermS ts), (4, AV.S (s ++ (bs [32]) ++ asS r6.fst ++ (ts.getD i.toNat zTerm).Text)), (5, nI (IntKind.i64.wrap (i + 1)))] [] [])))
                      else
                        (none)))
                  else
                    (none))
                else
                  (none))
              else
                (none))
            (Option.bind (Γ 61 [nI (ts.getD i.toNat zTerm).Op] []) fun r6 =>
              bif decide ((s ++ (bs [32])).size + (asS r6.fst).size ≤ 4294967296) then
                (bif decide ((s ++ (bs [32]) ++ asS r6.fst).size + (ts.getD i.toNat zTerm).Text.size ≤ 4294967296) then
                  (bif bif decide (0 ≤ i) then decide (i < zN ts.length) else false then
                    (bif decide ((ts.getD i.toNat zTerm).Op = 4) then
                      (bif bif decide (0 ≤ i) then decide (i < zN ts.length) else false then
                        (Option.bind (Γ 30 [nI (ts.getD i.toNat zTerm).Num] []) fun r12 =>
                        bif decide ((s ++ (bs [32]) ++ asS r6.fst ++ (ts.getD i.toNat zTerm).Text).size + (asS r12.fst).size ≤ 4294967296) then
                          (H [true, true, true, false, true] (hdS [(0, slTermS ts), (4, AV.S (s ++ (bs [32]) ++ asS r6.fst ++ (ts.getD i.toNat zTerm).Text ++ asS r12.fst)), (5, nI (IntKind.i64.wrap (i + 1)))] [] []))
                        else
                          (none))
                      else
                        (none))
                    else
                      (bif bif decide (0 ≤ i) then decide (i < zN ts.length) else false then
                        (bif decide ((ts.getD i.toNat zTerm).Op = 5) then
                          (bif bif decide (0 ≤ i) then decide (i < zN ts.length) else false then
                            (Option.bind (Γ 30 [nI (ts.getD i.toNat zTerm).Num] []) fun r14 =>
                            bif decide ((s ++ (bs [32]) ++ asS r6.fst ++ (ts.getD i.toNat zTerm).Text).size + (asS r14.fst).size ≤ 4294967296) then
                              (H [true, true, true, false, true] (hdS [(0, slTermS ts), (4, AV.S (s ++ (bs [32]) ++ asS r6.fst ++ (ts.getD i.toNat zTerm).Text ++ asS r14.fst)), (5, nI (IntKind.i64.wrap (i + 1)))] [] []))
                            else
                              (none))
                          else
                            (none))
                        else
                          (H [true, true, true, false, true] (hdS [(0, slTermS ts), (4, AV.S (s ++ (bs [32]) ++ asS r6.fst ++ (ts.getD i.toNat zTerm).Text)), (5, nI (IntKind.i64.wrap (i + 1)))] [] [])))
                      else
                        (none)))
                  else
                    (none))
                else
                  (none))
              else
                (none)))
          else
            (none))
        else
          (none))
      else
        (none))
    else
      (bif bif decide (0 ≤ i) then decide (i < zN ts.length) else false then
        (bif bif decide (0 ≤ i) then decide (i < zN ts.length) else false then
          (and2
          (Option.bind (Γ 61 [nI (ts.getD i.toNat zTerm).Op] []) fun r5 =>
            bif decide (s.size + (asS r5.fst).size ≤ 4294967296) then
              (bif decide ((s ++ asS r5.fst).size + (ts.getD i.toNat zTerm).Text.size ≤ 4294967296) then
                (bif bif decide (0 ≤ i) then decide (i < zN ts.length) else false then
                  (bif decide ((ts.getD i.toNat zTerm).Op = 4) then
                    (bif bif decide (0 ≤ i) then decide (i < zN ts.length) else false then
                      (Option.bind (Γ 30 [nI (ts.getD i.toNat zTerm).Num] []) fun r11 =>
                      bif decide ((s ++ asS r5.fst ++ (ts.getD i.toNat zTerm).Text).size + (asS r11.fst).size ≤ 4294967296) then
                        (H [true, true, true, false, true] (hdS [(0, slTermS ts), (4, AV.S (s ++ asS r5.fst ++ (ts.getD i.toNat zTerm).Text ++ asS r11.fst)), (5, nI (IntKind.i64.wrap (i + 1)))] [] []))
                      else
                        (none))
                    else
                      (none))
                  else
                    (bif bif decide (0 ≤ i) then decide (i < zN ts.length) else false then
                      (bif decide ((ts.getD i.toNat zTerm).Op = 5) then
                        (bif bif decide (0 ≤ i) then decide (i < zN ts.length) else false then
                          (Option.bind (Γ 30 [nI (ts.getD i.toNat zTerm).Num] []) fun r13 =>
                          bif decide ((s ++ asS r5.fst ++ (ts.getD i.toNat zTerm).Text).size + (asS r13.fst).size ≤ 4294967296) then
                            (H [true, true, true, false, true] (hdS [(0, slTermS ts), (4, AV.S (s ++ asS r5.fst ++ (ts.getD i.toNat zTerm).Text ++ asS r13.fst)), (5, nI (IntKind.i64.wrap (i + 1)))] [] []))
                          else
                            (none))
                        else
                          (none))
                      else
                        (H [true, true, true, false, true] (hdS [(0, slTermS ts), (4, AV.S (s ++ asS r5.fst ++ (ts.getD i.toNat zTerm).Text)), (5, nI (IntKind.i64.wrap (i + 1)))] [] [])))
                    else
                      (none)))
                else
                  (none))
              else
                (none))
            else
              (none))
          (Option.bind (Γ 61 [nI (ts.getD i.toNat zTerm).Op] []) fun r5 =>
            bif decide (s.size + (asS r5.fst).size ≤ 4294967296) then
              (bif decide ((s ++ asS r5.fst).size + (ts.getD i.toNat zTerm).Text.size ≤ 4294967296) then
                (bif bif decide (0 ≤ i) then decide (i < zN ts.length) else false then
                  (bif decide ((ts.getD i.toNat zTerm).Op = 4) then
                    (bif bif decide (0 ≤ i) then decide (i < zN ts.length) else false then
                      (Option.bind (Γ 30 [nI (ts.getD i.toNat zTerm).Num] []) fun r11 =>
                      bif decide ((s ++ asS r5.fst ++ (ts.getD i.toNat zTerm).Text).size + (asS r11.fst).size ≤ 4294967296) then
                        (H [true, true, true, false, true] (hdS [(0, slTermS ts), (4, AV.S (s ++ asS r5.fst ++ (ts.getD i.toNat zTerm).Text ++ asS r11.fst)), (5, nI (IntKind.i64.wrap (i + 1)))] [] []))
                      else
                        (none))
                    else
                      (none))
                  else
                    (bif bif decide (0 ≤ i) then decide (i < zN ts.length) else false then
                      (bif decide ((ts.getD i.toNat zTerm).Op = 5) then
                        (bif bif decide (0 ≤ i) then decide (i < zN ts.length) else false then
                          (Option.bind (Γ 30 [nI (ts.getD i.toNat zTerm).Num] []) fun r13 =>
                          bif decide ((s ++ asS r5.fst ++ (ts.getD i.toNat zTerm).Text).size + (asS r13.fst).size ≤ 4294967296) then
                            (H [true, true, true, false, true] (hdS [(0, slTermS ts), (4, AV.S (s ++ asS r5.fst ++ (ts.getD i.toNat zTerm).Text ++ asS r13.fst)), (5, nI (IntKind.i64.wrap (i + 1)))] [] []))
                          else
                            (none))
                        else
                          (none))
                      else
                        (H [true, true, true, false, true] (hdS [(0, slTermS ts), (4, AV.S (s ++ asS r5.fst ++ (ts.getD i.toNat zTerm).Text)), (5, nI (IntKind.i64.wrap (i + 1)))] [] [])))
                    else
                      (none)))
                else
                  (none))
              else
                (none))
            else
              (none)))
        else
          (none))
      else
        (none)))
  else
    (some (AV.tup 2 (lstG [AV.S s, AV.B true]), [])) := by kernel_rfl
theorem h53 (Γ : Orc) (H : Hd) (ts : List VTerm) (n i : Int) : hed Tryz.prog cfg Γ 60 H [] [true, true, true, false, true] (hdS [(0, slTermS ts), (3, nI n), (4, nI i)] [] []) =
  bif decide (i < zN ts.length) then
    (bif bif decide (0 ≤ i) then decide (i < zN ts.length) else false then
      (Option.bind (Γ 85 [AV.ag 3 (lstG [nI (ts.getD i.toNat zTerm).Op, nI (ts.getD i.toNat zTerm).Num, AV.S (ts.getD i.toNat zTerm).Text])] []) fun r2 =>
      bif decide (asI r2.fst < 0) then
        (some (AV.B false, []))
      else
        (bif decide (n < asI r2.fst) then
          (some (AV.B false, []))
        else
          (H [true, true, true, false, true] (hdS [(0, slTermS ts), (3, nI (IntKind.i64.wrap (IntKind.i64.wrap (n - asI r2.fst) + 1))), (4, nI (IntKind.i64.wrap (i + 1)))] [] []))))
    else
      (none))
  else
    (bif decide (n = 1) then
      (some (AV.B true, []))
    else
      (some (AV.B (decide (zN ts.length = 0)), []))) := by kernel_rfl
theorem h57 (Γ : Orc) (H : Hd) (ts : List VTerm) (n m i : Int) : hed Tryz.prog cfg Γ 45 H [] [true, true, false, true] (hdS [(0, slTermS ts), (3, nI n), (6, slTermS ts), (7, nI m), (8, nI i)] [] []) =
  bif decide (i < m) then
    (bif bif decide (0 ≤ i) then decide (i < zN ts.length) else false then
      (Option.bind (Γ 76 [AV.ag 3 (lstG [nI (ts.getD i.toNat zTerm).Op, nI (ts.getD i.toNat zTerm).Num, AV.S (ts.getD i.toNat zTerm).Text])] []) fun r2 =>
      bif !asB r2.fst then
        (some (AV.B false, []))
      else
        (Option.bind (Γ 77 [AV.ag 3 (lstG [nI (ts.getD i.toNat zTerm).Op, nI (ts.getD i.toNat zTerm).Num, AV.S (ts.getD i.toNat zTerm).Text])] []) fun r4 =>
        bif decide (n < asI r4.fst) then
          (some (AV.B false, []))
        else
          (Option.bind (Γ 77 [AV.ag 3 (lstG [nI (ts.getD i.toNat zTerm).Op, nI (ts.getD i.toNat zTerm).Num, AV.S (ts.getD i.toNat zTerm).Text])] []) fun r6 =>
          H [true, true, false, true] (hdS [(0, slTermS ts), (3, nI (IntKind.i64.wrap (n + IntKind.i64.wrap (1 - asI r6.fst)))), (6, slTermS ts), (7, nI m), (8, nI (IntKind.i64.wrap (i + 1)))] [] []))))
    else
      (none))
  else
    (bif decide (zN ts.length ≤ 12) then
      (bif decide (n = 1) then
        (some (AV.B true, []))
      else
        (some (AV.B (decide (zN ts.length = 0)), [])))
    else
      (some (AV.B false, []))) := by kernel_rfl
theorem h58 (Γ : Orc) (H : Hd) (x : VMsg) (m i : Int) : hed Tryz.prog cfg Γ 46 H [] [true, false, true, true, true, true, false, false, true] (hdS [(1, .pb 65 0), (20, nI m), (21, nI i)] [] [(65, 3, [nI x.Kind, nI x.Num, .S x.Text])]) =
  bif decide (i < m) then
    (bif bif decide (0 ≤ i) then decide (i < zN x.Text.size) else false then
      (Option.bind (Γ 44 [nI (IntKind.i64.wrap (byN x.Text i.toNat)), nI 32, nI 126] []) fun r2 =>
      bif !asB r2.fst then
        (some (AV.B false, []))
      else
        (bif bif decide (0 ≤ i) then decide (i < zN x.Text.size) else false then
          (bif decide (byN x.Text i.toNat = 34) then
            (some (AV.B false, []))
          else
            (H [true, false, true, true, true, true, false, false, true] (hdS [(1, AV.pb 65 0), (20, nI m), (21, nI (IntKind.i64.wrap (i + 1)))] [] [(65, 3, [nI x.Kind, nI x.Num, AV.S x.Text])])))
        else
          (none)))
    else
      (none))
  else
    (bif decide (x.Num = 0) then
      (some (AV.B (decide (zN x.Text.size ≤ 40)), []))
    else
      (some (AV.B false, []))) := by kernel_rfl
theorem h79 (Γ : Orc) (H : Hd) (s : ByteArray) (i : Int) : hed Tryz.prog cfg Γ 83 H [] [true, true, false, true] (hdS [(0, .S s), (3, nI i)] [] []) =
  bif decide (i < zN s.size) then
    (bif bif decide (0 ≤ i) then decide (i < zN s.size) else false then
      (bif decide (byN s i.toNat < 32) then
        (some (AV.B false, []))
      else
        (bif bif decide (0 ≤ i) then decide (i < zN s.size) else false then
          (bif decide (126 < byN s i.toNat) then
            (some (AV.B false, []))
          else
            (bif bif decide (0 ≤ i) then decide (i < zN s.size) else false then
              (bif decide (byN s i.toNat = 34) then
                (some (AV.B false, []))
              else
                (H [true, true, false, true] (hdS [(0, AV.S s), (3, nI (IntKind.i64.wrap (i + 1)))] [] [])))
            else
              (none)))
        else
          (none)))
    else
      (none))
  else
    (some (AV.B true, [])) := by kernel_rfl
theorem h94 (Γ : Orc) (H : Hd) (s : ByteArray) (i : Int) : hed Tryz.prog cfg Γ 96 H [] [true, true, false, true] (hdS [(0, .S s), (3, nI i)] [] []) =
  bif decide (i < zN s.size) then
    (bif bif decide (0 ≤ i) then decide (i < zN s.size) else false then
      (bif decide (97 ≤ byN s i.toNat) then
        (bif bif decide (0 ≤ i) then decide (i < zN s.size) else false then
          (bif decide (byN s i.toNat ≤ 122) then
            (H [true, true, false, true] (hdS [(0, AV.S s), (3, nI (IntKind.i64.wrap (i + 1)))] [] []))
          else
            (bif bif decide (0 ≤ i) then decide (i < zN s.size) else false then
              (bif decide (48 ≤ byN s i.toNat) then
                (bif bif decide (0 ≤ i) then decide (i < zN s.size) else false then
                  (bif !decide (byN s i.toNat ≤ 57) then
                    (some (AV.B false, []))
                  else
                    (H [true, true, false, true] (hdS [(0, AV.S s), (3, nI (IntKind.i64.wrap (i + 1)))] [] [])))
                else
                  (none))
              else
                (some (AV.B false, [])))
            else
              (none)))
        else
          (none))
      else
        (bif bif decide (0 ≤ i) then decide (i < zN s.size) else false then
          (bif decide (48 ≤ byN s i.toNat) then
            (bif bif decide (0 ≤ i) then decide (i < zN s.size) else false then
              (bif !decide (byN s i.toNat ≤ 57) then
                (some (AV.B false, []))
              else
                (H [true, true, false, true] (hdS [(0, AV.S s), (3, nI (IntKind.i64.wrap (i + 1)))] [] [])))
            else
              (none))
          else
            (some (AV.B false, [])))
        else
          (none)))
    else
      (none))
  else
    (some (AV.B true, [])) := by kernel_rfl
theorem h95 (Γ : Orc) (H : Hd) (s : ByteArray) (i : Int) : hed Tryz.prog cfg Γ 97 H [] [true, true, false, true] (hdS [(0, .S s), (3, nI i)] [] []) =
  bif decide (i < zN s.size) then
    (bif bif decide (0 ≤ i) then decide (i < zN s.size) else false then
      (bif decide (byN s i.toNat < 97) then
        (some (AV.B false, []))
      else
        (bif bif decide (0 ≤ i) then decide (i < zN s.size) else false then
          (bif decide (122 < byN s i.toNat) then
            (some (AV.B false, []))
          else
            (H [true, true, false, true] (hdS [(0, AV.S s), (3, nI (IntKind.i64.wrap (i + 1)))] [] [])))
        else
          (none)))
    else
      (none))
  else
    (some (AV.B true, [])) := by kernel_rfl
theorem h85 (Γ : Orc) (H : Hd) (s : ByteArray) (m i : Int) : hed Tryz.prog cfg Γ 79 H [] [true, false, true] (hdS [(0, .S s), (5, nI m), (6, nI i)] [] []) =
  bif decide (i < m) then
    (bif bif decide (0 ≤ i) then decide (i < zN s.size) else false then
      (bif decide (byN s i.toNat < 97) then
        (bif bif decide (0 ≤ i) then decide (i < zN s.size) else false then
          (bif decide (byN s i.toNat < 48) then
            (some (AV.B false, []))
          else
            (bif bif decide (0 ≤ i) then decide (i < zN s.size) else false then
              (bif decide (57 < byN s i.toNat) then
                (some (AV.B false, []))
              else
                (H [true, false, true] (hdS [(0, AV.S s), (5, nI m), (6, nI (IntKind.i64.wrap (i + 1)))] [] [])))
            else
              (none)))
        else
          (none))
      else
        (bif bif decide (0 ≤ i) then decide (i < zN s.size) else false then
          (bif decide (122 < byN s i.toNat) then
            (bif bif decide (0 ≤ i) then decide (i < zN s.size) else false then
              (bif decide (byN s i.toNat < 48) then
                (some (AV.B false, []))
              else
                (bif bif decide (0 ≤ i) then decide (i < zN s.size) else false then
                  (bif decide (57 < byN s i.toNat) then
                    (some (AV.B false, []))
                  else
                    (H [true, false, true] (hdS [(0, AV.S s), (5, nI m), (6, nI (IntKind.i64.wrap (i + 1)))] [] [])))
                else
                  (none)))
            else
              (none))
          else
            (H [true, false, true] (hdS [(0, AV.S s), (5, nI m), (6, nI (IntKind.i64.wrap (i + 1)))] [] [])))
        else
          (none)))
    else
      (none))
  else
    (some (AV.B !s.toList == ByteArray.empty.toList, [])) := by kernel_rfl
theorem h96 (Γ : Orc) (H : Hd) (s : ByteArray) (m i : Int) : hed Tryz.prog cfg Γ 91 H [] [true, false, true] (hdS [(0, .S s), (5, nI m), (6, nI i)] [] []) =
  bif decide (i < m) then
    (bif bif decide (0 ≤ i) then decide (i < zN s.size) else false then
      (bif decide (byN s i.toNat < 97) then
        (some (AV.B false, []))
      else
        (bif bif decide (0 ≤ i) then decide (i < zN s.size) else false then
          (bif decide (122 < byN s i.toNat) then
            (some (AV.B false, []))
          else
            (H [true, false, true] (hdS [(0, AV.S s), (5, nI m), (6, nI (IntKind.i64.wrap (i + 1)))] [] [])))
        else
          (none)))
    else
      (none))
  else
    (Option.bind (Γ 44 [nI (zN s.size), nI 1, nI 10] []) fun r1 =>
    some (AV.B (asB r1.fst), [])) := by kernel_rfl
theorem h32 (Γ : Orc) (H : Hd) (n : Int) (s : ByteArray) (b : Bool) : hed Tryz.prog cfg Γ 30 H [] [true, true, true, true, false] (hdS [(0, nI n), (3, .S s), (4, .B b)] [] []) =
  bif !decide (n = 0) then
    (bif decide (n.tmod 10 < 0) then
      (bif decide (1 + s.size ≤ 4294967296) then
        (H [true, true, true, true, false] (hdS [(0, nI (IntKind.i64.wrap (n.tdiv 10))), (3, AV.S ((bs [UInt8.ofNat ((IntKind.u8.wrap (IntKind.i64.wrap (48 + IntKind.i64.wrap (0 - n.tmod 10)))).toNat)]) ++ s)), (4, AV.B b)] [] []))
      else
        (none))
    else
      (bif decide (1 + s.size ≤ 4294967296) then
        (H [true, true, true, true, false] (hdS [(0, nI (IntKind.i64.wrap (n.tdiv 10))), (3, AV.S ((bs [UInt8.ofNat ((IntKind.u8.wrap (IntKind.i64.wrap (48 + n.tmod 10))).toNat)]) ++ s)), (4, AV.B b)] [] []))
      else
        (none)))
  else
    (bif b then
      (bif decide (1 + s.size ≤ 4294967296) then
        (some (AV.S ((bs [45]) ++ s), []))
      else
        (none))
    else
      (some (AV.S s, []))) := by kernel_rfl
theorem h13 (Γ : Orc) (H : Hd) (cs : List VCall) (s : ByteArray) (i : Int) : hed Tryz.prog cfg Γ 15 H [] [true, true, true, false, true] (hdS [(0, slCallS cs), (4, .S s), (5, nI i)] [] []) =
  bif decide (i < zN cs.length) then
    (bif bif decide (0 ≤ i) then decide (i < zN cs.length) else false then
      (Option.bind (Γ 8 [AV.ag 9 (lstG [nI (cs.getD i.toNat zCall).Op, nI (cs.getD i.toNat zCall).A, nI (cs.getD i.toNat zCall).B, nI (cs.getD i.toNat zCall).Tok, AV.S (cs.getD i.toNat zCall).Name, nI (cs.getD i.toNat zCall).Msg.Kind, nI (cs.getD i.toNat zCall).Msg.Num, AV.S (cs.getD i.toNat zCall).Msg.Text, slTermS (cs.getD i.toNat zCall).Filter])] []) fun r2 =>
      bif !asB (asA r2.fst 1) then
        (some (AV.tup 2 (lstG [AV.S ByteArray.empty, AV.B false]), []))
      else
        (bif decide (s.size + (asS (asA r2.fst 0)).size ≤ 4294967296) then
          (bif decide ((s ++ asS (asA r2.fst 0)).size + 1 ≤ 4294967296) then
            (H [true, true, true, false, true] (hdS [(0, slCallS cs), (4, AV.S (s ++ asS (asA r2.fst 0) ++ (bs [10]))), (5, nI (IntKind.i64.wrap (i + 1)))] [] []))
          else
            (none))
        else
          (none)))
    else
      (none))
  else
    (some (AV.tup 2 (lstG [AV.S s, AV.B true]), [])) := by kernel_rfl
theorem h15 (Γ : Orc) (H : Hd) (cs : List VCall) (s : ByteArray) (m i : Int) : hed Tryz.prog cfg Γ 14 H [] [true, true, false, true] (hdS [(0, slCallS cs), (4, .S s), (9, slCallS cs), (10, nI m), (11, nI i)] [] []) =
  bif decide (i < m) then
    (bif bif decide (0 ≤ i) then decide (i < zN cs.length) else false then
      (Option.bind (Γ 7 [AV.ag 9 (lstG [nI (cs.getD i.toNat zCall).Op, nI (cs.getD i.toNat zCall).A, nI (cs.getD i.toNat zCall).B, nI (cs.getD i.toNat zCall).Tok, AV.S (cs.getD i.toNat zCall).Name, nI (cs.getD i.toNat zCall).Msg.Kind, nI (cs.getD i.toNat zCall).Msg.Num, AV.S (cs.getD i.toNat zCall).Msg.Text, slTermS (cs.getD i.toNat zCall).Filter])] []) fun r2 =>
      bif !asB (asA r2.fst 1) then
        (some (AV.tup 2 (lstG [AV.S ByteArray.empty, AV.B false]), []))
      else
        (bif decide ((asS (asA r2.fst 0)).size + 1 ≤ 4294967296) then
          (bif decide (s.size + (asS (asA r2.fst 0) ++ (bs [10])).size ≤ 4294967296) then
            (H [true, true, false, true] (hdS [(0, slCallS cs), (4, AV.S (s ++ (asS (asA r2.fst 0) ++ (bs [10])))), (9, slCallS cs), (10, nI m), (11, nI (IntKind.i64.wrap (i + 1)))] [] []))
          else
            (none))
        else
          (none)))
    else
      (none))
  else
    (bif decide (30 < zN cs.length) then
      (some (AV.tup 2 (lstG [AV.S ByteArray.empty, AV.B false]), []))
    else
      (some (AV.tup 2 (lstG [AV.S s, AV.B true]), []))) := by kernel_rfl
theorem e43 (Γ : Orc) (H : Hd) (s : ByteArray) : ent Tryz.prog cfg Γ 33 H [.S s] [] =
  bif s.toList == (bs [97, 100, 100]).toList then
    (some (AV.tup 2 (lstG [nI 9, nI 2]), []))
  else
    (bif s.toList == (bs [106, 111, 105, 110]).toList then
      (some (AV.tup 2 (lstG [nI 9, nI 3]), []))
    else
      (bif s.toList == (bs [109, 111, 115, 116]).toList then
        (some (AV.tup 2 (lstG [nI 9, nI 4]), []))
      else
        (bif s.toList == (bs [112, 117, 116]).toList then
          (some (AV.tup 2 (lstG [nI 9, nI 1]), []))
        else
          (Option.bind (Γ 63 [AV.sl 19 1 fun i => lstG [AV.S (bif decide (i = 0) then (bs [116, 101, 108, 108]) else bif decide (i - 1 = 0) then (bs [116, 101, 108, 108, 97, 108, 108]) else bif decide (i - 1 - 1 = 0) then (bs [97, 119, 97, 105, 116]) else bif decide (i - 1 - 1 - 1 = 0) then (bs [114, 97, 105, 115, 101]) else bif decide (i - 1 - 1 - 1 - 1 = 0) then (bs [114, 101, 115, 101, 116]) else bif decide (i - 1 - 1 - 1 - 1 - 1 = 0) then (bs [115, 116, 97, 110, 100]) else bif decide (i - 1 - 1 - 1 - 1 - 1 - 1 = 0) then (bs [100, 111, 119, 110]) else bif decide (i - 1 - 1 - 1 - 1 - 1 - 1 - 1 = 0) then (bs [108, 97, 116, 99, 104]) else bif decide (i - 1 - 1 - 1 - 1 - 1 - 1 - 1 - 1 = 0) then (bs [112, 117, 116]) else bif decide (i - 1 - 1 - 1 - 1 - 1 - 1 - 1 - 1 - 1 = 0) then (bs [108, 111, 111, 107]) else bif decide (i - 1 - 1 - 1 - 1 - 1 - 1 - 1 - 1 - 1 - 1 = 0) then (bs [119, 97, 116, 99, 104]) else bif decide (i - 1 - 1 - 1 - 1 - 1 - 1 - 1 - 1 - 1 - 1 - 1 = 0) then (bs [115, 104, 117, 116]) else bif decide (i - 1 - 1 - 1 - 1 - 1 - 1 - 1 - 1 - 1 - 1 - 1 - 1 = 0) then (bs [112, 117, 98]) else bif decide (i - 1 - 1 - 1 - 1 - 1 - 1 - 1 - 1 - 1 - 1 - 1 - 1 - 1 = 0) then (bs [115, 117, 98]) else bif decide (i - 1 - 1 - 1 - 1 - 1 - 1 - 1 - 1 - 1 - 1 - 1 - 1 - 1 - 1 = 0) then (bs [114, 101, 99, 118]) else bif decide (i - 1 - 1 - 1 - 1 - 1 - 1 - 1 - 1 - 1 - 1 - 1 - 1 - 1 - 1 - 1 = 0) then (bs [117, 110, 115, 117, 98]) else bif decide (i - 1 - 1 - 1 - 1 - 1 - 1 - 1 - 1 - 1 - 1 - 1 - 1 - 1 - 1 - 1 - 1 = 0) then (bs [99, 108, 111, 115, 101]) else bif decide (i - 1 - 1 - 1 - 1 - 1 - 1 - 1 - 1 - 1 - 1 - 1 - 1 - 1 - 1 - 1 - 1 - 1 = 0) then (bs [99, 97, 110, 99, 101, 108]) else bif decide (i - 1 - 1 - 1 - 1 - 1 - 1 - 1 - 1 - 1 - 1 - 1 - 1 - 1 - 1 - 1 - 1 - 1 - 1 = 0) then (bs [116, 105, 109, 101, 114]) else ByteArray.empty)], AV.S s] []) fun r4 =>
          some (AV.tup 2 (lstG [nI (IntKind.i64.wrap (asI r4.fst + 1)), nI 0]), []))))) := by kernel_rfl
theorem e44 (Γ : Orc) (H : Hd) (s : ByteArray) : ent Tryz.prog cfg Γ 34 H [.S s] [] =
  Option.bind (Γ 64 [AV.S s] []) fun r0 =>
  bif asB (asA r0.fst 1) then
    (some (AV.tup 2 (lstG [nI (asI (asA r0.fst 0)), AV.B (decide (0 ≤ asI (asA r0.fst 0)))]), []))
  else
    (some (AV.tup 2 (lstG [nI (asI (asA r0.fst 0)), AV.B false]), [])) := by kernel_rfl
theorem e76 (Γ : Orc) (H : Hd) (s : ByteArray) : ent Tryz.prog cfg Γ 64 H [.S s] [] =
  Option.bind (Γ 87 [AV.S s, AV.S (bs [45])] []) fun r0 =>
  bif (asS r0.fst).toList == ByteArray.empty.toList then
    (some (AV.tup 2 (lstG [nI 0, AV.B false]), []))
  else
    (bif decide (9 < zN (asS r0.fst).size) then
      (some (AV.tup 2 (lstG [nI 0, AV.B false]), []))
    else
      (H [true, true, true, true, false, true] (hdS [(0, AV.S s), (4, AV.S (asS r0.fst)), (5, nI 0), (17, nI (zN (asS r0.fst).size)), (18, nI 0)] [] []))) := by kernel_rfl
theorem e77 (Γ : Orc) (H : Hd) (s : ByteArray) : ent Tryz.prog cfg Γ 65 H [.S s] [] =
  Option.bind (Γ 64 [AV.S s] []) fun r0 =>
  bif decide (2 ≤ zN s.size) then
    (bif decide (0 < zN s.size) then
      (bif decide (byN s 0 = 34) then
        (bif decide (1 ≤ IntKind.i64.wrap (zN s.size - 1)) && decide (IntKind.i64.wrap (zN s.size - 1) ≤ zN s.size) then
          (Option.bind (Γ 46 [AV.ag 3 (lstG [nI 2, nI 0, AV.S (s.extract 1 (IntKind.i64.wrap (zN s.size - 1)).toNat)])] []) fun r5 =>
          bif !asB r5.fst then
            (some (AV.tup 2 (lstG [AV.ag 3 (lstG [nI 0, nI 0, AV.S ByteArray.empty]), AV.B false]), []))
          else
            (Option.bind (Γ 52 [AV.ag 3 (lstG [nI 2, nI 0, AV.S (s.extract 1 (IntKind.i64.wrap (zN s.size - 1)).toNat)])] []) fun r7 =>
            bif !(asS r7.fst).toList == s.toList then
              (some (AV.tup 2 (lstG [AV.ag 3 (lstG [nI 0, nI 0, AV.S ByteArray.empty]), AV.B false]), []))
            else
              (some (AV.tup 2 (lstG [AV.ag 3 (lstG [nI 2, nI 0, AV.S (s.extract 1 (IntKind.i64.wrap (zN s.size - 1)).toNat)]), AV.B true]), []))))
        else
          (none))
      else
        (bif !asB (asA r0.fst 1) then
          (some (AV.tup 2 (lstG [AV.ag 3 (lstG [nI 0, nI 0, AV.S ByteArray.empty]), AV.B false]), []))
        else
          (Option.bind (Γ 46 [AV.ag 3 (lstG [nI 1, nI (asI (asA r0.fst 0)), AV.S ByteArray.empty])] []) fun r5 =>
          bif !asB r5.fst then
            (some (AV.tup 2 (lstG [AV.ag 3 (lstG [nI 0, nI 0, AV.S ByteArray.empty]), AV.B false]), []))
          else
            (Option.bind (Γ 52 [AV.ag 3 (lstG [nI 1, nI (asI (asA r0.fst 0)), AV.S ByteArray.empty])] []) fun r7 =>
            bif !(asS r7.fst).toList == s.toList then
              (some (AV.tup 2 (lstG [AV.ag 3 (lstG [nI 0, nI 0, AV.S ByteArray.empty]), AV.B false]), []))
            else
              (some (AV.tup 2 (lstG [AV.ag 3 (lstG [nI 1, nI (asI (asA r0.fst 0)), AV.S ByteArray.empty]), AV.B true]), []))))))
    else
      (none))
  else
    (bif !asB (asA r0.fst 1) then
      (some (AV.tup 2 (lstG [AV.ag 3 (lstG [nI 0, nI 0, AV.S ByteArray.empty]), AV.B false]), []))
    else
      (Option.bind (Γ 46 [AV.ag 3 (lstG [nI 1, nI (asI (asA r0.fst 0)), AV.S ByteArray.empty])] []) fun r3 =>
      bif !asB r3.fst then
        (some (AV.tup 2 (lstG [AV.ag 3 (lstG [nI 0, nI 0, AV.S ByteArray.empty]), AV.B false]), []))
      else
        (Option.bind (Γ 52 [AV.ag 3 (lstG [nI 1, nI (asI (asA r0.fst 0)), AV.S ByteArray.empty])] []) fun r5 =>
        bif !(asS r5.fst).toList == s.toList then
          (some (AV.tup 2 (lstG [AV.ag 3 (lstG [nI 0, nI 0, AV.S ByteArray.empty]), AV.B false]), []))
        else
          (some (AV.tup 2 (lstG [AV.ag 3 (lstG [nI 1, nI (asI (asA r0.fst 0)), AV.S ByteArray.empty]), AV.B true]), []))))) := by kernel_rfl
theorem e78 (Γ : Orc) (H : Hd) (s : ByteArray) : ent Tryz.prog cfg Γ 66 H [.S s] [] =
  bif s.toList == ByteArray.empty.toList then
    (bif bif okT then true else false then
      (some (AV.tup 2 (lstG [AV.own 0 3 fun i => lstG [nI 0, nI 0, AV.S ByteArray.empty], AV.B true]), []))
    else
      (none))
  else
    (Option.bind (Γ 78 [AV.S s, AV.S (bs [32])] []) fun r1 =>
    H [true, true, true, false, true] (hdS [(0, AV.S s), (4, AV.rf 368640), (15, AV.rf 323584), (16, nI (zN (asN r1.fst))), (17, nI 0)] [(368640, ⟨0, 3, fun i => lstG [nI 0, nI 0, AV.S ByteArray.empty]⟩), (323584, ⟨asN r1.fst, 1, fun i => lstG [AV.S (asS (asG r1.fst i 0))]⟩)] [])) := by kernel_rfl
theorem e92 (Γ : Orc) (H : Hd) (s : ByteArray) : ent Tryz.prog cfg Γ 88 H [.S s] [] =
  H [true, false, true] (hdS [(0, AV.S s), (2, AV.pb 66 0), (3, nI 1)] [] [(66, 3, [nI 0, nI 0, AV.S ByteArray.empty])]) := by kernel_rfl
theorem e18 (Γ : Orc) (H : Hd) (s : ByteArray) : ent Tryz.prog cfg Γ 9 H [.S s] [] =
  bif decide (160 < zN s.size) then
    (bif bif bif okT then true else false then true else false then
      (some (AV.tup 2 (lstG [AV.ag 9 (lstG [nI 0, nI 0, nI 0, nI 0, AV.S ByteArray.empty, nI 0, nI 0, AV.S ByteArray.empty, AV.own 0 3 fun i => lstG [nI 0, nI 0, AV.S ByteArray.empty]]), AV.B false]), []))
    else
      (none))
  else
    (Option.bind (Γ 32 [AV.S s, AV.S (bs [32])] []) fun r1 =>
    Option.bind (Γ 33 [AV.S (asS (asA r1.fst 0))] []) fun r2 =>
    Option.bind (Γ 32 [AV.S (asS (asA r1.fst 1)), AV.S (bs [32])] []) fun r3 =>
    Option.bind (Γ 34 [AV.S (asS (asA r3.fst 0))] []) fun r4 =>
    bif decide (asI (asA r2.fst 0) = 13) then
      (Option.bind (Γ 35 [AV.pb 0 0, AV.S (asS (asA r3.fst 1))] [AV.nbx 9 (lstG [nI (asI (asA r2.fst 0)), nI 0, nI (asI (asA r2.fst 1)), nI (-1), AV.S (asS (asA r3.fst 0)), nI 0, nI 0, AV.S ByteArray.empty, AV.own 0 3 fun x => lstG [nI 0, nI 0, AV.S ByteArray.empty]])]) fun r6 =>
      Option.bind (Γ 7 [AV.ag 9 (lstG [nI (asI (asA (r6.snd.headD AV.bad) 0)), nI (asI (asA (r6.snd.headD AV.bad) 1)), nI (asI (asA (r6.snd.headD AV.bad) 2)), nI (asI (asA (r6.snd.headD AV.bad) 3)), AV.S (asS (asA (r6.snd.headD AV.bad) 4)), nI (asI (asA (r6.snd.headD AV.bad) 5)), nI (asI (asA (r6.snd.headD AV.bad) 6)), AV.S (asS (asA (r6.snd.headD AV.bad) 7)), vslTermS (asA (r6.snd.headD AV.bad) 8)])] []) fun r7 =>
      bif !asB (asA r7.fst 1) then
        (bif bif bif okT then true else false then true else false then
          (some (AV.tup 2 (lstG [AV.ag 9 (lstG [nI 0, nI 0, nI 0, nI 0, AV.S ByteArray.empty, nI 0, nI 0, AV.S ByteArray.empty, AV.own 0 3 fun i => lstG [nI 0, nI 0, AV.S ByteArray.empty]]), AV.B false]), []))
        else
          (none))
      else
        (bif !(asS (asA r7.fst 0)).toList == s.toList then
          (bif bif bif okT then true else false then true else false then
            (some (AV.tup 2 (lstG [AV.ag 9 (lstG [nI 0, nI 0, nI 0, nI 0, AV.S ByteArray.empty, nI 0, nI 0, AV.S ByteArray.empty, AV.own 0 3 fun i => lstG [nI 0, nI 0, AV.S ByteArray.empty]]), AV.B false]), []))
          else
            (none))
        else
          (bif bif bif okT then true else false then true else false then
            (some (AV.tup 2 (lstG [AV.ag 9 (lstG [nI (asI (asA (r6.snd.headD AV.bad) 0)), nI (asI (asA (r6.snd.headD AV.bad) 1)), nI (asI (asA (r6.snd.headD AV.bad) 2)), nI (asI (asA (r6.snd.headD AV.bad) 3)), AV.S (asS (asA (r6.snd.headD AV.bad) 4)), nI (asI (asA (r6.snd.headD AV.bad) 5)), nI (asI (asA (r6.snd.headD AV.bad) 6)), AV.S (asS (asA (r6.snd.headD AV.bad) 7)), vowTermS (asA (r6.snd.headD AV.bad) 8)]), AV.B true]), []))
          else
            (none))))
    else
      (bif decide (asI (asA r2.fst 0) = 15) then
        (bif decide (asI (asA r2.fst 0) = 15) then
          (Option.bind (Γ 35 [AV.pb 0 0, AV.S (asS (asA r3.fst 1))] [AV.nbx 9 (lstG [nI (asI (asA r2.fst 0)), nI 0, nI (asI (asA r4.fst 0)), nI (-1), AV.S ByteArray.empty, nI 0, nI 0, AV.S ByteArray.empty, AV.own 0 3 fun x => lstG [nI 0, nI 0, AV.S ByteArray.empty]])]) fun r8 =>
          Option.bind (Γ 7 [AV.ag 9 (lstG [nI (asI (asA (r8.snd.headD AV.bad) 0)), nI (asI (asA (r8.snd.headD AV.bad) 1)), nI (asI (asA (r8.snd.headD AV.bad) 2)), nI (asI (asA (r8.snd.headD AV.bad) 3)), AV.S (asS (asA (r8.snd.headD AV.bad) 4)), nI (asI (asA (r8.snd.headD AV.bad) 5)), nI (asI (asA (r8.snd.headD AV.bad) 6)), AV.S (asS (asA (r8.snd.headD AV.bad) 7)), vslTermS (asA (r8.snd.headD AV.bad) 8)])] []) fun r9 =>
          bif !asB (asA r9.fst 1) then
            (bif bif bif okT then true else false then true else false then
              (some (AV.tup 2 (lstG [AV.ag 9 (lstG [nI 0, nI 0, nI 0, nI 0, AV.S ByteArray.empty, nI 0, nI 0, AV.S ByteArray.empty, AV.own 0 3 fun i => lstG [nI 0, nI 0, AV.S ByteArray.empty]]), AV.B false]), []))
            else
              (none))
          else
            (bif !(asS (asA r9.fst 0)).toList == s.toList then
              (bif bif bif okT then true else false then true else false then
                (some (AV.tup 2 (lstG [AV.ag 9 (lstG [nI 0, nI 0, nI 0, nI 0, AV.S ByteArray.empty, nI 0, nI 0, AV.S ByteArray.empty, AV.own 0 3 fun i => lstG [nI 0, nI 0, AV.S ByteArray.empty]]), AV.B false]), []))
              else
                (none))
            else
              (bif bif bif okT then true else false then true else false then
                (some (AV.tup 2 (lstG [AV.ag 9 (lstG [nI (asI (asA (r8.snd.headD AV.bad) 0)), nI (asI (asA (r8.snd.headD AV.bad) 1)), nI (asI (asA (r8.snd.headD AV.bad) 2)), nI (asI (asA (r8.snd.headD AV.bad) 3)), AV.S (asS (asA (r8.snd.headD AV.bad) 4)), nI (asI (asA (r8.snd.headD AV.bad) 5)), nI (asI (asA (r8.snd.headD AV.bad) 6)), AV.S (asS (asA (r8.snd.headD AV.bad) 7)), vowTermS (asA (r8.snd.headD AV.bad) 8)]), AV.B true]), []))
              else
                (none))))
        else
          (Option.bind (Γ 35 [AV.pb 0 0, AV.S (asS (asA r3.fst 1))] [AV.nbx 9 (lstG [nI (asI (asA r2.fst 0)), nI (asI (asA r4.fst 0)), nI (asI (asA r2.fst 1)), nI (-1), AV.S ByteArray.empty, nI 0, nI 0, AV.S ByteArray.empty, AV.own 0 3 fun x => lstG [nI 0, nI 0, AV.S ByteArray.empty]])]) fun r8 =>
          Option.bind (Γ 7 [AV.ag 9 (lstG [nI (asI (asA (r8.snd.headD AV.bad) 0)), nI (asI (asA (r8.snd.headD AV.bad) 1)), nI (asI (asA (r8.snd.headD AV.bad) 2)), nI (asI (asA (r8.snd.headD AV.bad) 3)), AV.S (asS (asA (r8.snd.headD AV.bad) 4)), nI (asI (asA (r8.snd.headD AV.bad) 5)), nI (asI (asA (r8.snd.headD AV.bad) 6)), AV.S (asS (asA (r8.snd.headD AV.bad) 7)), vslTermS (asA (r8.snd.headD AV.bad) 8)])] []) fun r9 =>
          bif !asB (asA r9.fst 1) then
            (bif bif bif okT then true else false then true else false then
              (some (AV.tup 2 (lstG [AV.ag 9 (lstG [nI 0, nI 0, nI 0, nI 0, AV.S ByteArray.empty, nI 0, nI 0, AV.S ByteArray.empty, AV.own 0 3 fun i => lstG [nI 0, nI 0, AV.S ByteArray.empty]]), AV.B false]), []))
            else
              (none))
          else
            (bif !(asS (asA r9.fst 0)).toList == s.toList then
              (bif bif bif okT then true else false then true else false then
                (some (AV.tup 2 (lstG [AV.ag 9 (lstG [nI 0, nI 0, nI 0, nI 0, AV.S ByteArray.empty, nI 0, nI 0, AV.S ByteArray.empty, AV.own 0 3 fun i => lstG [nI 0, nI 0, AV.S ByteArray.empty]]), AV.B false]), []))
              else
                (none))
            else
              (bif bif bif okT then true else false then true else false then
                (some (AV.tup 2 (lstG [AV.ag 9 (lstG [nI (asI (asA (r8.snd.headD AV.bad) 0)), nI (asI (asA (r8.snd.headD AV.bad) 1)), nI (asI (asA (r8.snd.headD AV.bad) 2)), nI (asI (asA (r8.snd.headD AV.bad) 3)), AV.S (asS (asA (r8.snd.headD AV.bad) 4)), nI (asI (asA (r8.snd.headD AV.bad) 5)), nI (asI (asA (r8.snd.headD AV.bad) 6)), AV.S (asS (asA (r8.snd.headD AV.bad) 7)), vowTermS (asA (r8.snd.headD AV.bad) 8)]), AV.B true]), []))
              else
                (none)))))
      else
        (bif decide (asI (asA r2.fst 0) = 16) then
          (Option.bind (Γ 35 [AV.pb 0 0, AV.S (asS (asA r3.fst 1))] [AV.nbx 9 (lstG [nI (asI (asA r2.fst 0)), nI 0, nI (asI (asA r4.fst 0)), nI (-1), AV.S ByteArray.empty, nI 0, nI 0, AV.S ByteArray.empty, AV.own 0 3 fun x => lstG [nI 0, nI 0, AV.S ByteArray.empty]])]) fun r8 =>
          Option.bind (Γ 7 [AV.ag 9 (lstG [nI (asI (asA (r8.snd.headD AV.bad) 0)), nI (asI (asA (r8.snd.headD AV.bad) 1)), nI (asI (asA (r8.snd.headD AV.bad) 2)), nI (asI (asA (r8.snd.headD AV.bad) 3)), AV.S (asS (asA (r8.snd.headD AV.bad) 4)), nI (asI (asA (r8.snd.headD AV.bad) 5)), nI (asI (asA (r8.snd.headD AV.bad) 6)), AV.S (asS (asA (r8.snd.headD AV.bad) 7)), vslTermS (asA (r8.snd.headD AV.bad) 8)])] []) fun r9 =>
          bif !asB (asA r9.fst 1) then
            (bif bif bif okT then true else false then true else false then
              (some (AV.tup 2 (lstG [AV.ag 9 (lstG [nI 0, nI 0, nI 0, nI 0, AV.S ByteArray.empty, nI 0, nI 0, AV.S ByteArray.empty, AV.own 0 3 fun i => lstG [nI 0, nI 0, AV.S ByteArray.empty]]), AV.B false]), []))
            else
              (none))
          else
            (bif !(asS (asA r9.fst 0)).toList == s.toList then
              (bif bif bif okT then true else false then true else false then
                (some (AV.tup 2 (lstG [AV.ag 9 (lstG [nI 0, nI 0, nI 0, nI 0, AV.S ByteArray.empty, nI 0, nI 0, AV.S ByteArray.empty, AV.own 0 3 fun i => lstG [nI 0, nI 0, AV.S ByteArray.empty]]), AV.B false]), []))
              else
                (none))
            else
              (bif bif bif okT then true else false then true else false then
                (some (AV.tup 2 (lstG [AV.ag 9 (lstG [nI (asI (asA (r8.snd.headD AV.bad) 0)), nI (asI (asA (r8.snd.headD AV.bad) 1)), nI (asI (asA (r8.snd.headD AV.bad) 2)), nI (asI (asA (r8.snd.headD AV.bad) 3)), AV.S (asS (asA (r8.snd.headD AV.bad) 4)), nI (asI (asA (r8.snd.headD AV.bad) 5)), nI (asI (asA (r8.snd.headD AV.bad) 6)), AV.S (asS (asA (r8.snd.headD AV.bad) 7)), vowTermS (asA (r8.snd.headD AV.bad) 8)]), AV.B true]), []))
              else
                (none))))
        else
          (Option.bind (Γ 35 [AV.pb 0 0, AV.S (asS (asA r3.fst 1))] [AV.nbx 9 (lstG [nI (asI (asA r2.fst 0)), nI (asI (asA r4.fst 0)), nI (asI (asA r2.fst 1)), nI (-1), AV.S ByteArray.empty, nI 0, nI 0, AV.S ByteArray.empty, AV.own 0 3 fun x => lstG [nI 0, nI 0, AV.S ByteArray.empty]])]) fun r8 =>
          Option.bind (Γ 7 [AV.ag 9 (lstG [nI (asI (asA (r8.snd.headD AV.bad) 0)), nI (asI (asA (r8.snd.headD AV.bad) 1)), nI (asI (asA (r8.snd.headD AV.bad) 2)), nI (asI (asA (r8.snd.headD AV.bad) 3)), AV.S (asS (asA (r8.snd.headD AV.bad) 4)), nI (asI (asA (r8.snd.headD AV.bad) 5)), nI (asI (asA (r8.snd.headD AV.bad) 6)), AV.S (asS (asA (r8.snd.headD AV.bad) 7)), vslTermS (asA (r8.snd.headD AV.bad) 8)])] []) fun r9 =>
          bif !asB (asA r9.fst 1) then
            (bif bif bif okT then true else false then true else false then
              (some (AV.tup 2 (lstG [AV.ag 9 (lstG [nI 0, nI 0, nI 0, nI 0, AV.S ByteArray.empty, nI 0, nI 0, AV.S ByteArray.empty, AV.own 0 3 fun i => lstG [nI 0, nI 0, AV.S ByteArray.empty]]), AV.B false]), []))
            else
              (none))
          else
            (bif !(asS (asA r9.fst 0)).toList == s.toList then
              (bif bif bif okT then true else false then true else false then
                (some (AV.tup 2 (lstG [AV.ag 9 (lstG [nI 0, nI 0, nI 0, nI 0, AV.S ByteArray.empty, nI 0, nI 0, AV.S ByteArray.empty, AV.own 0 3 fun i => lstG [nI 0, nI 0, AV.S ByteArray.empty]]), AV.B false]), []))
              else
                (none))
            else
              (bif bif bif okT then true else false then true else false then
                (some (AV.tup 2 (lstG [AV.ag 9 (lstG [nI (asI (asA (r8.snd.headD AV.bad) 0)), nI (asI (asA (r8.snd.headD AV.bad) 1)), nI (asI (asA (r8.snd.headD AV.bad) 2)), nI (asI (asA (r8.snd.headD AV.bad) 3)), AV.S (asS (asA (r8.snd.headD AV.bad) 4)), nI (asI (asA (r8.snd.headD AV.bad) 5)), nI (asI (asA (r8.snd.headD AV.bad) 6)), AV.S (asS (asA (r8.snd.headD AV.bad) 7)), vowTermS (asA (r8.snd.headD AV.bad) 8)]), AV.B true]), []))
              else
                (none))))))) := by kernel_rfl
theorem e70 (Γ : Orc) (H : Hd) (s : ByteArray) : ent Tryz.prog cfg Γ 69 H [.S s] [] =
  H [true, false, true] (hdS [(0, AV.S s), (4, nI 0)] [] []) := by kernel_rfl
end Go.Fw
