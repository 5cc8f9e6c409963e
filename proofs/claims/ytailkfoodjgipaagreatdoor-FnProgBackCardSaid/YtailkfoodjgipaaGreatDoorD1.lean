/- Trees of the drawing functions' bodies, as printed by the framework's evaluation. -/
import Derived.Test.YtailkfoodjgipaaGreatDoorProg
import Derived.Test.YtailkfoodjgipaaGreatDoorFyB
import Derived.KernelRfl
import Derived.Test.YtailkfoodjgipaaGreatDoorK
set_option linter.unusedVariables false
set_option maxRecDepth 100000
namespace Go.Fw
open Go.Proofs
open Classical in
noncomputable def okX : Bool := decide (∀ _i : Nat, (bif okT then bif okT then true else false else false) = true)
theorem okX_eq : okX = true := by unfold okX; rw [okT_eq]; simp
theorem de5 (Γ : Orc) (H : Hd) (cs : List Int) : ent Tryz.prog cfg Γ 5 H [.gv cs] [] =
  some (AV.B (decide (1048576 < zN cs.length)), []) := by kernel_rfl
theorem de18 (Γ : Orc) (H : Hd) (cs : List Int) : ent Tryz.prog cfg Γ 18 H [.gv cs] [] =
  H [true, true, false, true] (hdS [(0, AV.gv cs), (3, nI (IntKind.i64.wrap (98098 + zN cs.length))), (4, nI 0)] [] []) := by kernel_rfl
theorem dh18 (Γ : Orc) (H : Hd) (cs : List Int) (h i : Int) : hed Tryz.prog cfg Γ 18 H [] [true, true, false, true] (hdS [(0, .gv cs), (3, nI h), (4, nI i)] [] []) =
  bif decide (i < zN cs.length) then
    (bif decide (i < 4000) then
      (bif bif decide (0 ≤ i) then decide (i < zN cs.length) else false then
        (H [true, true, false, true] (hdS [(0, AV.gv cs), (3, nI (IntKind.i64.wrap (zN (BitVec.ofInt 64 (IntKind.i64.wrap (IntKind.i64.wrap (IntKind.i64.wrap (h * 131) + IntKind.i64.wrap (cs.getD i.toNat 0)) + 7)) &&& BitVec.ofInt 64 1073741823).toNat))), (4, nI (IntKind.i64.wrap (i + 1)))] [] []))
      else
        (none))
    else
      (some (AV.nbx 3 (lstG [AV.gv cs, nI 0, nI h]), [])))
  else
    (some (AV.nbx 3 (lstG [AV.gv cs, nI 0, nI h]), [])) := by kernel_rfl
theorem de74 (Γ : Orc) (H : Hd) (cs : List Int) (i h : Int) : ent Tryz.prog cfg Γ 74 H [.pb 0 0] [.nbx 3 (lstG [.gv cs, nI i, nI h])] =
  and2
  (bif decide (i < zN cs.length) then
      (bif bif decide (0 ≤ i) then decide (i < zN cs.length) else false then
        (some (nI (IntKind.i64.wrap (zN (BitVec.ofInt 64 (IntKind.i64.wrap (IntKind.i64.wrap (zN (BitVec.ofInt 64 (IntKind.i64.wrap (zN (BitVec.ofInt 64 ((IntKind.i64.wrap (IntKind.i64.wrap (h * 6364136223846793005) + 1442695040888963407)).fdiv 8589934592) ^^^ BitVec.ofInt 64 ((IntKind.i64.wrap (IntKind.i64.wrap (h * 6364136223846793005) + 1442695040888963407)).fdiv 35184372088832)).toNat)) &&& BitVec.ofInt 64 255).toNat) + IntKind.i64.wrap (cs.getD i.toNat 0))) &&& BitVec.ofInt 64 255).toNat)), [AV.nbx 3 (lstG [AV.gv cs, nI (IntKind.i64.wrap (i + 1)), nI (IntKind.i64.wrap (IntKind.i64.wrap (h * 6364136223846793005) + 1442695040888963407))])]))
      else
        (none))
    else
      (some (nI (IntKind.i64.wrap (zN (BitVec.ofInt 64 (IntKind.i64.wrap (zN (BitVec.ofInt 64 ((IntKind.i64.wrap (IntKind.i64.wrap (h * 6364136223846793005) + 1442695040888963407)).fdiv 8589934592) ^^^ BitVec.ofInt 64 ((IntKind.i64.wrap (IntKind.i64.wrap (h * 6364136223846793005) + 1442695040888963407)).fdiv 35184372088832)).toNat)) &&& BitVec.ofInt 64 255).toNat)), [AV.nbx 3 (lstG [AV.gv cs, nI i, nI (IntKind.i64.wrap (IntKind.i64.wrap (h * 6364136223846793005) + 1442695040888963407))])])))
  (bif decide (i < zN cs.length) then
      (bif bif decide (0 ≤ i) then decide (i < zN cs.length) else false then
        (some (nI (IntKind.i64.wrap (zN (BitVec.ofInt 64 (IntKind.i64.wrap (IntKind.i64.wrap (zN (BitVec.ofInt 64 (IntKind.i64.wrap (zN (BitVec.ofInt 64 ((IntKind.i64.wrap (IntKind.i64.wrap (h * 6364136223846793005) + 1442695040888963407)).fdiv 8589934592) ^^^ BitVec.ofInt 64 ((IntKind.i64.wrap (IntKind.i64.wrap (h * 6364136223846793005) + 1442695040888963407)).fdiv 35184372088832)).toNat)) &&& BitVec.ofInt 64 255).toNat) + IntKind.i64.wrap (cs.getD i.toNat 0))) &&& BitVec.ofInt 64 255).toNat)), [AV.nbx 3 (lstG [AV.gv cs, nI (IntKind.i64.wrap (i + 1)), nI (IntKind.i64.wrap (IntKind.i64.wrap (h * 6364136223846793005) + 1442695040888963407))])]))
      else
        (none))
    else
      (some (nI (IntKind.i64.wrap (zN (BitVec.ofInt 64 (IntKind.i64.wrap (zN (BitVec.ofInt 64 ((IntKind.i64.wrap (IntKind.i64.wrap (h * 6364136223846793005) + 1442695040888963407)).fdiv 8589934592) ^^^ BitVec.ofInt 64 ((IntKind.i64.wrap (IntKind.i64.wrap (h * 6364136223846793005) + 1442695040888963407)).fdiv 35184372088832)).toNat)) &&& BitVec.ofInt 64 255).toNat)), [AV.nbx 3 (lstG [AV.gv cs, nI i, nI (IntKind.i64.wrap (IntKind.i64.wrap (h * 6364136223846793005) + 1442695040888963407))])]))) := by kernel_rfl
theorem de41 (Γ : Orc) (H : Hd) (cs : List Int) (i h : Int) (n : Int) : ent Tryz.prog cfg Γ 41 H [.pb 0 0, nI n] [.nbx 3 (lstG [.gv cs, nI i, nI h])] =
  bif decide (n ≤ 0) then
    (some (nI 0, [AV.nbx 3 (lstG [AV.gv cs, nI i, nI h])]))
  else
    (bif decide (n ≤ 256) then
      (Option.bind (Γ 74 [AV.pb 0 0] [AV.nbx 3 (lstG [AV.gv cs, nI i, nI h])]) fun r2 =>
      bif !decide (n = 0) then
        (some (nI ((asI r2.fst).tmod n), [AV.nbx 3 (lstG [AV.gv (asV (asA (r2.snd.headD AV.bad) 0)), nI (asI (asA (r2.snd.headD AV.bad) 1)), nI (asI (asA (r2.snd.headD AV.bad) 2))])]))
      else
        (none))
    else
      (Option.bind (Γ 74 [AV.pb 0 0] [AV.nbx 3 (lstG [AV.gv cs, nI i, nI h])]) fun r2 =>
      Option.bind (Γ 74 [AV.pb 0 0] [AV.nbx 3 (lstG [AV.gv (asV (asA (r2.snd.headD AV.bad) 0)), nI (asI (asA (r2.snd.headD AV.bad) 1)), nI (asI (asA (r2.snd.headD AV.bad) 2))])]) fun r3 =>
      Option.bind (Γ 74 [AV.pb 0 0] [AV.nbx 3 (lstG [AV.gv (asV (asA (r3.snd.headD AV.bad) 0)), nI (asI (asA (r3.snd.headD AV.bad) 1)), nI (asI (asA (r3.snd.headD AV.bad) 2))])]) fun r4 =>
      Option.bind (Γ 74 [AV.pb 0 0] [AV.nbx 3 (lstG [AV.gv (asV (asA (r4.snd.headD AV.bad) 0)), nI (asI (asA (r4.snd.headD AV.bad) 1)), nI (asI (asA (r4.snd.headD AV.bad) 2))])]) fun r5 =>
      bif !decide (n = 0) then
        (some (nI ((IntKind.i64.wrap (IntKind.i64.wrap (IntKind.i64.wrap (IntKind.i64.wrap (asI r2.fst * 16777216) + IntKind.i64.wrap (asI r3.fst * 65536)) + IntKind.i64.wrap (asI r4.fst * 256)) + asI r5.fst)).tmod n), [AV.nbx 3 (lstG [AV.gv (asV (asA (r5.snd.headD AV.bad) 0)), nI (asI (asA (r5.snd.headD AV.bad) 1)), nI (asI (asA (r5.snd.headD AV.bad) 2))])]))
      else
        (none))) := by kernel_rfl
theorem de20 (Γ : Orc) (H : Hd) (cs : List Int) (i h : Int) (n : Int) : ent Tryz.prog cfg Γ 20 H [.pb 0 0, nI n] [.nbx 3 (lstG [.gv cs, nI i, nI h])] =
  Option.bind (Γ 41 [AV.pb 0 0, nI n] [AV.nbx 3 (lstG [AV.gv cs, nI i, nI h])]) fun r0 =>
  some (AV.B (decide (asI r0.fst = 0)), [AV.nbx 3 (lstG [AV.gv (asV (asA (r0.snd.headD AV.bad) 0)), nI (asI (asA (r0.snd.headD AV.bad) 1)), nI (asI (asA (r0.snd.headD AV.bad) 2))])]) := by kernel_rfl
theorem de21 (Γ : Orc) (H : Hd) (cs : List Int) (i h : Int) (n : Nat) (q : Nat → Int) : ent Tryz.prog cfg Γ 21 H [.pb 0 0, .sl n 1 (fun k => lstG [nI (q k)])] [.nbx 3 (lstG [.gv cs, nI i, nI h])] =
  Option.bind (Γ 41 [AV.pb 0 0, nI (zN n)] [AV.nbx 3 (lstG [AV.gv cs, nI i, nI h])]) fun r0 =>
  bif bif decide (0 ≤ asI r0.fst) then decide (asI r0.fst < zN n) else false then
    (some (nI (q (asI r0.fst).toNat), [AV.nbx 3 (lstG [AV.gv (asV (asA (r0.snd.headD AV.bad) 0)), nI (asI (asA (r0.snd.headD AV.bad) 1)), nI (asI (asA (r0.snd.headD AV.bad) 2))])]))
  else
    (none) := by kernel_rfl
theorem de68 (Γ : Orc) (H : Hd) (cs : List Int) (i h : Int) (n : Nat) (q : Nat → ByteArray) : ent Tryz.prog cfg Γ 68 H [.pb 0 0, .sl n 1 (fun k => lstG [.S (q k)])] [.nbx 3 (lstG [.gv cs, nI i, nI h])] =
  Option.bind (Γ 41 [AV.pb 0 0, nI (zN n)] [AV.nbx 3 (lstG [AV.gv cs, nI i, nI h])]) fun r0 =>
  bif bif decide (0 ≤ asI r0.fst) then decide (asI r0.fst < zN n) else false then
    (some (AV.S (q (asI r0.fst).toNat), [AV.nbx 3 (lstG [AV.gv (asV (asA (r0.snd.headD AV.bad) 0)), nI (asI (asA (r0.snd.headD AV.bad) 1)), nI (asI (asA (r0.snd.headD AV.bad) 2))])]))
  else
    (none) := by kernel_rfl
theorem de75 (Γ : Orc) (H : Hd) (cs : List Int) (i h : Int) : ent Tryz.prog cfg Γ 75 H [.pb 0 0] [.nbx 3 (lstG [.gv cs, nI i, nI h])] =
  Option.bind (Γ 20 [AV.pb 0 0, nI 3] [AV.nbx 3 (lstG [AV.gv cs, nI i, nI h])]) fun r0 =>
  bif asB r0.fst then
    (Option.bind (Γ 68 [AV.pb 0 0, AV.sl 8 1 fun i => lstG [AV.S (bif decide (i = 0) then ByteArray.empty else bif decide (i - 1 = 0) then (bs [97]) else bif decide (i - 1 - 1 = 0) then (bs [97, 98]) else bif decide (i - 1 - 1 - 1 = 0) then (bs [97, 98, 99]) else bif decide (i - 1 - 1 - 1 - 1 = 0) then (bs [98]) else bif decide (i - 1 - 1 - 1 - 1 - 1 = 0) then (bs [104, 101, 108, 108, 111]) else bif decide (i - 1 - 1 - 1 - 1 - 1 - 1 = 0) then (bs [120, 32, 121]) else bif decide (i - 1 - 1 - 1 - 1 - 1 - 1 - 1 = 0) then (bs [48, 49, 50, 51, 52, 53, 54, 55, 56, 57, 48, 49, 50, 51, 52, 53, 54, 55, 56, 57, 48, 49, 50, 51, 52, 53, 54, 55, 56, 57, 48, 49, 50, 51, 52, 53, 54, 55, 56, 57]) else ByteArray.empty)]] [AV.nbx 3 (lstG [AV.gv (asV (asA (r0.snd.headD AV.bad) 0)), nI (asI (asA (r0.snd.headD AV.bad) 1)), nI (asI (asA (r0.snd.headD AV.bad) 2))])]) fun r2 =>
    some (AV.ag 3 (lstG [nI 2, nI 0, AV.S (asS r2.fst)]), [AV.nbx 3 (lstG [AV.gv (asV (asA (r2.snd.headD AV.bad) 0)), nI (asI (asA (r2.snd.headD AV.bad) 1)), nI (asI (asA (r2.snd.headD AV.bad) 2))])]))
  else
    (Option.bind (Γ 41 [AV.pb 0 0, nI 40] [AV.nbx 3 (lstG [AV.gv (asV (asA (r0.snd.headD AV.bad) 0)), nI (asI (asA (r0.snd.headD AV.bad) 1)), nI (asI (asA (r0.snd.headD AV.bad) 2))])]) fun r2 =>
    Option.bind (Γ 20 [AV.pb 0 0, nI 12] [AV.nbx 3 (lstG [AV.gv (asV (asA (r2.snd.headD AV.bad) 0)), nI (asI (asA (r2.snd.headD AV.bad) 1)), nI (asI (asA (r2.snd.headD AV.bad) 2))])]) fun r3 =>
    bif asB r3.fst then
      (Option.bind (Γ 21 [AV.pb 0 0, AV.sl 3 1 fun i => lstG [nI (bif decide (i = 0) then 999999999 else bif decide (i - 1 = 0) then -999999999 else bif decide (i - 1 - 1 = 0) then 999999998 else 0)]] [AV.nbx 3 (lstG [AV.gv (asV (asA (r3.snd.headD AV.bad) 0)), nI (asI (asA (r3.snd.headD AV.bad) 1)), nI (asI (asA (r3.snd.headD AV.bad) 2))])]) fun r5 =>
      some (AV.ag 3 (lstG [nI 1, nI (asI r5.fst), AV.S ByteArray.empty]), [AV.nbx 3 (lstG [AV.gv (asV (asA (r5.snd.headD AV.bad) 0)), nI (asI (asA (r5.snd.headD AV.bad) 1)), nI (asI (asA (r5.snd.headD AV.bad) 2))])]))
    else
      (some (AV.ag 3 (lstG [nI 1, nI (IntKind.i64.wrap (asI r2.fst - 10)), AV.S ByteArray.empty]), [AV.nbx 3 (lstG [AV.gv (asV (asA (r3.snd.headD AV.bad) 0)), nI (asI (asA (r3.snd.headD AV.bad) 1)), nI (asI (asA (r3.snd.headD AV.bad) 2))])]))) := by kernel_rfl
theorem de43 (Γ : Orc) (H : Hd) (cs : List Int) (i h : Int) : ent Tryz.prog cfg Γ 43 H [.pb 0 0] [.nbx 3 (lstG [.gv cs, nI i, nI h])] =
  Option.bind (Γ 75 [AV.pb 0 0] [AV.nbx 3 (lstG [AV.gv cs, nI i, nI h])]) fun r0 =>
  Option.bind (Γ 20 [AV.pb 0 0, nI 6] [AV.nbx 3 (lstG [AV.gv (asV (asA (r0.snd.headD AV.bad) 0)), nI (asI (asA (r0.snd.headD AV.bad) 1)), nI (asI (asA (r0.snd.headD AV.bad) 2))])]) fun r1 =>
  bif asB r1.fst then
    (Option.bind (Γ 41 [AV.pb 0 0, nI 5] [AV.nbx 3 (lstG [AV.gv (asV (asA (r1.snd.headD AV.bad) 0)), nI (asI (asA (r1.snd.headD AV.bad) 1)), nI (asI (asA (r1.snd.headD AV.bad) 2))])]) fun r3 =>
    bif decide (asI r3.fst = 0) then
      (Option.bind (Γ 41 [AV.pb 0 0, nI 5] [AV.nbx 3 (lstG [AV.gv (asV (asA (r3.snd.headD AV.bad) 0)), nI (asI (asA (r3.snd.headD AV.bad) 1)), nI (asI (asA (r3.snd.headD AV.bad) 2))])]) fun r5 =>
      some (AV.ag 3 (lstG [nI (IntKind.i64.wrap (asI r5.fst - 1)), nI (asI (asA r0.fst 1)), AV.S (asS (asA r0.fst 2))]), [AV.nbx 3 (lstG [AV.gv (asV (asA (r5.snd.headD AV.bad) 0)), nI (asI (asA (r5.snd.headD AV.bad) 1)), nI (asI (asA (r5.snd.headD AV.bad) 2))])]))
    else
      (bif decide (asI r3.fst = 1) then
        (Option.bind (Γ 21 [AV.pb 0 0, AV.sl 3 1 fun i => lstG [nI (bif decide (i = 0) then 1000000000 else bif decide (i - 1 = 0) then -1000000000 else bif decide (i - 1 - 1 = 0) then 1 else 0)]] [AV.nbx 3 (lstG [AV.gv (asV (asA (r3.snd.headD AV.bad) 0)), nI (asI (asA (r3.snd.headD AV.bad) 1)), nI (asI (asA (r3.snd.headD AV.bad) 2))])]) fun r6 =>
        some (AV.ag 3 (lstG [nI (asI (asA r0.fst 0)), nI (asI r6.fst), AV.S (asS (asA r0.fst 2))]), [AV.nbx 3 (lstG [AV.gv (asV (asA (r6.snd.headD AV.bad) 0)), nI (asI (asA (r6.snd.headD AV.bad) 1)), nI (asI (asA (r6.snd.headD AV.bad) 2))])]))
      else
        (bif decide (asI r3.fst = 2) then
          (bif decide ((asS (asA r0.fst 2)).size + 1 ≤ 4294967296) then
            (some (AV.ag 3 (lstG [nI (asI (asA r0.fst 0)), nI (asI (asA r0.fst 1)), AV.S (asS (asA r0.fst 2) ++ (bs [34]))]), [AV.nbx 3 (lstG [AV.gv (asV (asA (r3.snd.headD AV.bad) 0)), nI (asI (asA (r3.snd.headD AV.bad) 1)), nI (asI (asA (r3.snd.headD AV.bad) 2))])]))
          else
            (none))
        else
          (bif decide (asI r3.fst = 3) then
            (bif decide ((asS (asA r0.fst 2)).size + 1 ≤ 4294967296) then
              (some (AV.ag 3 (lstG [nI (asI (asA r0.fst 0)), nI (asI (asA r0.fst 1)), AV.S (asS (asA r0.fst 2) ++ (bs [10]))]), [AV.nbx 3 (lstG [AV.gv (asV (asA (r3.snd.headD AV.bad) 0)), nI (asI (asA (r3.snd.headD AV.bad) 1)), nI (asI (asA (r3.snd.headD AV.bad) 2))])]))
            else
              (none))
          else
            (some (AV.ag 3 (lstG [nI (asI (asA r0.fst 0)), nI (asI (asA r0.fst 1)), AV.S (bs [48, 49, 50, 51, 52, 53, 54, 55, 56, 57, 48, 49, 50, 51, 52, 53, 54, 55, 56, 57, 48, 49, 50, 51, 52, 53, 54, 55, 56, 57, 48, 49, 50, 51, 52, 53, 54, 55, 56, 57, 48])]), [AV.nbx 3 (lstG [AV.gv (asV (asA (r3.snd.headD AV.bad) 0)), nI (asI (asA (r3.snd.headD AV.bad) 1)), nI (asI (asA (r3.snd.headD AV.bad) 2))])]))))))
  else
    (some (AV.ag 3 (lstG [nI (asI (asA r0.fst 0)), nI (asI (asA r0.fst 1)), AV.S (asS (asA r0.fst 2))]), [AV.nbx 3 (lstG [AV.gv (asV (asA (r1.snd.headD AV.bad) 0)), nI (asI (asA (r1.snd.headD AV.bad) 1)), nI (asI (asA (r1.snd.headD AV.bad) 2))])])) := by kernel_rfl
theorem de90 (Γ : Orc) (H : Hd) (cs : List Int) (i h : Int) : ent Tryz.prog cfg Γ 90 H [.pb 0 0] [.nbx 3 (lstG [.gv cs, nI i, nI h])] =
  Option.bind (Γ 41 [AV.pb 0 0, nI 7] [AV.nbx 3 (lstG [AV.gv cs, nI i, nI h])]) fun r0 =>
  bif decide (asI r0.fst = 0) then
    (some (AV.ag 3 (lstG [nI 1, nI 0, AV.S ByteArray.empty]), [AV.nbx 3 (lstG [AV.gv (asV (asA (r0.snd.headD AV.bad) 0)), nI (asI (asA (r0.snd.headD AV.bad) 1)), nI (asI (asA (r0.snd.headD AV.bad) 2))])]))
  else
    (bif decide (asI r0.fst = 1) then
      (some (AV.ag 3 (lstG [nI 2, nI 0, AV.S ByteArray.empty]), [AV.nbx 3 (lstG [AV.gv (asV (asA (r0.snd.headD AV.bad) 0)), nI (asI (asA (r0.snd.headD AV.bad) 1)), nI (asI (asA (r0.snd.headD AV.bad) 2))])]))
    else
      (bif decide (asI r0.fst = 2) then
        (some (AV.ag 3 (lstG [nI 3, nI 0, AV.S ByteArray.empty]), [AV.nbx 3 (lstG [AV.gv (asV (asA (r0.snd.headD AV.bad) 0)), nI (asI (asA (r0.snd.headD AV.bad) 1)), nI (asI (asA (r0.snd.headD AV.bad) 2))])]))
      else
        (bif decide (asI r0.fst = 3) then
          (Option.bind (Γ 41 [AV.pb 0 0, nI 30] [AV.nbx 3 (lstG [AV.gv (asV (asA (r0.snd.headD AV.bad) 0)), nI (asI (asA (r0.snd.headD AV.bad) 1)), nI (asI (asA (r0.snd.headD AV.bad) 2))])]) fun r5 =>
          some (AV.ag 3 (lstG [nI 4, nI (IntKind.i64.wrap (asI r5.fst - 6)), AV.S ByteArray.empty]), [AV.nbx 3 (lstG [AV.gv (asV (asA (r5.snd.headD AV.bad) 0)), nI (asI (asA (r5.snd.headD AV.bad) 1)), nI (asI (asA (r5.snd.headD AV.bad) 2))])]))
        else
          (bif decide (asI r0.fst = 4) then
            (Option.bind (Γ 41 [AV.pb 0 0, nI 5] [AV.nbx 3 (lstG [AV.gv (asV (asA (r0.snd.headD AV.bad) 0)), nI (asI (asA (r0.snd.headD AV.bad) 1)), nI (asI (asA (r0.snd.headD AV.bad) 2))])]) fun r6 =>
            some (AV.ag 3 (lstG [nI 5, nI (IntKind.i64.wrap (1 + asI r6.fst)), AV.S ByteArray.empty]), [AV.nbx 3 (lstG [AV.gv (asV (asA (r6.snd.headD AV.bad) 0)), nI (asI (asA (r6.snd.headD AV.bad) 1)), nI (asI (asA (r6.snd.headD AV.bad) 2))])]))
          else
            (bif decide (asI r0.fst = 5) then
              (Option.bind (Γ 68 [AV.pb 0 0, AV.sl 3 1 fun i => lstG [AV.S (bif decide (i = 0) then (bs [97]) else bif decide (i - 1 = 0) then (bs [97, 98]) else bif decide (i - 1 - 1 = 0) then (bs [104]) else ByteArray.empty)]] [AV.nbx 3 (lstG [AV.gv (asV (asA (r0.snd.headD AV.bad) 0)), nI (asI (asA (r0.snd.headD AV.bad) 1)), nI (asI (asA (r0.snd.headD AV.bad) 2))])]) fun r7 =>
              some (AV.ag 3 (lstG [nI 6, nI 0, AV.S (asS r7.fst)]), [AV.nbx 3 (lstG [AV.gv (asV (asA (r7.snd.headD AV.bad) 0)), nI (asI (asA (r7.snd.headD AV.bad) 1)), nI (asI (asA (r7.snd.headD AV.bad) 2))])]))
            else
              (Option.bind (Γ 68 [AV.pb 0 0, AV.sl 4 1 fun i => lstG [AV.S (bif decide (i = 0) then (bs [98]) else bif decide (i - 1 = 0) then (bs [108]) else bif decide (i - 1 - 1 = 0) then (bs [101, 108, 108]) else bif decide (i - 1 - 1 - 1 = 0) then (bs [122]) else ByteArray.empty)]] [AV.nbx 3 (lstG [AV.gv (asV (asA (r0.snd.headD AV.bad) 0)), nI (asI (asA (r0.snd.headD AV.bad) 1)), nI (asI (asA (r0.snd.headD AV.bad) 2))])]) fun r7 =>
              some (AV.ag 3 (lstG [nI 7, nI 0, AV.S (asS r7.fst)]), [AV.nbx 3 (lstG [AV.gv (asV (asA (r7.snd.headD AV.bad) 0)), nI (asI (asA (r7.snd.headD AV.bad) 1)), nI (asI (asA (r7.snd.headD AV.bad) 2))])]))))))) := by kernel_rfl
theorem de73 (Γ : Orc) (H : Hd) (cs : List Int) (i h : Int) (n : Int) : ent Tryz.prog cfg Γ 73 H [.pb 0 0, nI n] [.nbx 3 (lstG [.gv cs, nI i, nI h])] =
  Option.bind (Γ 41 [AV.pb 0 0, nI (IntKind.i64.wrap (n + 1))] [AV.nbx 3 (lstG [AV.gv cs, nI i, nI h])]) fun r0 =>
  H [true, true, true, false, true] (hdS [(0, AV.pb 0 0), (5, AV.rf 4096000), (6, nI (asI r0.fst)), (7, nI 0)] [(4096000, ⟨0, 3, fun i => lstG [nI 0, nI 0, AV.S ByteArray.empty]⟩)] [(0, 3, [AV.gv (asV (asA (r0.snd.headD AV.bad) 0)), nI (asI (asA (r0.snd.headD AV.bad) 1)), nI (asI (asA (r0.snd.headD AV.bad) 2))])]) := by kernel_rfl
theorem dh73 (Γ : Orc) (H : Hd) (cs : List Int) (i h : Int) (i0 h0 : Int) (ts : List VTerm) (n j : Int) : hed Tryz.prog cfg Γ 73 H [.nbx 3 (lstG [.gv cs, nI i0, nI h0])] [true, true, true, false, true] (hdS [(0, .pb 0 0), (5, .rf 4096000), (6, nI n), (7, nI j)] [(4096000, ⟨ts.length, 3, gsTermS ts⟩)] [(0, 3, [.gv cs, nI i, nI h])]) =
  bif decide (j < n) then
    (bif decide (j = 0) then
      (Option.bind (Γ 90 [AV.pb 0 0] [AV.nbx 3 (lstG [AV.gv cs, nI i, nI h])]) fun r2 =>
      bif decide (ts.length + 1 ≤ 4294967296) && true && true && true && true then
        (H [true, true, true, false, true] (hdS [(0, AV.pb 0 0), (5, AV.rf 4096000), (6, nI n), (7, nI (IntKind.i64.wrap (j + 1)))] [(4096000, ⟨ts.length + 1, 3, fun i => lstG [nI (bif decide (i < ts.length) then (ts.getD i zTerm).Op else bif decide (i - ts.length = 0) then asI (asA r2.fst 0) else 0), nI (bif decide (i < ts.length) then (ts.getD i zTerm).Num else bif decide (i - ts.length = 0) then asI (asA r2.fst 1) else 0), AV.S (bif decide (i < ts.length) then (ts.getD i zTerm).Text else bif decide (i - ts.length = 0) then asS (asA r2.fst 2) else ByteArray.empty)]⟩)] [(0, 3, [AV.gv (asV (asA (r2.snd.headD AV.bad) 0)), nI (asI (asA (r2.snd.headD AV.bad) 1)), nI (asI (asA (r2.snd.headD AV.bad) 2))])]))
      else
        (none))
    else
      (Option.bind (Γ 41 [AV.pb 0 0, nI 3] [AV.nbx 3 (lstG [AV.gv cs, nI i, nI h])]) fun r2 =>
      bif decide (asI r2.fst = 0) then
        (bif decide (ts.length + 1 ≤ 4294967296) && true && true && true && true then
          (H [true, true, true, false, true] (hdS [(0, AV.pb 0 0), (5, AV.rf 4096000), (6, nI n), (7, nI (IntKind.i64.wrap (j + 1)))] [(4096000, ⟨ts.length + 1, 3, fun i => lstG [nI (bif decide (i < ts.length) then (ts.getD i zTerm).Op else bif decide (i - ts.length = 0) then 8 else 0), nI (bif decide (i < ts.length) then (ts.getD i zTerm).Num else bif decide (i - ts.length = 0) then 0 else 0), AV.S (bif decide (i < ts.length) then (ts.getD i zTerm).Text else bif decide (i - ts.length = 0) then ByteArray.empty else ByteArray.empty)]⟩)] [(0, 3, [AV.gv (asV (asA (r2.snd.headD AV.bad) 0)), nI (asI (asA (r2.snd.headD AV.bad) 1)), nI (asI (asA (r2.snd.headD AV.bad) 2))])]))
        else
          (none))
      else
        (bif decide (asI r2.fst = 1) then
          (Option.bind (Γ 90 [AV.pb 0 0] [AV.nbx 3 (lstG [AV.gv (asV (asA (r2.snd.headD AV.bad) 0)), nI (asI (asA (r2.snd.headD AV.bad) 1)), nI (asI (asA (r2.snd.headD AV.bad) 2))])]) fun r5 =>
          bif decide (ts.length + 2 ≤ 4294967296) && true && true && true && true then
            (H [true, true, true, false, true] (hdS [(0, AV.pb 0 0), (5, AV.rf 4096000), (6, nI n), (7, nI (IntKind.i64.wrap (j + 1)))] [(4096000, ⟨ts.length + 2, 3, fun i => lstG [nI (bif decide (i < ts.length) then (ts.getD i zTerm).Op else bif decide (i - ts.length = 0) then asI (asA r5.fst 0) else bif decide (i - ts.length - 1 = 0) then 9 else 0), nI (bif decide (i < ts.length) then (ts.getD i zTerm).Num else bif decide (i - ts.length = 0) then asI (asA r5.fst 1) else bif decide (i - ts.length - 1 = 0) then 0 else 0), AV.S (bif decide (i < ts.length) then (ts.getD i zTerm).Text else bif decide (i - ts.length = 0) then asS (asA r5.fst 2) else bif decide (i - ts.length - 1 = 0) then ByteArray.empty else ByteArray.empty)]⟩)] [(0, 3, [AV.gv (asV (asA (r5.snd.headD AV.bad) 0)), nI (asI (asA (r5.snd.headD AV.bad) 1)), nI (asI (asA (r5.snd.headD AV.bad) 2))])]))
          else
            (none))
        else
          (Option.bind (Γ 90 [AV.pb 0 0] [AV.nbx 3 (lstG [AV.gv (asV (asA (r2.snd.headD AV.bad) 0)), nI (asI (asA (r2.snd.headD AV.bad) 1)), nI (asI (asA (r2.snd.headD AV.bad) 2))])]) fun r5 =>
          bif decide (ts.length + 2 ≤ 4294967296) && true && true && true && true then
            (H [true, true, true, false, true] (hdS [(0, AV.pb 0 0), (5, AV.rf 4096000), (6, nI n), (7, nI (IntKind.i64.wrap (j + 1)))] [(4096000, ⟨ts.length + 2, 3, fun i => lstG [nI (bif decide (i < ts.length) then (ts.getD i zTerm).Op else bif decide (i - ts.length = 0) then asI (asA r5.fst 0) else bif decide (i - ts.length - 1 = 0) then 10 else 0), nI (bif decide (i < ts.length) then (ts.getD i zTerm).Num else bif decide (i - ts.length = 0) then asI (asA r5.fst 1) else bif decide (i - ts.length - 1 = 0) then 0 else 0), AV.S (bif decide (i < ts.length) then (ts.getD i zTerm).Text else bif decide (i - ts.length = 0) then asS (asA r5.fst 2) else bif decide (i - ts.length - 1 = 0) then ByteArray.empty else ByteArray.empty)]⟩)] [(0, 3, [AV.gv (asV (asA (r5.snd.headD AV.bad) 0)), nI (asI (asA (r5.snd.headD AV.bad) 1)), nI (asI (asA (r5.snd.headD AV.bad) 2))])]))
          else
            (none)))))
  else
    (bif decide (12 < zN ts.length) then
      (bif decide (1 ≤ zN ts.length) then
        (bif okT then
          (some (AV.own 1 3 fun i => lstG [nI (bif decide (i < 1) then (ts.getD (0 + i) zTerm).Op else (ts.getD ts.length zTerm).Op), nI (bif decide (i < 1) then (ts.getD (0 + i) zTerm).Num else (ts.getD ts.length zTerm).Num), AV.S (bif decide (i < 1) then (ts.getD (0 + i) zTerm).Text else (ts.getD ts.length zTerm).Text)], [AV.nbx 3 (lstG [AV.gv cs, nI i, nI h])]))
        else
          (none))
      else
        (none))
    else
      (bif okT then
        (some (owTermS ts, [AV.nbx 3 (lstG [AV.gv cs, nI i, nI h])]))
      else
        (none))) := by kernel_rfl
theorem de42 (Γ : Orc) (H : Hd) (cs : List Int) (i h : Int) (p0 p2 p3 p4 p5 p6 p7 : Nat) (q0 q2 q3 q4 q5 q6 q7 : Nat → Nat → AV) (p1 p8 : Int) : ent Tryz.prog cfg Γ 42 H [.pb 0 0, .ag 9 (lstG [.sl p0 1 q0, nI p1, .sl p2 1 q2, .sl p3 1 q3, .sl p4 3 q4, .sl p5 1 q5, .sl p6 1 q6, .sl p7 3 q7, nI p8])] [.nbx 3 (lstG [.gv cs, nI i, nI h])] =
  Option.bind (Γ 41 [AV.pb 0 0, nI 19] [AV.nbx 3 (lstG [AV.gv cs, nI i, nI h])]) fun r0 =>
  Option.bind (Γ 20 [AV.pb 0 0, nI 3] [AV.nbx 3 (lstG [AV.gv (asV (asA (r0.snd.headD AV.bad) 0)), nI (asI (asA (r0.snd.headD AV.bad) 1)), nI (asI (asA (r0.snd.headD AV.bad) 2))])]) fun r1 =>
  bif asB r1.fst then
    (Option.bind (Γ 21 [AV.pb 0 0, AV.sl 7 1 fun i => lstG [nI (bif decide (i = 0) then 14 else bif decide (i - 1 = 0) then 15 else bif decide (i - 1 - 1 = 0) then 13 else bif decide (i - 1 - 1 - 1 = 0) then 3 else bif decide (i - 1 - 1 - 1 - 1 = 0) then 1 else bif decide (i - 1 - 1 - 1 - 1 - 1 = 0) then 11 else bif decide (i - 1 - 1 - 1 - 1 - 1 - 1 = 0) then 9 else 0)]] [AV.nbx 3 (lstG [AV.gv (asV (asA (r1.snd.headD AV.bad) 0)), nI (asI (asA (r1.snd.headD AV.bad) 1)), nI (asI (asA (r1.snd.headD AV.bad) 2))])]) fun r3 =>
    Option.bind (Γ 57 [nI (asI r3.fst)] []) fun r4 =>
    bif asB r4.fst then
      (bif decide (0 < zN p0) then
        (Option.bind (Γ 20 [AV.pb 0 0, nI 2] [AV.nbx 3 (lstG [AV.gv (asV (asA (r3.snd.headD AV.bad) 0)), nI (asI (asA (r3.snd.headD AV.bad) 1)), nI (asI (asA (r3.snd.headD AV.bad) 2))])]) fun r7 =>
        bif asB r7.fst then
          (Option.bind (Γ 41 [AV.pb 0 0, nI (zN p0)] [AV.nbx 3 (lstG [AV.gv (asV (asA (r7.snd.headD AV.bad) 0)), nI (asI (asA (r7.snd.headD AV.bad) 1)), nI (asI (asA (r7.snd.headD AV.bad) 2))])]) fun r9 =>
          H [true, true, true, true, false, false] (hdS [(0, AV.pb 0 0), (3, AV.pb 67 0), (4, AV.pb 68 0), (5, AV.pb 69 0), (36, nI (asI r3.fst))] [] [(0, 3, [AV.gv (asV (asA (r9.snd.headD AV.bad) 0)), nI (asI (asA (r9.snd.headD AV.bad) 1)), nI (asI (asA (r9.snd.headD AV.bad) 2))]), (67, 9, [AV.sl p0 1 q0, nI p1, AV.sl p2 1 q2, AV.sl p3 1 q3, AV.sl p4 3 q4, AV.sl p5 1 q5, AV.sl p6 1 q6, AV.sl p7 3 q7, nI p8]), (68, 9, [nI 0, nI 0, nI 0, nI 0, AV.S ByteArray.empty, nI 0, nI 0, AV.S ByteArray.empty, AV.nsl 3 fun x => lstG [nI 0, nI 0, AV.S ByteArray.empty]]), (69, 9, [nI (asI r3.fst), nI 0, nI 0, nI (asI r9.fst), AV.S ByteArray.empty, nI 0, nI 0, AV.S ByteArray.empty, AV.nsl 3 fun x => lstG [nI 0, nI 0, AV.S ByteArray.empty]])]))
        else
          (H [true, true, true, true, false, false] (hdS [(0, AV.pb 0 0), (3, AV.pb 67 0), (4, AV.pb 68 0), (5, AV.pb 69 0), (36, nI (asI r3.fst))] [] [(0, 3, [AV.gv (asV (asA (r7.snd.headD AV.bad) 0)), nI (asI (asA (r7.snd.headD AV.bad) 1)), nI (asI (asA (r7.snd.headD AV.bad) 2))]), (67, 9, [AV.sl p0 1 q0, nI p1, AV.sl p2 1 q2, AV.sl p3 1 q3, AV.sl p4 3 q4, AV.sl p5 1 q5, AV.sl p6 1 q6, AV.sl p7 3 q7, nI p8]), (68, 9, [nI 0, nI 0, nI 0, nI 0, AV.S ByteArray.empty, nI 0, nI 0, AV.S ByteArray.empty, AV.nsl 3 fun x => lstG [nI 0, nI 0, AV.S ByteArray.empty]]), (69, 9, [nI (asI r3.fst), nI 0, nI 0, nI (-1), AV.S ByteArray.empty, nI 0, nI 0, AV.S ByteArray.empty, AV.nsl 3 fun x => lstG [nI 0, nI 0, AV.S ByteArray.empty]])])))
      else
        (H [true, true, true, true, false, false] (hdS [(0, AV.pb 0 0), (3, AV.pb 67 0), (4, AV.pb 68 0), (5, AV.pb 69 0), (36, nI (asI r3.fst))] [] [(0, 3, [AV.gv (asV (asA (r3.snd.headD AV.bad) 0)), nI (asI (asA (r3.snd.headD AV.bad) 1)), nI (asI (asA (r3.snd.headD AV.bad) 2))]), (67, 9, [AV.sl p0 1 q0, nI p1, AV.sl p2 1 q2, AV.sl p3 1 q3, AV.sl p4 3 q4, AV.sl p5 1 q5, AV.sl p6 1 q6, AV.sl p7 3 q7, nI p8]), (68, 9, [nI 0, nI 0, nI 0, nI 0, AV.S ByteArray.empty, nI 0, nI 0, AV.S ByteArray.empty, AV.nsl 3 fun x => lstG [nI 0, nI 0, AV.S ByteArray.empty]]), (69, 9, [nI (asI r3.fst), nI 0, nI 0, nI (-1), AV.S ByteArray.empty, nI 0, nI 0, AV.S ByteArray.empty, AV.nsl 3 fun x => lstG [nI 0, nI 0, AV.S ByteArray.empty]])])))
    else
      (H [true, true, true, true, false, false] (hdS [(0, AV.pb 0 0), (3, AV.pb 67 0), (4, AV.pb 68 0), (5, AV.pb 69 0), (36, nI (asI r3.fst))] [] [(0, 3, [AV.gv (asV (asA (r3.snd.headD AV.bad) 0)), nI (asI (asA (r3.snd.headD AV.bad) 1)), nI (asI (asA (r3.snd.headD AV.bad) 2))]), (67, 9, [AV.sl p0 1 q0, nI p1, AV.sl p2 1 q2, AV.sl p3 1 q3, AV.sl p4 3 q4, AV.sl p5 1 q5, AV.sl p6 1 q6, AV.sl p7 3 q7, nI p8]), (68, 9, [nI 0, nI 0, nI 0, nI 0, AV.S ByteArray.empty, nI 0, nI 0, AV.S ByteArray.empty, AV.nsl 3 fun x => lstG [nI 0, nI 0, AV.S ByteArray.empty]]), (69, 9, [nI (asI r3.fst), nI 0, nI 0, nI (-1), AV.S ByteArray.empty, nI 0, nI 0, AV.S ByteArray.empty, AV.nsl 3 fun x => lstG [nI 0, nI 0, AV.S ByteArray.empty]])])))
  else
    (Option.bind (Γ 57 [nI (IntKind.i64.wrap (1 + asI r0.fst))] []) fun r3 =>
    bif asB r3.fst then
      (bif decide (0 < zN p0) then
        (Option.bind (Γ 20 [AV.pb 0 0, nI 2] [AV.nbx 3 (lstG [AV.gv (asV (asA (r1.snd.headD AV.bad) 0)), nI (asI (asA (r1.snd.headD AV.bad) 1)), nI (asI (asA (r1.snd.headD AV.bad) 2))])]) fun r6 =>
        bif asB r6.fst then
          (Option.bind (Γ 41 [AV.pb 0 0, nI (zN p0)] [AV.nbx 3 (lstG [AV.gv (asV (asA (r6.snd.headD AV.bad) 0)), nI (asI (asA (r6.snd.headD AV.bad) 1)), nI (asI (asA (r6.snd.headD AV.bad) 2))])]) fun r8 =>
          H [true, true, true, true, false, false] (hdS [(0, AV.pb 0 0), (3, AV.pb 67 0), (4, AV.pb 68 0), (5, AV.pb 69 0), (36, nI (IntKind.i64.wrap (1 + asI r0.fst)))] [] [(0, 3, [AV.gv (asV (asA (r8.snd.headD AV.bad) 0)), nI (asI (asA (r8.snd.headD AV.bad) 1)), nI (asI (asA (r8.snd.headD AV.bad) 2))]), (67, 9, [AV.sl p0 1 q0, nI p1, AV.sl p2 1 q2, AV.sl p3 1 q3, AV.sl p4 3 q4, AV.sl p5 1 q5, AV.sl p6 1 q6, AV.sl p7 3 q7, nI p8]), (68, 9, [nI 0, nI 0, nI 0, nI 0, AV.S ByteArray.empty, nI 0, nI 0, AV.S ByteArray.empty, AV.nsl 3 fun x => lstG [nI 0, nI 0, AV.S ByteArray.empty]]), (69, 9, [nI (IntKind.i64.wrap (1 + asI r0.fst)), nI 0, nI 0, nI (asI r8.fst), AV.S ByteArray.empty, nI 0, nI 0, AV.S ByteArray.empty, AV.nsl 3 fun x => lstG [nI 0, nI 0, AV.S ByteArray.empty]])]))
        else
          (H [true, true, true, true, false, false] (hdS [(0, AV.pb 0 0), (3, AV.pb 67 0), (4, AV.pb 68 0), (5, AV.pb 69 0), (36, nI (IntKind.i64.wrap (1 + asI r0.fst)))] [] [(0, 3, [AV.gv (asV (asA (r6.snd.headD AV.bad) 0)), nI (asI (asA (r6.snd.headD AV.bad) 1)), nI (asI (asA (r6.snd.headD AV.bad) 2))]), (67, 9, [AV.sl p0 1 q0, nI p1, AV.sl p2 1 q2, AV.sl p3 1 q3, AV.sl p4 3 q4, AV.sl p5 1 q5, AV.sl p6 1 q6, AV.sl p7 3 q7, nI p8]), (68, 9, [nI 0, nI 0, nI 0, nI 0, AV.S ByteArray.empty, nI 0, nI 0, AV.S ByteArray.empty, AV.nsl 3 fun x => lstG [nI 0, nI 0, AV.S ByteArray.empty]]), (69, 9, [nI (IntKind.i64.wrap (1 + asI r0.fst)), nI 0, nI 0, nI (-1), AV.S ByteArray.empty, nI 0, nI 0, AV.S ByteArray.empty, AV.nsl 3 fun x => lstG [nI 0, nI 0, AV.S ByteArray.empty]])])))
      else
        (H [true, true, true, true, false, false] (hdS [(0, AV.pb 0 0), (3, AV.pb 67 0), (4, AV.pb 68 0), (5, AV.pb 69 0), (36, nI (IntKind.i64.wrap (1 + asI r0.fst)))] [] [(0, 3, [AV.gv (asV (asA (r1.snd.headD AV.bad) 0)), nI (asI (asA (r1.snd.headD AV.bad) 1)), nI (asI (asA (r1.snd.headD AV.bad) 2))]), (67, 9, [AV.sl p0 1 q0, nI p1, AV.sl p2 1 q2, AV.sl p3 1 q3, AV.sl p4 3 q4, AV.sl p5 1 q5, AV.sl p6 1 q6, AV.sl p7 3 q7, nI p8]), (68, 9, [nI 0, nI 0, nI 0, nI 0, AV.S ByteArray.empty, nI 0, nI 0, AV.S ByteArray.empty, AV.nsl 3 fun x => lstG [nI 0, nI 0, AV.S ByteArray.empty]]), (69, 9, [nI (IntKind.i64.wrap (1 + asI r0.fst)), nI 0, nI 0, nI (-1), AV.S ByteArray.empty, nI 0, nI 0, AV.S ByteArray.empty, AV.nsl 3 fun x => lstG [nI 0, nI 0, AV.S ByteArray.empty]])])))
    else
      (H [true, true, true, true, false, false] (hdS [(0, AV.pb 0 0), (3, AV.pb 67 0), (4, AV.pb 68 0), (5, AV.pb 69 0), (36, nI (IntKind.i64.wrap (1 + asI r0.fst)))] [] [(0, 3, [AV.gv (asV (asA (r1.snd.headD AV.bad) 0)), nI (asI (asA (r1.snd.headD AV.bad) 1)), nI (asI (asA (r1.snd.headD AV.bad) 2))]), (67, 9, [AV.sl p0 1 q0, nI p1, AV.sl p2 1 q2, AV.sl p3 1 q3, AV.sl p4 3 q4, AV.sl p5 1 q5, AV.sl p6 1 q6, AV.sl p7 3 q7, nI p8]), (68, 9, [nI 0, nI 0, nI 0, nI 0, AV.S ByteArray.empty, nI 0, nI 0, AV.S ByteArray.empty, AV.nsl 3 fun x => lstG [nI 0, nI 0, AV.S ByteArray.empty]]), (69, 9, [nI (IntKind.i64.wrap (1 + asI r0.fst)), nI 0, nI 0, nI (-1), AV.S ByteArray.empty, nI 0, nI 0, AV.S ByteArray.empty, AV.nsl 3 fun x => lstG [nI 0, nI 0, AV.S ByteArray.empty]])]))) := by kernel_rfl
theorem de40 (Γ : Orc) (H : Hd) (cs : List Int) (i h : Int) (u : Int) : ent Tryz.prog cfg Γ 40 H [.pb 0 0, nI u] [.nbx 3 (lstG [.gv cs, nI i, nI h])] =
  Option.bind (Γ 41 [AV.pb 0 0, nI 2] [AV.nbx 3 (lstG [AV.gv cs, nI i, nI h])]) fun r0 =>
  Option.bind (Γ 41 [AV.pb 0 0, nI 4] [AV.nbx 3 (lstG [AV.gv (asV (asA (r0.snd.headD AV.bad) 0)), nI (asI (asA (r0.snd.headD AV.bad) 1)), nI (asI (asA (r0.snd.headD AV.bad) 2))])]) fun r1 =>
  H [true, true, true, false, true] (hdS [(0, AV.pb 0 0), (4, AV.pb 68 0), (5, AV.pb 69 0), (6, nI (asI r1.fst)), (7, nI 0)] [(4096000, ⟨0, 1, fun i => lstG [nI 0]⟩)] [(0, 3, [AV.gv (asV (asA (r1.snd.headD AV.bad) 0)), nI (asI (asA (r1.snd.headD AV.bad) 1)), nI (asI (asA (r1.snd.headD AV.bad) 2))]), (68, 9, [AV.nsl 1 fun x => lstG [nI 0], nI 0, AV.nsl 1 fun x => lstG [AV.B false], AV.nsl 1 fun x => lstG [nI 0], AV.nsl 3 fun x => lstG [nI 0, nI 0, AV.S ByteArray.empty], AV.nsl 1 fun x => lstG [AV.S ByteArray.empty], AV.nsl 1 fun x => lstG [nI 0], AV.nsl 3 fun x => lstG [AV.own 0 1 fun x => lstG [nI 0], nI 0, AV.own 0 3 fun x => lstG [nI 0, nI 0, AV.S ByteArray.empty]], nI 0]), (69, 9, [AV.rf 4096000, nI (IntKind.i64.wrap (1 + asI r0.fst)), AV.nsl 1 fun x => lstG [AV.B false], AV.nsl 1 fun x => lstG [nI 0], AV.nsl 3 fun x => lstG [nI 0, nI 0, AV.S ByteArray.empty], AV.nsl 1 fun x => lstG [AV.S ByteArray.empty], AV.nsl 1 fun x => lstG [nI 0], AV.nsl 3 fun x => lstG [AV.own 0 1 fun x => lstG [nI 0], nI 0, AV.own 0 3 fun x => lstG [nI 0, nI 0, AV.S ByteArray.empty]], nI u])]) := by kernel_rfl
theorem dh40a (Γ : Orc) (H : Hd) (cs : List Int) (i h : Int) (i0 h0 : Int) (p1 p8 : Int) (n0 : Nat) (x0 : Nat → Int) (n j : Int) : hed Tryz.prog cfg Γ 40 H [.nbx 3 (lstG [.gv cs, nI i0, nI h0])] [true, true, true, false, true] (hdS [(0, .pb 0 0), (4, .pb 68 0), (5, .pb 69 0), (6, nI n), (7, nI j)] [(4096000, ⟨n0, 1, fun k => lstG [nI (x0 k)]⟩)] [(0, 3, [.gv cs, nI i, nI h]), (68, 9, [.nsl 1 (fun _ => lstG [nI 0]), nI 0, .nsl 1 (fun _ => lstG [.B false]), .nsl 1 (fun _ => lstG [nI 0]), .nsl 3 (fun _ => lstG [nI 0, nI 0, .S ByteArray.empty]), .nsl 1 (fun _ => lstG [.S ByteArray.empty]), .nsl 1 (fun _ => lstG [nI 0]), .nsl 3 (fun _ => lstG [.own 0 1 (fun _ => lstG [nI 0]), nI 0, .own 0 3 (fun _ => lstG [nI 0, nI 0, .S ByteArray.empty])]), nI 0]), (69, 9, [.rf 4096000, nI p1, .nsl 1 (fun _ => lstG [.B false]), .nsl 1 (fun _ => lstG [nI 0]), .nsl 3 (fun _ => lstG [nI 0, nI 0, .S ByteArray.empty]), .nsl 1 (fun _ => lstG [.S ByteArray.empty]), .nsl 1 (fun _ => lstG [nI 0]), .nsl 3 (fun _ => lstG [.own 0 1 (fun _ => lstG [nI 0]), nI 0, .own 0 3 (fun _ => lstG [nI 0, nI 0, .S ByteArray.empty])]), nI p8])]) =
  bif decide (j < n) then
    (and2
    (Option.bind (Γ 41 [AV.pb 0 0, nI (IntKind.i64.wrap (j + 1))] [AV.nbx 3 (lstG [AV.gv cs, nI i, nI h])]) fun r2 =>
      bif decide (n0 + 1 ≤ 4294967296) && true && true && true && true then
        (H [true, true, true, false, true] (hdS [(0, AV.pb 0 0), (4, AV.pb 68 0), (5, AV.pb 69 0), (6, nI n), (7, nI (IntKind.i64.wrap (j + 1)))] [(4096000, ⟨n0 + 1, 1, fun i => lstG [nI (bif decide (i < n0) then x0 i else bif decide (i - n0 = 0) then IntKind.i64.wrap (asI r2.fst - 1) else 0)]⟩)] [(0, 3, [AV.gv (asV (asA (r2.snd.headD AV.bad) 0)), nI (asI (asA (r2.snd.headD AV.bad) 1)), nI (asI (asA (r2.snd.headD AV.bad) 2))]), (68, 9, [AV.nsl 1 fun x => lstG [nI 0], nI 0, AV.nsl 1 fun x => lstG [AV.B false], AV.nsl 1 fun x => lstG [nI 0], AV.nsl 3 fun x => lstG [nI 0, nI 0, AV.S ByteArray.empty], AV.nsl 1 fun x => lstG [AV.S ByteArray.empty], AV.nsl 1 fun x => lstG [nI 0], AV.nsl 3 fun x => lstG [AV.own 0 1 fun x => lstG [nI 0], nI 0, AV.own 0 3 fun x => lstG [nI 0, nI 0, AV.S ByteArray.empty]], nI 0]), (69, 9, [AV.rf 4096000, nI p1, AV.nsl 1 fun x => lstG [AV.B false], AV.nsl 1 fun x => lstG [nI 0], AV.nsl 3 fun x => lstG [nI 0, nI 0, AV.S ByteArray.empty], AV.nsl 1 fun x => lstG [AV.S ByteArray.empty], AV.nsl 1 fun x => lstG [nI 0], AV.nsl 3 fun x => lstG [AV.own 0 1 fun x => lstG [nI 0], nI 0, AV.own 0 3 fun x => lstG [nI 0, nI 0, AV.S ByteArray.empty]], nI p8])]))
      else
        (none))
    (Option.bind (Γ 41 [AV.pb 0 0, nI (IntKind.i64.wrap (j + 1))] [AV.nbx 3 (lstG [AV.gv cs, nI i, nI h])]) fun r2 =>
      bif decide (n0 + 1 ≤ 4294967296) && true && true && true && true then
        (H [true, true, true, false, true] (hdS [(0, AV.pb 0 0), (4, AV.pb 68 0), (5, AV.pb 69 0), (6, nI n), (7, nI (IntKind.i64.wrap (j + 1)))] [(4096000, ⟨n0 + 1, 1, fun i => lstG [nI (bif decide (i < n0) then x0 i else bif decide (i - n0 = 0) then IntKind.i64.wrap (asI r2.fst - 1) else 0)]⟩)] [(0, 3, [AV.gv (asV (asA (r2.snd.headD AV.bad) 0)), nI (asI (asA (r2.snd.headD AV.bad) 1)), nI (asI (asA (r2.snd.headD AV.bad) 2))]), (68, 9, [AV.nsl 1 fun x => lstG [nI 0], nI 0, AV.nsl 1 fun x => lstG [AV.B false], AV.nsl 1 fun x => lstG [nI 0], AV.nsl 3 fun x => lstG [nI 0, nI 0, AV.S ByteArray.empty], AV.nsl 1 fun x => lstG [AV.S ByteArray.empty], AV.nsl 1 fun x => lstG [nI 0], AV.nsl 3 fun x => lstG [AV.own 0 1 fun x => lstG [nI 0], nI 0, AV.own 0 3 fun x => lstG [nI 0, nI 0, AV.S ByteArray.empty]], nI 0]), (69, 9, [AV.rf 4096000, nI p1, AV.nsl 1 fun x => lstG [AV.B false], AV.nsl 1 fun x => lstG [nI 0], AV.nsl 3 fun x => lstG [nI 0, nI 0, AV.S ByteArray.empty], AV.nsl 1 fun x => lstG [AV.S ByteArray.empty], AV.nsl 1 fun x => lstG [nI 0], AV.nsl 3 fun x => lstG [AV.own 0 1 fun x => lstG [nI 0], nI 0, AV.own 0 3 fun x => lstG [nI 0, nI 0, AV.S ByteArray.empty]], nI p8])]))
      else
        (none)))
  else
    (and2
    (Option.bind (Γ 20 [AV.pb 0 0, nI 2] [AV.nbx 3 (lstG [AV.gv cs, nI i, nI h])]) fun r2 =>
      H [true, true, true, true, false] (hdS [(0, AV.pb 0 0), (4, AV.pb 68 0), (5, AV.pb 69 0)] [(4096000, ⟨n0, 1, fun i => lstG [nI (x0 i)]⟩), (4104192, ⟨1, 1, fun i => lstG [AV.B (bif decide (i - 0 = 0) then asB r2.fst else false)]⟩)] [(0, 3, [AV.gv (asV (asA (r2.snd.headD AV.bad) 0)), nI (asI (asA (r2.snd.headD AV.bad) 1)), nI (asI (asA (r2.snd.headD AV.bad) 2))]), (68, 9, [AV.nsl 1 fun x => lstG [nI 0], nI 0, AV.nsl 1 fun x => lstG [AV.B false], AV.nsl 1 fun x => lstG [nI 0], AV.nsl 3 fun x => lstG [nI 0, nI 0, AV.S ByteArray.empty], AV.nsl 1 fun x => lstG [AV.S ByteArray.empty], AV.nsl 1 fun x => lstG [nI 0], AV.nsl 3 fun x => lstG [AV.own 0 1 fun x => lstG [nI 0], nI 0, AV.own 0 3 fun x => lstG [nI 0, nI 0, AV.S ByteArray.empty]], nI 0]), (69, 9, [AV.rf 4096000, nI p1, AV.rf 4104192, AV.nsl 1 fun x => lstG [nI 0], AV.nsl 3 fun x => lstG [nI 0, nI 0, AV.S ByteArray.empty], AV.nsl 1 fun x => lstG [AV.S ByteArray.empty], AV.nsl 1 fun x => lstG [nI 0], AV.nsl 3 fun x => lstG [AV.own 0 1 fun x => lstG [nI 0], nI 0, AV.own 0 3 fun x => lstG [nI 0, nI 0, AV.S ByteArray.empty]], nI p8])]))
    (Option.bind (Γ 20 [AV.pb 0 0, nI 2] [AV.nbx 3 (lstG [AV.gv cs, nI i, nI h])]) fun r2 =>
      H [true, true, true, true, false] (hdS [(0, AV.pb 0 0), (4, AV.pb 68 0), (5, AV.pb 69 0)] [(4096000, ⟨n0, 1, fun i => lstG [nI (x0 i)]⟩), (4104192, ⟨1, 1, fun i => lstG [AV.B (bif decide (i - 0 = 0) then asB r2.fst else false)]⟩)] [(0, 3, [AV.gv (asV (asA (r2.snd.headD AV.bad) 0)), nI (asI (asA (r2.snd.headD AV.bad) 1)), nI (asI (asA (r2.snd.headD AV.bad) 2))]), (68, 9, [AV.nsl 1 fun x => lstG [nI 0], nI 0, AV.nsl 1 fun x => lstG [AV.B false], AV.nsl 1 fun x => lstG [nI 0], AV.nsl 3 fun x => lstG [nI 0, nI 0, AV.S ByteArray.empty], AV.nsl 1 fun x => lstG [AV.S ByteArray.empty], AV.nsl 1 fun x => lstG [nI 0], AV.nsl 3 fun x => lstG [AV.own 0 1 fun x => lstG [nI 0], nI 0, AV.own 0 3 fun x => lstG [nI 0, nI 0, AV.S ByteArray.empty]], nI 0]), (69, 9, [AV.rf 4096000, nI p1, AV.rf 4104192, AV.nsl 1 fun x => lstG [nI 0], AV.nsl 3 fun x => lstG [nI 0, nI 0, AV.S ByteArray.empty], AV.nsl 1 fun x => lstG [AV.S ByteArray.empty], AV.nsl 1 fun x => lstG [nI 0], AV.nsl 3 fun x => lstG [AV.own 0 1 fun x => lstG [nI 0], nI 0, AV.own 0 3 fun x => lstG [nI 0, nI 0, AV.S ByteArray.empty]], nI p8])]))) := by kernel_rfl
theorem dh40b (Γ : Orc) (H : Hd) (cs : List Int) (i h : Int) (i0 h0 : Int) (p1 p8 : Int) (n0 : Nat) (x0 : Nat → Int) (n2 : Nat) (x2 : Nat → Bool) : hed Tryz.prog cfg Γ 40 H [.nbx 3 (lstG [.gv cs, nI i0, nI h0])] [true, true, true, true, false] (hdS [(0, .pb 0 0), (4, .pb 68 0), (5, .pb 69 0)] [(4096000, ⟨n0, 1, fun k => lstG [nI (x0 k)]⟩), (4104192, ⟨n2, 1, fun k => lstG [.B (x2 k)]⟩)] [(0, 3, [.gv cs, nI i, nI h]), (68, 9, [.nsl 1 (fun _ => lstG [nI 0]), nI 0, .nsl 1 (fun _ => lstG [.B false]), .nsl 1 (fun _ => lstG [nI 0]), .nsl 3 (fun _ => lstG [nI 0, nI 0, .S ByteArray.empty]), .nsl 1 (fun _ => lstG [.S ByteArray.empty]), .nsl 1 (fun _ => lstG [nI 0]), .nsl 3 (fun _ => lstG [.own 0 1 (fun _ => lstG [nI 0]), nI 0, .own 0 3 (fun _ => lstG [nI 0, nI 0, .S ByteArray.empty])]), nI 0]), (69, 9, [.rf 4096000, nI p1, .rf 4104192, .nsl 1 (fun _ => lstG [nI 0]), .nsl 3 (fun _ => lstG [nI 0, nI 0, .S ByteArray.empty]), .nsl 1 (fun _ => lstG [.S ByteArray.empty]), .nsl 1 (fun _ => lstG [nI 0]), .nsl 3 (fun _ => lstG [.own 0 1 (fun _ => lstG [nI 0]), nI 0, .own 0 3 (fun _ => lstG [nI 0, nI 0, .S ByteArray.empty])]), nI p8])]) =
  Option.bind (Γ 20 [AV.pb 0 0, nI 2] [AV.nbx 3 (lstG [AV.gv cs, nI i, nI h])]) fun r0 =>
  bif asB r0.fst then
    (bif decide (0 < zN n2) then
      (and2
      (bif decide (n2 + 1 ≤ 4294967296) && true && true && true && true then
          (and2
          (Option.bind (Γ 41 [AV.pb 0 0, nI 4] [AV.nbx 3 (lstG [AV.gv (asV (asA (r0.snd.headD AV.bad) 0)), nI (asI (asA (r0.snd.headD AV.bad) 1)), nI (asI (asA (r0.snd.headD AV.bad) 2))])]) fun r6 =>
            H [true, true, true, true, true, true, false] (hdS [(0, AV.pb 0 0), (4, AV.pb 68 0), (5, AV.pb 69 0)] [(4096000, ⟨n0, 1, fun i => lstG [nI (x0 i)]⟩), (4104192, ⟨n2 + 1, 1, fun i => lstG [AV.B (bif decide (i < n2) then x2 i else bif decide (i - n2 = 0) then !x2 0 else false)]⟩), (4108288, ⟨1, 1, fun i => lstG [nI (bif decide (i - 0 = 0) then asI r6.fst else 0)]⟩)] [(0, 3, [AV.gv (asV (asA (r6.snd.headD AV.bad) 0)), nI (asI (asA (r6.snd.headD AV.bad) 1)), nI (asI (asA (r6.snd.headD AV.bad) 2))]), (68, 9, [AV.nsl 1 fun x => lstG [nI 0], nI 0, AV.nsl 1 fun x => lstG [AV.B false], AV.nsl 1 fun x => lstG [nI 0], AV.nsl 3 fun x => lstG [nI 0, nI 0, AV.S ByteArray.empty], AV.nsl 1 fun x => lstG [AV.S ByteArray.empty], AV.nsl 1 fun x => lstG [nI 0], AV.nsl 3 fun x => lstG [AV.own 0 1 fun x => lstG [nI 0], nI 0, AV.own 0 3 fun x => lstG [nI 0, nI 0, AV.S ByteArray.empty]], nI 0]), (69, 9, [AV.rf 4096000, nI p1, AV.rf 4104192, AV.rf 4108288, AV.nsl 3 fun x => lstG [nI 0, nI 0, AV.S ByteArray.empty], AV.nsl 1 fun x => lstG [AV.S ByteArray.empty], AV.nsl 1 fun x => lstG [nI 0], AV.nsl 3 fun x => lstG [AV.own 0 1 fun x => lstG [nI 0], nI 0, AV.own 0 3 fun x => lstG [nI 0, nI 0, AV.S ByteArray.empty]], nI p8])]))
          (Option.bind (Γ 41 [AV.pb 0 0, nI 4] [AV.nbx 3 (lstG [AV.gv (asV (asA (r0.snd.headD AV.bad) 0)), nI (asI (asA (r0.snd.headD AV.bad) 1)), nI (asI (asA (r0.snd.headD AV.bad) 2))])]) fun r6 =>
            H [true, true, true, true, true, true, false] (hdS [(0, AV.pb 0 0), (4, AV.pb 68 0), (5, AV.pb 69 0)] [(4096000, ⟨n0, 1, fun i => lstG [nI (x0 i)]⟩), (4104192, ⟨n2 + 1, 1, fun i => lstG [AV.B (bif decide (i < n2) then x2 i else bif decide (i - n2 = 0) then !x2 0 else false)]⟩), (4108288, ⟨1, 1, fun i => lstG [nI (bif decide (i - 0 = 0) then asI r6.fst else 0)]⟩)] [(0, 3, [AV.gv (asV (asA (r6.snd.headD AV.bad) 0)), nI (asI (asA (r6.snd.headD AV.bad) 1)), nI (asI (asA (r6.snd.headD AV.bad) 2))]), (68, 9, [AV.nsl 1 fun x => lstG [nI 0], nI 0, AV.nsl 1 fun x => lstG [AV.B false], AV.nsl 1 fun x => lstG [nI 0], AV.nsl 3 fun x => lstG [nI 0, nI 0, AV.S ByteArray.empty], AV.nsl 1 fun x => lstG [AV.S ByteArray.empty], AV.nsl 1 fun x => lstG [nI 0], AV.nsl 3 fun x => lstG [AV.own 0 1 fun x => lstG [nI 0], nI 0, AV.own 0 3 fun x => lstG [nI 0, nI 0, AV.S ByteArray.empty]], nI 0]), (69, 9, [AV.rf 4096000, nI p1, AV.rf 4104192, AV.rf 4108288, AV.nsl 3 fun x => lstG [nI 0, nI 0, AV.S ByteArray.empty], AV.nsl 1 fun x => lstG [AV.S ByteArray.empty], AV.nsl 1 fun x => lstG [nI 0], AV.nsl 3 fun x => lstG [AV.own 0 1 fun x => lstG [nI 0], nI 0, AV.own 0 3 fun x => lstG [nI 0, nI 0, AV.S ByteArray.empty]], nI p8])])))
        else
          (none))
      (bif decide (n2 + 1 ≤ 4294967296) && true && true && true && true then
          (and2
          (Option.bind (Γ 41 [AV.pb 0 0, nI 4] [AV.nbx 3 (lstG [AV.gv (asV (asA (r0.snd.headD AV.bad) 0)), nI (asI (asA (r0.snd.headD AV.bad) 1)), nI (asI (asA (r0.snd.headD AV.bad) 2))])]) fun r6 =>
            H [true, true, true, true, true, true, false] (hdS [(0, AV.pb 0 0), (4, AV.pb 68 0), (5, AV.pb 69 0)] [(4096000, ⟨n0, 1, fun i => lstG [nI (x0 i)]⟩), (4104192, ⟨n2 + 1, 1, fun i => lstG [AV.B (bif decide (i < n2) then x2 i else bif decide (i - n2 = 0) then !x2 0 else false)]⟩), (4108288, ⟨1, 1, fun i => lstG [nI (bif decide (i - 0 = 0) then asI r6.fst else 0)]⟩)] [(0, 3, [AV.gv (asV (asA (r6.snd.headD AV.bad) 0)), nI (asI (asA (r6.snd.headD AV.bad) 1)), nI (asI (asA (r6.snd.headD AV.bad) 2))]), (68, 9, [AV.nsl 1 fun x => lstG [nI 0], nI 0, AV.nsl 1 fun x => lstG [AV.B false], AV.nsl 1 fun x => lstG [nI 0], AV.nsl 3 fun x => lstG [nI 0, nI 0, AV.S ByteArray.empty], AV.nsl 1 fun x => lstG [AV.S ByteArray.empty], AV.nsl 1 fun x => lstG [nI 0], AV.nsl 3 fun x => lstG [AV.own 0 1 fun x => lstG [nI 0], nI 0, AV.own 0 3 fun x => lstG [nI 0, nI 0, AV.S ByteArray.empty]], nI 0]), (69, 9, [AV.rf 4096000, nI p1, AV.rf 4104192, AV.rf 4108288, AV.nsl 3 fun x => lstG [nI 0, nI 0, AV.S ByteArray.empty], AV.nsl 1 fun x => lstG [AV.S ByteArray.empty], AV.nsl 1 fun x => lstG [nI 0], AV.nsl 3 fun x => lstG [AV.own 0 1 fun x => lstG [nI 0], nI 0, AV.own 0 3 fun x => lstG [nI 0, nI 0, AV.S ByteArray.empty]], nI p8])]))
          (Option.bind (Γ 41 [AV.pb 0 0, nI 4] [AV.nbx 3 (lstG [AV.gv (asV (asA (r0.snd.headD AV.bad) 0)), nI (asI (asA (r0.snd.headD AV.bad) 1)), nI (asI (asA (r0.snd.headD AV.bad) 2))])]) fun r6 =>
            H [true, true, true, true, true, true, false] (hdS [(0, AV.pb 0 0), (4, AV.pb 68 0), (5, AV.pb 69 0)] [(4096000, ⟨n0, 1, fun i => lstG [nI (x0 i)]⟩), (4104192, ⟨n2 + 1, 1, fun i => lstG [AV.B (bif decide (i < n2) then x2 i else bif decide (i - n2 = 0) then !x2 0 else false)]⟩), (4108288, ⟨1, 1, fun i => lstG [nI (bif decide (i - 0 = 0) then asI r6.fst else 0)]⟩)] [(0, 3, [AV.gv (asV (asA (r6.snd.headD AV.bad) 0)), nI (asI (asA (r6.snd.headD AV.bad) 1)), nI (asI (asA (r6.snd.headD AV.bad) 2))]), (68, 9, [AV.nsl 1 fun x => lstG [nI 0], nI 0, AV.nsl 1 fun x => lstG [AV.B false], AV.nsl 1 fun x => lstG [nI 0], AV.nsl 3 fun x => lstG [nI 0, nI 0, AV.S ByteArray.empty], AV.nsl 1 fun x => lstG [AV.S ByteArray.empty], AV.nsl 1 fun x => lstG [nI 0], AV.nsl 3 fun x => lstG [AV.own 0 1 fun x => lstG [nI 0], nI 0, AV.own 0 3 fun x => lstG [nI 0, nI 0, AV.S ByteArray.empty]], nI 0]), (69, 9, [AV.rf 4096000, nI p1, AV.rf 4104192, AV.rf 4108288, AV.nsl 3 fun x => lstG [nI 0, nI 0, AV.S ByteArray.empty], AV.nsl 1 fun x => lstG [AV.S ByteArray.empty], AV.nsl 1 fun x => lstG [nI 0], AV.nsl 3 fun x => lstG [AV.own 0 1 fun x => lstG [nI 0], nI 0, AV.own 0 3 fun x => lstG [nI 0, nI 0, AV.S ByteArray.empty]], nI p8])])))
        else
          (none)))
    else
      (none))
  else
    (and2
    (Option.bind (Γ 41 [AV.pb 0 0, nI 4] [AV.nbx 3 (lstG [AV.gv (asV (asA (r0.snd.headD AV.bad) 0)), nI (asI (asA (r0.snd.headD AV.bad) 1)), nI (asI (asA (r0.snd.headD AV.bad) 2))])]) fun r3 =>
      H [true, true, true, true, true, true, false] (hdS [(0, AV.pb 0 0), (4, AV.pb 68 0), (5, AV.pb 69 0)] [(4096000, ⟨n0, 1, fun i => lstG [nI (x0 i)]⟩), (4104192, ⟨n2, 1, fun i => lstG [AV.B (x2 i)]⟩), (4108288, ⟨1, 1, fun i => lstG [nI (bif decide (i - 0 = 0) then asI r3.fst else 0)]⟩)] [(0, 3, [AV.gv (asV (asA (r3.snd.headD AV.bad) 0)), nI (asI (asA (r3.snd.headD AV.bad) 1)), nI (asI (asA (r3.snd.headD AV.bad) 2))]), (68, 9, [AV.nsl 1 fun x => lstG [nI 0], nI 0, AV.nsl 1 fun x => lstG [AV.B false], AV.nsl 1 fun x => lstG [nI 0], AV.nsl 3 fun x => lstG [nI 0, nI 0, AV.S ByteArray.empty], AV.nsl 1 fun x => lstG [AV.S ByteArray.empty], AV.nsl 1 fun x => lstG [nI 0], AV.nsl 3 fun x => lstG [AV.own 0 1 fun x => lstG [nI 0], nI 0, AV.own 0 3 fun x => lstG [nI 0, nI 0, AV.S ByteArray.empty]], nI 0]), (69, 9, [AV.rf 4096000, nI p1, AV.rf 4104192, AV.rf 4108288, AV.nsl 3 fun x => lstG [nI 0, nI 0, AV.S ByteArray.empty], AV.nsl 1 fun x => lstG [AV.S ByteArray.empty], AV.nsl 1 fun x => lstG [nI 0], AV.nsl 3 fun x => lstG [AV.own 0 1 fun x => lstG [nI 0], nI 0, AV.own 0 3 fun x => lstG [nI 0, nI 0, AV.S ByteArray.empty]], nI p8])]))
    (Option.bind (Γ 41 [AV.pb 0 0, nI 4] [AV.nbx 3 (lstG [AV.gv (asV (asA (r0.snd.headD AV.bad) 0)), nI (asI (asA (r0.snd.headD AV.bad) 1)), nI (asI (asA (r0.snd.headD AV.bad) 2))])]) fun r3 =>
      H [true, true, true, true, true, true, false] (hdS [(0, AV.pb 0 0), (4, AV.pb 68 0), (5, AV.pb 69 0)] [(4096000, ⟨n0, 1, fun i => lstG [nI (x0 i)]⟩), (4104192, ⟨n2, 1, fun i => lstG [AV.B (x2 i)]⟩), (4108288, ⟨1, 1, fun i => lstG [nI (bif decide (i - 0 = 0) then asI r3.fst else 0)]⟩)] [(0, 3, [AV.gv (asV (asA (r3.snd.headD AV.bad) 0)), nI (asI (asA (r3.snd.headD AV.bad) 1)), nI (asI (asA (r3.snd.headD AV.bad) 2))]), (68, 9, [AV.nsl 1 fun x => lstG [nI 0], nI 0, AV.nsl 1 fun x => lstG [AV.B false], AV.nsl 1 fun x => lstG [nI 0], AV.nsl 3 fun x => lstG [nI 0, nI 0, AV.S ByteArray.empty], AV.nsl 1 fun x => lstG [AV.S ByteArray.empty], AV.nsl 1 fun x => lstG [nI 0], AV.nsl 3 fun x => lstG [AV.own 0 1 fun x => lstG [nI 0], nI 0, AV.own 0 3 fun x => lstG [nI 0, nI 0, AV.S ByteArray.empty]], nI 0]), (69, 9, [AV.rf 4096000, nI p1, AV.rf 4104192, AV.rf 4108288, AV.nsl 3 fun x => lstG [nI 0, nI 0, AV.S ByteArray.empty], AV.nsl 1 fun x => lstG [AV.S ByteArray.empty], AV.nsl 1 fun x => lstG [nI 0], AV.nsl 3 fun x => lstG [AV.own 0 1 fun x => lstG [nI 0], nI 0, AV.own 0 3 fun x => lstG [nI 0, nI 0, AV.S ByteArray.empty]], nI p8])]))) := by kernel_rfl
theorem dh40c (Γ : Orc) (H : Hd) (cs : List Int) (i h : Int) (i0 h0 : Int) (p1 p8 : Int) (n0 : Nat) (x0 : Nat → Int) (n2 : Nat) (x2 : Nat → Bool) (n3 : Nat) (x3 : Nat → Int) : hed Tryz.prog cfg Γ 40 H [.nbx 3 (lstG [.gv cs, nI i0, nI h0])] [true, true, true, true, true, true, false] (hdS [(0, .pb 0 0), (4, .pb 68 0), (5, .pb 69 0)] [(4096000, ⟨n0, 1, fun k => lstG [nI (x0 k)]⟩), (4104192, ⟨n2, 1, fun k => lstG [.B (x2 k)]⟩), (4108288, ⟨n3, 1, fun k => lstG [nI (x3 k)]⟩)] [(0, 3, [.gv cs, nI i, nI h]), (68, 9, [.nsl 1 (fun _ => lstG [nI 0]), nI 0, .nsl 1 (fun _ => lstG [.B false]), .nsl 1 (fun _ => lstG [nI 0]), .nsl 3 (fun _ => lstG [nI 0, nI 0, .S ByteArray.empty]), .nsl 1 (fun _ => lstG [.S ByteArray.empty]), .nsl 1 (fun _ => lstG [nI 0]), .nsl 3 (fun _ => lstG [.own 0 1 (fun _ => lstG [nI 0]), nI 0, .own 0 3 (fun _ => lstG [nI 0, nI 0, .S ByteArray.empty])]), nI 0]), (69, 9, [.rf 4096000, nI p1, .rf 4104192, .rf 4108288, .nsl 3 (fun _ => lstG [nI 0, nI 0, .S ByteArray.empty]), .nsl 1 (fun _ => lstG [.S ByteArray.empty]), .nsl 1 (fun _ => lstG [nI 0]), .nsl 3 (fun _ => lstG [.own 0 1 (fun _ => lstG [nI 0]), nI 0, .own 0 3 (fun _ => lstG [nI 0, nI 0, .S ByteArray.empty])]), nI p8])]) =
  and2
  (Option.bind (Γ 41 [AV.pb 0 0, nI 9] [AV.nbx 3 (lstG [AV.gv cs, nI i, nI h])]) fun r1 =>
    H [true, true, true, true, true, true, true, false] (hdS [(0, AV.pb 0 0), (4, AV.pb 68 0), (5, AV.pb 69 0)] [(4096000, ⟨n0, 1, fun i => lstG [nI (x0 i)]⟩), (4104192, ⟨n2, 1, fun i => lstG [AV.B (x2 i)]⟩), (4108288, ⟨n3, 1, fun i => lstG [nI (x3 i)]⟩), (4112384, ⟨1, 3, fun i => lstG [nI (bif decide (i - 0 = 0) then 1 else 0), nI (bif decide (i - 0 = 0) then asI r1.fst else 0), AV.S (bif decide (i - 0 = 0) then ByteArray.empty else ByteArray.empty)]⟩)] [(0, 3, [AV.gv (asV (asA (r1.snd.headD AV.bad) 0)), nI (asI (asA (r1.snd.headD AV.bad) 1)), nI (asI (asA (r1.snd.headD AV.bad) 2))]), (68, 9, [AV.nsl 1 fun x => lstG [nI 0], nI 0, AV.nsl 1 fun x => lstG [AV.B false], AV.nsl 1 fun x => lstG [nI 0], AV.nsl 3 fun x => lstG [nI 0, nI 0, AV.S ByteArray.empty], AV.nsl 1 fun x => lstG [AV.S ByteArray.empty], AV.nsl 1 fun x => lstG [nI 0], AV.nsl 3 fun x => lstG [AV.own 0 1 fun x => lstG [nI 0], nI 0, AV.own 0 3 fun x => lstG [nI 0, nI 0, AV.S ByteArray.empty]], nI 0]), (69, 9, [AV.rf 4096000, nI p1, AV.rf 4104192, AV.rf 4108288, AV.rf 4112384, AV.nsl 1 fun x => lstG [AV.S ByteArray.empty], AV.nsl 1 fun x => lstG [nI 0], AV.nsl 3 fun x => lstG [AV.own 0 1 fun x => lstG [nI 0], nI 0, AV.own 0 3 fun x => lstG [nI 0, nI 0, AV.S ByteArray.empty]], nI p8])]))
  (Option.bind (Γ 41 [AV.pb 0 0, nI 9] [AV.nbx 3 (lstG [AV.gv cs, nI i, nI h])]) fun r1 =>
    and2
    (H [true, true, true, true, true, true, true, false] (hdS [(0, AV.pb 0 0), (4, AV.pb 68 0), (5, AV.pb 69 0)] [(4096000, ⟨n0, 1, fun i => lstG [nI (x0 i)]⟩), (4104192, ⟨n2, 1, fun i => lstG [AV.B (x2 i)]⟩), (4108288, ⟨n3, 1, fun i => lstG [nI (x3 i)]⟩), (4112384, ⟨1, 3, fun i => lstG [nI (bif decide (i - 0 = 0) then 1 else 0), nI (bif decide (i - 0 = 0) then asI r1.fst else 0), AV.S (bif decide (i - 0 = 0) then ByteArray.empty else ByteArray.empty)]⟩)] [(0, 3, [AV.gv (asV (asA (r1.snd.headD AV.bad) 0)), nI (asI (asA (r1.snd.headD AV.bad) 1)), nI (asI (asA (r1.snd.headD AV.bad) 2))]), (68, 9, [AV.nsl 1 fun x => lstG [nI 0], nI 0, AV.nsl 1 fun x => lstG [AV.B false], AV.nsl 1 fun x => lstG [nI 0], AV.nsl 3 fun x => lstG [nI 0, nI 0, AV.S ByteArray.empty], AV.nsl 1 fun x => lstG [AV.S ByteArray.empty], AV.nsl 1 fun x => lstG [nI 0], AV.nsl 3 fun x => lstG [AV.own 0 1 fun x => lstG [nI 0], nI 0, AV.own 0 3 fun x => lstG [nI 0, nI 0, AV.S ByteArray.empty]], nI 0]), (69, 9, [AV.rf 4096000, nI p1, AV.rf 4104192, AV.rf 4108288, AV.rf 4112384, AV.nsl 1 fun x => lstG [AV.S ByteArray.empty], AV.nsl 1 fun x => lstG [nI 0], AV.nsl 3 fun x => lstG [AV.own 0 1 fun x => lstG [nI 0], nI 0, AV.own 0 3 fun x => lstG [nI 0, nI 0, AV.S ByteArray.empty]], nI p8])]))
    (H [true, true, true, true, true, true, true, false] (hdS [(0, AV.pb 0 0), (4, AV.pb 68 0), (5, AV.pb 69 0)] [(4096000, ⟨n0, 1, fun i => lstG [nI (x0 i)]⟩), (4104192, ⟨n2, 1, fun i => lstG [AV.B (x2 i)]⟩), (4108288, ⟨n3, 1, fun i => lstG [nI (x3 i)]⟩), (4112384, ⟨1, 3, fun i => lstG [nI (bif decide (i - 0 = 0) then 1 else 0), nI (bif decide (i - 0 = 0) then asI r1.fst else 0), AV.S (bif decide (i - 0 = 0) then ByteArray.empty else ByteArray.empty)]⟩)] [(0, 3, [AV.gv (asV (asA (r1.snd.headD AV.bad) 0)), nI (asI (asA (r1.snd.headD AV.bad) 1)), nI (asI (asA (r1.snd.headD AV.bad) 2))]), (68, 9, [AV.nsl 1 fun x => lstG [nI 0], nI 0, AV.nsl 1 fun x => lstG [AV.B false], AV.nsl 1 fun x => lstG [nI 0], AV.nsl 3 fun x => lstG [nI 0, nI 0, AV.S ByteArray.empty], AV.nsl 1 fun x => lstG [AV.S ByteArray.empty], AV.nsl 1 fun x => lstG [nI 0], AV.nsl 3 fun x => lstG [AV.own 0 1 fun x => lstG [nI 0], nI 0, AV.own 0 3 fun x => lstG [nI 0, nI 0, AV.S ByteArray.empty]], nI 0]), (69, 9, [AV.rf 4096000, nI p1, AV.rf 4104192, AV.rf 4108288, AV.rf 4112384, AV.nsl 1 fun x => lstG [AV.S ByteArray.empty], AV.nsl 1 fun x => lstG [nI 0], AV.nsl 3 fun x => lstG [AV.own 0 1 fun x => lstG [nI 0], nI 0, AV.own 0 3 fun x => lstG [nI 0, nI 0, AV.S ByteArray.empty]], nI p8])]))) := by kernel_rfl
theorem dh40d (Γ : Orc) (H : Hd) (cs : List Int) (i h : Int) (i0 h0 : Int) (p1 p8 : Int) (n0 : Nat) (x0 : Nat → Int) (n2 : Nat) (x2 : Nat → Bool) (n3 : Nat) (x3 : Nat → Int) (n4 : Nat) (x4 y4 : Nat → Int) (z4 : Nat → ByteArray) : hed Tryz.prog cfg Γ 40 H [.nbx 3 (lstG [.gv cs, nI i0, nI h0])] [true, true, true, true, true, true, true, false] (hdS [(0, .pb 0 0), (4, .pb 68 0), (5, .pb 69 0)] [(4096000, ⟨n0, 1, fun k => lstG [nI (x0 k)]⟩), (4104192, ⟨n2, 1, fun k => lstG [.B (x2 k)]⟩), (4108288, ⟨n3, 1, fun k => lstG [nI (x3 k)]⟩), (4112384, ⟨n4, 3, fun k => lstG [nI (x4 k), nI (y4 k), .S (z4 k)]⟩)] [(0, 3, [.gv cs, nI i, nI h]), (68, 9, [.nsl 1 (fun _ => lstG [nI 0]), nI 0, .nsl 1 (fun _ => lstG [.B false]), .nsl 1 (fun _ => lstG [nI 0]), .nsl 3 (fun _ => lstG [nI 0, nI 0, .S ByteArray.empty]), .nsl 1 (fun _ => lstG [.S ByteArray.empty]), .nsl 1 (fun _ => lstG [nI 0]), .nsl 3 (fun _ => lstG [.own 0 1 (fun _ => lstG [nI 0]), nI 0, .own 0 3 (fun _ => lstG [nI 0, nI 0, .S ByteArray.empty])]), nI 0]), (69, 9, [.rf 4096000, nI p1, .rf 4104192, .rf 4108288, .rf 4112384, .nsl 1 (fun _ => lstG [.S ByteArray.empty]), .nsl 1 (fun _ => lstG [nI 0]), .nsl 3 (fun _ => lstG [.own 0 1 (fun _ => lstG [nI 0]), nI 0, .own 0 3 (fun _ => lstG [nI 0, nI 0, .S ByteArray.empty])]), nI p8])]) =
  Option.bind (Γ 20 [AV.pb 0 0, nI 2] [AV.nbx 3 (lstG [AV.gv cs, nI i, nI h])]) fun r0 =>
  bif asB r0.fst then
    (bif decide (n4 + 1 ≤ 4294967296) && true && true && true && true then
      (Option.bind (Γ 41 [AV.pb 0 0, nI 4] [AV.nbx 3 (lstG [AV.gv (asV (asA (r0.snd.headD AV.bad) 0)), nI (asI (asA (r0.snd.headD AV.bad) 1)), nI (asI (asA (r0.snd.headD AV.bad) 2))])]) fun r3 =>
      Option.bind (Γ 41 [AV.pb 0 0, nI 4] [AV.nbx 3 (lstG [AV.gv (asV (asA (r3.snd.headD AV.bad) 0)), nI (asI (asA (r3.snd.headD AV.bad) 1)), nI (asI (asA (r3.snd.headD AV.bad) 2))])]) fun r4 =>
      Option.bind (Γ 20 [AV.pb 0 0, nI 2] [AV.nbx 3 (lstG [AV.gv (asV (asA (r4.snd.headD AV.bad) 0)), nI (asI (asA (r4.snd.headD AV.bad) 1)), nI (asI (asA (r4.snd.headD AV.bad) 2))])]) fun r5 =>
      bif asB r5.fst then
        (and2
        (Option.bind (Γ 41 [AV.pb 0 0, nI 4] [AV.nbx 3 (lstG [AV.gv (asV (asA (r5.snd.headD AV.bad) 0)), nI (asI (asA (r5.snd.headD AV.bad) 1)), nI (asI (asA (r5.snd.headD AV.bad) 2))])]) fun r8 =>
          H [true, true, true, true, true, true, true, true, true, true, true, false, true, false, true, false] (hdS [(0, AV.pb 0 0), (4, AV.pb 68 0), (5, AV.pb 69 0)] [(4096000, ⟨n0, 1, fun i => lstG [nI (x0 i)]⟩), (4104192, ⟨n2, 1, fun i => lstG [AV.B (x2 i)]⟩), (4108288, ⟨n3, 1, fun i => lstG [nI (x3 i)]⟩), (4112384, ⟨n4 + 1, 3, fun i => lstG [nI (bif decide (i < n4) then x4 i else bif decide (i - n4 = 0) then 2 else 0), nI (bif decide (i < n4) then y4 i else bif decide (i - n4 = 0) then 0 else 0), AV.S (bif decide (i < n4) then z4 i else bif decide (i - n4 = 0) then (bs [97]) else ByteArray.empty)]⟩), (4116480, ⟨3, 1, fun i => lstG [AV.S (bif decide (i < 2) then bif decide (i = 0) then (bs [97]) else bif decide (i - 1 = 0) then (bs [97, 46, 98]) else ByteArray.empty else bif decide (i - 2 = 0) then (bs [110, 101, 119, 115]) else ByteArray.empty)]⟩), (4120576, ⟨3, 1, fun i => lstG [nI (bif decide (i < 2) then bif decide (i = 0) then IntKind.i64.wrap (1 + asI r3.fst) else bif decide (i - 1 = 0) then IntKind.i64.wrap (1 + asI r4.fst) else 0 else bif decide (i - 2 = 0) then IntKind.i64.wrap (1 + asI r8.fst) else 0)]⟩)] [(0, 3, [AV.gv (asV (asA (r8.snd.headD AV.bad) 0)), nI (asI (asA (r8.snd.headD AV.bad) 1)), nI (asI (asA (r8.snd.headD AV.bad) 2))]), (68, 9, [AV.nsl 1 fun x => lstG [nI 0], nI 0, AV.nsl 1 fun x => lstG [AV.B false], AV.nsl 1 fun x => lstG [nI 0], AV.nsl 3 fun x => lstG [nI 0, nI 0, AV.S ByteArray.empty], AV.nsl 1 fun x => lstG [AV.S ByteArray.empty], AV.nsl 1 fun x => lstG [nI 0], AV.nsl 3 fun x => lstG [AV.own 0 1 fun x => lstG [nI 0], nI 0, AV.own 0 3 fun x => lstG [nI 0, nI 0, AV.S ByteArray.empty]], nI 0]), (69, 9, [AV.rf 4096000, nI p1, AV.rf 4104192, AV.rf 4108288, AV.rf 4112384, AV.rf 4116480, AV.rf 4120576, AV.nsl 3 fun x => lstG [AV.own 0 1 fun x => lstG [nI 0], nI 0, AV.own 0 3 fun x => lstG [nI 0, nI 0, AV.S ByteArray.empty]], nI p8])]))
        (Option.bind (Γ 41 [AV.pb 0 0, nI 4] [AV.nbx 3 (lstG [AV.gv (asV (asA (r5.snd.headD AV.bad) 0)), nI (asI (asA (r5.snd.headD AV.bad) 1)), nI (asI (asA (r5.snd.headD AV.bad) 2))])]) fun r8 =>
          H [true, true, true, true, true, true, true, true, true, true, true, false, true, false, true, false] (hdS [(0, AV.pb 0 0), (4, AV.pb 68 0), (5, AV.pb 69 0)] [(4096000, ⟨n0, 1, fun i => lstG [nI (x0 i)]⟩), (4104192, ⟨n2, 1, fun i => lstG [AV.B (x2 i)]⟩), (4108288, ⟨n3, 1, fun i => lstG [nI (x3 i)]⟩), (4112384, ⟨n4 + 1, 3, fun i => lstG [nI (bif decide (i < n4) then x4 i else bif decide (i - n4 = 0) then 2 else 0), nI (bif decide (i < n4) then y4 i else bif decide (i - n4 = 0) then 0 else 0), AV.S (bif decide (i < n4) then z4 i else bif decide (i - n4 = 0) then (bs [97]) else ByteArray.empty)]⟩), (4116480, ⟨3, 1, fun i => lstG [AV.S (bif decide (i < 2) then bif decide (i = 0) then (bs [97]) else bif decide (i - 1 = 0) then (bs [97, 46, 98]) else ByteArray.empty else bif decide (i - 2 = 0) then (bs [110, 101, 119, 115]) else ByteArray.empty)]⟩), (4120576, ⟨3, 1, fun i => lstG [nI (bif decide (i < 2) then bif decide (i = 0) then IntKind.i64.wrap (1 + asI r3.fst) else bif decide (i - 1 = 0) then IntKind.i64.wrap (1 + asI r4.fst) else 0 else bif decide (i - 2 = 0) then IntKind.i64.wrap (1 + asI r8.fst) else 0)]⟩)] [(0, 3, [AV.gv (asV (asA (r8.snd.headD AV.bad) 0)), nI (asI (asA (r8.snd.headD AV.bad) 1)), nI (asI (asA (r8.snd.headD AV.bad) 2))]), (68, 9, [AV.nsl 1 fun x => lstG [nI 0], nI 0, AV.nsl 1 fun x => lstG [AV.B false], AV.nsl 1 fun x => lstG [nI 0], AV.nsl 3 fun x => lstG [nI 0, nI 0, AV.S ByteArray.empty], AV.nsl 1 fun x => lstG [AV.S ByteArray.empty], AV.nsl 1 fun x => lstG [nI 0], AV.nsl 3 fun x => lstG [AV.own 0 1 fun x => lstG [nI 0], nI 0, AV.own 0 3 fun x => lstG [nI 0, nI 0, AV.S ByteArray.empty]], nI 0]), (69, 9, [AV.rf 4096000, nI p1, AV.rf 4104192, AV.rf 4108288, AV.rf 4112384, AV.rf 4116480, AV.rf 4120576, AV.nsl 3 fun x => lstG [AV.own 0 1 fun x => lstG [nI 0], nI 0, AV.own 0 3 fun x => lstG [nI 0, nI 0, AV.S ByteArray.empty]], nI p8])])))
      else
        (bif bif okT then bif okT then bif okT then bif okT then bif okT then bif okT then bif okX then true else false else false else false else false else false else false else false then
          (some (AV.ag 9 (lstG [AV.own n0 1 fun i => lstG [nI (x0 i)], nI p1, AV.own n2 1 fun i => lstG [AV.B (x2 i)], AV.own n3 1 fun i => lstG [nI (x3 i)], AV.own (n4 + 1) 3 fun i => lstG [nI (bif decide (i < n4) then x4 i else bif decide (i - n4 = 0) then 2 else 0), nI (bif decide (i < n4) then y4 i else bif decide (i - n4 = 0) then 0 else 0), AV.S (bif decide (i < n4) then z4 i else bif decide (i - n4 = 0) then (bs [97]) else ByteArray.empty)], AV.own 2 1 fun i => lstG [AV.S (bif decide (i = 0) then (bs [97]) else bif decide (i - 1 = 0) then (bs [97, 46, 98]) else ByteArray.empty)], AV.own 2 1 fun i => lstG [nI (bif decide (i = 0) then IntKind.i64.wrap (1 + asI r3.fst) else bif decide (i - 1 = 0) then IntKind.i64.wrap (1 + asI r4.fst) else 0)], AV.own 0 3 fun i => lstG [AV.own 0 1 fun i => lstG [nI 0], nI 0, AV.own 0 3 fun i => lstG [nI 0, nI 0, AV.S ByteArray.empty]], nI p8]), [AV.nbx 3 (lstG [AV.gv (asV (asA (r5.snd.headD AV.bad) 0)), nI (asI (asA (r5.snd.headD AV.bad) 1)), nI (asI (asA (r5.snd.headD AV.bad) 2))])]))
        else
          (none)))
    else
      (none))
  else
    (Option.bind (Γ 41 [AV.pb 0 0, nI 4] [AV.nbx 3 (lstG [AV.gv (asV (asA (r0.snd.headD AV.bad) 0)), nI (asI (asA (r0.snd.headD AV.bad) 1)), nI (asI (asA (r0.snd.headD AV.bad) 2))])]) fun r2 =>
    Option.bind (Γ 41 [AV.pb 0 0, nI 4] [AV.nbx 3 (lstG [AV.gv (asV (asA (r2.snd.headD AV.bad) 0)), nI (asI (asA (r2.snd.headD AV.bad) 1)), nI (asI (asA (r2.snd.headD AV.bad) 2))])]) fun r3 =>
    Option.bind (Γ 20 [AV.pb 0 0, nI 2] [AV.nbx 3 (lstG [AV.gv (asV (asA (r3.snd.headD AV.bad) 0)), nI (asI (asA (r3.snd.headD AV.bad) 1)), nI (asI (asA (r3.snd.headD AV.bad) 2))])]) fun r4 =>
    bif asB r4.fst then
      (and2
      (Option.bind (Γ 41 [AV.pb 0 0, nI 4] [AV.nbx 3 (lstG [AV.gv (asV (asA (r4.snd.headD AV.bad) 0)), nI (asI (asA (r4.snd.headD AV.bad) 1)), nI (asI (asA (r4.snd.headD AV.bad) 2))])]) fun r7 =>
        H [true, true, true, true, true, true, true, true, true, true, true, false, true, false, true, false] (hdS [(0, AV.pb 0 0), (4, AV.pb 68 0), (5, AV.pb 69 0)] [(4096000, ⟨n0, 1, fun i => lstG [nI (x0 i)]⟩), (4104192, ⟨n2, 1, fun i => lstG [AV.B (x2 i)]⟩), (4108288, ⟨n3, 1, fun i => lstG [nI (x3 i)]⟩), (4112384, ⟨n4, 3, fun i => lstG [nI (x4 i), nI (y4 i), AV.S (z4 i)]⟩), (4116480, ⟨3, 1, fun i => lstG [AV.S (bif decide (i < 2) then bif decide (i = 0) then (bs [97]) else bif decide (i - 1 = 0) then (bs [97, 46, 98]) else ByteArray.empty else bif decide (i - 2 = 0) then (bs [110, 101, 119, 115]) else ByteArray.empty)]⟩), (4120576, ⟨3, 1, fun i => lstG [nI (bif decide (i < 2) then bif decide (i = 0) then IntKind.i64.wrap (1 + asI r2.fst) else bif decide (i - 1 = 0) then IntKind.i64.wrap (1 + asI r3.fst) else 0 else bif decide (i - 2 = 0) then IntKind.i64.wrap (1 + asI r7.fst) else 0)]⟩)] [(0, 3, [AV.gv (asV (asA (r7.snd.headD AV.bad) 0)), nI (asI (asA (r7.snd.headD AV.bad) 1)), nI (asI (asA (r7.snd.headD AV.bad) 2))]), (68, 9, [AV.nsl 1 fun x => lstG [nI 0], nI 0, AV.nsl 1 fun x => lstG [AV.B false], AV.nsl 1 fun x => lstG [nI 0], AV.nsl 3 fun x => lstG [nI 0, nI 0, AV.S ByteArray.empty], AV.nsl 1 fun x => lstG [AV.S ByteArray.empty], AV.nsl 1 fun x => lstG [nI 0], AV.nsl 3 fun x => lstG [AV.own 0 1 fun x => lstG [nI 0], nI 0, AV.own 0 3 fun x => lstG [nI 0, nI 0, AV.S ByteArray.empty]], nI 0]), (69, 9, [AV.rf 4096000, nI p1, AV.rf 4104192, AV.rf 4108288, AV.rf 4112384, AV.rf 4116480, AV.rf 4120576, AV.nsl 3 fun x => lstG [AV.own 0 1 fun x => lstG [nI 0], nI 0, AV.own 0 3 fun x => lstG [nI 0, nI 0, AV.S ByteArray.empty]], nI p8])]))
      (Option.bind (Γ 41 [AV.pb 0 0, nI 4] [AV.nbx 3 (lstG [AV.gv (asV (asA (r4.snd.headD AV.bad) 0)), nI (asI (asA (r4.snd.headD AV.bad) 1)), nI (asI (asA (r4.snd.headD AV.bad) 2))])]) fun r7 =>
        H [true, true, true, true, true, true, true, true, true, true, true, false, true, false, true, false] (hdS [(0, AV.pb 0 0), (4, AV.pb 68 0), (5, AV.pb 69 0)] [(4096000, ⟨n0, 1, fun i => lstG [nI (x0 i)]⟩), (4104192, ⟨n2, 1, fun i => lstG [AV.B (x2 i)]⟩), (4108288, ⟨n3, 1, fun i => lstG [nI (x3 i)]⟩), (4112384, ⟨n4, 3, fun i => lstG [nI (x4 i), nI (y4 i), AV.S (z4 i)]⟩), (4116480, ⟨3, 1, fun i => lstG [AV.S (bif decide (i < 2) then bif decide (i = 0) then (bs [97]) else bif decide (i - 1 = 0) then (bs [97, 46, 98]) else ByteArray.empty else bif decide (i - 2 = 0) then (bs [110, 101, 119, 115]) else ByteArray.empty)]⟩), (4120576, ⟨3, 1, fun i => lstG [nI (bif decide (i < 2) then bif decide (i = 0) then IntKind.i64.wrap (1 + asI r2.fst) else bif decide (i - 1 = 0) then IntKind.i64.wrap (1 + asI r3.fst) else 0 else bif decide (i - 2 = 0) then IntKind.i64.wrap (1 + asI r7.fst) else 0)]⟩)] [(0, 3, [AV.gv (asV (asA (r7.snd.headD AV.bad) 0)), nI (asI (asA (r7.snd.headD AV.bad) 1)), nI (asI (asA (r7.snd.headD AV.bad) 2))]), (68, 9, [AV.nsl 1 fun x => lstG [nI 0], nI 0, AV.nsl 1 fun x => lstG [AV.B false], AV.nsl 1 fun x => lstG [nI 0], AV.nsl 3 fun x => lstG [nI 0, nI 0, AV.S ByteArray.empty], AV.nsl 1 fun x => lstG [AV.S ByteArray.empty], AV.nsl 1 fun x => lstG [nI 0], AV.nsl 3 fun x => lstG [AV.own 0 1 fun x => lstG [nI 0], nI 0, AV.own 0 3 fun x => lstG [nI 0, nI 0, AV.S ByteArray.empty]], nI 0]), (69, 9, [AV.rf 4096000, nI p1, AV.rf 4104192, AV.rf 4108288, AV.rf 4112384, AV.rf 4116480, AV.rf 4120576, AV.nsl 3 fun x => lstG [AV.own 0 1 fun x => lstG [nI 0], nI 0, AV.own 0 3 fun x => lstG [nI 0, nI 0, AV.S ByteArray.empty]], nI p8])])))
    else
      (bif bif okT then bif okT then bif okT then bif okT then bif okT then bif okT then bif okX then true else false else false else false else false else false else false else false then
        (some (AV.ag 9 (lstG [AV.own n0 1 fun i => lstG [nI (x0 i)], nI p1, AV.own n2 1 fun i => lstG [AV.B (x2 i)], AV.own n3 1 fun i => lstG [nI (x3 i)], AV.own n4 3 fun i => lstG [nI (x4 i), nI (y4 i), AV.S (z4 i)], AV.own 2 1 fun i => lstG [AV.S (bif decide (i = 0) then (bs [97]) else bif decide (i - 1 = 0) then (bs [97, 46, 98]) else ByteArray.empty)], AV.own 2 1 fun i => lstG [nI (bif decide (i = 0) then IntKind.i64.wrap (1 + asI r2.fst) else bif decide (i - 1 = 0) then IntKind.i64.wrap (1 + asI r3.fst) else 0)], AV.own 0 3 fun i => lstG [AV.own 0 1 fun i => lstG [nI 0], nI 0, AV.own 0 3 fun i => lstG [nI 0, nI 0, AV.S ByteArray.empty]], nI p8]), [AV.nbx 3 (lstG [AV.gv (asV (asA (r4.snd.headD AV.bad) 0)), nI (asI (asA (r4.snd.headD AV.bad) 1)), nI (asI (asA (r4.snd.headD AV.bad) 2))])]))
      else
        (none))) := by kernel_rfl
theorem dh40e (Γ : Orc) (H : Hd) (cs : List Int) (i h : Int) (i0 h0 : Int) (p1 p8 : Int) (n0 : Nat) (x0 : Nat → Int) (n2 : Nat) (x2 : Nat → Bool) (n3 : Nat) (x3 : Nat → Int) (n4 : Nat) (x4 y4 : Nat → Int) (z4 : Nat → ByteArray) (n5 : Nat) (x5 : Nat → ByteArray) (n6 : Nat) (x6 : Nat → Int) : hed Tryz.prog cfg Γ 40 H [.nbx 3 (lstG [.gv cs, nI i0, nI h0])] [true, true, true, true, true, true, true, true, true, true, true, false, true, false, true, false] (hdS [(0, .pb 0 0), (4, .pb 68 0), (5, .pb 69 0)] [(4096000, ⟨n0, 1, fun k => lstG [nI (x0 k)]⟩), (4104192, ⟨n2, 1, fun k => lstG [.B (x2 k)]⟩), (4108288, ⟨n3, 1, fun k => lstG [nI (x3 k)]⟩), (4112384, ⟨n4, 3, fun k => lstG [nI (x4 k), nI (y4 k), .S (z4 k)]⟩), (4116480, ⟨n5, 1, fun k => lstG [.S (x5 k)]⟩), (4120576, ⟨n6, 1, fun k => lstG [nI (x6 k)]⟩)] [(0, 3, [.gv cs, nI i, nI h]), (68, 9, [.nsl 1 (fun _ => lstG [nI 0]), nI 0, .nsl 1 (fun _ => lstG [.B false]), .nsl 1 (fun _ => lstG [nI 0]), .nsl 3 (fun _ => lstG [nI 0, nI 0, .S ByteArray.empty]), .nsl 1 (fun _ => lstG [.S ByteArray.empty]), .nsl 1 (fun _ => lstG [nI 0]), .nsl 3 (fun _ => lstG [.own 0 1 (fun _ => lstG [nI 0]), nI 0, .own 0 3 (fun _ => lstG [nI 0, nI 0, .S ByteArray.empty])]), nI 0]), (69, 9, [.rf 4096000, nI p1, .rf 4104192, .rf 4108288, .rf 4112384, .rf 4116480, .rf 4120576, .nsl 3 (fun _ => lstG [.own 0 1 (fun _ => lstG [nI 0]), nI 0, .own 0 3 (fun _ => lstG [nI 0, nI 0, .S ByteArray.empty])]), nI p8])]) =
  Option.bind (Γ 20 [AV.pb 0 0, nI 2] [AV.nbx 3 (lstG [AV.gv cs, nI i, nI h])]) fun r0 =>
  bif asB r0.fst then
    (and2
    (and2
      (Option.bind (Γ 73 [AV.pb 0 0, nI 1] [AV.nbx 3 (lstG [AV.gv (asV (asA (r0.snd.headD AV.bad) 0)), nI (asI (asA (r0.snd.headD AV.bad) 1)), nI (asI (asA (r0.snd.headD AV.bad) 2))])]) fun r4 =>
        bif bif okT then bif okT then bif okT then bif okT then bif okT then bif okT then bif okX then true else false else false else false else false else false else false else false then
          (some (AV.ag 9 (lstG [AV.own n0 1 fun i => lstG [nI (x0 i)], nI p1, AV.own n2 1 fun i => lstG [AV.B (x2 i)], AV.own n3 1 fun i => lstG [nI (x3 i)], AV.own n4 3 fun i => lstG [nI (x4 i), nI (y4 i), AV.S (z4 i)], AV.own n5 1 fun i => lstG [AV.S (x5 i)], AV.own n6 1 fun i => lstG [nI (x6 i)], AV.own 1 3 fun i => lstG [AV.own (bif decide (i - 0 = 0) then 2 else 0) 1 fun i_1 => lstG [nI (bif decide (i - 0 = 0) then bif decide (i_1 = 0) then 0 else bif decide (i_1 - 1 = 0) then 1 else 0 else 0)], nI (bif decide (i - 0 = 0) then 2 else 0), AV.own (bif decide (i - 0 = 0) then asN r4.fst else 0) 3 fun i_1 => lstG [nI (bif decide (i - 0 = 0) then asI (asG r4.fst i_1 0) else 0), nI (bif decide (i - 0 = 0) then asI (asG r4.fst i_1 1) else 0), AV.S (bif decide (i - 0 = 0) then asS (asG r4.fst i_1 2) else ByteArray.empty)]], nI p8]), [AV.nbx 3 (lstG [AV.gv (asV (asA (r4.snd.headD AV.bad) 0)), nI (asI (asA (r4.snd.headD AV.bad) 1)), nI (asI (asA (r4.snd.headD AV.bad) 2))])]))
        else
          (none))
      (Option.bind (Γ 73 [AV.pb 0 0, nI 1] [AV.nbx 3 (lstG [AV.gv (asV (asA (r0.snd.headD AV.bad) 0)), nI (asI (asA (r0.snd.headD AV.bad) 1)), nI (asI (asA (r0.snd.headD AV.bad) 2))])]) fun r4 =>
        bif bif okT then bif okT then bif okT then bif okT then bif okT then bif okT then bif okX then true else false else false else false else false else false else false else false then
          (some (AV.ag 9 (lstG [AV.own n0 1 fun i => lstG [nI (x0 i)], nI p1, AV.own n2 1 fun i => lstG [AV.B (x2 i)], AV.own n3 1 fun i => lstG [nI (x3 i)], AV.own n4 3 fun i => lstG [nI (x4 i), nI (y4 i), AV.S (z4 i)], AV.own n5 1 fun i => lstG [AV.S (x5 i)], AV.own n6 1 fun i => lstG [nI (x6 i)], AV.own 1 3 fun i => lstG [AV.own (bif decide (i - 0 = 0) then 2 else 0) 1 fun i_1 => lstG [nI (bif decide (i - 0 = 0) then bif decide (i_1 = 0) then 0 else bif decide (i_1 - 1 = 0) then 1 else 0 else 0)], nI (bif decide (i - 0 = 0) then 2 else 0), AV.own (bif decide (i - 0 = 0) then asN r4.fst else 0) 3 fun i_1 => lstG [nI (bif decide (i - 0 = 0) then asI (asG r4.fst i_1 0) else 0), nI (bif decide (i - 0 = 0) then asI (asG r4.fst i_1 1) else 0), AV.S (bif decide (i - 0 = 0) then asS (asG r4.fst i_1 2) else ByteArray.empty)]], nI p8]), [AV.nbx 3 (lstG [AV.gv (asV (asA (r4.snd.headD AV.bad) 0)), nI (asI (asA (r4.snd.headD AV.bad) 1)), nI (asI (asA (r4.snd.headD AV.bad) 2))])]))
        else
          (none)))
    (and2
      (and2
        (Option.bind (Γ 73 [AV.pb 0 0, nI 1] [AV.nbx 3 (lstG [AV.gv (asV (asA (r0.snd.headD AV.bad) 0)), nI (asI (asA (r0.snd.headD AV.bad) 1)), nI (asI (asA (r0.snd.headD AV.bad) 2))])]) fun r5 =>
          bif bif okT then bif okT then bif okT then bif okT then bif okT then bif okT then bif okX then true else false else false else false else false else false else false else false then
            (some (AV.ag 9 (lstG [AV.own n0 1 fun i => lstG [nI (x0 i)], nI p1, AV.own n2 1 fun i => lstG [AV.B (x2 i)], AV.own n3 1 fun i => lstG [nI (x3 i)], AV.own n4 3 fun i => lstG [nI (x4 i), nI (y4 i), AV.S (z4 i)], AV.own n5 1 fun i => lstG [AV.S (x5 i)], AV.own n6 1 fun i => lstG [nI (x6 i)], AV.own 1 3 fun i => lstG [AV.own (bif decide (i - 0 = 0) then 2 else 0) 1 fun i_1 => lstG [nI (bif decide (i - 0 = 0) then bif decide (i_1 = 0) then 0 else bif decide (i_1 - 1 = 0) then 1 else 0 else 0)], nI (bif decide (i - 0 = 0) then 2 else 0), AV.own (bif decide (i - 0 = 0) then asN r5.fst else 0) 3 fun i_1 => lstG [nI (bif decide (i - 0 = 0) then asI (asG r5.fst i_1 0) else 0), nI (bif decide (i - 0 = 0) then asI (asG r5.fst i_1 1) else 0), AV.S (bif decide (i - 0 = 0) then asS (asG r5.fst i_1 2) else ByteArray.empty)]], nI p8]), [AV.nbx 3 (lstG [AV.gv (asV (asA (r5.snd.headD AV.bad) 0)), nI (asI (asA (r5.snd.headD AV.bad) 1)), nI (asI (asA (r5.snd.headD AV.bad) 2))])]))
          else
            (none))
        (Option.bind (Γ 73 [AV.pb 0 0, nI 1] [AV.nbx 3 (lstG [AV.gv (asV (asA (r0.snd.headD AV.bad) 0)), nI (asI (asA (r0.snd.headD AV.bad) 1)), nI (asI (asA (r0.snd.headD AV.bad) 2))])]) fun r5 =>
          and2
          (bif bif okT then bif okT then bif okT then bif okT then bif okT then bif okT then bif okX then true else false else false else false else false else false else false else false then
              (some (AV.ag 9 (lstG [AV.own n0 1 fun i => lstG [nI (x0 i)], nI p1, AV.own n2 1 fun i => lstG [AV.B (x2 i)], AV.own n3 1 fun i => lstG [nI (x3 i)], AV.own n4 3 fun i => lstG [nI (x4 i), nI (y4 i), AV.S (z4 i)], AV.own n5 1 fun i => lstG [AV.S (x5 i)], AV.own n6 1 fun i => lstG [nI (x6 i)], AV.own 1 3 fun i => lstG [AV.own (bif decide (i - 0 = 0) then 2 else 0) 1 fun i_1 => lstG [nI (bif decide (i - 0 = 0) then bif decide (i_1 = 0) then 0 else bif decide (i_1 - 1 = 0) then 1 else 0 else 0)], nI (bif decide (i - 0 = 0) then 2 else 0), AV.own (bif decide (i - 0 = 0) then asN r5.fst else 0) 3 fun i_1 => lstG [nI (bif decide (i - 0 = 0) then asI (asG r5.fst i_1 0) else 0), nI (bif decide (i - 0 = 0) then asI (asG r5.fst i_1 1) else 0), AV.S (bif decide (i - 0 = 0) then asS (asG r5.fst i_1 2) else ByteArray.empty)]], nI p8]), [AV.nbx 3 (lstG [AV.gv (asV (asA (r5.snd.headD AV.bad) 0)), nI (asI (asA (r5.snd.headD AV.bad) 1)), nI (asI (asA (r5.snd.headD AV.bad) 2))])]))
            else
              (none))
          (bif bif okT then bif okT then bif okT then bif okT then bif okT then bif okT then bif okX then true else false else false else false else false else false else false else false then
              (some (AV.ag 9 (lstG [AV.own n0 1 fun i => lstG [nI (x0 i)], nI p1, AV.own n2 1 fun i => lstG [AV.B (x2 i)], AV.own n3 1 fun i => lstG [nI (x3 i)], AV.own n4 3 fun i => lstG [nI (x4 i), nI (y4 i), AV.S (z4 i)], AV.own n5 1 fun i => lstG [AV.S (x5 i)], AV.own n6 1 fun i => lstG [nI (x6 i)], AV.own 1 3 fun i => lstG [AV.own (bif decide (i - 0 = 0) then 2 else 0) 1 fun i_1 => lstG [nI (bif decide (i - 0 = 0) then bif decide (i_1 = 0) then 0 else bif decide (i_1 - 1 = 0) then 1 else 0 else 0)], nI (bif decide (i - 0 = 0) then 2 else 0), AV.own (bif decide (i - 0 = 0) then asN r5.fst else 0) 3 fun i_1 => lstG [nI (bif decide (i - 0 = 0) then asI (asG r5.fst i_1 0) else 0), nI (bif decide (i - 0 = 0) then asI (asG r5.fst i_1 1) else 0), AV.S (bif decide (i - 0 = 0) then asS (asG r5.fst i_1 2) else ByteArray.empty)]], nI p8]), [AV.nbx 3 (lstG [AV.gv (asV (asA (r5.snd.headD AV.bad) 0)), nI (asI (asA (r5.snd.headD AV.bad) 1)), nI (asI (asA (r5.snd.headD AV.bad) 2))])]))
            else
              (none))))
      (Option.bind (Γ 73 [AV.pb 0 0, nI 1] [AV.nbx 3 (lstG [AV.gv (asV (asA (r0.snd.headD AV.bad) 0)), nI (asI (asA (r0.snd.headD AV.bad) 1)), nI (asI (asA (r0.snd.headD AV.bad) 2))])]) fun r4 =>
        and2
        (bif bif okT then bif okT then bif okT then bif okT then bif okT then bif okT then bif okX then true else false else false else false else false else false else false else false then
            (some (AV.ag 9 (lstG [AV.own n0 1 fun i => lstG [nI (x0 i)], nI p1, AV.own n2 1 fun i => lstG [AV.B (x2 i)], AV.own n3 1 fun i => lstG [nI (x3 i)], AV.own n4 3 fun i => lstG [nI (x4 i), nI (y4 i), AV.S (z4 i)], AV.own n5 1 fun i => lstG [AV.S (x5 i)], AV.own n6 1 fun i => lstG [nI (x6 i)], AV.own 1 3 fun i => lstG [AV.own (bif decide (i - 0 = 0) then 2 else 0) 1 fun i_1 => lstG [nI (bif decide (i - 0 = 0) then bif decide (i_1 = 0) then 0 else bif decide (i_1 - 1 = 0) then 1 else 0 else 0)], nI (bif decide (i - 0 = 0) then 2 else 0), AV.own (bif decide (i - 0 = 0) then asN r4.fst else 0) 3 fun i_1 => lstG [nI (bif decide (i - 0 = 0) then asI (asG r4.fst i_1 0) else 0), nI (bif decide (i - 0 = 0) then asI (asG r4.fst i_1 1) else 0), AV.S (bif decide (i - 0 = 0) then asS (asG r4.fst i_1 2) else ByteArray.empty)]], nI p8]), [AV.nbx 3 (lstG [AV.gv (asV (asA (r4.snd.headD AV.bad) 0)), nI (asI (asA (r4.snd.headD AV.bad) 1)), nI (asI (asA (r4.snd.headD AV.bad) 2))])]))
          else
            (none))
        (and2
          (bif bif okT then bif okT then bif okT then bif okT then bif okT then bif okT then bif okX then true else false else false else false else false else false else false else false then
              (some (AV.ag 9 (lstG [AV.own n0 1 fun i => lstG [nI (x0 i)], nI p1, AV.own n2 1 fun i => lstG [AV.B (x2 i)], AV.own n3 1 fun i => lstG [nI (x3 i)], AV.own n4 3 fun i => lstG [nI (x4 i), nI (y4 i), AV.S (z4 i)], AV.own n5 1 fun i => lstG [AV.S (x5 i)], AV.own n6 1 fun i => lstG [nI (x6 i)], AV.own 1 3 fun i => lstG [AV.own (bif decide (i - 0 = 0) then 2 else 0) 1 fun i_1 => lstG [nI (bif decide (i - 0 = 0) then bif decide (i_1 = 0) then 0 else bif decide (i_1 - 1 = 0) then 1 else 0 else 0)], nI (bif decide (i - 0 = 0) then 2 else 0), AV.own (bif decide (i - 0 = 0) then asN r4.fst else 0) 3 fun i_1 => lstG [nI (bif decide (i - 0 = 0) then asI (asG r4.fst i_1 0) else 0), nI (bif decide (i - 0 = 0) then asI (asG r4.fst i_1 1) else 0), AV.S (bif decide (i - 0 = 0) then asS (asG r4.fst i_1 2) else ByteArray.empty)]], nI p8]), [AV.nbx 3 (lstG [AV.gv (asV (asA (r4.snd.headD AV.bad) 0)), nI (asI (asA (r4.snd.headD AV.bad) 1)), nI (asI (asA (r4.snd.headD AV.bad) 2))])]))
            else
              (none))
          (bif bif okT then bif okT then bif okT then bif okT then bif okT then bif okT then bif okX then true else false else false else false else false else false else false else false then
              (some (AV.ag 9 (lstG [AV.own n0 1 fun i => lstG [nI (x0 i)], nI p1, AV.own n2 1 fun i => lstG [AV.B (x2 i)], AV.own n3 1 fun i => lstG [nI (x3 i)], AV.own n4 3 fun i => lstG [nI (x4 i), nI (y4 i), AV.S (z4 i)], AV.own n5 1 fun i => lstG [AV.S (x5 i)], AV.own n6 1 fun i => lstG [nI (x6 i)], AV.own 1 3 fun i => lstG [AV.own (bif decide (i - 0 = 0) then 2 else 0) 1 fun i_1 => lstG [nI (bif decide (i - 0 = 0) then bif decide (i_1 = 0) then 0 else bif decide (i_1 - 1 = 0) then 1 else 0 else 0)], nI (bif decide (i - 0 = 0) then 2 else 0), AV.own (bif decide (i - 0 = 0) then asN r4.fst else 0) 3 fun i_1 => lstG [nI (bif decide (i - 0 = 0) then asI (asG r4.fst i_1 0) else 0), nI (bif decide (i - 0 = 0) then asI (asG r4.fst i_1 1) else 0), AV.S (bif decide (i - 0 = 0) then asS (asG r4.fst i_1 2) else ByteArray.empty)]], nI p8]), [AV.nbx 3 (lstG [AV.gv (asV (asA (r4.snd.headD AV.bad) 0)), nI (asI (asA (r4.snd.headD AV.bad) 1)), nI (asI (asA (r4.snd.headD AV.bad) 2))])]))
            else
              (none))))))
  else
    (bif bif okT then bif okT then bif okT then bif okT then bif okT then bif okT then bif okX then true else false else false else false else false else false else false else false then
      (some (AV.ag 9 (lstG [AV.own n0 1 fun i => lstG [nI (x0 i)], nI p1, AV.own n2 1 fun i => lstG [AV.B (x2 i)], AV.own n3 1 fun i => lstG [nI (x3 i)], AV.own n4 3 fun i => lstG [nI (x4 i), nI (y4 i), AV.S (z4 i)], AV.own n5 1 fun i => lstG [AV.S (x5 i)], AV.own n6 1 fun i => lstG [nI (x6 i)], AV.own 0 3 fun i => lstG [AV.own 0 1 fun i => lstG [nI 0], nI 0, AV.own 0 3 fun i => lstG [nI 0, nI 0, AV.S ByteArray.empty]], nI p8]), [AV.nbx 3 (lstG [AV.gv (asV (asA (r0.snd.headD AV.bad) 0)), nI (asI (asA (r0.snd.headD AV.bad) 1)), nI (asI (asA (r0.snd.headD AV.bad) 2))])]))
    else
      (none)) := by kernel_rfl
theorem dh42o1 (Γ : Orc) (H : Hd) (cs : List Int) (i h : Int) (i0 h0 : Int) (p0 p2 p3 p4 p5 p6 p7 : Nat) (q0 q2 q3 q4 q5 q6 q7 : Nat → Nat → AV) (p1 p8 : Int) (op tok : Int) : hed Tryz.prog cfg Γ 42 H [.nbx 3 (lstG [.gv cs, nI i0, nI h0])] [true, true, true, true, false, false] (hdS [(0, .pb 0 0), (3, .pb 67 0), (4, .pb 68 0), (5, .pb 69 0), (36, nI 1)] [] [(0, 3, [.gv cs, nI i, nI h]), (67, 9, [.sl p0 1 q0, nI p1, .sl p2 1 q2, .sl p3 1 q3, .sl p4 3 q4, .sl p5 1 q5, .sl p6 1 q6, .sl p7 3 q7, nI p8]), (68, 9, [nI 0, nI 0, nI 0, nI 0, .S ByteArray.empty, nI 0, nI 0, .S ByteArray.empty, .nsl 3 (fun _ => lstG [nI 0, nI 0, .S ByteArray.empty])]), (69, 9, [nI op, nI 0, nI 0, nI tok, .S ByteArray.empty, nI 0, nI 0, .S ByteArray.empty, .nsl 3 (fun _ => lstG [nI 0, nI 0, .S ByteArray.empty])])]) =
  Option.bind (Γ 41 [AV.pb 0 0, nI p1] [AV.nbx 3 (lstG [AV.gv cs, nI i, nI h])]) fun r0 =>
  bif bif okT then true else false then
    (some (AV.ag 9 (lstG [nI op, nI (asI r0.fst), nI 0, nI tok, AV.S ByteArray.empty, nI 0, nI 0, AV.S ByteArray.empty, AV.own 0 3 fun i => lstG [nI 0, nI 0, AV.S ByteArray.empty]]), [AV.nbx 3 (lstG [AV.gv (asV (asA (r0.snd.headD AV.bad) 0)), nI (asI (asA (r0.snd.headD AV.bad) 1)), nI (asI (asA (r0.snd.headD AV.bad) 2))])]))
  else
    (none) := by kernel_rfl
theorem dh42o2 (Γ : Orc) (H : Hd) (cs : List Int) (i h : Int) (i0 h0 : Int) (p0 p2 p3 p4 p5 p6 p7 : Nat) (q0 q2 q3 q4 q5 q6 q7 : Nat → Nat → AV) (p1 p8 : Int) (op tok : Int) : hed Tryz.prog cfg Γ 42 H [.nbx 3 (lstG [.gv cs, nI i0, nI h0])] [true, true, true, true, false, false] (hdS [(0, .pb 0 0), (3, .pb 67 0), (4, .pb 68 0), (5, .pb 69 0), (36, nI 2)] [] [(0, 3, [.gv cs, nI i, nI h]), (67, 9, [.sl p0 1 q0, nI p1, .sl p2 1 q2, .sl p3 1 q3, .sl p4 3 q4, .sl p5 1 q5, .sl p6 1 q6, .sl p7 3 q7, nI p8]), (68, 9, [nI 0, nI 0, nI 0, nI 0, .S ByteArray.empty, nI 0, nI 0, .S ByteArray.empty, .nsl 3 (fun _ => lstG [nI 0, nI 0, .S ByteArray.empty])]), (69, 9, [nI op, nI 0, nI 0, nI tok, .S ByteArray.empty, nI 0, nI 0, .S ByteArray.empty, .nsl 3 (fun _ => lstG [nI 0, nI 0, .S ByteArray.empty])])]) =
  Option.bind (Γ 41 [AV.pb 0 0, nI p1] [AV.nbx 3 (lstG [AV.gv cs, nI i, nI h])]) fun r0 =>
  bif bif okT then true else false then
    (some (AV.ag 9 (lstG [nI op, nI (asI r0.fst), nI 0, nI tok, AV.S ByteArray.empty, nI 0, nI 0, AV.S ByteArray.empty, AV.own 0 3 fun i => lstG [nI 0, nI 0, AV.S ByteArray.empty]]), [AV.nbx 3 (lstG [AV.gv (asV (asA (r0.snd.headD AV.bad) 0)), nI (asI (asA (r0.snd.headD AV.bad) 1)), nI (asI (asA (r0.snd.headD AV.bad) 2))])]))
  else
    (none) := by kernel_rfl
theorem dh42o3 (Γ : Orc) (H : Hd) (cs : List Int) (i h : Int) (i0 h0 : Int) (p0 p2 p3 p4 p5 p6 p7 : Nat) (q0 q2 q3 q4 q5 q6 q7 : Nat → Nat → AV) (p1 p8 : Int) (op tok : Int) : hed Tryz.prog cfg Γ 42 H [.nbx 3 (lstG [.gv cs, nI i0, nI h0])] [true, true, true, true, false, false] (hdS [(0, .pb 0 0), (3, .pb 67 0), (4, .pb 68 0), (5, .pb 69 0), (36, nI 3)] [] [(0, 3, [.gv cs, nI i, nI h]), (67, 9, [.sl p0 1 q0, nI p1, .sl p2 1 q2, .sl p3 1 q3, .sl p4 3 q4, .sl p5 1 q5, .sl p6 1 q6, .sl p7 3 q7, nI p8]), (68, 9, [nI 0, nI 0, nI 0, nI 0, .S ByteArray.empty, nI 0, nI 0, .S ByteArray.empty, .nsl 3 (fun _ => lstG [nI 0, nI 0, .S ByteArray.empty])]), (69, 9, [nI op, nI 0, nI 0, nI tok, .S ByteArray.empty, nI 0, nI 0, .S ByteArray.empty, .nsl 3 (fun _ => lstG [nI 0, nI 0, .S ByteArray.empty])])]) =
  Option.bind (Γ 41 [AV.pb 0 0, nI p1] [AV.nbx 3 (lstG [AV.gv cs, nI i, nI h])]) fun r0 =>
  bif bif okT then true else false then
    (some (AV.ag 9 (lstG [nI op, nI (asI r0.fst), nI 0, nI tok, AV.S ByteArray.empty, nI 0, nI 0, AV.S ByteArray.empty, AV.own 0 3 fun i => lstG [nI 0, nI 0, AV.S ByteArray.empty]]), [AV.nbx 3 (lstG [AV.gv (asV (asA (r0.snd.headD AV.bad) 0)), nI (asI (asA (r0.snd.headD AV.bad) 1)), nI (asI (asA (r0.snd.headD AV.bad) 2))])]))
  else
    (none) := by kernel_rfl
theorem dh42o4 (Γ : Orc) (H : Hd) (cs : List Int) (i h : Int) (i0 h0 : Int) (p0 p2 p3 p4 p5 p6 p7 : Nat) (q0 q2 q3 q4 q5 q6 q7 : Nat → Nat → AV) (p1 p8 : Int) (op tok : Int) : hed Tryz.prog cfg Γ 42 H [.nbx 3 (lstG [.gv cs, nI i0, nI h0])] [true, true, true, true, false, false] (hdS [(0, .pb 0 0), (3, .pb 67 0), (4, .pb 68 0), (5, .pb 69 0), (36, nI 4)] [] [(0, 3, [.gv cs, nI i, nI h]), (67, 9, [.sl p0 1 q0, nI p1, .sl p2 1 q2, .sl p3 1 q3, .sl p4 3 q4, .sl p5 1 q5, .sl p6 1 q6, .sl p7 3 q7, nI p8]), (68, 9, [nI 0, nI 0, nI 0, nI 0, .S ByteArray.empty, nI 0, nI 0, .S ByteArray.empty, .nsl 3 (fun _ => lstG [nI 0, nI 0, .S ByteArray.empty])]), (69, 9, [nI op, nI 0, nI 0, nI tok, .S ByteArray.empty, nI 0, nI 0, .S ByteArray.empty, .nsl 3 (fun _ => lstG [nI 0, nI 0, .S ByteArray.empty])])]) =
  Option.bind (Γ 41 [AV.pb 0 0, nI (zN p2)] [AV.nbx 3 (lstG [AV.gv cs, nI i, nI h])]) fun r0 =>
  bif bif okT then true else false then
    (some (AV.ag 9 (lstG [nI op, nI (asI r0.fst), nI 0, nI tok, AV.S ByteArray.empty, nI 0, nI 0, AV.S ByteArray.empty, AV.own 0 3 fun i => lstG [nI 0, nI 0, AV.S ByteArray.empty]]), [AV.nbx 3 (lstG [AV.gv (asV (asA (r0.snd.headD AV.bad) 0)), nI (asI (asA (r0.snd.headD AV.bad) 1)), nI (asI (asA (r0.snd.headD AV.bad) 2))])]))
  else
    (none) := by kernel_rfl
theorem dh42o5 (Γ : Orc) (H : Hd) (cs : List Int) (i h : Int) (i0 h0 : Int) (p0 p2 p3 p4 p5 p6 p7 : Nat) (q0 q2 q3 q4 q5 q6 q7 : Nat → Nat → AV) (p1 p8 : Int) (op tok : Int) : hed Tryz.prog cfg Γ 42 H [.nbx 3 (lstG [.gv cs, nI i0, nI h0])] [true, true, true, true, false, false] (hdS [(0, .pb 0 0), (3, .pb 67 0), (4, .pb 68 0), (5, .pb 69 0), (36, nI 5)] [] [(0, 3, [.gv cs, nI i, nI h]), (67, 9, [.sl p0 1 q0, nI p1, .sl p2 1 q2, .sl p3 1 q3, .sl p4 3 q4, .sl p5 1 q5, .sl p6 1 q6, .sl p7 3 q7, nI p8]), (68, 9, [nI 0, nI 0, nI 0, nI 0, .S ByteArray.empty, nI 0, nI 0, .S ByteArray.empty, .nsl 3 (fun _ => lstG [nI 0, nI 0, .S ByteArray.empty])]), (69, 9, [nI op, nI 0, nI 0, nI tok, .S ByteArray.empty, nI 0, nI 0, .S ByteArray.empty, .nsl 3 (fun _ => lstG [nI 0, nI 0, .S ByteArray.empty])])]) =
  Option.bind (Γ 41 [AV.pb 0 0, nI (zN p2)] [AV.nbx 3 (lstG [AV.gv cs, nI i, nI h])]) fun r0 =>
  bif bif okT then true else false then
    (some (AV.ag 9 (lstG [nI op, nI (asI r0.fst), nI 0, nI tok, AV.S ByteArray.empty, nI 0, nI 0, AV.S ByteArray.empty, AV.own 0 3 fun i => lstG [nI 0, nI 0, AV.S ByteArray.empty]]), [AV.nbx 3 (lstG [AV.gv (asV (asA (r0.snd.headD AV.bad) 0)), nI (asI (asA (r0.snd.headD AV.bad) 1)), nI (asI (asA (r0.snd.headD AV.bad) 2))])]))
  else
    (none) := by kernel_rfl
theorem dh42o6 (Γ : Orc) (H : Hd) (cs : List Int) (i h : Int) (i0 h0 : Int) (p0 p2 p3 p4 p5 p6 p7 : Nat) (q0 q2 q3 q4 q5 q6 q7 : Nat → Nat → AV) (p1 p8 : Int) (op tok : Int) : hed Tryz.prog cfg Γ 42 H [.nbx 3 (lstG [.gv cs, nI i0, nI h0])] [true, true, true, true, false, false] (hdS [(0, .pb 0 0), (3, .pb 67 0), (4, .pb 68 0), (5, .pb 69 0), (36, nI 6)] [] [(0, 3, [.gv cs, nI i, nI h]), (67, 9, [.sl p0 1 q0, nI p1, .sl p2 1 q2, .sl p3 1 q3, .sl p4 3 q4, .sl p5 1 q5, .sl p6 1 q6, .sl p7 3 q7, nI p8]), (68, 9, [nI 0, nI 0, nI 0, nI 0, .S ByteArray.empty, nI 0, nI 0, .S ByteArray.empty, .nsl 3 (fun _ => lstG [nI 0, nI 0, .S ByteArray.empty])]), (69, 9, [nI op, nI 0, nI 0, nI tok, .S ByteArray.empty, nI 0, nI 0, .S ByteArray.empty, .nsl 3 (fun _ => lstG [nI 0, nI 0, .S ByteArray.empty])])]) =
  Option.bind (Γ 41 [AV.pb 0 0, nI (zN p2)] [AV.nbx 3 (lstG [AV.gv cs, nI i, nI h])]) fun r0 =>
  bif bif okT then true else false then
    (some (AV.ag 9 (lstG [nI op, nI (asI r0.fst), nI 0, nI tok, AV.S ByteArray.empty, nI 0, nI 0, AV.S ByteArray.empty, AV.own 0 3 fun i => lstG [nI 0, nI 0, AV.S ByteArray.empty]]), [AV.nbx 3 (lstG [AV.gv (asV (asA (r0.snd.headD AV.bad) 0)), nI (asI (asA (r0.snd.headD AV.bad) 1)), nI (asI (asA (r0.snd.headD AV.bad) 2))])]))
  else
    (none) := by kernel_rfl
theorem dh42o7 (Γ : Orc) (H : Hd) (cs : List Int) (i h : Int) (i0 h0 : Int) (p0 p2 p3 p4 p5 p6 p7 : Nat) (q0 q2 q3 q4 q5 q6 q7 : Nat → Nat → AV) (p1 p8 : Int) (op tok : Int) : hed Tryz.prog cfg Γ 42 H [.nbx 3 (lstG [.gv cs, nI i0, nI h0])] [true, true, true, true, false, false] (hdS [(0, .pb 0 0), (3, .pb 67 0), (4, .pb 68 0), (5, .pb 69 0), (36, nI 7)] [] [(0, 3, [.gv cs, nI i, nI h]), (67, 9, [.sl p0 1 q0, nI p1, .sl p2 1 q2, .sl p3 1 q3, .sl p4 3 q4, .sl p5 1 q5, .sl p6 1 q6, .sl p7 3 q7, nI p8]), (68, 9, [nI 0, nI 0, nI 0, nI 0, .S ByteArray.empty, nI 0, nI 0, .S ByteArray.empty, .nsl 3 (fun _ => lstG [nI 0, nI 0, .S ByteArray.empty])]), (69, 9, [nI op, nI 0, nI 0, nI tok, .S ByteArray.empty, nI 0, nI 0, .S ByteArray.empty, .nsl 3 (fun _ => lstG [nI 0, nI 0, .S ByteArray.empty])])]) =
  Option.bind (Γ 41 [AV.pb 0 0, nI 2] [AV.nbx 3 (lstG [AV.gv cs, nI i, nI h])]) fun r0 =>
  bif bif okT then true else false then
    (some (AV.ag 9 (lstG [nI op, nI 0, nI (IntKind.i64.wrap (1 + asI r0.fst)), nI tok, AV.S ByteArray.empty, nI 0, nI 0, AV.S ByteArray.empty, AV.own 0 3 fun i => lstG [nI 0, nI 0, AV.S ByteArray.empty]]), [AV.nbx 3 (lstG [AV.gv (asV (asA (r0.snd.headD AV.bad) 0)), nI (asI (asA (r0.snd.headD AV.bad) 1)), nI (asI (asA (r0.snd.headD AV.bad) 2))])]))
  else
    (none) := by kernel_rfl
theorem dh42o8 (Γ : Orc) (H : Hd) (cs : List Int) (i h : Int) (i0 h0 : Int) (p0 p2 p3 p4 p5 p6 p7 : Nat) (q0 q2 q3 q4 q5 q6 q7 : Nat → Nat → AV) (p1 p8 : Int) (op tok : Int) : hed Tryz.prog cfg Γ 42 H [.nbx 3 (lstG [.gv cs, nI i0, nI h0])] [true, true, true, true, false, false] (hdS [(0, .pb 0 0), (3, .pb 67 0), (4, .pb 68 0), (5, .pb 69 0), (36, nI 8)] [] [(0, 3, [.gv cs, nI i, nI h]), (67, 9, [.sl p0 1 q0, nI p1, .sl p2 1 q2, .sl p3 1 q3, .sl p4 3 q4, .sl p5 1 q5, .sl p6 1 q6, .sl p7 3 q7, nI p8]), (68, 9, [nI 0, nI 0, nI 0, nI 0, .S ByteArray.empty, nI 0, nI 0, .S ByteArray.empty, .nsl 3 (fun _ => lstG [nI 0, nI 0, .S ByteArray.empty])]), (69, 9, [nI op, nI 0, nI 0, nI tok, .S ByteArray.empty, nI 0, nI 0, .S ByteArray.empty, .nsl 3 (fun _ => lstG [nI 0, nI 0, .S ByteArray.empty])])]) =
  bif bif okT then true else false then
    (some (AV.ag 9 (lstG [nI op, nI 0, nI 0, nI tok, AV.S ByteArray.empty, nI 0, nI 0, AV.S ByteArray.empty, AV.own 0 3 fun i => lstG [nI 0, nI 0, AV.S ByteArray.empty]]), [AV.nbx 3 (lstG [AV.gv cs, nI i, nI h])]))
  else
    (none) := by kernel_rfl
theorem dh42o9 (Γ : Orc) (H : Hd) (cs : List Int) (i h : Int) (i0 h0 : Int) (p0 p2 p3 p4 p5 p6 p7 : Nat) (q0 q2 q3 q4 q5 q6 q7 : Nat → Nat → AV) (p1 p8 : Int) (op tok : Int) : hed Tryz.prog cfg Γ 42 H [.nbx 3 (lstG [.gv cs, nI i0, nI h0])] [true, true, true, true, false, false] (hdS [(0, .pb 0 0), (3, .pb 67 0), (4, .pb 68 0), (5, .pb 69 0), (36, nI 9)] [] [(0, 3, [.gv cs, nI i, nI h]), (67, 9, [.sl p0 1 q0, nI p1, .sl p2 1 q2, .sl p3 1 q3, .sl p4 3 q4, .sl p5 1 q5, .sl p6 1 q6, .sl p7 3 q7, nI p8]), (68, 9, [nI 0, nI 0, nI 0, nI 0, .S ByteArray.empty, nI 0, nI 0, .S ByteArray.empty, .nsl 3 (fun _ => lstG [nI 0, nI 0, .S ByteArray.empty])]), (69, 9, [nI op, nI 0, nI 0, nI tok, .S ByteArray.empty, nI 0, nI 0, .S ByteArray.empty, .nsl 3 (fun _ => lstG [nI 0, nI 0, .S ByteArray.empty])])]) =
  Option.bind (Γ 41 [AV.pb 0 0, nI (zN p4)] [AV.nbx 3 (lstG [AV.gv cs, nI i, nI h])]) fun r0 =>
  Option.bind (Γ 41 [AV.pb 0 0, nI 4] [AV.nbx 3 (lstG [AV.gv (asV (asA (r0.snd.headD AV.bad) 0)), nI (asI (asA (r0.snd.headD AV.bad) 1)), nI (asI (asA (r0.snd.headD AV.bad) 2))])]) fun r1 =>
  Option.bind (Γ 75 [AV.pb 0 0] [AV.nbx 3 (lstG [AV.gv (asV (asA (r1.snd.headD AV.bad) 0)), nI (asI (asA (r1.snd.headD AV.bad) 1)), nI (asI (asA (r1.snd.headD AV.bad) 2))])]) fun r2 =>
  Option.bind (Γ 20 [AV.pb 0 0, nI 2] [AV.nbx 3 (lstG [AV.gv (asV (asA (r2.snd.headD AV.bad) 0)), nI (asI (asA (r2.snd.headD AV.bad) 1)), nI (asI (asA (r2.snd.headD AV.bad) 2))])]) fun r3 =>
  bif asB r3.fst then
    (bif bif okT then true else false then
      (some (AV.ag 9 (lstG [nI op, nI (asI r0.fst), nI 1, nI tok, AV.S ByteArray.empty, nI (asI (asA r2.fst 0)), nI (asI (asA r2.fst 1)), AV.S (asS (asA r2.fst 2)), AV.own 0 3 fun i => lstG [nI 0, nI 0, AV.S ByteArray.empty]]), [AV.nbx 3 (lstG [AV.gv (asV (asA (r3.snd.headD AV.bad) 0)), nI (asI (asA (r3.snd.headD AV.bad) 1)), nI (asI (asA (r3.snd.headD AV.bad) 2))])]))
    else
      (none))
  else
    (bif bif okT then true else false then
      (some (AV.ag 9 (lstG [nI op, nI (asI r0.fst), nI (IntKind.i64.wrap (1 + asI r1.fst)), nI tok, AV.S ByteArray.empty, nI (asI (asA r2.fst 0)), nI (asI (asA r2.fst 1)), AV.S (asS (asA r2.fst 2)), AV.own 0 3 fun i => lstG [nI 0, nI 0, AV.S ByteArray.empty]]), [AV.nbx 3 (lstG [AV.gv (asV (asA (r3.snd.headD AV.bad) 0)), nI (asI (asA (r3.snd.headD AV.bad) 1)), nI (asI (asA (r3.snd.headD AV.bad) 2))])]))
    else
      (none)) := by kernel_rfl
theorem dh42o10 (Γ : Orc) (H : Hd) (cs : List Int) (i h : Int) (i0 h0 : Int) (p0 p2 p3 p4 p5 p6 p7 : Nat) (q0 q2 q3 q4 q5 q6 q7 : Nat → Nat → AV) (p1 p8 : Int) (op tok : Int) : hed Tryz.prog cfg Γ 42 H [.nbx 3 (lstG [.gv cs, nI i0, nI h0])] [true, true, true, true, false, false] (hdS [(0, .pb 0 0), (3, .pb 67 0), (4, .pb 68 0), (5, .pb 69 0), (36, nI 10)] [] [(0, 3, [.gv cs, nI i, nI h]), (67, 9, [.sl p0 1 q0, nI p1, .sl p2 1 q2, .sl p3 1 q3, .sl p4 3 q4, .sl p5 1 q5, .sl p6 1 q6, .sl p7 3 q7, nI p8]), (68, 9, [nI 0, nI 0, nI 0, nI 0, .S ByteArray.empty, nI 0, nI 0, .S ByteArray.empty, .nsl 3 (fun _ => lstG [nI 0, nI 0, .S ByteArray.empty])]), (69, 9, [nI op, nI 0, nI 0, nI tok, .S ByteArray.empty, nI 0, nI 0, .S ByteArray.empty, .nsl 3 (fun _ => lstG [nI 0, nI 0, .S ByteArray.empty])])]) =
  Option.bind (Γ 41 [AV.pb 0 0, nI (zN p4)] [AV.nbx 3 (lstG [AV.gv cs, nI i, nI h])]) fun r0 =>
  bif bif okT then true else false then
    (some (AV.ag 9 (lstG [nI op, nI (asI r0.fst), nI 0, nI tok, AV.S ByteArray.empty, nI 0, nI 0, AV.S ByteArray.empty, AV.own 0 3 fun i => lstG [nI 0, nI 0, AV.S ByteArray.empty]]), [AV.nbx 3 (lstG [AV.gv (asV (asA (r0.snd.headD AV.bad) 0)), nI (asI (asA (r0.snd.headD AV.bad) 1)), nI (asI (asA (r0.snd.headD AV.bad) 2))])]))
  else
    (none) := by kernel_rfl
theorem dh42o11 (Γ : Orc) (H : Hd) (cs : List Int) (i h : Int) (i0 h0 : Int) (p0 p2 p3 p4 p5 p6 p7 : Nat) (q0 q2 q3 q4 q5 q6 q7 : Nat → Nat → AV) (p1 p8 : Int) (op tok : Int) : hed Tryz.prog cfg Γ 42 H [.nbx 3 (lstG [.gv cs, nI i0, nI h0])] [true, true, true, true, false, false] (hdS [(0, .pb 0 0), (3, .pb 67 0), (4, .pb 68 0), (5, .pb 69 0), (36, nI 11)] [] [(0, 3, [.gv cs, nI i, nI h]), (67, 9, [.sl p0 1 q0, nI p1, .sl p2 1 q2, .sl p3 1 q3, .sl p4 3 q4, .sl p5 1 q5, .sl p6 1 q6, .sl p7 3 q7, nI p8]), (68, 9, [nI 0, nI 0, nI 0, nI 0, .S ByteArray.empty, nI 0, nI 0, .S ByteArray.empty, .nsl 3 (fun _ => lstG [nI 0, nI 0, .S ByteArray.empty])]), (69, 9, [nI op, nI 0, nI 0, nI tok, .S ByteArray.empty, nI 0, nI 0, .S ByteArray.empty, .nsl 3 (fun _ => lstG [nI 0, nI 0, .S ByteArray.empty])])]) =
  Option.bind (Γ 41 [AV.pb 0 0, nI (zN p4)] [AV.nbx 3 (lstG [AV.gv cs, nI i, nI h])]) fun r0 =>
  bif bif okT then true else false then
    (some (AV.ag 9 (lstG [nI op, nI (asI r0.fst), nI 0, nI tok, AV.S ByteArray.empty, nI 0, nI 0, AV.S ByteArray.empty, AV.own 0 3 fun i => lstG [nI 0, nI 0, AV.S ByteArray.empty]]), [AV.nbx 3 (lstG [AV.gv (asV (asA (r0.snd.headD AV.bad) 0)), nI (asI (asA (r0.snd.headD AV.bad) 1)), nI (asI (asA (r0.snd.headD AV.bad) 2))])]))
  else
    (none) := by kernel_rfl
theorem dh42o12 (Γ : Orc) (H : Hd) (cs : List Int) (i h : Int) (i0 h0 : Int) (p0 p2 p3 p4 p5 p6 p7 : Nat) (q0 q2 q3 q4 q5 q6 q7 : Nat → Nat → AV) (p1 p8 : Int) (op tok : Int) : hed Tryz.prog cfg Γ 42 H [.nbx 3 (lstG [.gv cs, nI i0, nI h0])] [true, true, true, true, false, false] (hdS [(0, .pb 0 0), (3, .pb 67 0), (4, .pb 68 0), (5, .pb 69 0), (36, nI 12)] [] [(0, 3, [.gv cs, nI i, nI h]), (67, 9, [.sl p0 1 q0, nI p1, .sl p2 1 q2, .sl p3 1 q3, .sl p4 3 q4, .sl p5 1 q5, .sl p6 1 q6, .sl p7 3 q7, nI p8]), (68, 9, [nI 0, nI 0, nI 0, nI 0, .S ByteArray.empty, nI 0, nI 0, .S ByteArray.empty, .nsl 3 (fun _ => lstG [nI 0, nI 0, .S ByteArray.empty])]), (69, 9, [nI op, nI 0, nI 0, nI tok, .S ByteArray.empty, nI 0, nI 0, .S ByteArray.empty, .nsl 3 (fun _ => lstG [nI 0, nI 0, .S ByteArray.empty])])]) =
  Option.bind (Γ 41 [AV.pb 0 0, nI (IntKind.i64.wrap (zN p4 + 3))] [AV.nbx 3 (lstG [AV.gv cs, nI i, nI h])]) fun r0 =>
  bif bif okT then true else false then
    (some (AV.ag 9 (lstG [nI op, nI (asI r0.fst), nI 0, nI tok, AV.S ByteArray.empty, nI 0, nI 0, AV.S ByteArray.empty, AV.own 0 3 fun i => lstG [nI 0, nI 0, AV.S ByteArray.empty]]), [AV.nbx 3 (lstG [AV.gv (asV (asA (r0.snd.headD AV.bad) 0)), nI (asI (asA (r0.snd.headD AV.bad) 1)), nI (asI (asA (r0.snd.headD AV.bad) 2))])]))
  else
    (none) := by kernel_rfl
theorem dh42o13 (Γ : Orc) (H : Hd) (cs : List Int) (i h : Int) (i0 h0 : Int) (p0 p2 p3 p4 p5 p6 p7 : Nat) (q0 q2 q3 q4 q5 q6 q7 : Nat → Nat → AV) (p1 p8 : Int) (op tok : Int) : hed Tryz.prog cfg Γ 42 H [.nbx 3 (lstG [.gv cs, nI i0, nI h0])] [true, true, true, true, false, false] (hdS [(0, .pb 0 0), (3, .pb 67 0), (4, .pb 68 0), (5, .pb 69 0), (36, nI 13)] [] [(0, 3, [.gv cs, nI i, nI h]), (67, 9, [.sl p0 1 q0, nI p1, .sl p2 1 q2, .sl p3 1 q3, .sl p4 3 q4, .sl p5 1 q5, .sl p6 1 q6, .sl p7 3 q7, nI p8]), (68, 9, [nI 0, nI 0, nI 0, nI 0, .S ByteArray.empty, nI 0, nI 0, .S ByteArray.empty, .nsl 3 (fun _ => lstG [nI 0, nI 0, .S ByteArray.empty])]), (69, 9, [nI op, nI 0, nI 0, nI tok, .S ByteArray.empty, nI 0, nI 0, .S ByteArray.empty, .nsl 3 (fun _ => lstG [nI 0, nI 0, .S ByteArray.empty])])]) =
  Option.bind (Γ 68 [AV.pb 0 0, AV.sl 7 1 fun i => lstG [AV.S (bif decide (i = 0) then (bs [97]) else bif decide (i - 1 = 0) then (bs [97, 46, 98]) else bif decide (i - 1 - 1 = 0) then (bs [62]) else bif decide (i - 1 - 1 - 1 = 0) then (bs [42]) else bif decide (i - 1 - 1 - 1 - 1 = 0) then (bs [97, 46, 42]) else bif decide (i - 1 - 1 - 1 - 1 - 1 = 0) then (bs [110, 101, 119, 115]) else bif decide (i - 1 - 1 - 1 - 1 - 1 - 1 = 0) then (bs [110, 111, 110, 101]) else ByteArray.empty)]] [AV.nbx 3 (lstG [AV.gv cs, nI i, nI h])]) fun r0 =>
  Option.bind (Γ 75 [AV.pb 0 0] [AV.nbx 3 (lstG [AV.gv (asV (asA (r0.snd.headD AV.bad) 0)), nI (asI (asA (r0.snd.headD AV.bad) 1)), nI (asI (asA (r0.snd.headD AV.bad) 2))])]) fun r1 =>
  bif bif okT then true else false then
    (some (AV.ag 9 (lstG [nI op, nI 0, nI 0, nI tok, AV.S (asS r0.fst), nI (asI (asA r1.fst 0)), nI (asI (asA r1.fst 1)), AV.S (asS (asA r1.fst 2)), AV.own 0 3 fun i => lstG [nI 0, nI 0, AV.S ByteArray.empty]]), [AV.nbx 3 (lstG [AV.gv (asV (asA (r1.snd.headD AV.bad) 0)), nI (asI (asA (r1.snd.headD AV.bad) 1)), nI (asI (asA (r1.snd.headD AV.bad) 2))])]))
  else
    (none) := by kernel_rfl
theorem dh42o14 (Γ : Orc) (H : Hd) (cs : List Int) (i h : Int) (i0 h0 : Int) (p0 p2 p3 p4 p5 p6 p7 : Nat) (q0 q2 q3 q4 q5 q6 q7 : Nat → Nat → AV) (p1 p8 : Int) (op tok : Int) : hed Tryz.prog cfg Γ 42 H [.nbx 3 (lstG [.gv cs, nI i0, nI h0])] [true, true, true, true, false, false] (hdS [(0, .pb 0 0), (3, .pb 67 0), (4, .pb 68 0), (5, .pb 69 0), (36, nI 14)] [] [(0, 3, [.gv cs, nI i, nI h]), (67, 9, [.sl p0 1 q0, nI p1, .sl p2 1 q2, .sl p3 1 q3, .sl p4 3 q4, .sl p5 1 q5, .sl p6 1 q6, .sl p7 3 q7, nI p8]), (68, 9, [nI 0, nI 0, nI 0, nI 0, .S ByteArray.empty, nI 0, nI 0, .S ByteArray.empty, .nsl 3 (fun _ => lstG [nI 0, nI 0, .S ByteArray.empty])]), (69, 9, [nI op, nI 0, nI 0, nI tok, .S ByteArray.empty, nI 0, nI 0, .S ByteArray.empty, .nsl 3 (fun _ => lstG [nI 0, nI 0, .S ByteArray.empty])])]) =
  Option.bind (Γ 41 [AV.pb 0 0, nI (zN p5)] [AV.nbx 3 (lstG [AV.gv cs, nI i, nI h])]) fun r0 =>
  Option.bind (Γ 73 [AV.pb 0 0, nI 2] [AV.nbx 3 (lstG [AV.gv (asV (asA (r0.snd.headD AV.bad) 0)), nI (asI (asA (r0.snd.headD AV.bad) 1)), nI (asI (asA (r0.snd.headD AV.bad) 2))])]) fun r1 =>
  Option.bind (Γ 41 [AV.pb 0 0, nI 2] [AV.nbx 3 (lstG [AV.gv (asV (asA (r1.snd.headD AV.bad) 0)), nI (asI (asA (r1.snd.headD AV.bad) 1)), nI (asI (asA (r1.snd.headD AV.bad) 2))])]) fun r2 =>
  bif bif okT then true else false then
    (some (AV.ag 9 (lstG [nI op, nI (asI r0.fst), nI (asI r2.fst), nI tok, AV.S ByteArray.empty, nI 0, nI 0, AV.S ByteArray.empty, vowTermS r1.fst]), [AV.nbx 3 (lstG [AV.gv (asV (asA (r2.snd.headD AV.bad) 0)), nI (asI (asA (r2.snd.headD AV.bad) 1)), nI (asI (asA (r2.snd.headD AV.bad) 2))])]))
  else
    (none) := by kernel_rfl
theorem dh42o15 (Γ : Orc) (H : Hd) (cs : List Int) (i h : Int) (i0 h0 : Int) (p0 p2 p3 p4 p5 p6 p7 : Nat) (q0 q2 q3 q4 q5 q6 q7 : Nat → Nat → AV) (p1 p8 : Int) (op tok : Int) : hed Tryz.prog cfg Γ 42 H [.nbx 3 (lstG [.gv cs, nI i0, nI h0])] [true, true, true, true, false, false] (hdS [(0, .pb 0 0), (3, .pb 67 0), (4, .pb 68 0), (5, .pb 69 0), (36, nI 15)] [] [(0, 3, [.gv cs, nI i, nI h]), (67, 9, [.sl p0 1 q0, nI p1, .sl p2 1 q2, .sl p3 1 q3, .sl p4 3 q4, .sl p5 1 q5, .sl p6 1 q6, .sl p7 3 q7, nI p8]), (68, 9, [nI 0, nI 0, nI 0, nI 0, .S ByteArray.empty, nI 0, nI 0, .S ByteArray.empty, .nsl 3 (fun _ => lstG [nI 0, nI 0, .S ByteArray.empty])]), (69, 9, [nI op, nI 0, nI 0, nI tok, .S ByteArray.empty, nI 0, nI 0, .S ByteArray.empty, .nsl 3 (fun _ => lstG [nI 0, nI 0, .S ByteArray.empty])])]) =
  Option.bind (Γ 41 [AV.pb 0 0, nI 2] [AV.nbx 3 (lstG [AV.gv cs, nI i, nI h])]) fun r0 =>
  bif bif okT then true else false then
    (some (AV.ag 9 (lstG [nI op, nI 0, nI (asI r0.fst), nI tok, AV.S ByteArray.empty, nI 0, nI 0, AV.S ByteArray.empty, AV.own 0 3 fun i => lstG [nI 0, nI 0, AV.S ByteArray.empty]]), [AV.nbx 3 (lstG [AV.gv (asV (asA (r0.snd.headD AV.bad) 0)), nI (asI (asA (r0.snd.headD AV.bad) 1)), nI (asI (asA (r0.snd.headD AV.bad) 2))])]))
  else
    (none) := by kernel_rfl
theorem dh42o16 (Γ : Orc) (H : Hd) (cs : List Int) (i h : Int) (i0 h0 : Int) (p0 p2 p3 p4 p5 p6 p7 : Nat) (q0 q2 q3 q4 q5 q6 q7 : Nat → Nat → AV) (p1 p8 : Int) (op tok : Int) : hed Tryz.prog cfg Γ 42 H [.nbx 3 (lstG [.gv cs, nI i0, nI h0])] [true, true, true, true, false, false] (hdS [(0, .pb 0 0), (3, .pb 67 0), (4, .pb 68 0), (5, .pb 69 0), (36, nI 16)] [] [(0, 3, [.gv cs, nI i, nI h]), (67, 9, [.sl p0 1 q0, nI p1, .sl p2 1 q2, .sl p3 1 q3, .sl p4 3 q4, .sl p5 1 q5, .sl p6 1 q6, .sl p7 3 q7, nI p8]), (68, 9, [nI 0, nI 0, nI 0, nI 0, .S ByteArray.empty, nI 0, nI 0, .S ByteArray.empty, .nsl 3 (fun _ => lstG [nI 0, nI 0, .S ByteArray.empty])]), (69, 9, [nI op, nI 0, nI 0, nI tok, .S ByteArray.empty, nI 0, nI 0, .S ByteArray.empty, .nsl 3 (fun _ => lstG [nI 0, nI 0, .S ByteArray.empty])])]) =
  Option.bind (Γ 41 [AV.pb 0 0, nI 5] [AV.nbx 3 (lstG [AV.gv cs, nI i, nI h])]) fun r0 =>
  bif bif okT then true else false then
    (some (AV.ag 9 (lstG [nI op, nI 0, nI (asI r0.fst), nI tok, AV.S ByteArray.empty, nI 0, nI 0, AV.S ByteArray.empty, AV.own 0 3 fun i => lstG [nI 0, nI 0, AV.S ByteArray.empty]]), [AV.nbx 3 (lstG [AV.gv (asV (asA (r0.snd.headD AV.bad) 0)), nI (asI (asA (r0.snd.headD AV.bad) 1)), nI (asI (asA (r0.snd.headD AV.bad) 2))])]))
  else
    (none) := by kernel_rfl
theorem dh42o17 (Γ : Orc) (H : Hd) (cs : List Int) (i h : Int) (i0 h0 : Int) (p0 p2 p3 p4 p5 p6 p7 : Nat) (q0 q2 q3 q4 q5 q6 q7 : Nat → Nat → AV) (p1 p8 : Int) (op tok : Int) : hed Tryz.prog cfg Γ 42 H [.nbx 3 (lstG [.gv cs, nI i0, nI h0])] [true, true, true, true, false, false] (hdS [(0, .pb 0 0), (3, .pb 67 0), (4, .pb 68 0), (5, .pb 69 0), (36, nI 17)] [] [(0, 3, [.gv cs, nI i, nI h]), (67, 9, [.sl p0 1 q0, nI p1, .sl p2 1 q2, .sl p3 1 q3, .sl p4 3 q4, .sl p5 1 q5, .sl p6 1 q6, .sl p7 3 q7, nI p8]), (68, 9, [nI 0, nI 0, nI 0, nI 0, .S ByteArray.empty, nI 0, nI 0, .S ByteArray.empty, .nsl 3 (fun _ => lstG [nI 0, nI 0, .S ByteArray.empty])]), (69, 9, [nI op, nI 0, nI 0, nI tok, .S ByteArray.empty, nI 0, nI 0, .S ByteArray.empty, .nsl 3 (fun _ => lstG [nI 0, nI 0, .S ByteArray.empty])])]) =
  Option.bind (Γ 41 [AV.pb 0 0, nI (IntKind.i64.wrap (zN p5 + 2))] [AV.nbx 3 (lstG [AV.gv cs, nI i, nI h])]) fun r0 =>
  bif bif okT then true else false then
    (some (AV.ag 9 (lstG [nI op, nI (asI r0.fst), nI 0, nI tok, AV.S ByteArray.empty, nI 0, nI 0, AV.S ByteArray.empty, AV.own 0 3 fun i => lstG [nI 0, nI 0, AV.S ByteArray.empty]]), [AV.nbx 3 (lstG [AV.gv (asV (asA (r0.snd.headD AV.bad) 0)), nI (asI (asA (r0.snd.headD AV.bad) 1)), nI (asI (asA (r0.snd.headD AV.bad) 2))])]))
  else
    (none) := by kernel_rfl
theorem dh42o18 (Γ : Orc) (H : Hd) (cs : List Int) (i h : Int) (i0 h0 : Int) (p0 p2 p3 p4 p5 p6 p7 : Nat) (q0 q2 q3 q4 q5 q6 q7 : Nat → Nat → AV) (p1 p8 : Int) (op tok : Int) : hed Tryz.prog cfg Γ 42 H [.nbx 3 (lstG [.gv cs, nI i0, nI h0])] [true, true, true, true, false, false] (hdS [(0, .pb 0 0), (3, .pb 67 0), (4, .pb 68 0), (5, .pb 69 0), (36, nI 18)] [] [(0, 3, [.gv cs, nI i, nI h]), (67, 9, [.sl p0 1 q0, nI p1, .sl p2 1 q2, .sl p3 1 q3, .sl p4 3 q4, .sl p5 1 q5, .sl p6 1 q6, .sl p7 3 q7, nI p8]), (68, 9, [nI 0, nI 0, nI 0, nI 0, .S ByteArray.empty, nI 0, nI 0, .S ByteArray.empty, .nsl 3 (fun _ => lstG [nI 0, nI 0, .S ByteArray.empty])]), (69, 9, [nI op, nI 0, nI 0, nI tok, .S ByteArray.empty, nI 0, nI 0, .S ByteArray.empty, .nsl 3 (fun _ => lstG [nI 0, nI 0, .S ByteArray.empty])])]) =
  Option.bind (Γ 41 [AV.pb 0 0, nI (IntKind.i64.wrap (zN p0 + 1))] [AV.nbx 3 (lstG [AV.gv cs, nI i, nI h])]) fun r0 =>
  bif bif okT then true else false then
    (some (AV.ag 9 (lstG [nI op, nI (asI r0.fst), nI 0, nI tok, AV.S ByteArray.empty, nI 0, nI 0, AV.S ByteArray.empty, AV.own 0 3 fun i => lstG [nI 0, nI 0, AV.S ByteArray.empty]]), [AV.nbx 3 (lstG [AV.gv (asV (asA (r0.snd.headD AV.bad) 0)), nI (asI (asA (r0.snd.headD AV.bad) 1)), nI (asI (asA (r0.snd.headD AV.bad) 2))])]))
  else
    (none) := by kernel_rfl
theorem dh42o19 (Γ : Orc) (H : Hd) (cs : List Int) (i h : Int) (i0 h0 : Int) (p0 p2 p3 p4 p5 p6 p7 : Nat) (q0 q2 q3 q4 q5 q6 q7 : Nat → Nat → AV) (p1 p8 : Int) (op tok : Int) : hed Tryz.prog cfg Γ 42 H [.nbx 3 (lstG [.gv cs, nI i0, nI h0])] [true, true, true, true, false, false] (hdS [(0, .pb 0 0), (3, .pb 67 0), (4, .pb 68 0), (5, .pb 69 0), (36, nI 19)] [] [(0, 3, [.gv cs, nI i, nI h]), (67, 9, [.sl p0 1 q0, nI p1, .sl p2 1 q2, .sl p3 1 q3, .sl p4 3 q4, .sl p5 1 q5, .sl p6 1 q6, .sl p7 3 q7, nI p8]), (68, 9, [nI 0, nI 0, nI 0, nI 0, .S ByteArray.empty, nI 0, nI 0, .S ByteArray.empty, .nsl 3 (fun _ => lstG [nI 0, nI 0, .S ByteArray.empty])]), (69, 9, [nI op, nI 0, nI 0, nI tok, .S ByteArray.empty, nI 0, nI 0, .S ByteArray.empty, .nsl 3 (fun _ => lstG [nI 0, nI 0, .S ByteArray.empty])])]) =
  Option.bind (Γ 41 [AV.pb 0 0, nI 9] [AV.nbx 3 (lstG [AV.gv cs, nI i, nI h])]) fun r0 =>
  Option.bind (Γ 41 [AV.pb 0 0, nI (IntKind.i64.wrap (zN p0 + 1))] [AV.nbx 3 (lstG [AV.gv (asV (asA (r0.snd.headD AV.bad) 0)), nI (asI (asA (r0.snd.headD AV.bad) 1)), nI (asI (asA (r0.snd.headD AV.bad) 2))])]) fun r1 =>
  bif bif okT then true else false then
    (some (AV.ag 9 (lstG [nI op, nI (IntKind.i64.wrap (1 + asI r0.fst)), nI (asI r1.fst), nI tok, AV.S ByteArray.empty, nI 0, nI 0, AV.S ByteArray.empty, AV.own 0 3 fun i => lstG [nI 0, nI 0, AV.S ByteArray.empty]]), [AV.nbx 3 (lstG [AV.gv (asV (asA (r1.snd.headD AV.bad) 0)), nI (asI (asA (r1.snd.headD AV.bad) 1)), nI (asI (asA (r1.snd.headD AV.bad) 2))])]))
  else
    (none) := by kernel_rfl
theorem de39 (Γ : Orc) (H : Hd) (cs : List Int) (i h : Int) (p0 p2 p3 p4 p5 p6 p7 : Nat) (q0 q2 q3 q4 q5 q6 q7 : Nat → Nat → AV) (p1 p8 : Int) (m : Int) : ent Tryz.prog cfg Γ 39 H [.pb 0 0, .ag 9 (lstG [.sl p0 1 q0, nI p1, .sl p2 1 q2, .sl p3 1 q3, .sl p4 3 q4, .sl p5 1 q5, .sl p6 1 q6, .sl p7 3 q7, nI p8]), nI m] [.nbx 3 (lstG [.gv cs, nI i, nI h])] =
  Option.bind (Γ 41 [AV.pb 0 0, nI m] [AV.nbx 3 (lstG [AV.gv cs, nI i, nI h])]) fun r0 =>
  H [true, true, true, false, true] (hdS [(0, AV.pb 0 0), (4, AV.pb 68 0), (7, AV.rf 4096000), (8, nI (IntKind.i64.wrap (1 + asI r0.fst))), (9, nI 0)] [(4096000, ⟨0, 9, fun i => lstG [nI 0, nI 0, nI 0, nI 0, AV.S ByteArray.empty, nI 0, nI 0, AV.S ByteArray.empty, AV.own 0 3 fun i => lstG [nI 0, nI 0, AV.S ByteArray.empty]]⟩)] [(0, 3, [AV.gv (asV (asA (r0.snd.headD AV.bad) 0)), nI (asI (asA (r0.snd.headD AV.bad) 1)), nI (asI (asA (r0.snd.headD AV.bad) 2))]), (68, 9, [AV.sl p0 1 q0, nI p1, AV.sl p2 1 q2, AV.sl p3 1 q3, AV.sl p4 3 q4, AV.sl p5 1 q5, AV.sl p6 1 q6, AV.sl p7 3 q7, nI p8])]) := by kernel_rfl
theorem dh39 (Γ : Orc) (H : Hd) (cs : List Int) (i h : Int) (i0 h0 : Int) (p0 p2 p3 p4 p5 p6 p7 : Nat) (q0 q2 q3 q4 q5 q6 q7 : Nat → Nat → AV) (p1 p8 : Int) (xs : List VCall) (n j : Int) : hed Tryz.prog cfg Γ 39 H [.nbx 3 (lstG [.gv cs, nI i0, nI h0])] [true, true, true, false, true] (hdS [(0, .pb 0 0), (4, .pb 68 0), (7, .rf 4096000), (8, nI n), (9, nI j)] [(4096000, ⟨xs.length, 9, goCallS xs⟩)] [(0, 3, [.gv cs, nI i, nI h]), (68, 9, [.sl p0 1 q0, nI p1, .sl p2 1 q2, .sl p3 1 q3, .sl p4 3 q4, .sl p5 1 q5, .sl p6 1 q6, .sl p7 3 q7, nI p8])]) =
  bif decide (j < n) then
    (Option.bind (Γ 42 [AV.pb 0 0, AV.ag 9 (lstG [AV.sl p0 1 q0, nI p1, AV.sl p2 1 q2, AV.sl p3 1 q3, AV.sl p4 3 q4, AV.sl p5 1 q5, AV.sl p6 1 q6, AV.sl p7 3 q7, nI p8])] [AV.nbx 3 (lstG [AV.gv cs, nI i, nI h])]) fun r1 =>
    bif decide (xs.length + 1 ≤ 4294967296) && true && true && true && true then
      (H [true, true, true, false, true] (hdS [(0, AV.pb 0 0), (4, AV.pb 68 0), (7, AV.rf 4096000), (8, nI n), (9, nI (IntKind.i64.wrap (j + 1)))] [(4096000, ⟨xs.length + 1, 9, fun i => lstG [nI (bif decide (i < xs.length) then (xs.getD i zCall).Op else bif decide (i - xs.length = 0) then asI (asA r1.fst 0) else 0), nI (bif decide (i < xs.length) then (xs.getD i zCall).A else bif decide (i - xs.length = 0) then asI (asA r1.fst 1) else 0), nI (bif decide (i < xs.length) then (xs.getD i zCall).B else bif decide (i - xs.length = 0) then asI (asA r1.fst 2) else 0), nI (bif decide (i < xs.length) then (xs.getD i zCall).Tok else bif decide (i - xs.length = 0) then asI (asA r1.fst 3) else 0), AV.S (bif decide (i < xs.length) then (xs.getD i zCall).Name else bif decide (i - xs.length = 0) then asS (asA r1.fst 4) else ByteArray.empty), nI (bif decide (i < xs.length) then (xs.getD i zCall).Msg.Kind else bif decide (i - xs.length = 0) then asI (asA r1.fst 5) else 0), nI (bif decide (i < xs.length) then (xs.getD i zCall).Msg.Num else bif decide (i - xs.length = 0) then asI (asA r1.fst 6) else 0), AV.S (bif decide (i < xs.length) then (xs.getD i zCall).Msg.Text else bif decide (i - xs.length = 0) then asS (asA r1.fst 7) else ByteArray.empty), AV.own (bif decide (i < xs.length) then (xs.getD i zCall).Filter.length else bif decide (i - xs.length = 0) then asN (asA r1.fst 8) else 0) 3 fun i_1 => lstG [nI (bif decide (i < xs.length) then ((xs.getD i zCall).Filter.getD i_1 zTerm).Op else bif decide (i - xs.length = 0) then asI (asG (asA r1.fst 8) i_1 0) else 0), nI (bif decide (i < xs.length) then ((xs.getD i zCall).Filter.getD i_1 zTerm).Num else bif decide (i - xs.length = 0) then asI (asG (asA r1.fst 8) i_1 1) else 0), AV.S (bif decide (i < xs.length) then ((xs.getD i zCall).Filter.getD i_1 zTerm).Text else bif decide (i - xs.length = 0) then asS (asG (asA r1.fst 8) i_1 2) else ByteArray.empty)]]⟩)] [(0, 3, [AV.gv (asV (asA (r1.snd.headD AV.bad) 0)), nI (asI (asA (r1.snd.headD AV.bad) 1)), nI (asI (asA (r1.snd.headD AV.bad) 2))]), (68, 9, [AV.sl p0 1 q0, nI p1, AV.sl p2 1 q2, AV.sl p3 1 q3, AV.sl p4 3 q4, AV.sl p5 1 q5, AV.sl p6 1 q6, AV.sl p7 3 q7, nI p8])]))
    else
      (none))
  else
    (bif okU then
      (some (owCallS xs, [AV.nbx 3 (lstG [AV.gv cs, nI i, nI h])]))
    else
      (none)) := by kernel_rfl
theorem de13 (Γ : Orc) (H : Hd) (cs : List Int) : ent Tryz.prog cfg Γ 13 H [.gv cs] [] =
  Option.bind (Γ 18 [AV.gv cs] []) fun r0 =>
  Option.bind (Γ 40 [AV.pb 0 0, nI 2] [AV.nbx 3 (lstG [AV.gv (asV (asA r0.fst 0)), nI (asI (asA r0.fst 1)), nI (asI (asA r0.fst 2))])]) fun r1 =>
  Option.bind (Γ 39 [AV.pb 0 0, AV.ag 9 (lstG [AV.sl (asN (asA r1.fst 0)) 1 fun i => lstG [nI (asI (asG (asA r1.fst 0) i 0))], nI (asI (asA r1.fst 1)), AV.sl (asN (asA r1.fst 2)) 1 fun i => lstG [AV.B (asB (asG (asA r1.fst 2) i 0))], AV.sl (asN (asA r1.fst 3)) 1 fun i => lstG [nI (asI (asG (asA r1.fst 3) i 0))], vslTermS (asA r1.fst 4), vslStrS (asA r1.fst 5), AV.sl (asN (asA r1.fst 6)) 1 fun i => lstG [nI (asI (asG (asA r1.fst 6) i 0))], AV.sl (asN (asA r1.fst 7)) 3 fun i => lstG [AV.sl (asN (asG (asA r1.fst 7) i 0)) 1 fun i_1 => lstG [nI (asI (asG (asG (asA r1.fst 7) i 0) i_1 0))], nI (asI (asG (asA r1.fst 7) i 1)), vslTermS (asG (asA r1.fst 7) i 2)], nI (asI (asA r1.fst 8))]), nI 6] [AV.nbx 3 (lstG [AV.gv (asV (asA (r1.snd.headD AV.bad) 0)), nI (asI (asA (r1.snd.headD AV.bad) 1)), nI (asI (asA (r1.snd.headD AV.bad) 2))])]) fun r2 =>
  Option.bind (Γ 20 [AV.pb 0 0, nI 8] [AV.nbx 3 (lstG [AV.gv (asV (asA (r2.snd.headD AV.bad) 0)), nI (asI (asA (r2.snd.headD AV.bad) 1)), nI (asI (asA (r2.snd.headD AV.bad) 2))])]) fun r3 =>
  bif asB r3.fst then
    (bif decide (asN r2.fst + 1 ≤ 4294967296) && true && true && true && true then
      (Option.bind (Γ 20 [AV.pb 0 0, nI 15] [AV.nbx 3 (lstG [AV.gv (asV (asA (r3.snd.headD AV.bad) 0)), nI (asI (asA (r3.snd.headD AV.bad) 1)), nI (asI (asA (r3.snd.headD AV.bad) 2))])]) fun r6 =>
      bif asB r6.fst then
        (H [true, true, true, true, false, true, false] (hdS [(3, AV.pb 70 0), (4, AV.rf 4096000)] [(4096000, ⟨asN r2.fst + 1, 9, fun i => lstG [nI (bif decide (i < asN r2.fst) then asI (asG r2.fst i 0) else bif decide (i - asN r2.fst = 0) then 0 else 0), nI (bif decide (i < asN r2.fst) then asI (asG r2.fst i 1) else bif decide (i - asN r2.fst = 0) then 0 else 0), nI (bif decide (i < asN r2.fst) then asI (asG r2.fst i 2) else bif decide (i - asN r2.fst = 0) then 0 else 0), nI (bif decide (i < asN r2.fst) then asI (asG r2.fst i 3) else bif decide (i - asN r2.fst = 0) then 0 else 0), AV.S (bif decide (i < asN r2.fst) then asS (asG r2.fst i 4) else bif decide (i - asN r2.fst = 0) then ByteArray.empty else ByteArray.empty), nI (bif decide (i < asN r2.fst) then asI (asG r2.fst i 5) else bif decide (i - asN r2.fst = 0) then 0 else 0), nI (bif decide (i < asN r2.fst) then asI (asG r2.fst i 6) else bif decide (i - asN r2.fst = 0) then 0 else 0), AV.S (bif decide (i < asN r2.fst) then asS (asG r2.fst i 7) else bif decide (i - asN r2.fst = 0) then ByteArray.empty else ByteArray.empty), AV.own (bif decide (i < asN r2.fst) then asN (asG r2.fst i 8) else bif decide (i - asN r2.fst = 0) then 0 else 0) 3 fun i_1 => lstG [nI (bif decide (i < asN r2.fst) then asI (asG (asG r2.fst i 8) i_1 0) else bif decide (i - asN r2.fst = 0) then 0 else 0), nI (bif decide (i < asN r2.fst) then asI (asG (asG r2.fst i 8) i_1 1) else bif decide (i - asN r2.fst = 0) then 0 else 0), AV.S (bif decide (i < asN r2.fst) then asS (asG (asG r2.fst i 8) i_1 2) else bif decide (i - asN r2.fst = 0) then ByteArray.empty else ByteArray.empty)]]⟩)] [(70, 3, [AV.gv (asV (asA (r6.snd.headD AV.bad) 0)), nI (asI (asA (r6.snd.headD AV.bad) 1)), nI (asI (asA (r6.snd.headD AV.bad) 2))])]))
      else
        (bif okU then
          (some (AV.own (asN r2.fst + 1) 9 fun i => lstG [nI (bif decide (i < asN r2.fst) then asI (asG r2.fst i 0) else bif decide (i - asN r2.fst = 0) then 0 else 0), nI (bif decide (i < asN r2.fst) then asI (asG r2.fst i 1) else bif decide (i - asN r2.fst = 0) then 0 else 0), nI (bif decide (i < asN r2.fst) then asI (asG r2.fst i 2) else bif decide (i - asN r2.fst = 0) then 0 else 0), nI (bif decide (i < asN r2.fst) then asI (asG r2.fst i 3) else bif decide (i - asN r2.fst = 0) then 0 else 0), AV.S (bif decide (i < asN r2.fst) then asS (asG r2.fst i 4) else bif decide (i - asN r2.fst = 0) then ByteArray.empty else ByteArray.empty), nI (bif decide (i < asN r2.fst) then asI (asG r2.fst i 5) else bif decide (i - asN r2.fst = 0) then 0 else 0), nI (bif decide (i < asN r2.fst) then asI (asG r2.fst i 6) else bif decide (i - asN r2.fst = 0) then 0 else 0), AV.S (bif decide (i < asN r2.fst) then asS (asG r2.fst i 7) else bif decide (i - asN r2.fst = 0) then ByteArray.empty else ByteArray.empty), AV.own (bif decide (i < asN r2.fst) then asN (asG r2.fst i 8) else bif decide (i - asN r2.fst = 0) then 0 else 0) 3 fun i_1 => lstG [nI (bif decide (i < asN r2.fst) then asI (asG (asG r2.fst i 8) i_1 0) else bif decide (i - asN r2.fst = 0) then 0 else 0), nI (bif decide (i < asN r2.fst) then asI (asG (asG r2.fst i 8) i_1 1) else bif decide (i - asN r2.fst = 0) then 0 else 0), AV.S (bif decide (i < asN r2.fst) then asS (asG (asG r2.fst i 8) i_1 2) else bif decide (i - asN r2.fst = 0) then ByteArray.empty else ByteArray.empty)]], []))
        else
          (none)))
    else
      (none))
  else
    (Option.bind (Γ 20 [AV.pb 0 0, nI 15] [AV.nbx 3 (lstG [AV.gv (asV (asA (r3.snd.headD AV.bad) 0)), nI (asI (asA (r3.snd.headD AV.bad) 1)), nI (asI (asA (r3.snd.headD AV.bad) 2))])]) fun r5 =>
    bif asB r5.fst then
      (H [true, true, true, true, false, true, false] (hdS [(3, AV.pb 70 0), (4, AV.rf 4096000)] [(4096000, ⟨asN r2.fst, 9, fun i => lstG [nI (asI (asG r2.fst i 0)), nI (asI (asG r2.fst i 1)), nI (asI (asG r2.fst i 2)), nI (asI (asG r2.fst i 3)), AV.S (asS (asG r2.fst i 4)), nI (asI (asG r2.fst i 5)), nI (asI (asG r2.fst i 6)), AV.S (asS (asG r2.fst i 7)), vowTermS (asG r2.fst i 8)]⟩)] [(70, 3, [AV.gv (asV (asA (r5.snd.headD AV.bad) 0)), nI (asI (asA (r5.snd.headD AV.bad) 1)), nI (asI (asA (r5.snd.headD AV.bad) 2))])]))
    else
      (bif okU then
        (some (vowCallS r2.fst, []))
      else
        (none))) := by kernel_rfl
theorem dh13 (Γ : Orc) (H : Hd) (cs : List Int) (i h : Int) (xs : List VCall) : hed Tryz.prog cfg Γ 13 H [] [true, true, true, true, false, true, false] (hdS [(3, .pb 70 0), (4, .rf 4096000)] [(4096000, ⟨xs.length, 9, goCallS xs⟩)] [(70, 3, [.gv cs, nI i, nI h])]) =
  Option.bind (Γ 41 [AV.pb 0 0, nI 2] [AV.nbx 3 (lstG [AV.gv cs, nI i, nI h])]) fun r0 =>
  bif decide (zN xs.length < IntKind.i64.wrap (30 + asI r0.fst)) then
    (bif decide (xs.length + 1 ≤ 4294967296) && true && true && true && true then
      (H [true, true, true, true, false, true, false] (hdS [(3, AV.pb 70 0), (4, AV.rf 4096000)] [(4096000, ⟨xs.length + 1, 9, fun i => lstG [nI (bif decide (i < xs.length) then (xs.getD i zCall).Op else bif decide (i - xs.length = 0) then 1 else 0), nI (bif decide (i < xs.length) then (xs.getD i zCall).A else bif decide (i - xs.length = 0) then 0 else 0), nI (bif decide (i < xs.length) then (xs.getD i zCall).B else bif decide (i - xs.length = 0) then 0 else 0), nI (bif decide (i < xs.length) then (xs.getD i zCall).Tok else bif decide (i - xs.length = 0) then -1 else 0), AV.S (bif decide (i < xs.length) then (xs.getD i zCall).Name else bif decide (i - xs.length = 0) then ByteArray.empty else ByteArray.empty), nI (bif decide (i < xs.length) then (xs.getD i zCall).Msg.Kind else bif decide (i - xs.length = 0) then 0 else 0), nI (bif decide (i < xs.length) then (xs.getD i zCall).Msg.Num else bif decide (i - xs.length = 0) then 0 else 0), AV.S (bif decide (i < xs.length) then (xs.getD i zCall).Msg.Text else bif decide (i - xs.length = 0) then ByteArray.empty else ByteArray.empty), AV.own (bif decide (i < xs.length) then (xs.getD i zCall).Filter.length else bif decide (i - xs.length = 0) then 0 else 0) 3 fun i_1 => lstG [nI (bif decide (i < xs.length) then ((xs.getD i zCall).Filter.getD i_1 zTerm).Op else bif decide (i - xs.length = 0) then 0 else 0), nI (bif decide (i < xs.length) then ((xs.getD i zCall).Filter.getD i_1 zTerm).Num else bif decide (i - xs.length = 0) then 0 else 0), AV.S (bif decide (i < xs.length) then ((xs.getD i zCall).Filter.getD i_1 zTerm).Text else bif decide (i - xs.length = 0) then ByteArray.empty else ByteArray.empty)]]⟩)] [(70, 3, [AV.gv (asV (asA (r0.snd.headD AV.bad) 0)), nI (asI (asA (r0.snd.headD AV.bad) 1)), nI (asI (asA (r0.snd.headD AV.bad) 2))])]))
    else
      (none))
  else
    (bif okU then
      (some (owCallS xs, []))
    else
      (none)) := by kernel_rfl
theorem de10 (Γ : Orc) (H : Hd) (c d : VCall) : ent Tryz.prog cfg Γ 10 H [slCall c, slCall d] [] =
  Option.bind (Γ 36 [AV.ag 9 (lstG [nI c.Op, nI c.A, nI c.B, nI c.Tok, AV.S c.Name, nI c.Msg.Kind, nI c.Msg.Num, AV.S c.Msg.Text, slTermS c.Filter]), AV.ag 9 (lstG [nI d.Op, nI d.A, nI d.B, nI d.Tok, AV.S d.Name, nI d.Msg.Kind, nI d.Msg.Num, AV.S d.Msg.Text, slTermS d.Filter])] []) fun r0 =>
  some (AV.B (asB r0.fst), []) := by kernel_rfl
theorem de36 (Γ : Orc) (H : Hd) (c d : VCall) : ent Tryz.prog cfg Γ 36 H [slCall c, slCall d] [] =
  bif decide (c.Op = d.Op) then
    (bif decide (c.A = d.A) then
      (bif decide (c.B = d.B) then
        (bif decide (c.Tok = d.Tok) then
          (bif c.Name.toList == d.Name.toList then
            (bif bif decide (c.Msg.Kind = d.Msg.Kind) then bif decide (c.Msg.Num = d.Msg.Num) then bif c.Msg.Text.toList == d.Msg.Text.toList then true else false else false else false then
              (Option.bind (Γ 67 [slTermS c.Filter, slTermS d.Filter] []) fun r6 =>
              some (AV.B (asB r6.fst), []))
            else
              (some (AV.B false, [])))
          else
            (some (AV.B false, [])))
        else
          (some (AV.B false, [])))
      else
        (some (AV.B false, [])))
    else
      (some (AV.B false, [])))
  else
    (some (AV.B false, [])) := by kernel_rfl
theorem de67 (Γ : Orc) (H : Hd) (xs ys : List VTerm) : ent Tryz.prog cfg Γ 67 H [slTermS xs, slTermS ys] [] =
  bif !decide (zN xs.length = zN ys.length) then
    (some (AV.B false, []))
  else
    (H [true, true, false, true] (hdS [(0, slTermS xs), (1, slTermS ys), (5, nI 0)] [] [])) := by kernel_rfl
theorem dh67 (Γ : Orc) (H : Hd) (xs ys : List VTerm) (j : Int) : hed Tryz.prog cfg Γ 67 H [] [true, true, false, true] (hdS [(0, slTermS xs), (1, slTermS ys), (5, nI j)] [] []) =
  bif decide (j < zN xs.length) then
    (bif bif decide (0 ≤ j) then decide (j < zN xs.length) else false then
      (bif bif decide (0 ≤ j) then decide (j < zN ys.length) else false then
        (bif !bif decide ((xs.getD j.toNat zTerm).Op = (ys.getD j.toNat zTerm).Op) then bif decide ((xs.getD j.toNat zTerm).Num = (ys.getD j.toNat zTerm).Num) then bif (xs.getD j.toNat zTerm).Text.toList == (ys.getD j.toNat zTerm).Text.toList then true else false else false else false then
          (some (AV.B false, []))
        else
          (H [true, true, false, true] (hdS [(0, slTermS xs), (1, slTermS ys), (5, nI (IntKind.i64.wrap (j + 1)))] [] [])))
      else
        (none))
    else
      (none))
  else
    (some (AV.B true, [])) := by kernel_rfl
theorem de4 (Γ : Orc) (H : Hd) (cs : List Int) : ent Tryz.prog cfg Γ 4 H [.gv cs] [] =
  Option.bind (Γ 5 [AV.gv cs] []) fun r0 =>
  bif asB r0.fst then
    (some (AV.B true, []))
  else
    (Option.bind (Γ 13 [AV.gv cs] []) fun r2 =>
    Option.bind (Γ 14 [vslCallS r2.fst] []) fun r3 =>
    Option.bind (Γ 15 [vslCallS r2.fst] []) fun r4 =>
    bif !asB (asA r3.fst 1) == asB (asA r4.fst 1) then
      (some (AV.B false, []))
    else
      (bif !(asS (asA r3.fst 0)).toList == (asS (asA r4.fst 0)).toList then
        (some (AV.B false, []))
      else
        (bif !asB (asA r4.fst 1) then
          (some (AV.B ((asS (asA r3.fst 0)).toList == ByteArray.empty.toList), []))
        else
          (Option.bind (Γ 16 [AV.S (asS (asA r4.fst 0))] []) fun r8 =>
          Option.bind (Γ 17 [AV.S (asS (asA r4.fst 0))] []) fun r9 =>
          bif !decide (asI (asA r8.fst 1) = asI (asA r9.fst 1)) then
            (some (AV.B false, []))
          else
            (bif decide (0 ≤ asI (asA r9.fst 1)) then
              (some (AV.B (decide (zN (asN (asA r8.fst 0)) = 0)), []))
            else
              (bif !decide (zN (asN (asA r8.fst 0)) = zN (asN r2.fst)) then
                (some (AV.B false, []))
              else
                (H [true, true, true, true, true, true, true, true, true, true, true, true, false, true] (hdS [(3, AV.rf 4096000), (6, AV.S (asS (asA r4.fst 0))), (8, AV.rf 4100096), (12, nI 0)] [(4096000, ⟨asN r2.fst, 9, fun i => lstG [nI (asI (asG r2.fst i 0)), nI (asI (asG r2.fst i 1)), nI (asI (asG r2.fst i 2)), nI (asI (asG r2.fst i 3)), AV.S (asS (asG r2.fst i 4)), nI (asI (asG r2.fst i 5)), nI (asI (asG r2.fst i 6)), AV.S (asS (asG r2.fst i 7)), vowTermS (asG r2.fst i 8)]⟩), (4100096, ⟨asN (asA r8.fst 0), 9, fun i => lstG [nI (asI (asG (asA r8.fst 0) i 0)), nI (asI (asG (asA r8.fst 0) i 1)), nI (asI (asG (asA r8.fst 0) i 2)), nI (asI (asG (asA r8.fst 0) i 3)), AV.S (asS (asG (asA r8.fst 0) i 4)), nI (asI (asG (asA r8.fst 0) i 5)), nI (asI (asG (asA r8.fst 0) i 6)), AV.S (asS (asG (asA r8.fst 0) i 7)), vowTermS (asG (asA r8.fst 0) i 8)]⟩)] [])))))))) := by kernel_rfl
theorem dh4 (Γ : Orc) (H : Hd) (cs : List Int) (s : ByteArray) (xs ys : List VCall) (j : Int) : hed Tryz.prog cfg Γ 4 H [] [true, true, true, true, true, true, true, true, true, true, true, true, false, true] (hdS [(3, .rf 4096000), (6, .S s), (8, .rf 4100096), (12, nI j)] [(4096000, ⟨xs.length, 9, goCallS xs⟩), (4100096, ⟨ys.length, 9, goCallS ys⟩)] []) =
  bif decide (j < zN xs.length) then
    (bif bif decide (0 ≤ j) then decide (j < zN ys.length) else false then
      (bif bif decide (0 ≤ j) then decide (j < zN xs.length) else false then
        (Option.bind (Γ 10 [AV.ag 9 (lstG [nI (ys.getD j.toNat zCall).Op, nI (ys.getD j.toNat zCall).A, nI (ys.getD j.toNat zCall).B, nI (ys.getD j.toNat zCall).Tok, AV.S (ys.getD j.toNat zCall).Name, nI (ys.getD j.toNat zCall).Msg.Kind, nI (ys.getD j.toNat zCall).Msg.Num, AV.S (ys.getD j.toNat zCall).Msg.Text, slTermS (ys.getD j.toNat zCall).Filter]), AV.ag 9 (lstG [nI (xs.getD j.toNat zCall).Op, nI (xs.getD j.toNat zCall).A, nI (xs.getD j.toNat zCall).B, nI (xs.getD j.toNat zCall).Tok, AV.S (xs.getD j.toNat zCall).Name, nI (xs.getD j.toNat zCall).Msg.Kind, nI (xs.getD j.toNat zCall).Msg.Num, AV.S (xs.getD j.toNat zCall).Msg.Text, slTermS (xs.getD j.toNat zCall).Filter])] []) fun r3 =>
        bif !asB r3.fst then
          (some (AV.B false, []))
        else
          (H [true, true, true, true, true, true, true, true, true, true, true, true, false, true] (hdS [(3, AV.rf 4096000), (6, AV.S s), (8, AV.rf 4100096), (12, nI (IntKind.i64.wrap (j + 1)))] [(4096000, ⟨xs.length, 9, (goCallS xs)⟩), (4100096, ⟨ys.length, 9, (goCallS ys)⟩)] [])))
      else
        (none))
    else
      (none))
  else
    (bif decide (30 < IntKind.i64.wrap (zN xs.length * 2)) then
      (some (AV.B true, []))
    else
      (bif decide (s.size + s.size ≤ 4294967296) then
        (Option.bind (Γ 16 [AV.S (s ++ s)] []) fun r3 =>
        bif decide (asI (asA r3.fst 1) = -1) then
          (some (AV.B (decide (zN (asN (asA r3.fst 0)) = IntKind.i64.wrap (2 * zN xs.length))), []))
        else
          (some (AV.B false, [])))
      else
        (none))) := by kernel_rfl
end Go.Fw
