/- Trees of further functions' bodies, as printed by the framework's evaluation. -/
import Derived.Test.YtkhfkekbfjkpcaaG1
set_option linter.unusedVariables false
set_option maxRecDepth 100000
namespace Go.Fw
open Go.Proofs
theorem e78 (Γ : Orc) (H : Hd) (cs : List Int) (i h : Int) (xs : List Int) : ent Try.prog cfg Γ 78 H [.pb 0 0, slI xs] [.nbx 3 (lstG [.gv cs, nI i, nI h])] =
  bif decide (0 < zN xs.length) then
    (Option.bind (Γ 76 [AV.pb 0 0, AV.I IntKind.i64 2] [AV.nbx 3 (lstG [AV.gv cs, AV.I IntKind.i64 i, AV.I IntKind.i64 h])]) fun r1 =>
    bif asB r1.fst then
      (Option.bind (Γ 75 [AV.pb 0 0, AV.I IntKind.i64 (zN xs.length)] [AV.nbx 3 (lstG [AV.gv (asV (asA (r1.snd.headD AV.bad) 0)), AV.I IntKind.i64 (asI (asA (r1.snd.headD AV.bad) 1)), AV.I IntKind.i64 (asI (asA (r1.snd.headD AV.bad) 2))])]) fun r3 =>
      bif bif decide (0 ≤ asI r3.fst) then decide (asI r3.fst < zN xs.length) else false then
        (some (AV.I IntKind.i64 (xs.getD (asI r3.fst).toNat 0), [AV.nbx 3 (lstG [AV.gv (asV (asA (r3.snd.headD AV.bad) 0)), AV.I IntKind.i64 (asI (asA (r3.snd.headD AV.bad) 1)), AV.I IntKind.i64 (asI (asA (r3.snd.headD AV.bad) 2))])]))
      else
        (none))
    else
      (Option.bind (Γ 76 [AV.pb 0 0, AV.I IntKind.i64 12] [AV.nbx 3 (lstG [AV.gv (asV (asA (r1.snd.headD AV.bad) 0)), AV.I IntKind.i64 (asI (asA (r1.snd.headD AV.bad) 1)), AV.I IntKind.i64 (asI (asA (r1.snd.headD AV.bad) 2))])]) fun r3 =>
      bif asB r3.fst then
        (Option.bind (Γ 87 [AV.pb 0 0, AV.sl 2 1 fun i => lstG [AV.I IntKind.i64 (bif decide (i = 0) then -1 else bif decide (i - 1 = 0) then 64 else 0)]] [AV.nbx 3 (lstG [AV.gv (asV (asA (r3.snd.headD AV.bad) 0)), AV.I IntKind.i64 (asI (asA (r3.snd.headD AV.bad) 1)), AV.I IntKind.i64 (asI (asA (r3.snd.headD AV.bad) 2))])]) fun r5 =>
        some (AV.I IntKind.i64 (asI r5.fst), [AV.nbx 3 (lstG [AV.gv (asV (asA (r5.snd.headD AV.bad) 0)), AV.I IntKind.i64 (asI (asA (r5.snd.headD AV.bad) 1)), AV.I IntKind.i64 (asI (asA (r5.snd.headD AV.bad) 2))])]))
      else
        (Option.bind (Γ 75 [AV.pb 0 0, AV.I IntKind.i64 64] [AV.nbx 3 (lstG [AV.gv (asV (asA (r3.snd.headD AV.bad) 0)), AV.I IntKind.i64 (asI (asA (r3.snd.headD AV.bad) 1)), AV.I IntKind.i64 (asI (asA (r3.snd.headD AV.bad) 2))])]) fun r5 =>
        some (AV.I IntKind.i64 (asI r5.fst), [AV.nbx 3 (lstG [AV.gv (asV (asA (r5.snd.headD AV.bad) 0)), AV.I IntKind.i64 (asI (asA (r5.snd.headD AV.bad) 1)), AV.I IntKind.i64 (asI (asA (r5.snd.headD AV.bad) 2))])]))))
  else
    (Option.bind (Γ 76 [AV.pb 0 0, AV.I IntKind.i64 12] [AV.nbx 3 (lstG [AV.gv cs, AV.I IntKind.i64 i, AV.I IntKind.i64 h])]) fun r1 =>
    bif asB r1.fst then
      (Option.bind (Γ 87 [AV.pb 0 0, AV.sl 2 1 fun i => lstG [AV.I IntKind.i64 (bif decide (i = 0) then -1 else bif decide (i - 1 = 0) then 64 else 0)]] [AV.nbx 3 (lstG [AV.gv (asV (asA (r1.snd.headD AV.bad) 0)), AV.I IntKind.i64 (asI (asA (r1.snd.headD AV.bad) 1)), AV.I IntKind.i64 (asI (asA (r1.snd.headD AV.bad) 2))])]) fun r3 =>
      some (AV.I IntKind.i64 (asI r3.fst), [AV.nbx 3 (lstG [AV.gv (asV (asA (r3.snd.headD AV.bad) 0)), AV.I IntKind.i64 (asI (asA (r3.snd.headD AV.bad) 1)), AV.I IntKind.i64 (asI (asA (r3.snd.headD AV.bad) 2))])]))
    else
      (Option.bind (Γ 75 [AV.pb 0 0, AV.I IntKind.i64 64] [AV.nbx 3 (lstG [AV.gv (asV (asA (r1.snd.headD AV.bad) 0)), AV.I IntKind.i64 (asI (asA (r1.snd.headD AV.bad) 1)), AV.I IntKind.i64 (asI (asA (r1.snd.headD AV.bad) 2))])]) fun r3 =>
      some (AV.I IntKind.i64 (asI r3.fst), [AV.nbx 3 (lstG [AV.gv (asV (asA (r3.snd.headD AV.bad) 0)), AV.I IntKind.i64 (asI (asA (r3.snd.headD AV.bad) 1)), AV.I IntKind.i64 (asI (asA (r3.snd.headD AV.bad) 2))])]))) := by kernel_rfl
theorem e60 (Γ : Orc) (H : Hd) (cs : List Int) (i h : Int) (n : NT) : ent Try.prog cfg Γ 60 H [.pb 0 0, slN n] [.nbx 3 (lstG [.gv cs, nI i, nI h])] =
  bif decide (0 < zN n.g.length) then
    (Option.bind (Γ 76 [AV.pb 0 0, AV.I IntKind.i64 2] [AV.nbx 3 (lstG [AV.gv cs, AV.I IntKind.i64 i, AV.I IntKind.i64 h])]) fun r1 =>
    bif asB r1.fst then
      (and2
      (Option.bind (Γ 75 [AV.pb 0 0, AV.I IntKind.i64 (zN n.g.length)] [AV.nbx 3 (lstG [AV.gv (asV (asA (r1.snd.headD AV.bad) 0)), AV.I IntKind.i64 (asI (asA (r1.snd.headD AV.bad) 1)), AV.I IntKind.i64 (asI (asA (r1.snd.headD AV.bad) 2))])]) fun r4 =>
        bif bif decide (0 ≤ asI r4.fst) then decide (asI r4.fst < zN n.g.length) else false then
          (some (AV.I IntKind.i64 (n.g.getD (asI r4.fst).toNat (0, false)).fst, [AV.nbx 3 (lstG [AV.gv (asV (asA (r4.snd.headD AV.bad) 0)), AV.I IntKind.i64 (asI (asA (r4.snd.headD AV.bad) 1)), AV.I IntKind.i64 (asI (asA (r4.snd.headD AV.bad) 2))])]))
        else
          (none))
      (Option.bind (Γ 75 [AV.pb 0 0, AV.I IntKind.i64 (zN n.g.length)] [AV.nbx 3 (lstG [AV.gv (asV (asA (r1.snd.headD AV.bad) 0)), AV.I IntKind.i64 (asI (asA (r1.snd.headD AV.bad) 1)), AV.I IntKind.i64 (asI (asA (r1.snd.headD AV.bad) 2))])]) fun r4 =>
        bif bif decide (0 ≤ asI r4.fst) then decide (asI r4.fst < zN n.g.length) else false then
          (some (AV.I IntKind.i64 (n.g.getD (asI r4.fst).toNat (0, false)).fst, [AV.nbx 3 (lstG [AV.gv (asV (asA (r4.snd.headD AV.bad) 0)), AV.I IntKind.i64 (asI (asA (r4.snd.headD AV.bad) 1)), AV.I IntKind.i64 (asI (asA (r4.snd.headD AV.bad) 2))])]))
        else
          (none)))
    else
      (Option.bind (Γ 78 [AV.pb 0 0, AV.sl n.l.length 1 (gI n.l)] [AV.nbx 3 (lstG [AV.gv (asV (asA (r1.snd.headD AV.bad) 0)), AV.I IntKind.i64 (asI (asA (r1.snd.headD AV.bad) 1)), AV.I IntKind.i64 (asI (asA (r1.snd.headD AV.bad) 2))])]) fun r3 =>
      some (AV.I IntKind.i64 (asI r3.fst), [AV.nbx 3 (lstG [AV.gv (asV (asA (r3.snd.headD AV.bad) 0)), AV.I IntKind.i64 (asI (asA (r3.snd.headD AV.bad) 1)), AV.I IntKind.i64 (asI (asA (r3.snd.headD AV.bad) 2))])])))
  else
    (Option.bind (Γ 78 [AV.pb 0 0, AV.sl n.l.length 1 (gI n.l)] [AV.nbx 3 (lstG [AV.gv cs, AV.I IntKind.i64 i, AV.I IntKind.i64 h])]) fun r1 =>
    some (AV.I IntKind.i64 (asI r1.fst), [AV.nbx 3 (lstG [AV.gv (asV (asA (r1.snd.headD AV.bad) 0)), AV.I IntKind.i64 (asI (asA (r1.snd.headD AV.bad) 1)), AV.I IntKind.i64 (asI (asA (r1.snd.headD AV.bad) 2))])])) := by kernel_rfl
theorem e28 (Γ : Orc) (H : Hd) (cs : List Int) : ent Try.prog cfg Γ 28 H [.gv cs] [] =
  Option.bind (Γ 58 [AV.gv cs] []) fun r0 =>
  Option.bind (Γ 59 [AV.pb 0 0] [AV.nbx 3 (lstG [AV.gv (asV (asA r0.fst 0)), AV.I IntKind.i64 (asI (asA r0.fst 1)), AV.I IntKind.i64 (asI (asA r0.fst 2))])]) fun r1 =>
  and2
  (Option.bind (Γ 60 [AV.pb 0 0, AV.ag 6 (lstG [AV.B (asB (asA r1.fst 0)), AV.sl (asN (asA r1.fst 1)) 1 fun i => lstG [AV.I IntKind.i64 (asI (asG (asA r1.fst 1) i 0))], AV.sl (asN (asA r1.fst 2)) 2 fun i => lstG [AV.I IntKind.i64 (asI (asG (asA r1.fst 2) i 0)), AV.B (asB (asG (asA r1.fst 2) i 1))], AV.I IntKind.i64 (asI (asA r1.fst 3)), AV.I IntKind.i64 (asI (asA r1.fst 4)), AV.I IntKind.i64 (asI (asA r1.fst 5))])] [AV.nbx 3 (lstG [AV.gv (asV (asA (r1.snd.headD AV.bad) 0)), AV.I IntKind.i64 (asI (asA (r1.snd.headD AV.bad) 1)), AV.I IntKind.i64 (asI (asA (r1.snd.headD AV.bad) 2))])]) fun r3 =>
    bif bif bif okT then bif okT then true else false else false then true else false then
      (some (AV.tup 2 (lstG [AV.ag 6 (lstG [AV.B (asB (asA r1.fst 0)), AV.own (asN (asA r1.fst 1)) 1 fun i => lstG [AV.I IntKind.i64 (asI (asG (asA r1.fst 1) i 0))], AV.own (asN (asA r1.fst 2)) 2 fun i => lstG [AV.I IntKind.i64 (asI (asG (asA r1.fst 2) i 0)), AV.B (asB (asG (asA r1.fst 2) i 1))], AV.I IntKind.i64 (asI (asA r1.fst 3)), AV.I IntKind.i64 (asI (asA r1.fst 4)), AV.I IntKind.i64 (asI (asA r1.fst 5))]), AV.I IntKind.i64 (asI r3.fst)]), []))
    else
      (none))
  (Option.bind (Γ 60 [AV.pb 0 0, AV.ag 6 (lstG [AV.B (asB (asA r1.fst 0)), AV.sl (asN (asA r1.fst 1)) 1 fun i => lstG [AV.I IntKind.i64 (asI (asG (asA r1.fst 1) i 0))], AV.sl (asN (asA r1.fst 2)) 2 fun i => lstG [AV.I IntKind.i64 (asI (asG (asA r1.fst 2) i 0)), AV.B (asB (asG (asA r1.fst 2) i 1))], AV.I IntKind.i64 (asI (asA r1.fst 3)), AV.I IntKind.i64 (asI (asA r1.fst 4)), AV.I IntKind.i64 (asI (asA r1.fst 5))])] [AV.nbx 3 (lstG [AV.gv (asV (asA (r1.snd.headD AV.bad) 0)), AV.I IntKind.i64 (asI (asA (r1.snd.headD AV.bad) 1)), AV.I IntKind.i64 (asI (asA (r1.snd.headD AV.bad) 2))])]) fun r3 =>
    bif bif bif okT then bif okT then true else false else false then true else false then
      (some (AV.tup 2 (lstG [AV.ag 6 (lstG [AV.B (asB (asA r1.fst 0)), AV.own (asN (asA r1.fst 1)) 1 fun i => lstG [AV.I IntKind.i64 (asI (asG (asA r1.fst 1) i 0))], AV.own (asN (asA r1.fst 2)) 2 fun i => lstG [AV.I IntKind.i64 (asI (asG (asA r1.fst 2) i 0)), AV.B (asB (asG (asA r1.fst 2) i 1))], AV.I IntKind.i64 (asI (asA r1.fst 3)), AV.I IntKind.i64 (asI (asA r1.fst 4)), AV.I IntKind.i64 (asI (asA r1.fst 5))]), AV.I IntKind.i64 (asI r3.fst)]), []))
    else
      (none)) := by kernel_rfl
theorem e29 (Γ : Orc) (H : Hd) (n m : NT) : ent Try.prog cfg Γ 29 H [slN n, slN m] [] =
  Option.bind (Γ 61 [AV.sl 1 6 fun i => lstG [AV.B (bif decide (i = 0) then n.p else false), (mrg (decide (i = 0)) (AV.sl n.l.length 1 (gI n.l)) (AV.own 0 1 fun x => lstG [AV.I IntKind.i64 0])).sh, (mrg (decide (i = 0)) (AV.sl n.g.length 2 (gG n.g)) (AV.own 0 2 fun x => lstG [AV.I IntKind.i64 0, AV.B false])).sh, AV.I IntKind.i64 (bif decide (i = 0) then n.o else 0), AV.I IntKind.i64 (bif decide (i = 0) then n.s else 0), AV.I IntKind.i64 (bif decide (i = 0) then n.t else 0)], AV.sl 1 6 fun i => lstG [AV.B (bif decide (i = 0) then m.p else false), (mrg (decide (i = 0)) (AV.sl m.l.length 1 (gI m.l)) (AV.own 0 1 fun x => lstG [AV.I IntKind.i64 0])).sh, (mrg (decide (i = 0)) (AV.sl m.g.length 2 (gG m.g)) (AV.own 0 2 fun x => lstG [AV.I IntKind.i64 0, AV.B false])).sh, AV.I IntKind.i64 (bif decide (i = 0) then m.o else 0), AV.I IntKind.i64 (bif decide (i = 0) then m.s else 0), AV.I IntKind.i64 (bif decide (i = 0) then m.t else 0)]] []) fun r0 =>
  some (AV.B (asB r0.fst), []) := by kernel_rfl
theorem e61 (Γ : Orc) (H : Hd) (n m : NT) : ent Try.prog cfg Γ 61 H [AV.sl 1 6 (fun i => lstG [AV.B (bif decide (i = 0) then n.p else false), (mrg (decide (i = 0)) (AV.sl n.l.length 1 (gI n.l)) (AV.own 0 1 fun x => lstG [AV.I IntKind.i64 0])).sh, (mrg (decide (i = 0)) (AV.sl n.g.length 2 (gG n.g)) (AV.own 0 2 fun x => lstG [AV.I IntKind.i64 0, AV.B false])).sh, AV.I IntKind.i64 (bif decide (i = 0) then n.o else 0), AV.I IntKind.i64 (bif decide (i = 0) then n.s else 0), AV.I IntKind.i64 (bif decide (i = 0) then n.t else 0)]), AV.sl 1 6 (fun i => lstG [AV.B (bif decide (i = 0) then m.p else false), (mrg (decide (i = 0)) (AV.sl m.l.length 1 (gI m.l)) (AV.own 0 1 fun x => lstG [AV.I IntKind.i64 0])).sh, (mrg (decide (i = 0)) (AV.sl m.g.length 2 (gG m.g)) (AV.own 0 2 fun x => lstG [AV.I IntKind.i64 0, AV.B false])).sh, AV.I IntKind.i64 (bif decide (i = 0) then m.o else 0), AV.I IntKind.i64 (bif decide (i = 0) then m.s else 0), AV.I IntKind.i64 (bif decide (i = 0) then m.t else 0)])] [] =
  H [true, true, false, true] (hdS [(0, AV.sl 1 6 fun i => lstG [AV.B (bif decide (i = 0) then n.p else false), (mrg (decide (i = 0)) (AV.sl n.l.length 1 (gI n.l)) (AV.own 0 1 fun x => lstG [AV.I IntKind.i64 0])).sh, (mrg (decide (i = 0)) (AV.sl n.g.length 2 (gG n.g)) (AV.own 0 2 fun x => lstG [AV.I IntKind.i64 0, AV.B false])).sh, AV.I IntKind.i64 (bif decide (i = 0) then n.o else 0), AV.I IntKind.i64 (bif decide (i = 0) then n.s else 0), AV.I IntKind.i64 (bif decide (i = 0) then n.t else 0)]), (1, AV.sl 1 6 fun i => lstG [AV.B (bif decide (i = 0) then m.p else false), (mrg (decide (i = 0)) (AV.sl m.l.length 1 (gI m.l)) (AV.own 0 1 fun x => lstG [AV.I IntKind.i64 0])).sh, (mrg (decide (i = 0)) (AV.sl m.g.length 2 (gG m.g)) (AV.own 0 2 fun x => lstG [AV.I IntKind.i64 0, AV.B false])).sh, AV.I IntKind.i64 (bif decide (i = 0) then m.o else 0), AV.I IntKind.i64 (bif decide (i = 0) then m.s else 0), AV.I IntKind.i64 (bif decide (i = 0) then m.t else 0)]), (5, AV.I IntKind.i64 0)] [] []) := by kernel_rfl
theorem h61 (Γ : Orc) (H : Hd) (n m : NT) : hed Try.prog cfg Γ 61 H [] [true, true, false, true] (hdS [(0, AV.sl 1 6 (fun i => lstG [AV.B (bif decide (i = 0) then n.p else false), (mrg (decide (i = 0)) (AV.sl n.l.length 1 (gI n.l)) (AV.own 0 1 fun x => lstG [AV.I IntKind.i64 0])).sh, (mrg (decide (i = 0)) (AV.sl n.g.length 2 (gG n.g)) (AV.own 0 2 fun x => lstG [AV.I IntKind.i64 0, AV.B false])).sh, AV.I IntKind.i64 (bif decide (i = 0) then n.o else 0), AV.I IntKind.i64 (bif decide (i = 0) then n.s else 0), AV.I IntKind.i64 (bif decide (i = 0) then n.t else 0)])), (1, AV.sl 1 6 (fun i => lstG [AV.B (bif decide (i = 0) then m.p else false), (mrg (decide (i = 0)) (AV.sl m.l.length 1 (gI m.l)) (AV.own 0 1 fun x => lstG [AV.I IntKind.i64 0])).sh, (mrg (decide (i = 0)) (AV.sl m.g.length 2 (gG m.g)) (AV.own 0 2 fun x => lstG [AV.I IntKind.i64 0, AV.B false])).sh, AV.I IntKind.i64 (bif decide (i = 0) then m.o else 0), AV.I IntKind.i64 (bif decide (i = 0) then m.s else 0), AV.I IntKind.i64 (bif decide (i = 0) then m.t else 0)])), (5, nI 0)] [] []) =
  and2
  (and2
    (bif !n.p == m.p then
        (some (AV.B false, []))
      else
        (Option.bind (Γ 79 [AV.sl n.l.length 1 (gI n.l), AV.sl m.l.length 1 (gI m.l)] []) fun r3 =>
        bif !asB r3.fst then
          (some (AV.B false, []))
        else
          (bif !decide (n.o = m.o) then
            (some (AV.B false, []))
          else
            (bif !decide (n.s = m.s) then
              (some (AV.B false, []))
            else
              (bif !decide (n.t = m.t) then
                (some (AV.B false, []))
              else
                (bif !decide (zN n.g.length = zN m.g.length) then
                  (some (AV.B false, []))
                else
                  (H [true, true, false, true, true, true, false, true, true, true] (hdS [(0, AV.sl 1 6 fun i => lstG [AV.B (bif decide (i = 0) then n.p else false), (mrg (decide (i = 0)) (AV.sl n.l.length 1 (gI n.l)) (AV.own 0 1 fun x => lstG [AV.I IntKind.i64 0])).sh, (mrg (decide (i = 0)) (AV.sl n.g.length 2 (gG n.g)) (AV.own 0 2 fun x => lstG [AV.I IntKind.i64 0, AV.B false])).sh, AV.I IntKind.i64 (bif decide (i = 0) then n.o else 0), AV.I IntKind.i64 (bif decide (i = 0) then n.s else 0), AV.I IntKind.i64 (bif decide (i = 0) then n.t else 0)]), (1, AV.sl 1 6 fun i => lstG [AV.B (bif decide (i = 0) then m.p else false), (mrg (decide (i = 0)) (AV.sl m.l.length 1 (gI m.l)) (AV.own 0 1 fun x => lstG [AV.I IntKind.i64 0])).sh, (mrg (decide (i = 0)) (AV.sl m.g.length 2 (gG m.g)) (AV.own 0 2 fun x => lstG [AV.I IntKind.i64 0, AV.B false])).sh, AV.I IntKind.i64 (bif decide (i = 0) then m.o else 0), AV.I IntKind.i64 (bif decide (i = 0) then m.s else 0), AV.I IntKind.i64 (bif decide (i = 0) then m.t else 0)]), (5, AV.I IntKind.i64 0), (6, AV.pb 70 0), (7, AV.pb 71 0), (8, AV.I IntKind.i64 0)] [] [(70, 6, [AV.B n.p, AV.sl n.l.length 1 (gI n.l), AV.sl n.g.length 2 (gG n.g), AV.I IntKind.i64 n.o, AV.I IntKind.i64 n.s, AV.I IntKind.i64 n.t]), (71, 6, [AV.B m.p, AV.sl m.l.length 1 (gI m.l), AV.sl m.g.length 2 (gG m.g), AV.I IntKind.i64 m.o, AV.I IntKind.i64 m.s, AV.I IntKind.i64 m.t])]))))))))
    (bif !n.p == m.p then
        (some (AV.B false, []))
      else
        (Option.bind (Γ 79 [AV.sl n.l.length 1 (gI n.l), AV.sl m.l.length 1 (gI m.l)] []) fun r3 =>
        bif !asB r3.fst then
          (some (AV.B false, []))
        else
          (bif !decide (n.o = m.o) then
            (some (AV.B false, []))
          else
            (bif !decide (n.s = m.s) then
              (some (AV.B false, []))
            else
              (bif !decide (n.t = m.t) then
                (some (AV.B false, []))
              else
                (bif !decide (zN n.g.length = zN m.g.length) then
                  (some (AV.B false, []))
                else
                  (H [true, true, false, true, true, true, false, true, true, true] (hdS [(0, AV.sl 1 6 fun i => lstG [AV.B (bif decide (i = 0) then n.p else false), (mrg (decide (i = 0)) (AV.sl n.l.length 1 (gI n.l)) (AV.own 0 1 fun x => lstG [AV.I IntKind.i64 0])).sh, (mrg (decide (i = 0)) (AV.sl n.g.length 2 (gG n.g)) (AV.own 0 2 fun x => lstG [AV.I IntKind.i64 0, AV.B false])).sh, AV.I IntKind.i64 (bif decide (i = 0) then n.o else 0), AV.I IntKind.i64 (bif decide (i = 0) then n.s else 0), AV.I IntKind.i64 (bif decide (i = 0) then n.t else 0)]), (1, AV.sl 1 6 fun i => lstG [AV.B (bif decide (i = 0) then m.p else false), (mrg (decide (i = 0)) (AV.sl m.l.length 1 (gI m.l)) (AV.own 0 1 fun x => lstG [AV.I IntKind.i64 0])).sh, (mrg (decide (i = 0)) (AV.sl m.g.length 2 (gG m.g)) (AV.own 0 2 fun x => lstG [AV.I IntKind.i64 0, AV.B false])).sh, AV.I IntKind.i64 (bif decide (i = 0) then m.o else 0), AV.I IntKind.i64 (bif decide (i = 0) then m.s else 0), AV.I IntKind.i64 (bif decide (i = 0) then m.t else 0)]), (5, AV.I IntKind.i64 0), (6, AV.pb 70 0), (7, AV.pb 71 0), (8, AV.I IntKind.i64 0)] [] [(70, 6, [AV.B n.p, AV.sl n.l.length 1 (gI n.l), AV.sl n.g.length 2 (gG n.g), AV.I IntKind.i64 n.o, AV.I IntKind.i64 n.s, AV.I IntKind.i64 n.t]), (71, 6, [AV.B m.p, AV.sl m.l.length 1 (gI m.l), AV.sl m.g.length 2 (gG m.g), AV.I IntKind.i64 m.o, AV.I IntKind.i64 m.s, AV.I IntKind.i64 m.t])])))))))))
  (and2
    (and2
      (bif !n.p == m.p then
          (some (AV.B false, []))
        else
          (Option.bind (Γ 79 [AV.sl n.l.length 1 (gI n.l), AV.sl m.l.length 1 (gI m.l)] []) fun r4 =>
          bif !asB r4.fst then
            (some (AV.B false, []))
          else
            (bif !decide (n.o = m.o) then
              (some (AV.B false, []))
            else
              (bif !decide (n.s = m.s) then
                (some (AV.B false, []))
              else
                (bif !decide (n.t = m.t) then
                  (some (AV.B false, []))
                else
                  (bif !decide (zN n.g.length = zN m.g.length) then
                    (some (AV.B false, []))
                  else
                    (H [true, true, false, true, true, true, false, true, true, true] (hdS [(0, AV.sl 1 6 fun i => lstG [AV.B (bif decide (i = 0) then n.p else false), (mrg (decide (i = 0)) (AV.sl n.l.length 1 (gI n.l)) (AV.own 0 1 fun x => lstG [AV.I IntKind.i64 0])).sh, (mrg (decide (i = 0)) (AV.sl n.g.length 2 (gG n.g)) (AV.own 0 2 fun x => lstG [AV.I IntKind.i64 0, AV.B false])).sh, AV.I IntKind.i64 (bif decide (i = 0) then n.o else 0), AV.I IntKind.i64 (bif decide (i = 0) then n.s else 0), AV.I IntKind.i64 (bif decide (i = 0) then n.t else 0)]), (1, AV.sl 1 6 fun i => lstG [AV.B (bif decide (i = 0) then m.p else false), (mrg (decide (i = 0)) (AV.sl m.l.length 1 (gI m.l)) (AV.own 0 1 fun x => lstG [AV.I IntKind.i64 0])).sh, (mrg (decide (i = 0)) (AV.sl m.g.length 2 (gG m.g)) (AV.own 0 2 fun x => lstG [AV.I IntKind.i64 0, AV.B false])).sh, AV.I IntKind.i64 (bif decide (i = 0) then m.o else 0), AV.I IntKind.i64 (bif decide (i = 0) then m.s else 0), AV.I IntKind.i64 (bif decide (i = 0) then m.t else 0)]), (5, AV.I IntKind.i64 0), (6, AV.pb 70 0), (7, AV.pb 71 0), (8, AV.I IntKind.i64 0)] [] [(70, 6, [AV.B n.p, AV.sl n.l.length 1 (gI n.l), AV.sl n.g.length 2 (gG n.g), AV.I IntKind.i64 n.o, AV.I IntKind.i64 n.s, AV.I IntKind.i64 n.t]), (71, 6, [AV.B m.p, AV.sl m.l.length 1 (gI m.l), AV.sl m.g.length 2 (gG m.g), AV.I IntKind.i64 m.o, AV.I IntKind.i64 m.s, AV.I IntKind.i64 m.t])]))))))))
      (and2
        (bif !n.p == m.p then
            (some (AV.B false, []))
          else
            (Option.bind (Γ 79 [AV.sl n.l.length 1 (gI n.l), AV.sl m.l.length 1 (gI m.l)] []) fun r5 =>
            bif !asB r5.fst then
              (some (AV.B false, []))
            else
              (bif !decide (n.o = m.o) then
                (some (AV.B false, []))
              else
                (bif !decide (n.s = m.s) then
                  (some (AV.B false, []))
                else
                  (bif !decide (n.t = m.t) then
                    (some (AV.B false, []))
                  else
                    (bif !decide (zN n.g.length = zN m.g.length) then
                      (some (AV.B false, []))
                    else
                      (H [true, true, false, true, true, true, false, true, true, true] (hdS [(0, AV.sl 1 6 fun i => lstG [AV.B (bif decide (i = 0) then n.p else false), (mrg (decide (i = 0)) (AV.sl n.l.length 1 (gI n.l)) (AV.own 0 1 fun x => lstG [AV.I IntKind.i64 0])).sh, (mrg (decide (i = 0)) (AV.sl n.g.length 2 (gG n.g)) (AV.own 0 2 fun x => lstG [AV.I IntKind.i64 0, AV.B false])).sh, AV.I IntKind.i64 (bif decide (i = 0) then n.o else 0), AV.I IntKind.i64 (bif decide (i = 0) then n.s else 0), AV.I IntKind.i64 (bif decide (i = 0) then n.t else 0)]), (1, AV.sl 1 6 fun i => lstG [AV.B (bif decide (i = 0) then m.p else false), (mrg (decide (i = 0)) (AV.sl m.l.length 1 (gI m.l)) (AV.own 0 1 fun x => lstG [AV.I IntKind.i64 0])).sh, (mrg (decide (i = 0)) (AV.sl m.g.length 2 (gG m.g)) (AV.own 0 2 fun x => lstG [AV.I IntKind.i64 0, AV.B false])).sh, AV.I IntKind.i64 (bif decide (i = 0) then m.o else 0), AV.I IntKind.i64 (bif decide (i = 0) then m.s else 0), AV.I IntKind.i64 (bif decide (i = 0) then m.t else 0)]), (5, AV.I IntKind.i64 0), (6, AV.pb 70 0), (7, AV.pb 71 0), (8, AV.I IntKind.i64 0)] [] [(70, 6, [AV.B n.p, AV.sl n.l.length 1 (gI n.l), AV.sl n.g.length 2 (gG n.g), AV.I IntKind.i64 n.o, AV.I IntKind.i64 n.s, AV.I IntKind.i64 n.t]), (71, 6, [AV.B m.p, AV.sl m.l.length 1 (gI m.l), AV.sl m.g.length 2 (gG m.g), AV.I IntKind.i64 m.o, AV.I IntKind.i64 m.s, AV.I IntKind.i64 m.t])]))))))))
        (bif !n.p == m.p then
            (some (AV.B false, []))
          else
            (Option.bind (Γ 79 [AV.sl n.l.length 1 (gI n.l), AV.sl m.l.length 1 (gI m.l)] []) fun r5 =>
            bif !asB r5.fst then
              (some (AV.B false, []))
            else
              (bif !decide (n.o = m.o) then
                (some (AV.B false, []))
              else
                (bif !decide (n.s = m.s) then
                  (some (AV.B false, []))
                else
                  (bif !decide (n.t = m.t) then
                    (some (AV.B false, []))
                  else
                    (bif !decide (zN n.g.length = zN m.g.length) then
                      (some (AV.B false, []))
                    else
                      (H [true, true, false, true, true, true, false, true, true, true] (hdS [(0, AV.sl 1 6 fun i => lstG [AV.B (bif decide (i = 0) then n.p else false), (mrg (decide (i = 0)) (AV.sl n.l.length 1 (gI n.l)) (AV.own 0 1 fun x => lstG [AV.I IntKind.i64 0])).sh, (mrg (decide (i = 0)) (AV.sl n.g.length 2 (gG n.g)) (AV.own 0 2 fun x => lstG [AV.I IntKind.i64 0, AV.B false])).sh, AV.I IntKind.i64 (bif decide (i = 0) then n.o else 0), AV.I IntKind.i64 (bif decide (i = 0) then n.s else 0), AV.I IntKind.i64 (bif decide (i = 0) then n.t else 0)]), (1, AV.sl 1 6 fun i => lstG [AV.B (bif decide (i = 0) then m.p else false), (mrg (decide (i = 0)) (AV.sl m.l.length 1 (gI m.l)) (AV.own 0 1 fun x => lstG [AV.I IntKind.i64 0])).sh, (mrg (decide (i = 0)) (AV.sl m.g.length 2 (gG m.g)) (AV.own 0 2 fun x => lstG [AV.I IntKind.i64 0, AV.B false])).sh, AV.I IntKind.i64 (bif decide (i = 0) then m.o else 0), AV.I IntKind.i64 (bif decide (i = 0) then m.s else 0), AV.I IntKind.i64 (bif decide (i = 0) then m.t else 0)]), (5, AV.I IntKind.i64 0), (6, AV.pb 70 0), (7, AV.pb 71 0), (8, AV.I IntKind.i64 0)] [] [(70, 6, [AV.B n.p, AV.sl n.l.length 1 (gI n.l), AV.sl n.g.length 2 (gG n.g), AV.I IntKind.i64 n.o, AV.I IntKind.i64 n.s, AV.I IntKind.i64 n.t]), (71, 6, [AV.B m.p, AV.sl m.l.length 1 (gI m.l), AV.sl m.g.length 2 (gG m.g), AV.I IntKind.i64 m.o, AV.I IntKind.i64 m.s, AV.I IntKind.i64 m.t])]))))))))))
    (and2
      (bif !n.p == m.p then
          (some (AV.B false, []))
        else
          (Option.bind (Γ 79 [AV.sl n.l.length 1 (gI n.l), AV.sl m.l.length 1 (gI m.l)] []) fun r4 =>
          bif !asB r4.fst then
            (some (AV.B false, []))
          else
            (bif !decide (n.o = m.o) then
              (some (AV.B false, []))
            else
              (bif !decide (n.s = m.s) then
                (some (AV.B false, []))
              else
                (bif !decide (n.t = m.t) then
                  (some (AV.B false, []))
                else
                  (bif !decide (zN n.g.length = zN m.g.length) then
                    (some (AV.B false, []))
                  else
                    (H [true, true, false, true, true, true, false, true, true, true] (hdS [(0, AV.sl 1 6 fun i => lstG [AV.B (bif decide (i = 0) then n.p else false), (mrg (decide (i = 0)) (AV.sl n.l.length 1 (gI n.l)) (AV.own 0 1 fun x => lstG [AV.I IntKind.i64 0])).sh, (mrg (decide (i = 0)) (AV.sl n.g.length 2 (gG n.g)) (AV.own 0 2 fun x => lstG [AV.I IntKind.i64 0, AV.B false])).sh, AV.I IntKind.i64 (bif decide (i = 0) then n.o else 0), AV.I IntKind.i64 (bif decide (i = 0) then n.s else 0), AV.I IntKind.i64 (bif decide (i = 0) then n.t else 0)]), (1, AV.sl 1 6 fun i => lstG [AV.B (bif decide (i = 0) then m.p else false), (mrg (decide (i = 0)) (AV.sl m.l.length 1 (gI m.l)) (AV.own 0 1 fun x => lstG [AV.I IntKind.i64 0])).sh, (mrg (decide (i = 0)) (AV.sl m.g.length 2 (gG m.g)) (AV.own 0 2 fun x => lstG [AV.I IntKind.i64 0, AV.B false])).sh, AV.I IntKind.i64 (bif decide (i = 0) then m.o else 0), AV.I IntKind.i64 (bif decide (i = 0) then m.s else 0), AV.I IntKind.i64 (bif decide (i = 0) then m.t else 0)]), (5, AV.I IntKind.i64 0), (6, AV.pb 70 0), (7, AV.pb 71 0), (8, AV.I IntKind.i64 0)] [] [(70, 6, [AV.B n.p, AV.sl n.l.length 1 (gI n.l), AV.sl n.g.length 2 (gG n.g), AV.I IntKind.i64 n.o, AV.I IntKind.i64 n.s, AV.I IntKind.i64 n.t]), (71, 6, [AV.B m.p, AV.sl m.l.length 1 (gI m.l), AV.sl m.g.length 2 (gG m.g), AV.I IntKind.i64 m.o, AV.I IntKind.i64 m.s, AV.I IntKind.i64 m.t])]))))))))
      (and2
        (bif !n.p == m.p then
            (some (AV.B false, []))
          else
            (Option.bind (Γ 79 [AV.sl n.l.length 1 (gI n.l), AV.sl m.l.length 1 (gI m.l)] []) fun r5 =>
            bif !asB r5.fst then
              (some (AV.B false, []))
            else
              (bif !decide (n.o = m.o) then
                (some (AV.B false, []))
              else
                (bif !decide (n.s = m.s) then
                  (some (AV.B false, []))
                else
                  (bif !decide (n.t = m.t) then
                    (some (AV.B false, []))
                  else
                    (bif !decide (zN n.g.length = zN m.g.length) then
                      (some (AV.B false, []))
                    else
                      (H [true, true, false, true, true, true, false, true, true, true] (hdS [(0, AV.sl 1 6 fun i => lstG [AV.B (bif decide (i = 0) then n.p else false), (mrg (decide (i = 0)) (AV.sl n.l.length 1 (gI n.l)) (AV.own 0 1 fun x => lstG [AV.I IntKind.i64 0])).sh, (mrg (decide (i = 0)) (AV.sl n.g.length 2 (gG n.g)) (AV.own 0 2 fun x => lstG [AV.I IntKind.i64 0, AV.B false])).sh, AV.I IntKind.i64 (bif decide (i = 0) then n.o else 0), AV.I IntKind.i64 (bif decide (i = 0) then n.s else 0), AV.I IntKind.i64 (bif decide (i = 0) then n.t else 0)]), (1, AV.sl 1 6 fun i => lstG [AV.B (bif decide (i = 0) then m.p else false), (mrg (decide (i = 0)) (AV.sl m.l.length 1 (gI m.l)) (AV.own 0 1 fun x => lstG [AV.I IntKind.i64 0])).sh, (mrg (decide (i = 0)) (AV.sl m.g.length 2 (gG m.g)) (AV.own 0 2 fun x => lstG [AV.I IntKind.i64 0, AV.B false])).sh, AV.I IntKind.i64 (bif decide (i = 0) then m.o else 0), AV.I IntKind.i64 (bif decide (i = 0) then m.s else 0), AV.I IntKind.i64 (bif decide (i = 0) then m.t else 0)]), (5, AV.I IntKind.i64 0), (6, AV.pb 70 0), (7, AV.pb 71 0), (8, AV.I IntKind.i64 0)] [] [(70, 6, [AV.B n.p, AV.sl n.l.length 1 (gI n.l), AV.sl n.g.length 2 (gG n.g), AV.I IntKind.i64 n.o, AV.I IntKind.i64 n.s, AV.I IntKind.i64 n.t]), (71, 6, [AV.B m.p, AV.sl m.l.length 1 (gI m.l), AV.sl m.g.length 2 (gG m.g), AV.I IntKind.i64 m.o, AV.I IntKind.i64 m.s, AV.I IntKind.i64 m.t])]))))))))
        (bif !n.p == m.p then
            (some (AV.B false, []))
          else
            (Option.bind (Γ 79 [AV.sl n.l.length 1 (gI n.l), AV.sl m.l.length 1 (gI m.l)] []) fun r5 =>
            bif !asB r5.fst then
              (some (AV.B false, []))
            else
              (bif !decide (n.o = m.o) then
                (some (AV.B false, []))
              else
                (bif !decide (n.s = m.s) then
                  (some (AV.B false, []))
                else
                  (bif !decide (n.t = m.t) then
                    (some (AV.B false, []))
                  else
                    (bif !decide (zN n.g.length = zN m.g.length) then
                      (some (AV.B false, []))
                    else
                      (H [true, true, false, true, true, true, false, true, true, true] (hdS [(0, AV.sl 1 6 fun i => lstG [AV.B (bif decide (i = 0) then n.p else false), (mrg (decide (i = 0)) (AV.sl n.l.length 1 (gI n.l)) (AV.own 0 1 fun x => lstG [AV.I IntKind.i64 0])).sh, (mrg (decide (i = 0)) (AV.sl n.g.length 2 (gG n.g)) (AV.own 0 2 fun x => lstG [AV.I IntKind.i64 0, AV.B false])).sh, AV.I IntKind.i64 (bif decide (i = 0) then n.o else 0), AV.I IntKind.i64 (bif decide (i = 0) then n.s else 0), AV.I IntKind.i64 (bif decide (i = 0) then n.t else 0)]), (1, AV.sl 1 6 fun i => lstG [AV.B (bif decide (i = 0) then m.p else false), (mrg (decide (i = 0)) (AV.sl m.l.length 1 (gI m.l)) (AV.own 0 1 fun x => lstG [AV.I IntKind.i64 0])).sh, (mrg (decide (i = 0)) (AV.sl m.g.length 2 (gG m.g)) (AV.own 0 2 fun x => lstG [AV.I IntKind.i64 0, AV.B false])).sh, AV.I IntKind.i64 (bif decide (i = 0) then m.o else 0), AV.I IntKind.i64 (bif decide (i = 0) then m.s else 0), AV.I IntKind.i64 (bif decide (i = 0) then m.t else 0)]), (5, AV.I IntKind.i64 0), (6, AV.pb 70 0), (7, AV.pb 71 0), (8, AV.I IntKind.i64 0)] [] [(70, 6, [AV.B n.p, AV.sl n.l.length 1 (gI n.l), AV.sl n.g.length 2 (gG n.g), AV.I IntKind.i64 n.o, AV.I IntKind.i64 n.s, AV.I IntKind.i64 n.t]), (71, 6, [AV.B m.p, AV.sl m.l.length 1 (gI m.l), AV.sl m.g.length 2 (gG m.g), AV.I IntKind.i64 m.o, AV.I IntKind.i64 m.s, AV.I IntKind.i64 m.t])]))))))))))) := by kernel_rfl
theorem h61z (Γ : Orc) (H : Hd) (n m : NT) : hed Try.prog cfg Γ 61 H [] [true, true, false, true] (hdS [(0, AV.sl 1 6 (fun i => lstG [AV.B (bif decide (i = 0) then n.p else false), (mrg (decide (i = 0)) (AV.sl n.l.length 1 (gI n.l)) (AV.own 0 1 fun x => lstG [AV.I IntKind.i64 0])).sh, (mrg (decide (i = 0)) (AV.sl n.g.length 2 (gG n.g)) (AV.own 0 2 fun x => lstG [AV.I IntKind.i64 0, AV.B false])).sh, AV.I IntKind.i64 (bif decide (i = 0) then n.o else 0), AV.I IntKind.i64 (bif decide (i = 0) then n.s else 0), AV.I IntKind.i64 (bif decide (i = 0) then n.t else 0)])), (1, AV.sl 1 6 (fun i => lstG [AV.B (bif decide (i = 0) then m.p else false), (mrg (decide (i = 0)) (AV.sl m.l.length 1 (gI m.l)) (AV.own 0 1 fun x => lstG [AV.I IntKind.i64 0])).sh, (mrg (decide (i = 0)) (AV.sl m.g.length 2 (gG m.g)) (AV.own 0 2 fun x => lstG [AV.I IntKind.i64 0, AV.B false])).sh, AV.I IntKind.i64 (bif decide (i = 0) then m.o else 0), AV.I IntKind.i64 (bif decide (i = 0) then m.s else 0), AV.I IntKind.i64 (bif decide (i = 0) then m.t else 0)])), (5, nI 1)] [] []) =
  some (AV.B true, []) := by kernel_rfl
theorem h61b (Γ : Orc) (H : Hd) (n m : NT) (k : Int) : hed Try.prog cfg Γ 61 H [] [true, true, false, true, true, true, false, true, true, true] (hdS [(0, AV.sl 1 6 (fun i => lstG [AV.B (bif decide (i = 0) then n.p else false), (mrg (decide (i = 0)) (AV.sl n.l.length 1 (gI n.l)) (AV.own 0 1 fun x => lstG [AV.I IntKind.i64 0])).sh, (mrg (decide (i = 0)) (AV.sl n.g.length 2 (gG n.g)) (AV.own 0 2 fun x => lstG [AV.I IntKind.i64 0, AV.B false])).sh, AV.I IntKind.i64 (bif decide (i = 0) then n.o else 0), AV.I IntKind.i64 (bif decide (i = 0) then n.s else 0), AV.I IntKind.i64 (bif decide (i = 0) then n.t else 0)])), (1, AV.sl 1 6 (fun i => lstG [AV.B (bif decide (i = 0) then m.p else false), (mrg (decide (i = 0)) (AV.sl m.l.length 1 (gI m.l)) (AV.own 0 1 fun x => lstG [AV.I IntKind.i64 0])).sh, (mrg (decide (i = 0)) (AV.sl m.g.length 2 (gG m.g)) (AV.own 0 2 fun x => lstG [AV.I IntKind.i64 0, AV.B false])).sh, AV.I IntKind.i64 (bif decide (i = 0) then m.o else 0), AV.I IntKind.i64 (bif decide (i = 0) then m.s else 0), AV.I IntKind.i64 (bif decide (i = 0) then m.t else 0)])), (5, nI 0), (6, .pb 70 0), (7, .pb 71 0), (8, nI k)] [] [(70, 6, [.B n.p, slI n.l, slG n.g, nI n.o, nI n.s, nI n.t]), (71, 6, [.B m.p, slI m.l, slG m.g, nI m.o, nI m.s, nI m.t])]) =
  bif decide (k < zN n.g.length) then
    (bif bif decide (0 ≤ k) then decide (k < zN n.g.length) else false then
      (bif bif decide (0 ≤ k) then decide (k < zN m.g.length) else false then
        (bif !bif decide ((n.g.getD k.toNat (0, false)).fst = (m.g.getD k.toNat (0, false)).fst) then bif (n.g.getD k.toNat (0, false)).snd == (m.g.getD k.toNat (0, false)).snd then true else false else false then
          (some (AV.B false, []))
        else
          (H [true, true, false, true, true, true, false, true, true, true] (hdS [(0, AV.sl 1 6 fun i => lstG [AV.B (bif decide (i = 0) then n.p else false), (mrg (decide (i = 0)) (AV.sl n.l.length 1 (gI n.l)) (AV.own 0 1 fun x => lstG [AV.I IntKind.i64 0])).sh, (mrg (decide (i = 0)) (AV.sl n.g.length 2 (gG n.g)) (AV.own 0 2 fun x => lstG [AV.I IntKind.i64 0, AV.B false])).sh, AV.I IntKind.i64 (bif decide (i = 0) then n.o else 0), AV.I IntKind.i64 (bif decide (i = 0) then n.s else 0), AV.I IntKind.i64 (bif decide (i = 0) then n.t else 0)]), (1, AV.sl 1 6 fun i => lstG [AV.B (bif decide (i = 0) then m.p else false), (mrg (decide (i = 0)) (AV.sl m.l.length 1 (gI m.l)) (AV.own 0 1 fun x => lstG [AV.I IntKind.i64 0])).sh, (mrg (decide (i = 0)) (AV.sl m.g.length 2 (gG m.g)) (AV.own 0 2 fun x => lstG [AV.I IntKind.i64 0, AV.B false])).sh, AV.I IntKind.i64 (bif decide (i = 0) then m.o else 0), AV.I IntKind.i64 (bif decide (i = 0) then m.s else 0), AV.I IntKind.i64 (bif decide (i = 0) then m.t else 0)]), (5, AV.I IntKind.i64 0), (6, AV.pb 70 0), (7, AV.pb 71 0), (8, AV.I IntKind.i64 (IntKind.i64.wrap (k + 1)))] [] [(70, 6, [AV.B n.p, AV.sl n.l.length 1 (gI n.l), AV.sl n.g.length 2 (gG n.g), AV.I IntKind.i64 n.o, AV.I IntKind.i64 n.s, AV.I IntKind.i64 n.t]), (71, 6, [AV.B m.p, AV.sl m.l.length 1 (gI m.l), AV.sl m.g.length 2 (gG m.g), AV.I IntKind.i64 m.o, AV.I IntKind.i64 m.s, AV.I IntKind.i64 m.t])])))
      else
        (none))
    else
      (none))
  else
    (H [true, true, false, true] (hdS [(0, AV.sl 1 6 fun i => lstG [AV.B (bif decide (i = 0) then n.p else false), (mrg (decide (i = 0)) (AV.sl n.l.length 1 (gI n.l)) (AV.own 0 1 fun x => lstG [AV.I IntKind.i64 0])).sh, (mrg (decide (i = 0)) (AV.sl n.g.length 2 (gG n.g)) (AV.own 0 2 fun x => lstG [AV.I IntKind.i64 0, AV.B false])).sh, AV.I IntKind.i64 (bif decide (i = 0) then n.o else 0), AV.I IntKind.i64 (bif decide (i = 0) then n.s else 0), AV.I IntKind.i64 (bif decide (i = 0) then n.t else 0)]), (1, AV.sl 1 6 fun i => lstG [AV.B (bif decide (i = 0) then m.p else false), (mrg (decide (i = 0)) (AV.sl m.l.length 1 (gI m.l)) (AV.own 0 1 fun x => lstG [AV.I IntKind.i64 0])).sh, (mrg (decide (i = 0)) (AV.sl m.g.length 2 (gG m.g)) (AV.own 0 2 fun x => lstG [AV.I IntKind.i64 0, AV.B false])).sh, AV.I IntKind.i64 (bif decide (i = 0) then m.o else 0), AV.I IntKind.i64 (bif decide (i = 0) then m.s else 0), AV.I IntKind.i64 (bif decide (i = 0) then m.t else 0)]), (5, AV.I IntKind.i64 1)] [] [])) := by kernel_rfl
theorem e79 (Γ : Orc) (H : Hd) (xs ys : List Int) : ent Try.prog cfg Γ 79 H [slI xs, slI ys] [] =
  bif !decide (zN xs.length = zN ys.length) then
    (some (AV.B false, []))
  else
    (H [true, true, false, true] (hdS [(0, AV.sl xs.length 1 (gI xs)), (1, AV.sl ys.length 1 (gI ys)), (5, AV.I IntKind.i64 0)] [] [])) := by kernel_rfl
theorem h79 (Γ : Orc) (H : Hd) (xs ys : List Int) (i : Int) : hed Try.prog cfg Γ 79 H [] [true, true, false, true] (hdS [(0, slI xs), (1, slI ys), (5, nI i)] [] []) =
  bif decide (i < zN xs.length) then
    (bif bif decide (0 ≤ i) then decide (i < zN xs.length) else false then
      (bif bif decide (0 ≤ i) then decide (i < zN ys.length) else false then
        (bif !decide (xs.getD i.toNat 0 = ys.getD i.toNat 0) then
          (some (AV.B false, []))
        else
          (H [true, true, false, true] (hdS [(0, AV.sl xs.length 1 (gI xs)), (1, AV.sl ys.length 1 (gI ys)), (5, AV.I IntKind.i64 (IntKind.i64.wrap (i + 1)))] [] [])))
      else
        (none))
    else
      (none))
  else
    (some (AV.B true, [])) := by kernel_rfl
theorem e7 (Γ : Orc) (H : Hd) (cs : List Int) : ent Try.prog cfg Γ 7 H [.gv cs] [] =
  Option.bind (Γ 15 [AV.gv cs] []) fun r0 =>
  bif asB r0.fst then
    (some (AV.B true, []))
  else
    (Option.bind (Γ 28 [AV.gv cs] []) fun r2 =>
    Option.bind (Γ 21 [AV.ag 6 (lstG [AV.B (asB (asA (asA r2.fst 0) 0)), AV.sl (asN (asA (asA r2.fst 0) 1)) 1 fun i => lstG [AV.I IntKind.i64 (asI (asG (asA (asA r2.fst 0) 1) i 0))], AV.sl (asN (asA (asA r2.fst 0) 2)) 2 fun i => lstG [AV.I IntKind.i64 (asI (asG (asA (asA r2.fst 0) 2) i 0)), AV.B (asB (asG (asA (asA r2.fst 0) 2) i 1))], AV.I IntKind.i64 (asI (asA (asA r2.fst 0) 3)), AV.I IntKind.i64 (asI (asA (asA r2.fst 0) 4)), AV.I IntKind.i64 (asI (asA (asA r2.fst 0) 5))]), AV.I IntKind.i64 (asI (asA r2.fst 1))] []) fun r3 =>
    Option.bind (Γ 22 [AV.ag 6 (lstG [AV.B (asB (asA (asA r2.fst 0) 0)), AV.sl (asN (asA (asA r2.fst 0) 1)) 1 fun i => lstG [AV.I IntKind.i64 (asI (asG (asA (asA r2.fst 0) 1) i 0))], AV.sl (asN (asA (asA r2.fst 0) 2)) 2 fun i => lstG [AV.I IntKind.i64 (asI (asG (asA (asA r2.fst 0) 2) i 0)), AV.B (asB (asG (asA (asA r2.fst 0) 2) i 1))], AV.I IntKind.i64 (asI (asA (asA r2.fst 0) 3)), AV.I IntKind.i64 (asI (asA (asA r2.fst 0) 4)), AV.I IntKind.i64 (asI (asA (asA r2.fst 0) 5))]), AV.I IntKind.i64 (asI (asA r2.fst 1))] []) fun r4 =>
    bif !decide (asI (asA r3.fst 2) = asI (asA r4.fst 2)) then
      (some (AV.B false, []))
    else
      (bif !decide (asI (asA r3.fst 1) = asI (asA r4.fst 1)) then
        (some (AV.B false, []))
      else
        (Option.bind (Γ 29 [AV.ag 6 (lstG [AV.B (asB (asA (asA r3.fst 0) 0)), AV.sl (asN (asA (asA r3.fst 0) 1)) 1 fun i => lstG [AV.I IntKind.i64 (asI (asG (asA (asA r3.fst 0) 1) i 0))], AV.sl (asN (asA (asA r3.fst 0) 2)) 2 fun i => lstG [AV.I IntKind.i64 (asI (asG (asA (asA r3.fst 0) 2) i 0)), AV.B (asB (asG (asA (asA r3.fst 0) 2) i 1))], AV.I IntKind.i64 (asI (asA (asA r3.fst 0) 3)), AV.I IntKind.i64 (asI (asA (asA r3.fst 0) 4)), AV.I IntKind.i64 (asI (asA (asA r3.fst 0) 5))]), AV.ag 6 (lstG [AV.B (asB (asA (asA r4.fst 0) 0)), AV.sl (asN (asA (asA r4.fst 0) 1)) 1 fun i => lstG [AV.I IntKind.i64 (asI (asG (asA (asA r4.fst 0) 1) i 0))], AV.sl (asN (asA (asA r4.fst 0) 2)) 2 fun i => lstG [AV.I IntKind.i64 (asI (asG (asA (asA r4.fst 0) 2) i 0)), AV.B (asB (asG (asA (asA r4.fst 0) 2) i 1))], AV.I IntKind.i64 (asI (asA (asA r4.fst 0) 3)), AV.I IntKind.i64 (asI (asA (asA r4.fst 0) 4)), AV.I IntKind.i64 (asI (asA (asA r4.fst 0) 5))])] []) fun r7 =>
        bif !asB r7.fst then
          (some (AV.B false, []))
        else
          (Option.bind (Γ 27 [AV.ag 6 (lstG [AV.B (asB (asA (asA r2.fst 0) 0)), AV.sl (asN (asA (asA r2.fst 0) 1)) 1 fun i => lstG [AV.I IntKind.i64 (asI (asG (asA (asA r2.fst 0) 1) i 0))], AV.sl (asN (asA (asA r2.fst 0) 2)) 2 fun i => lstG [AV.I IntKind.i64 (asI (asG (asA (asA r2.fst 0) 2) i 0)), AV.B (asB (asG (asA (asA r2.fst 0) 2) i 1))], AV.I IntKind.i64 (asI (asA (asA r2.fst 0) 3)), AV.I IntKind.i64 (asI (asA (asA r2.fst 0) 4)), AV.I IntKind.i64 (asI (asA (asA r2.fst 0) 5))])] []) fun r9 =>
          Option.bind (Γ 26 [AV.sl (asN r9.fst) 1 fun i => lstG [AV.I IntKind.i64 (asI (asG r9.fst i 0))], AV.I IntKind.i64 (asI (asA r2.fst 1))] []) fun r10 =>
          bif !decide (asI (asA r4.fst 2) = 0) then
            (bif decide (asI (asA r4.fst 2) = 0) then
              (some (AV.B true, []))
            else
              (Option.bind (Γ 29 [AV.ag 6 (lstG [AV.B (asB (asA (asA r3.fst 0) 0)), AV.sl (asN (asA (asA r3.fst 0) 1)) 1 fun i => lstG [AV.I IntKind.i64 (asI (asG (asA (asA r3.fst 0) 1) i 0))], AV.sl (asN (asA (asA r3.fst 0) 2)) 2 fun i => lstG [AV.I IntKind.i64 (asI (asG (asA (asA r3.fst 0) 2) i 0)), AV.B (asB (asG (asA (asA r3.fst 0) 2) i 1))], AV.I IntKind.i64 (asI (asA (asA r3.fst 0) 3)), AV.I IntKind.i64 (asI (asA (asA r3.fst 0) 4)), AV.I IntKind.i64 (asI (asA (asA r3.fst 0) 5))]), AV.ag 6 (lstG [AV.B (asB (asA (asA r2.fst 0) 0)), AV.sl (asN (asA (asA r2.fst 0) 1)) 1 fun i => lstG [AV.I IntKind.i64 (asI (asG (asA (asA r2.fst 0) 1) i 0))], AV.sl (asN (asA (asA r2.fst 0) 2)) 2 fun i => lstG [AV.I IntKind.i64 (asI (asG (asA (asA r2.fst 0) 2) i 0)), AV.B (asB (asG (asA (asA r2.fst 0) 2) i 1))], AV.I IntKind.i64 (asI (asA (asA r2.fst 0) 3)), AV.I IntKind.i64 (asI (asA (asA r2.fst 0) 4)), AV.I IntKind.i64 (asI (asA (asA r2.fst 0) 5))])] []) fun r13 =>
              some (AV.B (asB r13.fst), [])))
          else
            (bif decide (asI r10.fst < 0) then
              (bif decide (asI (asA r4.fst 2) = 0) then
                (some (AV.B true, []))
              else
                (Option.bind (Γ 29 [AV.ag 6 (lstG [AV.B (asB (asA (asA r3.fst 0) 0)), AV.sl (asN (asA (asA r3.fst 0) 1)) 1 fun i => lstG [AV.I IntKind.i64 (asI (asG (asA (asA r3.fst 0) 1) i 0))], AV.sl (asN (asA (asA r3.fst 0) 2)) 2 fun i => lstG [AV.I IntKind.i64 (asI (asG (asA (asA r3.fst 0) 2) i 0)), AV.B (asB (asG (asA (asA r3.fst 0) 2) i 1))], AV.I IntKind.i64 (asI (asA (asA r3.fst 0) 3)), AV.I IntKind.i64 (asI (asA (asA r3.fst 0) 4)), AV.I IntKind.i64 (asI (asA (asA r3.fst 0) 5))]), AV.ag 6 (lstG [AV.B (asB (asA (asA r2.fst 0) 0)), AV.sl (asN (asA (asA r2.fst 0) 1)) 1 fun i => lstG [AV.I IntKind.i64 (asI (asG (asA (asA r2.fst 0) 1) i 0))], AV.sl (asN (asA (asA r2.fst 0) 2)) 2 fun i => lstG [AV.I IntKind.i64 (asI (asG (asA (asA r2.fst 0) 2) i 0)), AV.B (asB (asG (asA (asA r2.fst 0) 2) i 1))], AV.I IntKind.i64 (asI (asA (asA r2.fst 0) 3)), AV.I IntKind.i64 (asI (asA (asA r2.fst 0) 4)), AV.I IntKind.i64 (asI (asA (asA r2.fst 0) 5))])] []) fun r14 =>
                some (AV.B (asB r14.fst), [])))
            else
              (bif bif decide (0 ≤ asI r10.fst) then decide (asI r10.fst < zN (asN (asA (asA r2.fst 0) 2))) else false then
                (bif !asB (asG (asA (asA r2.fst 0) 2) (asI r10.fst).toNat 1) then
                  (bif decide (asI (asA r3.fst 1) = -1) then
                    (bif asB (asA (asA r3.fst 0) 0) == asB (asA (asA r2.fst 0) 0) then
                      (Option.bind (Γ 18 [AV.sl (asN (asA (asA r3.fst 0) 1)) 1 fun i => lstG [AV.I IntKind.i64 (asI (asG (asA (asA r3.fst 0) 1) i 0))], AV.sl (asN (asA (asA r2.fst 0) 1)) 1 fun i => lstG [AV.I IntKind.i64 (asI (asG (asA (asA r2.fst 0) 1) i 0))]] []) fun r17 =>
                      some (AV.B (asB r17.fst), []))
                    else
                      (some (AV.B false, [])))
                  else
                    (some (AV.B false, [])))
                else
                  (bif decide (0 < zN (asN (asA (asA r2.fst 0) 1))) then
                    (bif decide (0 < zN (asN (asA (asA r2.fst 0) 1))) then
                      (bif decide (asI (asA r3.fst 1) = asI (asG (asA (asA r2.fst 0) 1) 0 0)) then
                        (bif decide (zN (asN (asA (asA r3.fst 0) 2)) = zN (asN (asA (asA r2.fst 0) 2))) then
                          (some (AV.B (decide (zN (asN (asA (asA r3.fst 0) 1)) = IntKind.i64.wrap (zN (asN (asA (asA r2.fst 0) 1)) - 1))), []))
                        else
                          (some (AV.B false, [])))
                      else
                        (some (AV.B false, [])))
                    else
                      (none))
                  else
                    (bif decide (asI (asA r3.fst 1) = -1) then
                      (bif asB (asA (asA r3.fst 0) 0) then
                        (some (AV.B (decide (zN (asN (asA (asA r3.fst 0) 2)) = IntKind.i64.wrap (zN (asN (asA (asA r2.fst 0) 2)) - 1))), []))
                      else
                        (some (AV.B false, [])))
                    else
                      (some (AV.B false, [])))))
              else
                (none))))))) := by kernel_rfl
end Go.Fw
