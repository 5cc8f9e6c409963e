/- Trees of the functions' bodies, as printed by the framework's evaluation. -/
import Derived.Test.YtkhfkekbfjkpcaaProg
import Derived.Test.YtkhfkekbfjkpcaaFyB
import Derived.KernelRfl
set_option linter.unusedVariables false
set_option maxRecDepth 100000
namespace Go.Fw
open Go.Proofs

def focT (f r : Nat) : Foc :=
  bif Nat.beq f 61 && Nat.beq r 4 then ⟨[0,1,5], [], [], [], []⟩ else
  bif Nat.beq f 61 && Nat.beq r 10 then ⟨[0,1,5,6,7,8], [], [70,71], [], []⟩ else
  bif Nat.beq f 5 then ⟨[3,11,13,14,16,17,18], [], [67,77], [(67,1,843776),(67,2,847872),(77,1,851968),(77,2,856064)], [843776,847872,851968,856064]⟩ else
  bif Nat.beq f 74 then ⟨[0,1,4,5,6], [], [0,68,69], [(69,1,712704),(69,2,716800)], [712704,716800]⟩ else
  bif Nat.beq f 59 && Nat.beq r 4 then ⟨[0,2,3,4], [], [0,66,67], [(67,1,655360),(67,2,659456)], [655360,659456]⟩ else
  bif Nat.beq f 59 && Nat.beq r 8 then ⟨[0,2,3,31], [], [0,66,67], [(67,1,655360),(67,2,659456)], [655360,659456]⟩ else
  bif Nat.beq f 59 && Nat.beq r 15 then ⟨[0,2,3,61], [], [0,66,67], [(67,1,655360),(67,2,659456)], [655360,659456]⟩ else
  bif Nat.beq f 85 then ⟨[1,2,5,6], [], [65,66,69], [(69,1,466944),(69,2,471040)], [466944,471040]⟩ else
  bif Nat.beq f 27 then ⟨[1,3,4], [(3,348160)], [65], [], [348160]⟩ else
  bif Nat.beq f 34 then ⟨[0,3,4], [], [], [], [290816]⟩ else
  bif Nat.beq f 35 then ⟨[0,3,4], [], [], [], [290816]⟩ else
  bif Nat.beq f 24 then ⟨[1,3,4], [], [65], [], []⟩ else
  bif Nat.beq f 37 then ⟨[1,3,4,14,15,16], [(3,360448)], [65], [], [360448]⟩ else
  bif Nat.beq f 39 then ⟨[0,1,5], [], [], [], []⟩ else
  bif Nat.beq f 40 then ⟨[0,1,5], [], [], [], []⟩ else
  bif Nat.beq f 41 then ⟨[0,1,5], [], [], [], [0]⟩ else
  bif Nat.beq f 42 then ⟨[0,1,5], [], [], [], [0]⟩ else
  bif Nat.beq f 43 then ⟨[0,1,5], [], [], [], []⟩ else
  bif Nat.beq f 44 then ⟨[0,1,5], [], [], [], []⟩ else
  bif Nat.beq f 49 then ⟨[0,1,5], [], [], [], []⟩ else
  bif Nat.beq f 50 then ⟨[0,1,5], [], [], [], []⟩ else
  bif Nat.beq f 55 then ⟨[0,3], [], [], [], []⟩ else
  bif Nat.beq f 70 then ⟨[0,1,7,8], [], [], [], []⟩ else
  bif Nat.beq f 81 then ⟨[0,5,6,7], [], [], [], []⟩ else
  bif Nat.beq f 84 then ⟨[0,1,7,8], [], [], [], []⟩ else
  bif Nat.beq f 53 then ⟨[0,1,5,6,7], [(5,389120)], [], [], [389120]⟩ else
  bif Nat.beq f 51 then ⟨[1,2,4,5,6], [(5,364544)], [66,68], [], [0,4096,364544]⟩ else
  bif Nat.beq f 71 then ⟨[0,1,5,6], [], [], [], [0]⟩ else
  bif Nat.beq f 68 then ⟨[0,1,7,8], [], [], [], []⟩ else
  bif Nat.beq f 17 then ⟨[1,2,5,26,27,28], [], [65,66,69], [(69,2,413696)], [299009,413696]⟩ else
  bif Nat.beq f 18 then ⟨[0,1,5], [], [], [], []⟩ else
  bif Nat.beq f 26 then ⟨[0,1,5], [], [], [], []⟩ else
  bif Nat.beq f 79 then ⟨[0,1,5], [], [], [], []⟩ else
  bif Nat.beq f 58 then ⟨[0,3,4], [], [], [], []⟩ else
  bif Nat.beq f 4 then ⟨[0,3,4,5], [], [67], [(67,1,1064960),(67,2,1069056)], [1064960,1069056]⟩ else {}
def modeT (f : Nat) : List Bool :=
  bif Nat.beq f 13 then [true] else bif Nat.beq f 33 then [true] else bif Nat.beq f 41 then [true] else bif Nat.beq f 42 then [true] else bif Nat.beq f 51 then [true] else bif Nat.beq f 71 then [true] else bif Nat.beq f 48 then [true] else []
def nilT (f : Nat) : Bool := Nat.beq f 45 || Nat.beq f 64
def giveT (f : Nat) : Bool := Nat.beq f 33 || Nat.beq f 51 || Nat.beq f 71 || Nat.beq f 48
def cutT (f r : Nat) : Bool := Nat.beq f 59 && (Nat.beq r 8 || Nat.beq r 15)
def cfg : Cfg := ⟨modeT, focT, nilT, giveT, cutT⟩
theorem e30 (Γ : Orc) (H : Hd) (xs : List Int) (a : Int) : ent Try.prog cfg Γ 30 H [slI xs, nI a] [] =
  bif decide (IntKind.i64.wrap (a - zN xs.length) < 0) then
    (some (AV.I IntKind.i64 (-1), []))
  else
    (some (AV.I IntKind.i64 (IntKind.i64.wrap (a - zN xs.length)), [])) := by kernel_rfl
theorem e31 (Γ : Orc) (H : Hd) (gs : List (Int × Bool)) (a : Int) : ent Try.prog cfg Γ 31 H [slG gs, nI a] [] =
  bif decide (IntKind.i64.wrap (a - zN gs.length) < 0) then
    (some (AV.I IntKind.i64 (-1), []))
  else
    (some (AV.I IntKind.i64 (IntKind.i64.wrap (a - zN gs.length)), [])) := by kernel_rfl
theorem e8 (Γ : Orc) (H : Hd) (n : NT) (a : Int) : ent Try.prog cfg Γ 8 H [slN n, nI a] [] =
  Option.bind (Γ 30 [AV.sl n.l.length 1 (gI n.l), AV.I IntKind.i64 a] []) fun r0 =>
  bif decide (asI r0.fst < 0) then
    (some (AV.I IntKind.i64 (-1), []))
  else
    (Option.bind (Γ 31 [AV.sl n.g.length 2 (gG n.g), AV.I IntKind.i64 (asI r0.fst)] []) fun r2 =>
    bif decide (asI r2.fst < 0) then
      (some (AV.I IntKind.i64 (-1), []))
    else
      (some (AV.I IntKind.i64 (asI r2.fst), []))) := by kernel_rfl
theorem e34 (Γ : Orc) (H : Hd) (xs : List Int) : ent Try.prog cfg Γ 34 H [slI xs] [] =
  bif decide (zN xs.length ≤ 4294967296) && decide (zN xs.length ≤ zN xs.length) && true && true && true then
    (H [true, true, false, true] (hdS [(0, AV.sl xs.length 1 (gI xs)), (3, AV.rf 290816), (4, AV.I IntKind.i64 0)] [(290816, ⟨(zN xs.length).toNat, 1, fun i => lstG [AV.I IntKind.i64 0]⟩)] []))
  else
    (none) := by kernel_rfl
theorem h34 (Γ : Orc) (H : Hd) (xs : List Int) (os : List Int) (i : Int) : hed Try.prog cfg Γ 34 H [] [true, true, false, true] (hdS [(0, slI xs), (3, .rf 290816), (4, nI i)] [(290816, ⟨os.length, 1, gI os⟩)] []) =
  bif decide (i < zN xs.length) then
    (bif bif decide (0 ≤ i) then decide (i < zN xs.length) else false then
      (bif bif decide (0 ≤ i) then decide (i < zN os.length) else false then
        (H [true, true, false, true] (hdS [(0, AV.sl xs.length 1 (gI xs)), (3, AV.rf 290816), (4, AV.I IntKind.i64 (IntKind.i64.wrap (i + 1)))] [(290816, ⟨os.length, 1, fun i_1 => lstG [AV.I IntKind.i64 (bif decide (i_1 = i.toNat) then xs.getD i.toNat 0 else os.getD i_1 0)]⟩)] []))
      else
        (none))
    else
      (none))
  else
    (bif okT then
      (some (AV.own os.length 1 (gI os), []))
    else
      (none)) := by kernel_rfl
theorem e63 (Γ : Orc) (H : Hd) (a : Int) (b : Bool) : ent Try.prog cfg Γ 63 H [.ag 2 (lstG [nI a, .B b])] [] =
  some (AV.ag 2 (lstG [AV.I IntKind.i64 a, AV.B b]), []) := by kernel_rfl
theorem e35 (Γ : Orc) (H : Hd) (gs : List (Int × Bool)) : ent Try.prog cfg Γ 35 H [slG gs] [] =
  bif decide (zN gs.length ≤ 4294967296) && decide (zN gs.length ≤ zN gs.length) && true && true && true then
    (H [true, true, false, true] (hdS [(0, AV.sl gs.length 2 (gG gs)), (3, AV.rf 290816), (4, AV.I IntKind.i64 0)] [(290816, ⟨(zN gs.length).toNat, 2, fun i => lstG [AV.I IntKind.i64 0, AV.B false]⟩)] []))
  else
    (none) := by kernel_rfl
theorem h35 (Γ : Orc) (H : Hd) (gs : List (Int × Bool)) (os : List (Int × Bool)) (i : Int) : hed Try.prog cfg Γ 35 H [] [true, true, false, true] (hdS [(0, slG gs), (3, .rf 290816), (4, nI i)] [(290816, ⟨os.length, 2, gG os⟩)] []) =
  bif decide (i < zN gs.length) then
    (bif bif decide (0 ≤ i) then decide (i < zN gs.length) else false then
      (Option.bind (Γ 63 [AV.ag 2 (lstG [AV.I IntKind.i64 (gs.getD i.toNat (0, false)).fst, AV.B (gs.getD i.toNat (0, false)).snd])] []) fun r2 =>
      bif bif decide (0 ≤ i) then decide (i < zN os.length) else false then
        (H [true, true, false, true] (hdS [(0, AV.sl gs.length 2 (gG gs)), (3, AV.rf 290816), (4, AV.I IntKind.i64 (IntKind.i64.wrap (i + 1)))] [(290816, ⟨os.length, 2, fun i_1 => lstG [AV.I IntKind.i64 (bif decide (i_1 = i.toNat) then asI (asA r2.fst 0) else (os.getD i_1 (0, false)).fst), AV.B (bif decide (i_1 = i.toNat) then asB (asA r2.fst 1) else (os.getD i_1 (0, false)).snd)]⟩)] []))
      else
        (none))
    else
      (none))
  else
    (bif okT then
      (some (AV.own os.length 2 (gG os), []))
    else
      (none)) := by kernel_rfl
theorem e10 (Γ : Orc) (H : Hd) (n : NT) : ent Try.prog cfg Γ 10 H [slN n] [] =
  Option.bind (Γ 34 [AV.sl n.l.length 1 (gI n.l)] []) fun r0 =>
  Option.bind (Γ 35 [AV.sl n.g.length 2 (gG n.g)] []) fun r1 =>
  bif bif okT then bif okT then true else false else false then
    (some (AV.ag 6 (lstG [AV.B n.p, AV.own (asN r0.fst) 1 fun i => lstG [AV.I IntKind.i64 (asI (asG r0.fst i 0))], AV.own (asN r1.fst) 2 fun i => lstG [AV.I IntKind.i64 (asI (asG r1.fst i 0)), AV.B (asB (asG r1.fst i 1))], AV.I IntKind.i64 n.o, AV.I IntKind.i64 n.s, AV.I IntKind.i64 n.t]), []))
  else
    (none) := by kernel_rfl
theorem e62 (Γ : Orc) (H : Hd) (xs : List Int) : ent Try.prog cfg Γ 62 H [slI xs] [] =
  bif decide (0 + xs.length ≤ 4294967296) && true && true && true && true then
    (bif okT then
      (some (AV.own (0 + xs.length) 1 fun i => lstG [AV.I IntKind.i64 (xs.getD (i - 0) 0)], []))
    else
      (none))
  else
    (none) := by kernel_rfl
theorem e32 (Γ : Orc) (H : Hd) (n : NT) : ent Try.prog cfg Γ 32 H [slN n] [] =
  Option.bind (Γ 62 [AV.sl n.l.length 1 (gI n.l)] []) fun r0 =>
  bif decide (0 + n.g.length ≤ 4294967296) && true && true && true && true then
    (bif bif okT then bif okT then true else false else false then
      (some (AV.ag 6 (lstG [AV.B n.p, AV.own (asN r0.fst) 1 fun i => lstG [AV.I IntKind.i64 (asI (asG r0.fst i 0))], AV.own (0 + n.g.length) 2 fun i => lstG [AV.I IntKind.i64 (n.g.getD (i - 0) (0, false)).fst, AV.B (n.g.getD (i - 0) (0, false)).snd], AV.I IntKind.i64 n.o, AV.I IntKind.i64 n.s, AV.I IntKind.i64 n.t]), []))
    else
      (none))
  else
    (none) := by kernel_rfl
theorem e56 (Γ : Orc) (H : Hd) (a b c : Int) : ent Try.prog cfg Γ 56 H [nI a, nI b, nI c] [] =
  bif decide (b ≤ a) then
    (some (AV.B (decide (a ≤ c)), []))
  else
    (some (AV.B false, [])) := by kernel_rfl
theorem e57 (Γ : Orc) (H : Hd) (a : Int) : ent Try.prog cfg Γ 57 H [nI a] [] =
  Option.bind (Γ 56 [AV.I IntKind.i64 a, AV.I IntKind.i64 0, AV.I IntKind.i64 63] []) fun r0 =>
  some (AV.B (asB r0.fst), []) := by kernel_rfl
theorem e50 (Γ : Orc) (H : Hd) (xs : List Int) (a : Int) : ent Try.prog cfg Γ 50 H [slI xs, nI a] [] =
  H [true, false, true] (hdS [(0, AV.sl xs.length 1 (gI xs)), (1, AV.I IntKind.i64 a), (5, AV.I IntKind.i64 0)] [] []) := by kernel_rfl
theorem h50 (Γ : Orc) (H : Hd) (xs : List Int) (a i : Int) : hed Try.prog cfg Γ 50 H [] [true, false, true] (hdS [(0, slI xs), (1, nI a), (5, nI i)] [] []) =
  bif decide (i < zN xs.length) then
    (bif bif decide (0 ≤ i) then decide (i < zN xs.length) else false then
      (bif decide (xs.getD i.toNat 0 = a) then
        (some (AV.B true, []))
      else
        (H [true, false, true] (hdS [(0, AV.sl xs.length 1 (gI xs)), (1, AV.I IntKind.i64 a), (5, AV.I IntKind.i64 (IntKind.i64.wrap (i + 1)))] [] [])))
    else
      (none))
  else
    (some (AV.B false, [])) := by kernel_rfl
theorem e49 (Γ : Orc) (H : Hd) (gs : List (Int × Bool)) (a : Int) : ent Try.prog cfg Γ 49 H [slG gs, nI a] [] =
  H [true, false, true] (hdS [(0, AV.sl gs.length 2 (gG gs)), (1, AV.I IntKind.i64 a), (5, AV.I IntKind.i64 0)] [] []) := by kernel_rfl
theorem h49 (Γ : Orc) (H : Hd) (gs : List (Int × Bool)) (a i : Int) : hed Try.prog cfg Γ 49 H [] [true, false, true] (hdS [(0, slG gs), (1, nI a), (5, nI i)] [] []) =
  bif decide (i < zN gs.length) then
    (bif bif decide (0 ≤ i) then decide (i < zN gs.length) else false then
      (bif decide ((gs.getD i.toNat (0, false)).fst = a) then
        (some (AV.I IntKind.i64 i, []))
      else
        (H [true, false, true] (hdS [(0, AV.sl gs.length 2 (gG gs)), (1, AV.I IntKind.i64 a), (5, AV.I IntKind.i64 (IntKind.i64.wrap (i + 1)))] [] [])))
    else
      (none))
  else
    (some (AV.I IntKind.i64 (-1), [])) := by kernel_rfl
theorem e55 (Γ : Orc) (H : Hd) (xs : List Int) : ent Try.prog cfg Γ 55 H [slI xs] [] =
  bif decide (32 < zN xs.length) then
    (some (AV.B false, []))
  else
    (H [true, true, false, true] (hdS [(0, AV.sl xs.length 1 (gI xs)), (3, AV.I IntKind.i64 0)] [] [])) := by kernel_rfl
theorem h55 (Γ : Orc) (H : Hd) (xs : List Int) (i : Int) : hed Try.prog cfg Γ 55 H [] [true, true, false, true] (hdS [(0, slI xs), (3, nI i)] [] []) =
  bif decide (i < zN xs.length) then
    (bif bif decide (0 ≤ i) then decide (i < zN xs.length) else false then
      (Option.bind (Γ 57 [AV.I IntKind.i64 (xs.getD i.toNat 0)] []) fun r2 =>
      bif !asB r2.fst then
        (some (AV.B false, []))
      else
        (bif decide (0 ≤ i) && decide (i ≤ zN xs.length) then
          (bif bif decide (0 ≤ i) then decide (i < zN xs.length) else false then
            (Option.bind (Γ 50 [AV.sl (i.toNat - 0) 1 fun i_1 j => mrg (decide (i_1 < i.toNat - 0)) (gI xs (0 + i_1) j) (gI xs xs.length j), AV.I IntKind.i64 (xs.getD i.toNat 0)] []) fun r6 =>
            bif asB r6.fst then
              (some (AV.B false, []))
            else
              (H [true, true, false, true] (hdS [(0, AV.sl xs.length 1 (gI xs)), (3, AV.I IntKind.i64 (IntKind.i64.wrap (i + 1)))] [] [])))
          else
            (none))
        else
          (none)))
    else
      (none))
  else
    (some (AV.B true, [])) := by kernel_rfl
theorem e24 (Γ : Orc) (H : Hd) (n : NT) : ent Try.prog cfg Γ 24 H [slN n] [] =
  Option.bind (Γ 55 [AV.sl n.l.length 1 (gI n.l)] []) fun r0 =>
  bif !asB r0.fst then
    (some (AV.B false, []))
  else
    (bif decide (32 < zN n.g.length) then
      (some (AV.B false, []))
    else
      (bif n.p then
        (bif decide (0 < zN n.l.length) then
          (some (AV.B false, []))
        else
          (Option.bind (Γ 56 [AV.I IntKind.i64 n.o, AV.I IntKind.i64 0, AV.I IntKind.i64 1000000000] []) fun r5 =>
          bif !asB r5.fst then
            (some (AV.B false, []))
          else
            (Option.bind (Γ 56 [AV.I IntKind.i64 n.s, AV.I IntKind.i64 0, AV.I IntKind.i64 1000000000] []) fun r7 =>
            bif !asB r7.fst then
              (some (AV.B false, []))
            else
              (Option.bind (Γ 56 [AV.I IntKind.i64 n.t, AV.I IntKind.i64 0, AV.I IntKind.i64 1000000000] []) fun r9 =>
              bif !asB r9.fst then
                (some (AV.B false, []))
              else
                (bif n.p then
                  (H [true, true, true, true, true, false, true] (hdS [(1, AV.pb 65 0), (3, AV.I IntKind.i64 (IntKind.i64.wrap (IntKind.i64.wrap (n.t + n.s) + 1))), (4, AV.I IntKind.i64 0)] [] [(65, 6, [AV.B n.p, AV.sl n.l.length 1 (gI n.l), AV.sl n.g.length 2 (gG n.g), AV.I IntKind.i64 n.o, AV.I IntKind.i64 n.s, AV.I IntKind.i64 n.t])]))
                else
                  (H [true, true, true, true, true, false, true] (hdS [(1, AV.pb 65 0), (3, AV.I IntKind.i64 (IntKind.i64.wrap (n.t + n.s))), (4, AV.I IntKind.i64 0)] [] [(65, 6, [AV.B n.p, AV.sl n.l.length 1 (gI n.l), AV.sl n.g.length 2 (gG n.g), AV.I IntKind.i64 n.o, AV.I IntKind.i64 n.s, AV.I IntKind.i64 n.t])])))))))
      else
        (Option.bind (Γ 56 [AV.I IntKind.i64 n.o, AV.I IntKind.i64 0, AV.I IntKind.i64 1000000000] []) fun r4 =>
        bif !asB r4.fst then
          (some (AV.B false, []))
        else
          (Option.bind (Γ 56 [AV.I IntKind.i64 n.s, AV.I IntKind.i64 0, AV.I IntKind.i64 1000000000] []) fun r6 =>
          bif !asB r6.fst then
            (some (AV.B false, []))
          else
            (Option.bind (Γ 56 [AV.I IntKind.i64 n.t, AV.I IntKind.i64 0, AV.I IntKind.i64 1000000000] []) fun r8 =>
            bif !asB r8.fst then
              (some (AV.B false, []))
            else
              (bif n.p then
                (H [true, true, true, true, true, false, true] (hdS [(1, AV.pb 65 0), (3, AV.I IntKind.i64 (IntKind.i64.wrap (IntKind.i64.wrap (n.t + n.s) + 1))), (4, AV.I IntKind.i64 0)] [] [(65, 6, [AV.B n.p, AV.sl n.l.length 1 (gI n.l), AV.sl n.g.length 2 (gG n.g), AV.I IntKind.i64 n.o, AV.I IntKind.i64 n.s, AV.I IntKind.i64 n.t])]))
              else
                (H [true, true, true, true, true, false, true] (hdS [(1, AV.pb 65 0), (3, AV.I IntKind.i64 (IntKind.i64.wrap (n.t + n.s))), (4, AV.I IntKind.i64 0)] [] [(65, 6, [AV.B n.p, AV.sl n.l.length 1 (gI n.l), AV.sl n.g.length 2 (gG n.g), AV.I IntKind.i64 n.o, AV.I IntKind.i64 n.s, AV.I IntKind.i64 n.t])])))))))) := by kernel_rfl
theorem h24 (Γ : Orc) (H : Hd) (n : NT) (s i : Int) : hed Try.prog cfg Γ 24 H [] [true, true, true, true, true, false, true] (hdS [(1, .pb 65 0), (3, nI s), (4, nI i)] [] [(65, 6, [.B n.p, slI n.l, slG n.g, nI n.o, nI n.s, nI n.t])]) =
  bif decide (i < zN n.g.length) then
    (bif bif decide (0 ≤ i) then decide (i < zN n.g.length) else false then
      (Option.bind (Γ 57 [AV.I IntKind.i64 (n.g.getD i.toNat (0, false)).fst] []) fun r2 =>
      bif !asB r2.fst then
        (some (AV.B false, []))
      else
        (Option.bind (Γ 49 [AV.sl n.g.length 2 (gG n.g), AV.I IntKind.i64 (n.g.getD i.toNat (0, false)).fst] []) fun r4 =>
        bif !decide (asI r4.fst = i) then
          (some (AV.B false, []))
        else
          (Option.bind (Γ 50 [AV.sl n.l.length 1 (gI n.l), AV.I IntKind.i64 (n.g.getD i.toNat (0, false)).fst] []) fun r6 =>
          bif asB r6.fst then
            (some (AV.B false, []))
          else
            (bif (n.g.getD i.toNat (0, false)).snd then
              (H [true, true, true, true, true, false, true] (hdS [(1, AV.pb 65 0), (3, AV.I IntKind.i64 (IntKind.i64.wrap (s + 1))), (4, AV.I IntKind.i64 (IntKind.i64.wrap (i + 1)))] [] [(65, 6, [AV.B n.p, AV.sl n.l.length 1 (gI n.l), AV.sl n.g.length 2 (gG n.g), AV.I IntKind.i64 n.o, AV.I IntKind.i64 n.s, AV.I IntKind.i64 n.t])]))
            else
              (H [true, true, true, true, true, false, true] (hdS [(1, AV.pb 65 0), (3, AV.I IntKind.i64 s), (4, AV.I IntKind.i64 (IntKind.i64.wrap (i + 1)))] [] [(65, 6, [AV.B n.p, AV.sl n.l.length 1 (gI n.l), AV.sl n.g.length 2 (gG n.g), AV.I IntKind.i64 n.o, AV.I IntKind.i64 n.s, AV.I IntKind.i64 n.t])]))))))
    else
      (none))
  else
    (some (AV.B (decide (s = n.o)), [])) := by kernel_rfl
theorem e33 (Γ : Orc) (H : Hd) (n : NT) : ent Try.prog cfg Γ 33 H [.ag 6 (lstG [.B n.p, .rf 0, .rf 4096, nI n.o, nI n.s, nI n.t])] [owI n.l, owG n.g] =
  bif decide (0 < zN n.l.length) then
    (bif decide (0 < zN n.l.length) then
      (bif decide (1 ≤ zN n.l.length) && decide (zN n.l.length ≤ zN n.l.length) then
        (Option.bind (Γ 62 [AV.sl ((zN n.l.length).toNat - 1) 1 fun i => lstG [AV.I IntKind.i64 (bif decide (i < (zN n.l.length).toNat - 1) then n.l.getD (1 + i) 0 else n.l.getD n.l.length 0)]] []) fun r3 =>
        bif decide (n.g.length + 1 ≤ 4294967296) && true && true && true && true then
          (bif bif bif okT then bif okT then true else false else false then true else false then
            (some (AV.tup 2 (lstG [AV.ag 6 (lstG [AV.B n.p, AV.own (asN r3.fst) 1 fun i => lstG [AV.I IntKind.i64 (asI (asG r3.fst i 0))], AV.own (n.g.length + 1) 2 fun i => lstG [AV.I IntKind.i64 (bif decide (i < n.g.length) then (n.g.getD i (0, false)).fst else bif decide (i - n.g.length = 0) then n.l.getD 0 0 else 0), AV.B (bif decide (i < n.g.length) then (n.g.getD i (0, false)).snd else bif decide (i - n.g.length = 0) then true else false)], AV.I IntKind.i64 n.o, AV.I IntKind.i64 n.s, AV.I IntKind.i64 n.t]), AV.I IntKind.i64 (n.l.getD 0 0)]), [AV.bad, AV.bad]))
          else
            (none))
        else
          (none))
      else
        (none))
    else
      (none))
  else
    (bif n.p then
      (bif bif bif okT then bif okT then true else false else false then true else false then
        (some (AV.tup 2 (lstG [AV.ag 6 (lstG [AV.B true, AV.own n.l.length 1 (gI n.l), AV.own n.g.length 2 (gG n.g), AV.I IntKind.i64 n.o, AV.I IntKind.i64 (IntKind.i64.wrap (n.s + 1)), AV.I IntKind.i64 n.t]), AV.I IntKind.i64 (-1)]), [AV.bad, AV.bad]))
      else
        (none))
    else
      (bif bif bif okT then bif okT then true else false else false then true else false then
        (some (AV.tup 2 (lstG [AV.ag 6 (lstG [AV.B true, AV.own n.l.length 1 (gI n.l), AV.own n.g.length 2 (gG n.g), AV.I IntKind.i64 n.o, AV.I IntKind.i64 n.s, AV.I IntKind.i64 n.t]), AV.I IntKind.i64 (-1)]), [AV.bad, AV.bad]))
      else
        (none))) := by kernel_rfl
theorem e9 (Γ : Orc) (H : Hd) (n : NT) : ent Try.prog cfg Γ 9 H [slN n] [] =
  Option.bind (Γ 32 [AV.ag 6 (lstG [AV.B n.p, AV.sl n.l.length 1 (gI n.l), AV.sl n.g.length 2 (gG n.g), AV.I IntKind.i64 n.o, AV.I IntKind.i64 n.s, AV.I IntKind.i64 n.t])] []) fun r0 =>
  Option.bind (Γ 24 [AV.ag 6 (lstG [AV.B n.p, AV.sl n.l.length 1 (gI n.l), AV.sl n.g.length 2 (gG n.g), AV.I IntKind.i64 n.o, AV.I IntKind.i64 n.s, AV.I IntKind.i64 n.t])] []) fun r1 =>
  bif !asB r1.fst then
    (bif bif bif okT then bif okT then true else false else false then true else false then
      (some (AV.tup 3 (lstG [AV.ag 6 (lstG [AV.B (asB (asA r0.fst 0)), AV.own (asN (asA r0.fst 1)) 1 fun i => lstG [AV.I IntKind.i64 (asI (asG (asA r0.fst 1) i 0))], AV.own (asN (asA r0.fst 2)) 2 fun i => lstG [AV.I IntKind.i64 (asI (asG (asA r0.fst 2) i 0)), AV.B (asB (asG (asA r0.fst 2) i 1))], AV.I IntKind.i64 (asI (asA r0.fst 3)), AV.I IntKind.i64 (asI (asA r0.fst 4)), AV.I IntKind.i64 (asI (asA r0.fst 5))]), AV.I IntKind.i64 (-1), AV.I IntKind.i64 1]), []))
    else
      (none))
  else
    (bif decide (1000000000 ≤ n.o) then
      (bif bif bif okT then bif okT then true else false else false then true else false then
        (some (AV.tup 3 (lstG [AV.ag 6 (lstG [AV.B (asB (asA r0.fst 0)), AV.own (asN (asA r0.fst 1)) 1 fun i => lstG [AV.I IntKind.i64 (asI (asG (asA r0.fst 1) i 0))], AV.own (asN (asA r0.fst 2)) 2 fun i => lstG [AV.I IntKind.i64 (asI (asG (asA r0.fst 2) i 0)), AV.B (asB (asG (asA r0.fst 2) i 1))], AV.I IntKind.i64 (asI (asA r0.fst 3)), AV.I IntKind.i64 (asI (asA r0.fst 4)), AV.I IntKind.i64 (asI (asA r0.fst 5))]), AV.I IntKind.i64 (-1), AV.I IntKind.i64 2]), []))
      else
        (none))
    else
      (bif decide (0 < zN n.l.length) then
        (bif decide (32 ≤ zN n.g.length) then
          (bif bif bif okT then bif okT then true else false else false then true else false then
            (some (AV.tup 3 (lstG [AV.ag 6 (lstG [AV.B (asB (asA r0.fst 0)), AV.own (asN (asA r0.fst 1)) 1 fun i => lstG [AV.I IntKind.i64 (asI (asG (asA r0.fst 1) i 0))], AV.own (asN (asA r0.fst 2)) 2 fun i => lstG [AV.I IntKind.i64 (asI (asG (asA r0.fst 2) i 0)), AV.B (asB (asG (asA r0.fst 2) i 1))], AV.I IntKind.i64 (asI (asA r0.fst 3)), AV.I IntKind.i64 (asI (asA r0.fst 4)), AV.I IntKind.i64 (asI (asA r0.fst 5))]), AV.I IntKind.i64 (-1), AV.I IntKind.i64 2]), []))
          else
            (none))
        else
          (Option.bind (Γ 33 [AV.ag 6 (lstG [AV.B (asB (asA r0.fst 0)), AV.rf 0, AV.rf 4096, AV.I IntKind.i64 (IntKind.i64.wrap (asI (asA r0.fst 3) + 1)), AV.I IntKind.i64 (asI (asA r0.fst 4)), AV.I IntKind.i64 (asI (asA r0.fst 5))])] [AV.own (asN (asA r0.fst 1)) 1 fun i => lstG [AV.I IntKind.i64 (asI (asG (asA r0.fst 1) i 0))], AV.own (asN (asA r0.fst 2)) 2 fun i => lstG [AV.I IntKind.i64 (asI (asG (asA r0.fst 2) i 0)), AV.B (asB (asG (asA r0.fst 2) i 1))]]) fun r6 =>
          bif bif bif okT then bif okT then true else false else false then true else false then
            (some (AV.tup 3 (lstG [AV.ag 6 (lstG [AV.B (asB (asA (asA r6.fst 0) 0)), AV.own (asN (asA (asA r6.fst 0) 1)) 1 fun i => lstG [AV.I IntKind.i64 (asI (asG (asA (asA r6.fst 0) 1) i 0))], AV.own (asN (asA (asA r6.fst 0) 2)) 2 fun i => lstG [AV.I IntKind.i64 (asI (asG (asA (asA r6.fst 0) 2) i 0)), AV.B (asB (asG (asA (asA r6.fst 0) 2) i 1))], AV.I IntKind.i64 (asI (asA (asA r6.fst 0) 3)), AV.I IntKind.i64 (asI (asA (asA r6.fst 0) 4)), AV.I IntKind.i64 (asI (asA (asA r6.fst 0) 5))]), AV.I IntKind.i64 (asI (asA r6.fst 1)), AV.I IntKind.i64 0]), []))
          else
            (none)))
      else
        (Option.bind (Γ 33 [AV.ag 6 (lstG [AV.B (asB (asA r0.fst 0)), AV.rf 0, AV.rf 4096, AV.I IntKind.i64 (IntKind.i64.wrap (asI (asA r0.fst 3) + 1)), AV.I IntKind.i64 (asI (asA r0.fst 4)), AV.I IntKind.i64 (asI (asA r0.fst 5))])] [AV.own (asN (asA r0.fst 1)) 1 fun i => lstG [AV.I IntKind.i64 (asI (asG (asA r0.fst 1) i 0))], AV.own (asN (asA r0.fst 2)) 2 fun i => lstG [AV.I IntKind.i64 (asI (asG (asA r0.fst 2) i 0)), AV.B (asB (asG (asA r0.fst 2) i 1))]]) fun r5 =>
        bif bif bif okT then bif okT then true else false else false then true else false then
          (some (AV.tup 3 (lstG [AV.ag 6 (lstG [AV.B (asB (asA (asA r5.fst 0) 0)), AV.own (asN (asA (asA r5.fst 0) 1)) 1 fun i => lstG [AV.I IntKind.i64 (asI (asG (asA (asA r5.fst 0) 1) i 0))], AV.own (asN (asA (asA r5.fst 0) 2)) 2 fun i => lstG [AV.I IntKind.i64 (asI (asG (asA (asA r5.fst 0) 2) i 0)), AV.B (asB (asG (asA (asA r5.fst 0) 2) i 1))], AV.I IntKind.i64 (asI (asA (asA r5.fst 0) 3)), AV.I IntKind.i64 (asI (asA (asA r5.fst 0) 4)), AV.I IntKind.i64 (asI (asA (asA r5.fst 0) 5))]), AV.I IntKind.i64 (asI (asA r5.fst 1)), AV.I IntKind.i64 0]), []))
        else
          (none)))) := by kernel_rfl
theorem e45n (Γ : Orc) (H : Hd) (xs : List Int) : ent Try.prog cfg Γ 45 H [.sln xs.length 1 (gI xs)] [] =
  bif decide (0 + xs.length ≤ 4294967296) && true && true && true && true then
    (bif okT then
      (some (AV.own (0 + xs.length) 1 fun i => lstG [AV.I IntKind.i64 (xs.getD (i - 0) 0)], []))
    else
      (none))
  else
    (none) := by kernel_rfl
theorem e45z (Γ : Orc) (H : Hd) (g : Nat → Nat → AV) : ent Try.prog cfg Γ 45 H [.nsl 1 g] [] =
  bif okT then
    (some (AV.own 0 1 fun i => lstG [AV.I IntKind.i64 0], []))
  else
    (none) := by kernel_rfl
theorem e64n (Γ : Orc) (H : Hd) (gs : List (Int × Bool)) : ent Try.prog cfg Γ 64 H [.sln gs.length 2 (gG gs)] [] =
  bif decide (0 + gs.length ≤ 4294967296) && true && true && true && true then
    (bif okT then
      (some (AV.own (0 + gs.length) 2 fun i => lstG [AV.I IntKind.i64 (gs.getD (i - 0) (0, false)).fst, AV.B (gs.getD (i - 0) (0, false)).snd], []))
    else
      (none))
  else
    (none) := by kernel_rfl
theorem e64z (Γ : Orc) (H : Hd) (g : Nat → Nat → AV) : ent Try.prog cfg Γ 64 H [.nsl 2 g] [] =
  bif okT then
    (some (AV.own 0 2 fun i => lstG [AV.I IntKind.i64 0, AV.B false], []))
  else
    (none) := by kernel_rfl
theorem e36 (Γ : Orc) (H : Hd) (n : NT) : ent Try.prog cfg Γ 36 H [slN n] [] =
  Option.bind (Γ 45 [AV.sl n.l.length 1 (gI n.l)] []) fun r0 =>
  Option.bind (Γ 64 [AV.sl n.g.length 2 (gG n.g)] []) fun r1 =>
  bif bif okT then bif okT then true else false else false then
    (some (AV.ag 6 (lstG [AV.B n.p, AV.own (asN r0.fst) 1 fun i => lstG [AV.I IntKind.i64 (asI (asG r0.fst i 0))], AV.own (asN r1.fst) 2 fun i => lstG [AV.I IntKind.i64 (asI (asG r1.fst i 0)), AV.B (asB (asG r1.fst i 1))], AV.I IntKind.i64 n.o, AV.I IntKind.i64 n.s, AV.I IntKind.i64 n.t]), []))
  else
    (none) := by kernel_rfl
theorem e73 (Γ : Orc) (H : Hd) (a b c : Int) : ent Try.prog cfg Γ 73 H [nI a, nI b, nI c] [] =
  bif decide (b ≤ a) then
    (some (AV.B (decide (a ≤ c)), []))
  else
    (some (AV.B false, [])) := by kernel_rfl
theorem e54 (Γ : Orc) (H : Hd) (a : Int) : ent Try.prog cfg Γ 54 H [nI a] [] =
  Option.bind (Γ 73 [AV.I IntKind.i64 a, AV.I IntKind.i64 0, AV.I IntKind.i64 63] []) fun r0 =>
  some (AV.B (asB r0.fst), []) := by kernel_rfl
theorem e66 (Γ : Orc) (H : Hd) (a : Int) : ent Try.prog cfg Γ 66 H [nI a] [] =
  Option.bind (Γ 73 [AV.I IntKind.i64 a, AV.I IntKind.i64 0, AV.I IntKind.i64 1000000000] []) fun r0 =>
  some (AV.B (asB r0.fst), []) := by kernel_rfl
theorem e70 (Γ : Orc) (H : Hd) (xs : List Int) (a : Int) : ent Try.prog cfg Γ 70 H [slI xs, nI a] [] =
  H [true, false, true] (hdS [(0, AV.sl xs.length 1 (gI xs)), (1, AV.I IntKind.i64 a), (7, AV.I IntKind.i64 (zN xs.length)), (8, AV.I IntKind.i64 0)] [] []) := by kernel_rfl
theorem h70 (Γ : Orc) (H : Hd) (xs : List Int) (a m i : Int) : hed Try.prog cfg Γ 70 H [] [true, false, true] (hdS [(0, slI xs), (1, nI a), (7, nI m), (8, nI i)] [] []) =
  bif decide (i < m) then
    (bif bif decide (0 ≤ i) then decide (i < zN xs.length) else false then
      (bif decide (a = xs.getD i.toNat 0) then
        (some (AV.I IntKind.i64 i, []))
      else
        (H [true, false, true] (hdS [(0, AV.sl xs.length 1 (gI xs)), (1, AV.I IntKind.i64 a), (7, AV.I IntKind.i64 m), (8, AV.I IntKind.i64 (IntKind.i64.wrap (i + 1)))] [] [])))
    else
      (none))
  else
    (some (AV.I IntKind.i64 (-1), [])) := by kernel_rfl
theorem e47 (Γ : Orc) (H : Hd) (xs : List Int) (a : Int) : ent Try.prog cfg Γ 47 H [slI xs, nI a] [] =
  Option.bind (Γ 70 [AV.sl xs.length 1 (gI xs), AV.I IntKind.i64 a] []) fun r0 =>
  some (AV.B (decide (0 ≤ asI r0.fst)), []) := by kernel_rfl
theorem e81 (Γ : Orc) (H : Hd) (xs : List Int) : ent Try.prog cfg Γ 81 H [slI xs] [] =
  H [true, false, true] (hdS [(0, AV.sl xs.length 1 (gI xs)), (5, AV.sl xs.length 1 (gI xs)), (6, AV.I IntKind.i64 (zN xs.length)), (7, AV.I IntKind.i64 0)] [] []) := by kernel_rfl
theorem h81 (Γ : Orc) (H : Hd) (xs : List Int) (m i : Int) : hed Try.prog cfg Γ 81 H [] [true, false, true] (hdS [(0, slI xs), (5, slI xs), (6, nI m), (7, nI i)] [] []) =
  bif decide (i < m) then
    (bif bif decide (0 ≤ i) then decide (i < zN xs.length) else false then
      (Option.bind (Γ 54 [AV.I IntKind.i64 (xs.getD i.toNat 0)] []) fun r2 =>
      bif !asB r2.fst then
        (some (AV.B false, []))
      else
        (bif decide (0 ≤ i) && decide (i ≤ zN xs.length) then
          (Option.bind (Γ 47 [AV.sl (i.toNat - 0) 1 fun i_1 j => mrg (decide (i_1 < i.toNat - 0)) (gI xs (0 + i_1) j) (gI xs xs.length j), AV.I IntKind.i64 (xs.getD i.toNat 0)] []) fun r5 =>
          bif asB r5.fst then
            (some (AV.B false, []))
          else
            (H [true, false, true] (hdS [(0, AV.sl xs.length 1 (gI xs)), (5, AV.sl xs.length 1 (gI xs)), (6, AV.I IntKind.i64 m), (7, AV.I IntKind.i64 (IntKind.i64.wrap (i + 1)))] [] [])))
        else
          (none)))
    else
      (none))
  else
    (some (AV.B (decide (zN xs.length ≤ 32)), [])) := by kernel_rfl
theorem e80 (Γ : Orc) (H : Hd) (xs : List Int) : ent Try.prog cfg Γ 80 H [slI xs] [] =
  Option.bind (Γ 81 [AV.sl xs.length 1 (gI xs)] []) fun r0 =>
  some (AV.B (asB r0.fst), []) := by kernel_rfl
theorem e83 (Γ : Orc) (H : Hd) (a : Int) (ys : List Int) : ent Try.prog cfg Γ 83 H [nI a, .sp 1 (lstG [slI ys])] [] =
  Option.bind (Γ 47 [AV.sl ys.length 1 (gI ys), AV.I IntKind.i64 a] []) fun r0 =>
  some (AV.B (asB r0.fst), []) := by kernel_rfl
theorem e84 (Γ : Orc) (H : Hd) (xs ys : List Int) : ent Try.prog cfg Γ 84 H [slI xs, .clo 83 1 (lstG [.sp 1 (lstG [slI ys])])] [] =
  H [true, false, true] (hdS [(0, AV.sl xs.length 1 (gI xs)), (1, AV.clo 83 1 (lstG [AV.sp 1 (lstG [AV.sl ys.length 1 (gI ys)])])), (7, AV.I IntKind.i64 (zN xs.length)), (8, AV.I IntKind.i64 0)] [] []) := by kernel_rfl
theorem h84 (Γ : Orc) (H : Hd) (xs ys : List Int) (m i : Int) : hed Try.prog cfg Γ 84 H [] [true, false, true] (hdS [(0, slI xs), (1, .clo 83 1 (lstG [.sp 1 (lstG [slI ys])])), (7, nI m), (8, nI i)] [] []) =
  bif decide (i < m) then
    (bif bif decide (0 ≤ i) then decide (i < zN xs.length) else false then
      (Option.bind (Γ 83 [AV.I IntKind.i64 (xs.getD i.toNat 0), AV.sp 1 (lstG [AV.sl ys.length 1 (gI ys)])] []) fun r2 =>
      bif asB r2.fst then
        (some (AV.I IntKind.i64 i, []))
      else
        (H [true, false, true] (hdS [(0, AV.sl xs.length 1 (gI xs)), (1, AV.clo 83 1 (lstG [AV.sp 1 (lstG [AV.sl ys.length 1 (gI ys)])])), (7, AV.I IntKind.i64 m), (8, AV.I IntKind.i64 (IntKind.i64.wrap (i + 1)))] [] [])))
    else
      (none))
  else
    (some (AV.I IntKind.i64 (-1), [])) := by kernel_rfl
theorem e82 (Γ : Orc) (H : Hd) (xs ys : List Int) : ent Try.prog cfg Γ 82 H [slI xs, .clo 83 1 (lstG [.sp 1 (lstG [slI ys])])] [] =
  Option.bind (Γ 84 [AV.sl xs.length 1 (gI xs), AV.clo 83 1 (lstG [AV.sp 1 (lstG [AV.sl ys.length 1 (gI ys)])])] []) fun r0 =>
  some (AV.B (decide (0 ≤ asI r0.fst)), []) := by kernel_rfl
theorem e65 (Γ : Orc) (H : Hd) (xs ys : List Int) : ent Try.prog cfg Γ 65 H [slI xs, slI ys] [] =
  Option.bind (Γ 80 [AV.sl xs.length 1 (gI xs)] []) fun r0 =>
  bif asB r0.fst then
    (Option.bind (Γ 81 [AV.sl ys.length 1 (gI ys)] []) fun r2 =>
    bif asB r2.fst then
      (Option.bind (Γ 82 [AV.sl ys.length 1 (gI ys), AV.clo 83 1 (lstG [AV.sp 1 (lstG [AV.sl xs.length 1 (gI xs)])])] []) fun r4 =>
      some (AV.B !asB r4.fst, []))
    else
      (some (AV.B false, [])))
  else
    (some (AV.B false, [])) := by kernel_rfl
theorem e37 (Γ : Orc) (H : Hd) (n : NT) : ent Try.prog cfg Γ 37 H [slN n] [] =
  H [true, true, true, false, true] (hdS [(1, AV.pb 65 0), (3, AV.rf 360448), (4, AV.I IntKind.i64 (IntKind.i64.wrap (n.t + n.s))), (14, AV.sl n.g.length 2 (gG n.g)), (15, AV.I IntKind.i64 (zN n.g.length)), (16, AV.I IntKind.i64 0)] [(360448, ⟨0, 1, fun i => lstG [AV.I IntKind.i64 0]⟩)] [(65, 6, [AV.B n.p, AV.sl n.l.length 1 (gI n.l), AV.sl n.g.length 2 (gG n.g), AV.I IntKind.i64 n.o, AV.I IntKind.i64 n.s, AV.I IntKind.i64 n.t])]) := by kernel_rfl
theorem h37 (Γ : Orc) (H : Hd) (n : NT) (os : List Int) (s z m i : Int) : hed Try.prog cfg Γ 37 H [] [true, true, true, false, true] (hdS [(1, .pb 65 0), (3, .rf 360448), (4, nI s), (14, slG n.g), (15, nI m), (16, nI i)] [(360448, ⟨os.length, 1, gI os⟩)] [(65, 6, [.B n.p, slI n.l, slG n.g, nI n.o, nI n.s, nI n.t])]) =
  bif decide (i < m) then
    (bif bif decide (0 ≤ i) then decide (i < zN n.g.length) else false then
      (bif decide (os.length + 1 ≤ 4294967296) && true && true && true && true then
        (bif (n.g.getD i.toNat (0, false)).snd then
          (H [true, true, true, false, true] (hdS [(1, AV.pb 65 0), (3, AV.rf 360448), (4, AV.I IntKind.i64 (IntKind.i64.wrap (s + 1))), (14, AV.sl n.g.length 2 (gG n.g)), (15, AV.I IntKind.i64 m), (16, AV.I IntKind.i64 (IntKind.i64.wrap (i + 1)))] [(360448, ⟨os.length + 1, 1, fun i_1 => lstG [AV.I IntKind.i64 (bif decide (i_1 < os.length) then os.getD i_1 0 else bif decide (i_1 - os.length = 0) then (n.g.getD i.toNat (0, false)).fst else 0)]⟩)] [(65, 6, [AV.B n.p, AV.sl n.l.length 1 (gI n.l), AV.sl n.g.length 2 (gG n.g), AV.I IntKind.i64 n.o, AV.I IntKind.i64 n.s, AV.I IntKind.i64 n.t])]))
        else
          (H [true, true, true, false, true] (hdS [(1, AV.pb 65 0), (3, AV.rf 360448), (4, AV.I IntKind.i64 s), (14, AV.sl n.g.length 2 (gG n.g)), (15, AV.I IntKind.i64 m), (16, AV.I IntKind.i64 (IntKind.i64.wrap (i + 1)))] [(360448, ⟨os.length + 1, 1, fun i_1 => lstG [AV.I IntKind.i64 (bif decide (i_1 < os.length) then os.getD i_1 0 else bif decide (i_1 - os.length = 0) then (n.g.getD i.toNat (0, false)).fst else 0)]⟩)] [(65, 6, [AV.B n.p, AV.sl n.l.length 1 (gI n.l), AV.sl n.g.length 2 (gG n.g), AV.I IntKind.i64 n.o, AV.I IntKind.i64 n.s, AV.I IntKind.i64 n.t])])))
      else
        (none))
    else
      (none))
  else
    (bif n.p then
      (Option.bind (Γ 65 [AV.sl n.l.length 1 (gI n.l), AV.sl os.length 1 (gI os)] []) fun r2 =>
      bif asB r2.fst then
        (bif n.p then
          (bif !decide (0 < zN n.l.length) then
            (Option.bind (Γ 66 [AV.I IntKind.i64 n.o] []) fun r6 =>
            bif asB r6.fst then
              (Option.bind (Γ 66 [AV.I IntKind.i64 n.s] []) fun r8 =>
              bif asB r8.fst then
                (Option.bind (Γ 66 [AV.I IntKind.i64 n.t] []) fun r10 =>
                bif asB r10.fst then
                  (some (AV.B (decide (IntKind.i64.wrap (s + 1) = n.o)), []))
                else
                  (some (AV.B false, [])))
              else
                (some (AV.B false, [])))
            else
              (some (AV.B false, [])))
          else
            (some (AV.B false, [])))
        else
          (Option.bind (Γ 66 [AV.I IntKind.i64 n.o] []) fun r5 =>
          bif asB r5.fst then
            (Option.bind (Γ 66 [AV.I IntKind.i64 n.s] []) fun r7 =>
            bif asB r7.fst then
              (Option.bind (Γ 66 [AV.I IntKind.i64 n.t] []) fun r9 =>
              bif asB r9.fst then
                (some (AV.B (decide (IntKind.i64.wrap (s + 1) = n.o)), []))
              else
                (some (AV.B false, [])))
            else
              (some (AV.B false, [])))
          else
            (some (AV.B false, []))))
      else
        (some (AV.B false, [])))
    else
      (Option.bind (Γ 65 [AV.sl n.l.length 1 (gI n.l), AV.sl os.length 1 (gI os)] []) fun r2 =>
      bif asB r2.fst then
        (bif n.p then
          (bif !decide (0 < zN n.l.length) then
            (Option.bind (Γ 66 [AV.I IntKind.i64 n.o] []) fun r6 =>
            bif asB r6.fst then
              (Option.bind (Γ 66 [AV.I IntKind.i64 n.s] []) fun r8 =>
              bif asB r8.fst then
                (Option.bind (Γ 66 [AV.I IntKind.i64 n.t] []) fun r10 =>
                bif asB r10.fst then
                  (some (AV.B (decide (s = n.o)), []))
                else
                  (some (AV.B false, [])))
              else
                (some (AV.B false, [])))
            else
              (some (AV.B false, [])))
          else
            (some (AV.B false, [])))
        else
          (Option.bind (Γ 66 [AV.I IntKind.i64 n.o] []) fun r5 =>
          bif asB r5.fst then
            (Option.bind (Γ 66 [AV.I IntKind.i64 n.s] []) fun r7 =>
            bif asB r7.fst then
              (Option.bind (Γ 66 [AV.I IntKind.i64 n.t] []) fun r9 =>
              bif asB r9.fst then
                (some (AV.B (decide (s = n.o)), []))
              else
                (some (AV.B false, [])))
            else
              (some (AV.B false, [])))
          else
            (some (AV.B false, []))))
      else
        (some (AV.B false, [])))) := by kernel_rfl
theorem e38 (Γ : Orc) (H : Hd) (n : NT) : ent Try.prog cfg Γ 38 H [.pb 0 0] [.nbx 6 (lstG [.B n.p, owI n.l, owG n.g, nI n.o, nI n.s, nI n.t])] =
  bif decide (zN n.l.length = 0) then
    (bif n.p then
      (bif bif okT then bif okT then true else false else false then
        (some (AV.I IntKind.i64 (-1), [AV.nbx 6 (lstG [AV.B true, AV.own n.l.length 1 (gI n.l), AV.own n.g.length 2 (gG n.g), AV.I IntKind.i64 n.o, AV.I IntKind.i64 (IntKind.i64.wrap (n.s + 1)), AV.I IntKind.i64 n.t])]))
      else
        (none))
    else
      (bif bif okT then bif okT then true else false else false then
        (some (AV.I IntKind.i64 (-1), [AV.nbx 6 (lstG [AV.B true, AV.own n.l.length 1 (gI n.l), AV.own n.g.length 2 (gG n.g), AV.I IntKind.i64 n.o, AV.I IntKind.i64 n.s, AV.I IntKind.i64 n.t])]))
      else
        (none)))
  else
    (bif decide (0 < zN n.l.length) then
      (bif decide (1 ≤ zN n.l.length) && decide (zN n.l.length ≤ zN n.l.length) then
        (bif decide (n.g.length + 1 ≤ 4294967296) && true && true && true && true then
          (bif bif okT then bif okT then true else false else false then
            (some (AV.I IntKind.i64 (n.l.getD 0 0), [AV.nbx 6 (lstG [AV.B n.p, AV.own ((zN n.l.length).toNat - 1) 1 fun i => lstG [AV.I IntKind.i64 (bif decide (i < (zN n.l.length).toNat - 1) then n.l.getD (1 + i) 0 else n.l.getD n.l.length 0)], AV.own (n.g.length + 1) 2 fun i => lstG [AV.I IntKind.i64 (bif decide (i < n.g.length) then (n.g.getD i (0, false)).fst else bif decide (i - n.g.length = 0) then n.l.getD 0 0 else 0), AV.B (bif decide (i < n.g.length) then (n.g.getD i (0, false)).snd else bif decide (i - n.g.length = 0) then true else false)], AV.I IntKind.i64 n.o, AV.I IntKind.i64 n.s, AV.I IntKind.i64 n.t])]))
          else
            (none))
        else
          (none))
      else
        (none))
    else
      (none)) := by kernel_rfl
theorem e11 (Γ : Orc) (H : Hd) (n : NT) : ent Try.prog cfg Γ 11 H [slN n] [] =
  Option.bind (Γ 36 [AV.ag 6 (lstG [AV.B n.p, AV.sl n.l.length 1 (gI n.l), AV.sl n.g.length 2 (gG n.g), AV.I IntKind.i64 n.o, AV.I IntKind.i64 n.s, AV.I IntKind.i64 n.t])] []) fun r0 =>
  Option.bind (Γ 37 [AV.ag 6 (lstG [AV.B n.p, AV.sl n.l.length 1 (gI n.l), AV.sl n.g.length 2 (gG n.g), AV.I IntKind.i64 n.o, AV.I IntKind.i64 n.s, AV.I IntKind.i64 n.t])] []) fun r1 =>
  bif !asB r1.fst then
    (bif bif bif okT then bif okT then true else false else false then true else false then
      (some (AV.tup 3 (lstG [AV.ag 6 (lstG [AV.B (asB (asA r0.fst 0)), AV.own (asN (asA r0.fst 1)) 1 fun i => lstG [AV.I IntKind.i64 (asI (asG (asA r0.fst 1) i 0))], AV.own (asN (asA r0.fst 2)) 2 fun i => lstG [AV.I IntKind.i64 (asI (asG (asA r0.fst 2) i 0)), AV.B (asB (asG (asA r0.fst 2) i 1))], AV.I IntKind.i64 (asI (asA r0.fst 3)), AV.I IntKind.i64 (asI (asA r0.fst 4)), AV.I IntKind.i64 (asI (asA r0.fst 5))]), AV.I IntKind.i64 (-1), AV.I IntKind.i64 1]), []))
    else
      (none))
  else
    (bif decide (n.o = 1000000000) then
      (bif bif bif okT then bif okT then true else false else false then true else false then
        (some (AV.tup 3 (lstG [AV.ag 6 (lstG [AV.B (asB (asA r0.fst 0)), AV.own (asN (asA r0.fst 1)) 1 fun i => lstG [AV.I IntKind.i64 (asI (asG (asA r0.fst 1) i 0))], AV.own (asN (asA r0.fst 2)) 2 fun i => lstG [AV.I IntKind.i64 (asI (asG (asA r0.fst 2) i 0)), AV.B (asB (asG (asA r0.fst 2) i 1))], AV.I IntKind.i64 (asI (asA r0.fst 3)), AV.I IntKind.i64 (asI (asA r0.fst 4)), AV.I IntKind.i64 (asI (asA r0.fst 5))]), AV.I IntKind.i64 (-1), AV.I IntKind.i64 2]), []))
      else
        (none))
    else
      (bif decide (0 < zN n.l.length) then
        (bif decide (zN n.g.length = 32) then
          (bif bif bif okT then bif okT then true else false else false then true else false then
            (some (AV.tup 3 (lstG [AV.ag 6 (lstG [AV.B (asB (asA r0.fst 0)), AV.own (asN (asA r0.fst 1)) 1 fun i => lstG [AV.I IntKind.i64 (asI (asG (asA r0.fst 1) i 0))], AV.own (asN (asA r0.fst 2)) 2 fun i => lstG [AV.I IntKind.i64 (asI (asG (asA r0.fst 2) i 0)), AV.B (asB (asG (asA r0.fst 2) i 1))], AV.I IntKind.i64 (asI (asA r0.fst 3)), AV.I IntKind.i64 (asI (asA r0.fst 4)), AV.I IntKind.i64 (asI (asA r0.fst 5))]), AV.I IntKind.i64 (-1), AV.I IntKind.i64 2]), []))
          else
            (none))
        else
          (Option.bind (Γ 38 [AV.pb 0 0] [AV.nbx 6 (lstG [AV.B (asB (asA r0.fst 0)), AV.own (asN (asA r0.fst 1)) 1 fun i => lstG [AV.I IntKind.i64 (asI (asG (asA r0.fst 1) i 0))], AV.own (asN (asA r0.fst 2)) 2 fun i => lstG [AV.I IntKind.i64 (asI (asG (asA r0.fst 2) i 0)), AV.B (asB (asG (asA r0.fst 2) i 1))], AV.I IntKind.i64 (IntKind.i64.wrap (asI (asA r0.fst 3) + 1)), AV.I IntKind.i64 (asI (asA r0.fst 4)), AV.I IntKind.i64 (asI (asA r0.fst 5))])]) fun r6 =>
          bif bif bif okT then bif okT then true else false else false then true else false then
            (some (AV.tup 3 (lstG [AV.ag 6 (lstG [AV.B (asB (asA (r6.snd.headD AV.bad) 0)), AV.own (asN (asA (r6.snd.headD AV.bad) 1)) 1 fun i => lstG [AV.I IntKind.i64 (asI (asG (asA (r6.snd.headD AV.bad) 1) i 0))], AV.own (asN (asA (r6.snd.headD AV.bad) 2)) 2 fun i => lstG [AV.I IntKind.i64 (asI (asG (asA (r6.snd.headD AV.bad) 2) i 0)), AV.B (asB (asG (asA (r6.snd.headD AV.bad) 2) i 1))], AV.I IntKind.i64 (asI (asA (r6.snd.headD AV.bad) 3)), AV.I IntKind.i64 (asI (asA (r6.snd.headD AV.bad) 4)), AV.I IntKind.i64 (asI (asA (r6.snd.headD AV.bad) 5))]), AV.I IntKind.i64 (asI r6.fst), AV.I IntKind.i64 0]), []))
          else
            (none)))
      else
        (Option.bind (Γ 38 [AV.pb 0 0] [AV.nbx 6 (lstG [AV.B (asB (asA r0.fst 0)), AV.own (asN (asA r0.fst 1)) 1 fun i => lstG [AV.I IntKind.i64 (asI (asG (asA r0.fst 1) i 0))], AV.own (asN (asA r0.fst 2)) 2 fun i => lstG [AV.I IntKind.i64 (asI (asG (asA r0.fst 2) i 0)), AV.B (asB (asG (asA r0.fst 2) i 1))], AV.I IntKind.i64 (IntKind.i64.wrap (asI (asA r0.fst 3) + 1)), AV.I IntKind.i64 (asI (asA r0.fst 4)), AV.I IntKind.i64 (asI (asA r0.fst 5))])]) fun r5 =>
        bif bif bif okT then bif okT then true else false else false then true else false then
          (some (AV.tup 3 (lstG [AV.ag 6 (lstG [AV.B (asB (asA (r5.snd.headD AV.bad) 0)), AV.own (asN (asA (r5.snd.headD AV.bad) 1)) 1 fun i => lstG [AV.I IntKind.i64 (asI (asG (asA (r5.snd.headD AV.bad) 1) i 0))], AV.own (asN (asA (r5.snd.headD AV.bad) 2)) 2 fun i => lstG [AV.I IntKind.i64 (asI (asG (asA (r5.snd.headD AV.bad) 2) i 0)), AV.B (asB (asG (asA (r5.snd.headD AV.bad) 2) i 1))], AV.I IntKind.i64 (asI (asA (r5.snd.headD AV.bad) 3)), AV.I IntKind.i64 (asI (asA (r5.snd.headD AV.bad) 4)), AV.I IntKind.i64 (asI (asA (r5.snd.headD AV.bad) 5))]), AV.I IntKind.i64 (asI r5.fst), AV.I IntKind.i64 0]), []))
        else
          (none)))) := by kernel_rfl
theorem e53 (Γ : Orc) (H : Hd) (xs : List Int) (a : Int) : ent Try.prog cfg Γ 53 H [slI xs, nI a] [] =
  H [true, true, true, false, true] (hdS [(0, AV.sl xs.length 1 (gI xs)), (1, AV.I IntKind.i64 a), (5, AV.rf 389120), (6, AV.B false), (7, AV.I IntKind.i64 0)] [(389120, ⟨0, 1, fun i => lstG [AV.I IntKind.i64 0]⟩)] []) := by kernel_rfl
theorem h53 (Γ : Orc) (H : Hd) (xs : List Int) (os : List Int) (a i : Int) (b : Bool) : hed Try.prog cfg Γ 53 H [] [true, true, true, false, true] (hdS [(0, slI xs), (1, nI a), (5, .rf 389120), (6, .B b), (7, nI i)] [(389120, ⟨os.length, 1, gI os⟩)] []) =
  bif decide (i < zN xs.length) then
    (bif bif decide (0 ≤ i) then decide (i < zN xs.length) else false then
      (bif decide (xs.getD i.toNat 0 = a) then
        (bif !b then
          (H [true, true, true, false, true] (hdS [(0, AV.sl xs.length 1 (gI xs)), (1, AV.I IntKind.i64 a), (5, AV.rf 389120), (6, AV.B true), (7, AV.I IntKind.i64 (IntKind.i64.wrap (i + 1)))] [(389120, ⟨os.length, 1, gI os⟩)] []))
        else
          (bif bif decide (0 ≤ i) then decide (i < zN xs.length) else false then
            (bif decide (os.length + 1 ≤ 4294967296) && true && true && true && true then
              (H [true, true, true, false, true] (hdS [(0, AV.sl xs.length 1 (gI xs)), (1, AV.I IntKind.i64 a), (5, AV.rf 389120), (6, AV.B b), (7, AV.I IntKind.i64 (IntKind.i64.wrap (i + 1)))] [(389120, ⟨os.length + 1, 1, fun i_1 => lstG [AV.I IntKind.i64 (bif decide (i_1 < os.length) then os.getD i_1 0 else bif decide (i_1 - os.length = 0) then xs.getD i.toNat 0 else 0)]⟩)] []))
            else
              (none))
          else
            (none)))
      else
        (bif bif decide (0 ≤ i) then decide (i < zN xs.length) else false then
          (bif decide (os.length + 1 ≤ 4294967296) && true && true && true && true then
            (H [true, true, true, false, true] (hdS [(0, AV.sl xs.length 1 (gI xs)), (1, AV.I IntKind.i64 a), (5, AV.rf 389120), (6, AV.B b), (7, AV.I IntKind.i64 (IntKind.i64.wrap (i + 1)))] [(389120, ⟨os.length + 1, 1, fun i_1 => lstG [AV.I IntKind.i64 (bif decide (i_1 < os.length) then os.getD i_1 0 else bif decide (i_1 - os.length = 0) then xs.getD i.toNat 0 else 0)]⟩)] []))
          else
            (none))
        else
          (none)))
    else
      (none))
  else
    (bif okT then
      (some (AV.own os.length 1 (gI os), []))
    else
      (none)) := by kernel_rfl
theorem e51 (Γ : Orc) (H : Hd) (n : NT) (a : Int) : ent Try.prog cfg Γ 51 H [.ag 6 (lstG [.B n.p, .rf 0, .rf 4096, nI n.o, nI n.s, nI n.t]), nI a] [owI n.l, owG n.g] =
  H [true, true, false, true] (hdS [(1, AV.I IntKind.i64 a), (2, AV.pb 66 0), (4, AV.pb 68 0), (5, AV.rf 364544), (6, AV.I IntKind.i64 0)] [(0, ⟨n.l.length, 1, gI n.l⟩), (4096, ⟨n.g.length, 2, gG n.g⟩), (364544, ⟨0, 2, fun i => lstG [AV.I IntKind.i64 0, AV.B false]⟩)] [(66, 6, [AV.B n.p, AV.rf 0, AV.rf 4096, AV.I IntKind.i64 n.o, AV.I IntKind.i64 n.s, AV.I IntKind.i64 n.t]), (68, 6, [AV.B false, AV.nsl 1 fun x => lstG [AV.I IntKind.i64 0], AV.nsl 2 fun x => lstG [AV.I IntKind.i64 0, AV.B false], AV.I IntKind.i64 0, AV.I IntKind.i64 0, AV.I IntKind.i64 0])]) := by kernel_rfl
theorem h51 (Γ : Orc) (H : Hd) (n : NT) (os : List (Int × Bool)) (a i : Int) : hed Try.prog cfg Γ 51 H [owI n.l, owG n.g] [true, true, false, true] (hdS [(1, nI a), (2, .pb 66 0), (4, .pb 68 0), (5, .rf 364544), (6, nI i)] [(0, ⟨n.l.length, 1, gI n.l⟩), (4096, ⟨n.g.length, 2, gG n.g⟩), (364544, ⟨os.length, 2, gG os⟩)] [(66, 6, [.B n.p, .rf 0, .rf 4096, nI n.o, nI n.s, nI n.t]), (68, 6, [.B false, .nsl 1 (fun _ => lstG [nI 0]), .nsl 2 (fun _ => lstG [nI 0, .B false]), nI 0, nI 0, nI 0])]) =
  bif decide (i < zN n.g.length) then
    (bif !decide (i = a) then
      (bif bif decide (0 ≤ i) then decide (i < zN n.g.length) else false then
        (bif decide (os.length + 1 ≤ 4294967296) && true && true && true && true then
          (H [true, true, false, true] (hdS [(1, AV.I IntKind.i64 a), (2, AV.pb 66 0), (4, AV.pb 68 0), (5, AV.rf 364544), (6, AV.I IntKind.i64 (IntKind.i64.wrap (i + 1)))] [(0, ⟨n.l.length, 1, gI n.l⟩), (4096, ⟨n.g.length, 2, gG n.g⟩), (364544, ⟨os.length + 1, 2, fun i_1 => lstG [AV.I IntKind.i64 (bif decide (i_1 < os.length) then (os.getD i_1 (0, false)).fst else bif decide (i_1 - os.length = 0) then (n.g.getD i.toNat (0, false)).fst else 0), AV.B (bif decide (i_1 < os.length) then (os.getD i_1 (0, false)).snd else bif decide (i_1 - os.length = 0) then (n.g.getD i.toNat (0, false)).snd else false)]⟩)] [(66, 6, [AV.B n.p, AV.rf 0, AV.rf 4096, AV.I IntKind.i64 n.o, AV.I IntKind.i64 n.s, AV.I IntKind.i64 n.t]), (68, 6, [AV.B false, AV.nsl 1 fun x => lstG [AV.I IntKind.i64 0], AV.nsl 2 fun x => lstG [AV.I IntKind.i64 0, AV.B false], AV.I IntKind.i64 0, AV.I IntKind.i64 0, AV.I IntKind.i64 0])]))
        else
          (none))
      else
        (none))
    else
      (H [true, true, false, true] (hdS [(1, AV.I IntKind.i64 a), (2, AV.pb 66 0), (4, AV.pb 68 0), (5, AV.rf 364544), (6, AV.I IntKind.i64 (IntKind.i64.wrap (i + 1)))] [(0, ⟨n.l.length, 1, gI n.l⟩), (4096, ⟨n.g.length, 2, gG n.g⟩), (364544, ⟨os.length, 2, gG os⟩)] [(66, 6, [AV.B n.p, AV.rf 0, AV.rf 4096, AV.I IntKind.i64 n.o, AV.I IntKind.i64 n.s, AV.I IntKind.i64 n.t]), (68, 6, [AV.B false, AV.nsl 1 fun x => lstG [AV.I IntKind.i64 0], AV.nsl 2 fun x => lstG [AV.I IntKind.i64 0, AV.B false], AV.I IntKind.i64 0, AV.I IntKind.i64 0, AV.I IntKind.i64 0])])))
  else
    (bif bif okT then bif okT then true else false else false then
      (some (AV.ag 6 (lstG [AV.B n.p, AV.own n.l.length 1 (gI n.l), AV.own os.length 2 (gG os), AV.I IntKind.i64 n.o, AV.I IntKind.i64 n.s, AV.I IntKind.i64 n.t]), [AV.bad, AV.bad]))
    else
      (none)) := by kernel_rfl
theorem e72 (Γ : Orc) (H : Hd) (a b : Int) : ent Try.prog cfg Γ 72 H [nI b, .sp 1 (lstG [nI a])] [] =
  some (AV.B (decide (b = a)), []) := by kernel_rfl
theorem e84b (Γ : Orc) (H : Hd) (xs : List Int) (a : Int) : ent Try.prog cfg Γ 84 H [slI xs, .clo 72 1 (lstG [.sp 1 (lstG [nI a])])] [] =
  H [true, false, true] (hdS [(0, AV.sl xs.length 1 (gI xs)), (1, AV.clo 72 1 (lstG [AV.sp 1 (lstG [AV.I IntKind.i64 a])])), (7, AV.I IntKind.i64 (zN xs.length)), (8, AV.I IntKind.i64 0)] [] []) := by kernel_rfl
theorem h84b (Γ : Orc) (H : Hd) (xs : List Int) (a m i : Int) : hed Try.prog cfg Γ 84 H [] [true, false, true] (hdS [(0, slI xs), (1, .clo 72 1 (lstG [.sp 1 (lstG [nI a])])), (7, nI m), (8, nI i)] [] []) =
  bif decide (i < m) then
    (bif bif decide (0 ≤ i) then decide (i < zN xs.length) else false then
      (Option.bind (Γ 72 [AV.I IntKind.i64 (xs.getD i.toNat 0), AV.sp 1 (lstG [AV.I IntKind.i64 a])] []) fun r2 =>
      bif asB r2.fst then
        (some (AV.I IntKind.i64 i, []))
      else
        (H [true, false, true] (hdS [(0, AV.sl xs.length 1 (gI xs)), (1, AV.clo 72 1 (lstG [AV.sp 1 (lstG [AV.I IntKind.i64 a])])), (7, AV.I IntKind.i64 m), (8, AV.I IntKind.i64 (IntKind.i64.wrap (i + 1)))] [] [])))
    else
      (none))
  else
    (some (AV.I IntKind.i64 (-1), [])) := by kernel_rfl
theorem e71 (Γ : Orc) (H : Hd) (xs : List Int) (a : Int) : ent Try.prog cfg Γ 71 H [.rf 0, .clo 72 1 (lstG [.sp 1 (lstG [nI a])])] [owI xs] =
  Option.bind (Γ 84 [AV.sl xs.length 1 (gI xs), AV.clo 72 1 (lstG [AV.sp 1 (lstG [AV.I IntKind.i64 a])])] []) fun r0 =>
  bif decide (asI r0.fst = -1) then
    (bif okT then
      (some (AV.own xs.length 1 (gI xs), [AV.bad]))
    else
      (none))
  else
    (H [true, true, true, false, true] (hdS [(0, AV.rf 0), (1, AV.clo 72 1 (lstG [AV.sp 1 (lstG [AV.I IntKind.i64 a])])), (5, AV.I IntKind.i64 (asI r0.fst)), (6, AV.I IntKind.i64 (IntKind.i64.wrap (asI r0.fst + 1)))] [(0, ⟨xs.length, 1, gI xs⟩)] [])) := by kernel_rfl
theorem h71 (Γ : Orc) (H : Hd) (xs : List Int) (ys : List Int) (a m i : Int) : hed Try.prog cfg Γ 71 H [owI xs] [true, true, true, false, true] (hdS [(0, .rf 0), (1, .clo 72 1 (lstG [.sp 1 (lstG [nI a])])), (5, nI m), (6, nI i)] [(0, ⟨ys.length, 1, gI ys⟩)] []) =
  bif decide (i < zN ys.length) then
    (bif bif decide (0 ≤ i) then decide (i < zN ys.length) else false then
      (Option.bind (Γ 72 [AV.I IntKind.i64 (ys.getD i.toNat 0), AV.sp 1 (lstG [AV.I IntKind.i64 a])] []) fun r2 =>
      bif !asB r2.fst then
        (bif bif decide (0 ≤ m) then decide (m < zN ys.length) else false then
          (H [true, true, true, false, true] (hdS [(0, AV.rf 0), (1, AV.clo 72 1 (lstG [AV.sp 1 (lstG [AV.I IntKind.i64 a])])), (5, AV.I IntKind.i64 (IntKind.i64.wrap (m + 1))), (6, AV.I IntKind.i64 (IntKind.i64.wrap (i + 1)))] [(0, ⟨ys.length, 1, fun i_1 => lstG [AV.I IntKind.i64 (bif decide (i_1 = m.toNat) then ys.getD i.toNat 0 else ys.getD i_1 0)]⟩)] []))
        else
          (none))
      else
        (H [true, true, true, false, true] (hdS [(0, AV.rf 0), (1, AV.clo 72 1 (lstG [AV.sp 1 (lstG [AV.I IntKind.i64 a])])), (5, AV.I IntKind.i64 m), (6, AV.I IntKind.i64 (IntKind.i64.wrap (i + 1)))] [(0, ⟨ys.length, 1, gI ys⟩)] [])))
    else
      (none))
  else
    (bif decide (0 ≤ m) && decide (m ≤ zN ys.length) && decide (zN ys.length ≤ zN ys.length) then
      (bif decide (0 ≤ m) && decide (m ≤ zN ys.length) then
        (bif okT then
          (some (AV.own (m.toNat - 0) 1 fun i => lstG [AV.I IntKind.i64 (bif decide (i < m.toNat - 0) then bif decide (m.toNat ≤ 0 + i) && decide (0 + i < m.toNat + ((zN ys.length).toNat - m.toNat)) then 0 else ys.getD (0 + i) 0 else bif decide (m.toNat ≤ ys.length) && decide (ys.length < m.toNat + ((zN ys.length).toNat - m.toNat)) then 0 else ys.getD ys.length 0)], [AV.bad]))
        else
          (none))
      else
        (none))
    else
      (none)) := by kernel_rfl
theorem e52 (Γ : Orc) (H : Hd) (xs : List Int) (a : Int) : ent Try.prog cfg Γ 52 H [slI xs, nI a] [] =
  Option.bind (Γ 45 [AV.sl xs.length 1 (gI xs)] []) fun r0 =>
  Option.bind (Γ 71 [AV.rf 0, AV.clo 72 1 (lstG [AV.sp 1 (lstG [AV.I IntKind.i64 a])])] [AV.own (asN r0.fst) 1 fun i => lstG [AV.I IntKind.i64 (asI (asG r0.fst i 0))]]) fun r1 =>
  bif okT then
    (some (AV.own (asN r1.fst) 1 fun i => lstG [AV.I IntKind.i64 (asI (asG r1.fst i 0))], []))
  else
    (none) := by kernel_rfl
theorem e48 (Γ : Orc) (H : Hd) (gs : List (Int × Bool)) (a b : Int) : ent Try.prog cfg Γ 48 H [.rf 0, nI a, nI b] [owG gs] =
  bif decide (0 ≤ a) && decide (a ≤ b) && decide (b ≤ zN gs.length) && decide (zN gs.length ≤ zN gs.length) then
    (bif decide (a = b) then
      (bif okT then
        (some (AV.own gs.length 2 (gG gs), [AV.bad]))
      else
        (none))
    else
      (bif decide (0 ≤ a) && decide (a ≤ zN gs.length) then
        (bif decide (0 ≤ b) && decide (b ≤ zN gs.length) && decide (zN gs.length ≤ zN gs.length) then
          (bif decide (0 + (a.toNat - 0) + ((zN gs.length).toNat - b.toNat) ≤ gs.length) then
            (bif decide (zN (a.toNat - 0 + ((zN gs.length).toNat - b.toNat)) ≤ zN gs.length) && decide (zN gs.length ≤ zN (gs.length - 0)) then
              (bif okT then
                (some (AV.own (a.toNat - 0 + ((zN gs.length).toNat - b.toNat)) 2 fun i => lstG [AV.I IntKind.i64 (bif decide (i < a.toNat - 0 + ((zN gs.length).toNat - b.toNat)) then bif decide (0 + (zN (a.toNat - 0 + ((zN gs.length).toNat - b.toNat))).toNat ≤ 0 + i) && decide (0 + i < 0 + (zN (a.toNat - 0 + ((zN gs.length).toNat - b.toNat))).toNat + ((zN gs.length).toNat - (zN (a.toNat - 0 + ((zN gs.length).toNat - b.toNat))).toNat)) then 0 else bif decide (0 + (a.toNat - 0) ≤ 0 + i) && decide (0 + i < 0 + (a.toNat - 0) + ((zN gs.length).toNat - b.toNat)) then bif decide (0 + i - (0 + (a.toNat - 0)) < (zN gs.length).toNat - b.toNat) then (gs.getD (b.toNat + (0 + i - (0 + (a.toNat - 0)))) (0, false)).fst else (gs.getD gs.length (0, false)).fst else (gs.getD (0 + i) (0, false)).fst else bif decide (0 + (zN (a.toNat - 0 + ((zN gs.length).toNat - b.toNat))).toNat ≤ gs.length) && decide (gs.length < 0 + (zN (a.toNat - 0 + ((zN gs.length).toNat - b.toNat))).toNat + ((zN gs.length).toNat - (zN (a.toNat - 0 + ((zN gs.length).toNat - b.toNat))).toNat)) then 0 else bif decide (0 + (a.toNat - 0) ≤ gs.length) && decide (gs.length < 0 + (a.toNat - 0) + ((zN gs.length).toNat - b.toNat)) then bif decide (gs.length - (0 + (a.toNat - 0)) < (zN gs.length).toNat - b.toNat) then (gs.getD (b.toNat + (gs.length - (0 + (a.toNat - 0)))) (0, false)).fst else (gs.getD gs.length (0, false)).fst else (gs.getD gs.length (0, false)).fst), AV.B (bif decide (i < a.toNat - 0 + ((zN gs.length).toNat - b.toNat)) then bif decide (0 + (zN (a.toNat - 0 + ((zN gs.length).toNat - b.toNat))).toNat ≤ 0 + i) && decide (0 + i < 0 + (zN (a.toNat - 0 + ((zN gs.length).toNat - b.toNat))).toNat + ((zN gs.length).toNat - (zN (a.toNat - 0 + ((zN gs.length).toNat - b.toNat))).toNat)) then false else bif decide (0 + (a.toNat - 0) ≤ 0 + i) && decide (0 + i < 0 + (a.toNat - 0) + ((zN gs.length).toNat - b.toNat)) then bif decide (0 + i - (0 + (a.toNat - 0)) < (zN gs.length).toNat - b.toNat) then (gs.getD (b.toNat + (0 + i - (0 + (a.toNat - 0)))) (0, false)).snd else (gs.getD gs.length (0, false)).snd else (gs.getD (0 + i) (0, false)).snd else bif decide (0 + (zN (a.toNat - 0 + ((zN gs.length).toNat - b.toNat))).toNat ≤ gs.length) && decide (gs.length < 0 + (zN (a.toNat - 0 + ((zN gs.length).toNat - b.toNat))).toNat + ((zN gs.length).toNat - (zN (a.toNat - 0 + ((zN gs.length).toNat - b.toNat))).toNat)) then false else bif decide (0 + (a.toNat - 0) ≤ gs.length) && decide (gs.length < 0 + (a.toNat - 0) + ((zN gs.length).toNat - b.toNat)) then bif decide (gs.length - (0 + (a.toNat - 0)) < (zN gs.length).toNat - b.toNat) then (gs.getD (b.toNat + (gs.length - (0 + (a.toNat - 0)))) (0, false)).snd else (gs.getD gs.length (0, false)).snd else (gs.getD gs.length (0, false)).snd)], [AV.bad]))
              else
                (none))
            else
              (none))
          else
            (bif decide (a.toNat - 0 + ((zN gs.length).toNat - b.toNat) ≤ 4294967296) && true && true && true && true then
              (bif decide (zN (a.toNat - 0 + ((zN gs.length).toNat - b.toNat)) ≤ zN gs.length) && decide (zN gs.length ≤ zN (a.toNat - 0 + ((zN gs.length).toNat - b.toNat))) then
                (bif okT then
                  (some (AV.own (a.toNat - 0 + ((zN gs.length).toNat - b.toNat)) 2 fun i => lstG [AV.I IntKind.i64 (bif decide ((zN (a.toNat - 0 + ((zN gs.length).toNat - b.toNat))).toNat ≤ i) && decide (i < (zN (a.toNat - 0 + ((zN gs.length).toNat - b.toNat))).toNat + ((zN gs.length).toNat - (zN (a.toNat - 0 + ((zN gs.length).toNat - b.toNat))).toNat)) then 0 else bif decide (i < a.toNat - 0) then bif decide (i < a.toNat - 0) then (gs.getD (0 + i) (0, false)).fst else (gs.getD gs.length (0, false)).fst else bif decide (i - (a.toNat - 0) < (zN gs.length).toNat - b.toNat) then (gs.getD (b.toNat + (i - (a.toNat - 0))) (0, false)).fst else (gs.getD gs.length (0, false)).fst), AV.B (bif decide ((zN (a.toNat - 0 + ((zN gs.length).toNat - b.toNat))).toNat ≤ i) && decide (i < (zN (a.toNat - 0 + ((zN gs.length).toNat - b.toNat))).toNat + ((zN gs.length).toNat - (zN (a.toNat - 0 + ((zN gs.length).toNat - b.toNat))).toNat)) then false else bif decide (i < a.toNat - 0) then bif decide (i < a.toNat - 0) then (gs.getD (0 + i) (0, false)).snd else (gs.getD gs.length (0, false)).snd else bif decide (i - (a.toNat - 0) < (zN gs.length).toNat - b.toNat) then (gs.getD (b.toNat + (i - (a.toNat - 0))) (0, false)).snd else (gs.getD gs.length (0, false)).snd)], [AV.bad]))
                else
                  (none))
              else
                (none))
            else
              (none)))
        else
          (none))
      else
        (none)))
  else
    (none) := by kernel_rfl
theorem e69 (Γ : Orc) (H : Hd) (a b : Int) (c : Bool) : ent Try.prog cfg Γ 69 H [.ag 2 (lstG [nI b, .B c]), .sp 1 (lstG [nI a])] [] =
  some (AV.B (decide (b = a)), []) := by kernel_rfl
theorem e68 (Γ : Orc) (H : Hd) (gs : List (Int × Bool)) (a : Int) : ent Try.prog cfg Γ 68 H [slG gs, .clo 69 1 (lstG [.sp 1 (lstG [nI a])])] [] =
  H [true, false, true] (hdS [(0, AV.sl gs.length 2 (gG gs)), (1, AV.clo 69 1 (lstG [AV.sp 1 (lstG [AV.I IntKind.i64 a])])), (7, AV.I IntKind.i64 (zN gs.length)), (8, AV.I IntKind.i64 0)] [] []) := by kernel_rfl
theorem h68 (Γ : Orc) (H : Hd) (gs : List (Int × Bool)) (a m i : Int) : hed Try.prog cfg Γ 68 H [] [true, false, true] (hdS [(0, slG gs), (1, .clo 69 1 (lstG [.sp 1 (lstG [nI a])])), (7, nI m), (8, nI i)] [] []) =
  bif decide (i < m) then
    (bif bif decide (0 ≤ i) then decide (i < zN gs.length) else false then
      (Option.bind (Γ 69 [AV.ag 2 (lstG [AV.I IntKind.i64 (gs.getD i.toNat (0, false)).fst, AV.B (gs.getD i.toNat (0, false)).snd]), AV.sp 1 (lstG [AV.I IntKind.i64 a])] []) fun r2 =>
      bif asB r2.fst then
        (some (AV.I IntKind.i64 i, []))
      else
        (H [true, false, true] (hdS [(0, AV.sl gs.length 2 (gG gs)), (1, AV.clo 69 1 (lstG [AV.sp 1 (lstG [AV.I IntKind.i64 a])])), (7, AV.I IntKind.i64 m), (8, AV.I IntKind.i64 (IntKind.i64.wrap (i + 1)))] [] [])))
    else
      (none))
  else
    (some (AV.I IntKind.i64 (-1), [])) := by kernel_rfl
theorem e46 (Γ : Orc) (H : Hd) (gs : List (Int × Bool)) (a : Int) : ent Try.prog cfg Γ 46 H [slG gs, nI a] [] =
  Option.bind (Γ 68 [AV.sl gs.length 2 (gG gs), AV.clo 69 1 (lstG [AV.sp 1 (lstG [AV.I IntKind.i64 a])])] []) fun r0 =>
  some (AV.I IntKind.i64 (asI r0.fst), []) := by kernel_rfl
theorem e22 (Γ : Orc) (H : Hd) (n : NT) (a : Int) : ent Try.prog cfg Γ 22 H [slN n, nI a] [] =
  Option.bind (Γ 32 [AV.ag 6 (lstG [AV.B n.p, AV.sl n.l.length 1 (gI n.l), AV.sl n.g.length 2 (gG n.g), AV.I IntKind.i64 n.o, AV.I IntKind.i64 n.s, AV.I IntKind.i64 n.t])] []) fun r0 =>
  Option.bind (Γ 49 [AV.sl n.g.length 2 (gG n.g), AV.I IntKind.i64 a] []) fun r1 =>
  Option.bind (Γ 24 [AV.ag 6 (lstG [AV.B n.p, AV.sl n.l.length 1 (gI n.l), AV.sl n.g.length 2 (gG n.g), AV.I IntKind.i64 n.o, AV.I IntKind.i64 n.s, AV.I IntKind.i64 n.t])] []) fun r2 =>
  bif !asB r2.fst then
    (bif bif bif okT then bif okT then true else false else false then true else false then
      (some (AV.tup 3 (lstG [AV.ag 6 (lstG [AV.B (asB (asA r0.fst 0)), AV.own (asN (asA r0.fst 1)) 1 fun i => lstG [AV.I IntKind.i64 (asI (asG (asA r0.fst 1) i 0))], AV.own (asN (asA r0.fst 2)) 2 fun i => lstG [AV.I IntKind.i64 (asI (asG (asA r0.fst 2) i 0)), AV.B (asB (asG (asA r0.fst 2) i 1))], AV.I IntKind.i64 (asI (asA r0.fst 3)), AV.I IntKind.i64 (asI (asA r0.fst 4)), AV.I IntKind.i64 (asI (asA r0.fst 5))]), AV.I IntKind.i64 (-1), AV.I IntKind.i64 1]), []))
    else
      (none))
  else
    (Option.bind (Γ 50 [AV.sl n.l.length 1 (gI n.l), AV.I IntKind.i64 a] []) fun r4 =>
    bif asB r4.fst then
      (Option.bind (Γ 53 [AV.sl n.l.length 1 (gI n.l), AV.I IntKind.i64 a] []) fun r6 =>
      bif bif bif okT then bif okT then true else false else false then true else false then
        (some (AV.tup 3 (lstG [AV.ag 6 (lstG [AV.B (asB (asA r0.fst 0)), AV.own (asN r6.fst) 1 fun i => lstG [AV.I IntKind.i64 (asI (asG r6.fst i 0))], AV.own (asN (asA r0.fst 2)) 2 fun i => lstG [AV.I IntKind.i64 (asI (asG (asA r0.fst 2) i 0)), AV.B (asB (asG (asA r0.fst 2) i 1))], AV.I IntKind.i64 (asI (asA r0.fst 3)), AV.I IntKind.i64 (asI (asA r0.fst 4)), AV.I IntKind.i64 (asI (asA r0.fst 5))]), AV.I IntKind.i64 (-1), AV.I IntKind.i64 0]), []))
      else
        (none))
    else
      (bif decide (asI r1.fst < 0) then
        (bif bif bif okT then bif okT then true else false else false then true else false then
          (some (AV.tup 3 (lstG [AV.ag 6 (lstG [AV.B (asB (asA r0.fst 0)), AV.own (asN (asA r0.fst 1)) 1 fun i => lstG [AV.I IntKind.i64 (asI (asG (asA r0.fst 1) i 0))], AV.own (asN (asA r0.fst 2)) 2 fun i => lstG [AV.I IntKind.i64 (asI (asG (asA r0.fst 2) i 0)), AV.B (asB (asG (asA r0.fst 2) i 1))], AV.I IntKind.i64 (asI (asA r0.fst 3)), AV.I IntKind.i64 (asI (asA r0.fst 4)), AV.I IntKind.i64 (asI (asA r0.fst 5))]), AV.I IntKind.i64 (-1), AV.I IntKind.i64 3]), []))
        else
          (none))
      else
        (bif bif decide (0 ≤ asI r1.fst) then decide (asI r1.fst < zN n.g.length) else false then
          (bif !(n.g.getD (asI r1.fst).toNat (0, false)).snd then
            (Option.bind (Γ 51 [AV.ag 6 (lstG [AV.B (asB (asA r0.fst 0)), AV.rf 0, AV.rf 4096, AV.I IntKind.i64 (asI (asA r0.fst 3)), AV.I IntKind.i64 (asI (asA r0.fst 4)), AV.I IntKind.i64 (asI (asA r0.fst 5))]), AV.I IntKind.i64 (asI r1.fst)] [AV.own (asN (asA r0.fst 1)) 1 fun i => lstG [AV.I IntKind.i64 (asI (asG (asA r0.fst 1) i 0))], AV.own (asN (asA r0.fst 2)) 2 fun i => lstG [AV.I IntKind.i64 (asI (asG (asA r0.fst 2) i 0)), AV.B (asB (asG (asA r0.fst 2) i 1))]]) fun r9 =>
            bif bif bif okT then bif okT then true else false else false then true else false then
              (some (AV.tup 3 (lstG [AV.ag 6 (lstG [AV.B (asB (asA r9.fst 0)), AV.own (asN (asA r9.fst 1)) 1 fun i => lstG [AV.I IntKind.i64 (asI (asG (asA r9.fst 1) i 0))], AV.own (asN (asA r9.fst 2)) 2 fun i => lstG [AV.I IntKind.i64 (asI (asG (asA r9.fst 2) i 0)), AV.B (asB (asG (asA r9.fst 2) i 1))], AV.I IntKind.i64 (asI (asA r9.fst 3)), AV.I IntKind.i64 (asI (asA r9.fst 4)), AV.I IntKind.i64 (asI (asA r9.fst 5))]), AV.I IntKind.i64 (-1), AV.I IntKind.i64 0]), []))
            else
              (none))
          else
            (bif decide (zN n.l.length = 0) then
              (bif n.p then
                (bif decide (1000000000 ≤ n.s) then
                  (bif bif bif okT then bif okT then true else false else false then true else false then
                    (some (AV.tup 3 (lstG [AV.ag 6 (lstG [AV.B (asB (asA r0.fst 0)), AV.own (asN (asA r0.fst 1)) 1 fun i => lstG [AV.I IntKind.i64 (asI (asG (asA r0.fst 1) i 0))], AV.own (asN (asA r0.fst 2)) 2 fun i => lstG [AV.I IntKind.i64 (asI (asG (asA r0.fst 2) i 0)), AV.B (asB (asG (asA r0.fst 2) i 1))], AV.I IntKind.i64 (asI (asA r0.fst 3)), AV.I IntKind.i64 (asI (asA r0.fst 4)), AV.I IntKind.i64 (asI (asA r0.fst 5))]), AV.I IntKind.i64 (-1), AV.I IntKind.i64 2]), []))
                  else
                    (none))
                else
                  (Option.bind (Γ 51 [AV.ag 6 (lstG [AV.B (asB (asA r0.fst 0)), AV.rf 0, AV.rf 4096, AV.I IntKind.i64 (asI (asA r0.fst 3)), AV.I IntKind.i64 (asI (asA r0.fst 4)), AV.I IntKind.i64 (asI (asA r0.fst 5))]), AV.I IntKind.i64 (asI r1.fst)] [AV.own (asN (asA r0.fst 1)) 1 fun i => lstG [AV.I IntKind.i64 (asI (asG (asA r0.fst 1) i 0))], AV.own (asN (asA r0.fst 2)) 2 fun i => lstG [AV.I IntKind.i64 (asI (asG (asA r0.fst 2) i 0)), AV.B (asB (asG (asA r0.fst 2) i 1))]]) fun r12 =>
                  Option.bind (Γ 33 [AV.ag 6 (lstG [AV.B (asB (asA r12.fst 0)), AV.rf 0, AV.rf 4096, AV.I IntKind.i64 (asI (asA r12.fst 3)), AV.I IntKind.i64 (asI (asA r12.fst 4)), AV.I IntKind.i64 (asI (asA r12.fst 5))])] [AV.own (asN (asA r12.fst 1)) 1 fun i => lstG [AV.I IntKind.i64 (asI (asG (asA r12.fst 1) i 0))], AV.own (asN (asA r12.fst 2)) 2 fun i => lstG [AV.I IntKind.i64 (asI (asG (asA r12.fst 2) i 0)), AV.B (asB (asG (asA r12.fst 2) i 1))]]) fun r13 =>
                  bif bif bif okT then bif okT then true else false else false then true else false then
                    (some (AV.tup 3 (lstG [AV.ag 6 (lstG [AV.B (asB (asA (asA r13.fst 0) 0)), AV.own (asN (asA (asA r13.fst 0) 1)) 1 fun i => lstG [AV.I IntKind.i64 (asI (asG (asA (asA r13.fst 0) 1) i 0))], AV.own (asN (asA (asA r13.fst 0) 2)) 2 fun i => lstG [AV.I IntKind.i64 (asI (asG (asA (asA r13.fst 0) 2) i 0)), AV.B (asB (asG (asA (asA r13.fst 0) 2) i 1))], AV.I IntKind.i64 (asI (asA (asA r13.fst 0) 3)), AV.I IntKind.i64 (asI (asA (asA r13.fst 0) 4)), AV.I IntKind.i64 (asI (asA (asA r13.fst 0) 5))]), AV.I IntKind.i64 (asI (asA r13.fst 1)), AV.I IntKind.i64 0]), []))
                  else
                    (none)))
              else
                (Option.bind (Γ 51 [AV.ag 6 (lstG [AV.B (asB (asA r0.fst 0)), AV.rf 0, AV.rf 4096, AV.I IntKind.i64 (asI (asA r0.fst 3)), AV.I IntKind.i64 (asI (asA r0.fst 4)), AV.I IntKind.i64 (asI (asA r0.fst 5))]), AV.I IntKind.i64 (asI r1.fst)] [AV.own (asN (asA r0.fst 1)) 1 fun i => lstG [AV.I IntKind.i64 (asI (asG (asA r0.fst 1) i 0))], AV.own (asN (asA r0.fst 2)) 2 fun i => lstG [AV.I IntKind.i64 (asI (asG (asA r0.fst 2) i 0)), AV.B (asB (asG (asA r0.fst 2) i 1))]]) fun r11 =>
                Option.bind (Γ 33 [AV.ag 6 (lstG [AV.B (asB (asA r11.fst 0)), AV.rf 0, AV.rf 4096, AV.I IntKind.i64 (asI (asA r11.fst 3)), AV.I IntKind.i64 (asI (asA r11.fst 4)), AV.I IntKind.i64 (asI (asA r11.fst 5))])] [AV.own (asN (asA r11.fst 1)) 1 fun i => lstG [AV.I IntKind.i64 (asI (asG (asA r11.fst 1) i 0))], AV.own (asN (asA r11.fst 2)) 2 fun i => lstG [AV.I IntKind.i64 (asI (asG (asA r11.fst 2) i 0)), AV.B (asB (asG (asA r11.fst 2) i 1))]]) fun r12 =>
                bif bif bif okT then bif okT then true else false else false then true else false then
                  (some (AV.tup 3 (lstG [AV.ag 6 (lstG [AV.B (asB (asA (asA r12.fst 0) 0)), AV.own (asN (asA (asA r12.fst 0) 1)) 1 fun i => lstG [AV.I IntKind.i64 (asI (asG (asA (asA r12.fst 0) 1) i 0))], AV.own (asN (asA (asA r12.fst 0) 2)) 2 fun i => lstG [AV.I IntKind.i64 (asI (asG (asA (asA r12.fst 0) 2) i 0)), AV.B (asB (asG (asA (asA r12.fst 0) 2) i 1))], AV.I IntKind.i64 (asI (asA (asA r12.fst 0) 3)), AV.I IntKind.i64 (asI (asA (asA r12.fst 0) 4)), AV.I IntKind.i64 (asI (asA (asA r12.fst 0) 5))]), AV.I IntKind.i64 (asI (asA r12.fst 1)), AV.I IntKind.i64 0]), []))
                else
                  (none)))
            else
              (Option.bind (Γ 51 [AV.ag 6 (lstG [AV.B (asB (asA r0.fst 0)), AV.rf 0, AV.rf 4096, AV.I IntKind.i64 (asI (asA r0.fst 3)), AV.I IntKind.i64 (asI (asA r0.fst 4)), AV.I IntKind.i64 (asI (asA r0.fst 5))]), AV.I IntKind.i64 (asI r1.fst)] [AV.own (asN (asA r0.fst 1)) 1 fun i => lstG [AV.I IntKind.i64 (asI (asG (asA r0.fst 1) i 0))], AV.own (asN (asA r0.fst 2)) 2 fun i => lstG [AV.I IntKind.i64 (asI (asG (asA r0.fst 2) i 0)), AV.B (asB (asG (asA r0.fst 2) i 1))]]) fun r10 =>
              Option.bind (Γ 33 [AV.ag 6 (lstG [AV.B (asB (asA r10.fst 0)), AV.rf 0, AV.rf 4096, AV.I IntKind.i64 (asI (asA r10.fst 3)), AV.I IntKind.i64 (asI (asA r10.fst 4)), AV.I IntKind.i64 (asI (asA r10.fst 5))])] [AV.own (asN (asA r10.fst 1)) 1 fun i => lstG [AV.I IntKind.i64 (asI (asG (asA r10.fst 1) i 0))], AV.own (asN (asA r10.fst 2)) 2 fun i => lstG [AV.I IntKind.i64 (asI (asG (asA r10.fst 2) i 0)), AV.B (asB (asG (asA r10.fst 2) i 1))]]) fun r11 =>
              bif bif bif okT then bif okT then true else false else false then true else false then
                (some (AV.tup 3 (lstG [AV.ag 6 (lstG [AV.B (asB (asA (asA r11.fst 0) 0)), AV.own (asN (asA (asA r11.fst 0) 1)) 1 fun i => lstG [AV.I IntKind.i64 (asI (asG (asA (asA r11.fst 0) 1) i 0))], AV.own (asN (asA (asA r11.fst 0) 2)) 2 fun i => lstG [AV.I IntKind.i64 (asI (asG (asA (asA r11.fst 0) 2) i 0)), AV.B (asB (asG (asA (asA r11.fst 0) 2) i 1))], AV.I IntKind.i64 (asI (asA (asA r11.fst 0) 3)), AV.I IntKind.i64 (asI (asA (asA r11.fst 0) 4)), AV.I IntKind.i64 (asI (asA (asA r11.fst 0) 5))]), AV.I IntKind.i64 (asI (asA r11.fst 1)), AV.I IntKind.i64 0]), []))
              else
                (none))))
        else
          (none)))) := by kernel_rfl
theorem e21 (Γ : Orc) (H : Hd) (n : NT) (a : Int) : ent Try.prog cfg Γ 21 H [slN n, nI a] [] =
  Option.bind (Γ 36 [AV.ag 6 (lstG [AV.B n.p, AV.sl n.l.length 1 (gI n.l), AV.sl n.g.length 2 (gG n.g), AV.I IntKind.i64 n.o, AV.I IntKind.i64 n.s, AV.I IntKind.i64 n.t])] []) fun r0 =>
  Option.bind (Γ 46 [AV.sl n.g.length 2 (gG n.g), AV.I IntKind.i64 a] []) fun r1 =>
  Option.bind (Γ 37 [AV.ag 6 (lstG [AV.B n.p, AV.sl n.l.length 1 (gI n.l), AV.sl n.g.length 2 (gG n.g), AV.I IntKind.i64 n.o, AV.I IntKind.i64 n.s, AV.I IntKind.i64 n.t])] []) fun r2 =>
  bif !asB r2.fst then
    (bif bif bif okT then bif okT then true else false else false then true else false then
      (some (AV.tup 3 (lstG [AV.ag 6 (lstG [AV.B (asB (asA r0.fst 0)), AV.own (asN (asA r0.fst 1)) 1 fun i => lstG [AV.I IntKind.i64 (asI (asG (asA r0.fst 1) i 0))], AV.own (asN (asA r0.fst 2)) 2 fun i => lstG [AV.I IntKind.i64 (asI (asG (asA r0.fst 2) i 0)), AV.B (asB (asG (asA r0.fst 2) i 1))], AV.I IntKind.i64 (asI (asA r0.fst 3)), AV.I IntKind.i64 (asI (asA r0.fst 4)), AV.I IntKind.i64 (asI (asA r0.fst 5))]), AV.I IntKind.i64 (-1), AV.I IntKind.i64 1]), []))
    else
      (none))
  else
    (Option.bind (Γ 47 [AV.sl n.l.length 1 (gI n.l), AV.I IntKind.i64 a] []) fun r4 =>
    bif asB r4.fst then
      (Option.bind (Γ 52 [AV.sl n.l.length 1 (gI n.l), AV.I IntKind.i64 a] []) fun r6 =>
      bif bif bif okT then bif okT then true else false else false then true else false then
        (some (AV.tup 3 (lstG [AV.ag 6 (lstG [AV.B (asB (asA r0.fst 0)), AV.own (asN r6.fst) 1 fun i => lstG [AV.I IntKind.i64 (asI (asG r6.fst i 0))], AV.own (asN (asA r0.fst 2)) 2 fun i => lstG [AV.I IntKind.i64 (asI (asG (asA r0.fst 2) i 0)), AV.B (asB (asG (asA r0.fst 2) i 1))], AV.I IntKind.i64 (asI (asA r0.fst 3)), AV.I IntKind.i64 (asI (asA r0.fst 4)), AV.I IntKind.i64 (asI (asA r0.fst 5))]), AV.I IntKind.i64 (-1), AV.I IntKind.i64 0]), []))
      else
        (none))
    else
      (bif decide (asI r1.fst < 0) then
        (bif bif bif okT then bif okT then true else false else false then true else false then
          (some (AV.tup 3 (lstG [AV.ag 6 (lstG [AV.B (asB (asA r0.fst 0)), AV.own (asN (asA r0.fst 1)) 1 fun i => lstG [AV.I IntKind.i64 (asI (asG (asA r0.fst 1) i 0))], AV.own (asN (asA r0.fst 2)) 2 fun i => lstG [AV.I IntKind.i64 (asI (asG (asA r0.fst 2) i 0)), AV.B (asB (asG (asA r0.fst 2) i 1))], AV.I IntKind.i64 (asI (asA r0.fst 3)), AV.I IntKind.i64 (asI (asA r0.fst 4)), AV.I IntKind.i64 (asI (asA r0.fst 5))]), AV.I IntKind.i64 (-1), AV.I IntKind.i64 3]), []))
        else
          (none))
      else
        (bif bif decide (0 ≤ asI r1.fst) then decide (asI r1.fst < zN n.g.length) else false then
          (bif (n.g.getD (asI r1.fst).toNat (0, false)).snd then
            (bif decide (zN n.l.length = 0) then
              (bif n.p then
                (bif decide (n.s = 1000000000) then
                  (bif bif bif okT then bif okT then true else false else false then true else false then
                    (some (AV.tup 3 (lstG [AV.ag 6 (lstG [AV.B (asB (asA r0.fst 0)), AV.own (asN (asA r0.fst 1)) 1 fun i => lstG [AV.I IntKind.i64 (asI (asG (asA r0.fst 1) i 0))], AV.own (asN (asA r0.fst 2)) 2 fun i => lstG [AV.I IntKind.i64 (asI (asG (asA r0.fst 2) i 0)), AV.B (asB (asG (asA r0.fst 2) i 1))], AV.I IntKind.i64 (asI (asA r0.fst 3)), AV.I IntKind.i64 (asI (asA r0.fst 4)), AV.I IntKind.i64 (asI (asA r0.fst 5))]), AV.I IntKind.i64 (-1), AV.I IntKind.i64 2]), []))
                  else
                    (none))
                else
                  (Option.bind (Γ 48 [AV.rf 0, AV.I IntKind.i64 (asI r1.fst), AV.I IntKind.i64 (IntKind.i64.wrap (asI r1.fst + 1))] [AV.own (asN (asA r0.fst 2)) 2 fun i => lstG [AV.I IntKind.i64 (asI (asG (asA r0.fst 2) i 0)), AV.B (asB (asG (asA r0.fst 2) i 1))]]) fun r12 =>
                  bif bif decide (0 ≤ asI r1.fst) then decide (asI r1.fst < zN n.g.length) else false then
                    (bif !(n.g.getD (asI r1.fst).toNat (0, false)).snd then
                      (bif bif bif okT then bif okT then true else false else false then true else false then
                        (some (AV.tup 3 (lstG [AV.ag 6 (lstG [AV.B (asB (asA r0.fst 0)), AV.own (asN (asA r0.fst 1)) 1 fun i => lstG [AV.I IntKind.i64 (asI (asG (asA r0.fst 1) i 0))], AV.own (asN r12.fst) 2 fun i => lstG [AV.I IntKind.i64 (asI (asG r12.fst i 0)), AV.B (asB (asG r12.fst i 1))], AV.I IntKind.i64 (asI (asA r0.fst 3)), AV.I IntKind.i64 (asI (asA r0.fst 4)), AV.I IntKind.i64 (asI (asA r0.fst 5))]), AV.I IntKind.i64 (-1), AV.I IntKind.i64 0]), []))
                      else
                        (none))
                    else
                      (Option.bind (Γ 38 [AV.pb 0 0] [AV.nbx 6 (lstG [AV.B (asB (asA r0.fst 0)), AV.own (asN (asA r0.fst 1)) 1 fun i => lstG [AV.I IntKind.i64 (asI (asG (asA r0.fst 1) i 0))], AV.own (asN r12.fst) 2 fun i => lstG [AV.I IntKind.i64 (asI (asG r12.fst i 0)), AV.B (asB (asG r12.fst i 1))], AV.I IntKind.i64 (asI (asA r0.fst 3)), AV.I IntKind.i64 (asI (asA r0.fst 4)), AV.I IntKind.i64 (asI (asA r0.fst 5))])]) fun r15 =>
                      bif bif bif okT then bif okT then true else false else false then true else false then
                        (some (AV.tup 3 (lstG [AV.ag 6 (lstG [AV.B (asB (asA (r15.snd.headD AV.bad) 0)), AV.own (asN (asA (r15.snd.headD AV.bad) 1)) 1 fun i => lstG [AV.I IntKind.i64 (asI (asG (asA (r15.snd.headD AV.bad) 1) i 0))], AV.own (asN (asA (r15.snd.headD AV.bad) 2)) 2 fun i => lstG [AV.I IntKind.i64 (asI (asG (asA (r15.snd.headD AV.bad) 2) i 0)), AV.B (asB (asG (asA (r15.snd.headD AV.bad) 2) i 1))], AV.I IntKind.i64 (asI (asA (r15.snd.headD AV.bad) 3)), AV.I IntKind.i64 (asI (asA (r15.snd.headD AV.bad) 4)), AV.I IntKind.i64 (asI (asA (r15.snd.headD AV.bad) 5))]), AV.I IntKind.i64 (asI r15.fst), AV.I IntKind.i64 0]), []))
                      else
                        (none)))
                  else
                    (none)))
              else
                (Option.bind (Γ 48 [AV.rf 0, AV.I IntKind.i64 (asI r1.fst), AV.I IntKind.i64 (IntKind.i64.wrap (asI r1.fst + 1))] [AV.own (asN (asA r0.fst 2)) 2 fun i => lstG [AV.I IntKind.i64 (asI (asG (asA r0.fst 2) i 0)), AV.B (asB (asG (asA r0.fst 2) i 1))]]) fun r11 =>
                bif bif decide (0 ≤ asI r1.fst) then decide (asI r1.fst < zN n.g.length) else false then
                  (bif !(n.g.getD (asI r1.fst).toNat (0, false)).snd then
                    (bif bif bif okT then bif okT then true else false else false then true else false then
                      (some (AV.tup 3 (lstG [AV.ag 6 (lstG [AV.B (asB (asA r0.fst 0)), AV.own (asN (asA r0.fst 1)) 1 fun i => lstG [AV.I IntKind.i64 (asI (asG (asA r0.fst 1) i 0))], AV.own (asN r11.fst) 2 fun i => lstG [AV.I IntKind.i64 (asI (asG r11.fst i 0)), AV.B (asB (asG r11.fst i 1))], AV.I IntKind.i64 (asI (asA r0.fst 3)), AV.I IntKind.i64 (asI (asA r0.fst 4)), AV.I IntKind.i64 (asI (asA r0.fst 5))]), AV.I IntKind.i64 (-1), AV.I IntKind.i64 0]), []))
                    else
                      (none))
                  else
                    (Option.bind (Γ 38 [AV.pb 0 0] [AV.nbx 6 (lstG [AV.B (asB (asA r0.fst 0)), AV.own (asN (asA r0.fst 1)) 1 fun i => lstG [AV.I IntKind.i64 (asI (asG (asA r0.fst 1) i 0))], AV.own (asN r11.fst) 2 fun i => lstG [AV.I IntKind.i64 (asI (asG r11.fst i 0)), AV.B (asB (asG r11.fst i 1))], AV.I IntKind.i64 (asI (asA r0.fst 3)), AV.I IntKind.i64 (asI (asA r0.fst 4)), AV.I IntKind.i64 (asI (asA r0.fst 5))])]) fun r14 =>
                    bif bif bif okT then bif okT then true else false else false then true else false then
                      (some (AV.tup 3 (lstG [AV.ag 6 (lstG [AV.B (asB (asA (r14.snd.headD AV.bad) 0)), AV.own (asN (asA (r14.snd.headD AV.bad) 1)) 1 fun i => lstG [AV.I IntKind.i64 (asI (asG (asA (r14.snd.headD AV.bad) 1) i 0))], AV.own (asN (asA (r14.snd.headD AV.bad) 2)) 2 fun i => lstG [AV.I IntKind.i64 (asI (asG (asA (r14.snd.headD AV.bad) 2) i 0)), AV.B (asB (asG (asA (r14.snd.headD AV.bad) 2) i 1))], AV.I IntKind.i64 (asI (asA (r14.snd.headD AV.bad) 3)), AV.I IntKind.i64 (asI (asA (r14.snd.headD AV.bad) 4)), AV.I IntKind.i64 (asI (asA (r14.snd.headD AV.bad) 5))]), AV.I IntKind.i64 (asI r14.fst), AV.I IntKind.i64 0]), []))
                    else
                      (none)))
                else
                  (none)))
            else
              (Option.bind (Γ 48 [AV.rf 0, AV.I IntKind.i64 (asI r1.fst), AV.I IntKind.i64 (IntKind.i64.wrap (asI r1.fst + 1))] [AV.own (asN (asA r0.fst 2)) 2 fun i => lstG [AV.I IntKind.i64 (asI (asG (asA r0.fst 2) i 0)), AV.B (asB (asG (asA r0.fst 2) i 1))]]) fun r10 =>
              bif bif decide (0 ≤ asI r1.fst) then decide (asI r1.fst < zN n.g.length) else false then
                (bif !(n.g.getD (asI r1.fst).toNat (0, false)).snd then
                  (bif bif bif okT then bif okT then true else false else false then true else false then
                    (some (AV.tup 3 (lstG [AV.ag 6 (lstG [AV.B (asB (asA r0.fst 0)), AV.own (asN (asA r0.fst 1)) 1 fun i => lstG [AV.I IntKind.i64 (asI (asG (asA r0.fst 1) i 0))], AV.own (asN r10.fst) 2 fun i => lstG [AV.I IntKind.i64 (asI (asG r10.fst i 0)), AV.B (asB (asG r10.fst i 1))], AV.I IntKind.i64 (asI (asA r0.fst 3)), AV.I IntKind.i64 (asI (asA r0.fst 4)), AV.I IntKind.i64 (asI (asA r0.fst 5))]), AV.I IntKind.i64 (-1), AV.I IntKind.i64 0]), []))
                  else
                    (none))
                else
                  (Option.bind (Γ 38 [AV.pb 0 0] [AV.nbx 6 (lstG [AV.B (asB (asA r0.fst 0)), AV.own (asN (asA r0.fst 1)) 1 fun i => lstG [AV.I IntKind.i64 (asI (asG (asA r0.fst 1) i 0))], AV.own (asN r10.fst) 2 fun i => lstG [AV.I IntKind.i64 (asI (asG r10.fst i 0)), AV.B (asB (asG r10.fst i 1))], AV.I IntKind.i64 (asI (asA r0.fst 3)), AV.I IntKind.i64 (asI (asA r0.fst 4)), AV.I IntKind.i64 (asI (asA r0.fst 5))])]) fun r13 =>
                  bif bif bif okT then bif okT then true else false else false then true else false then
                    (some (AV.tup 3 (lstG [AV.ag 6 (lstG [AV.B (asB (asA (r13.snd.headD AV.bad) 0)), AV.own (asN (asA (r13.snd.headD AV.bad) 1)) 1 fun i => lstG [AV.I IntKind.i64 (asI (asG (asA (r13.snd.headD AV.bad) 1) i 0))], AV.own (asN (asA (r13.snd.headD AV.bad) 2)) 2 fun i => lstG [AV.I IntKind.i64 (asI (asG (asA (r13.snd.headD AV.bad) 2) i 0)), AV.B (asB (asG (asA (r13.snd.headD AV.bad) 2) i 1))], AV.I IntKind.i64 (asI (asA (r13.snd.headD AV.bad) 3)), AV.I IntKind.i64 (asI (asA (r13.snd.headD AV.bad) 4)), AV.I IntKind.i64 (asI (asA (r13.snd.headD AV.bad) 5))]), AV.I IntKind.i64 (asI r13.fst), AV.I IntKind.i64 0]), []))
                  else
                    (none)))
              else
                (none)))
          else
            (Option.bind (Γ 48 [AV.rf 0, AV.I IntKind.i64 (asI r1.fst), AV.I IntKind.i64 (IntKind.i64.wrap (asI r1.fst + 1))] [AV.own (asN (asA r0.fst 2)) 2 fun i => lstG [AV.I IntKind.i64 (asI (asG (asA r0.fst 2) i 0)), AV.B (asB (asG (asA r0.fst 2) i 1))]]) fun r9 =>
            bif bif decide (0 ≤ asI r1.fst) then decide (asI r1.fst < zN n.g.length) else false then
              (bif !(n.g.getD (asI r1.fst).toNat (0, false)).snd then
                (bif bif bif okT then bif okT then true else false else false then true else false then
                  (some (AV.tup 3 (lstG [AV.ag 6 (lstG [AV.B (asB (asA r0.fst 0)), AV.own (asN (asA r0.fst 1)) 1 fun i => lstG [AV.I IntKind.i64 (asI (asG (asA r0.fst 1) i 0))], AV.own (asN r9.fst) 2 fun i => lstG [AV.I IntKind.i64 (asI (asG r9.fst i 0)), AV.B (asB (asG r9.fst i 1))], AV.I IntKind.i64 (asI (asA r0.fst 3)), AV.I IntKind.i64 (asI (asA r0.fst 4)), AV.I IntKind.i64 (asI (asA r0.fst 5))]), AV.I IntKind.i64 (-1), AV.I IntKind.i64 0]), []))
                else
                  (none))
              else
                (Option.bind (Γ 38 [AV.pb 0 0] [AV.nbx 6 (lstG [AV.B (asB (asA r0.fst 0)), AV.own (asN (asA r0.fst 1)) 1 fun i => lstG [AV.I IntKind.i64 (asI (asG (asA r0.fst 1) i 0))], AV.own (asN r9.fst) 2 fun i => lstG [AV.I IntKind.i64 (asI (asG r9.fst i 0)), AV.B (asB (asG r9.fst i 1))], AV.I IntKind.i64 (asI (asA r0.fst 3)), AV.I IntKind.i64 (asI (asA r0.fst 4)), AV.I IntKind.i64 (asI (asA r0.fst 5))])]) fun r12 =>
                bif bif bif okT then bif okT then true else false else false then true else false then
                  (some (AV.tup 3 (lstG [AV.ag 6 (lstG [AV.B (asB (asA (r12.snd.headD AV.bad) 0)), AV.own (asN (asA (r12.snd.headD AV.bad) 1)) 1 fun i => lstG [AV.I IntKind.i64 (asI (asG (asA (r12.snd.headD AV.bad) 1) i 0))], AV.own (asN (asA (r12.snd.headD AV.bad) 2)) 2 fun i => lstG [AV.I IntKind.i64 (asI (asG (asA (r12.snd.headD AV.bad) 2) i 0)), AV.B (asB (asG (asA (r12.snd.headD AV.bad) 2) i 1))], AV.I IntKind.i64 (asI (asA (r12.snd.headD AV.bad) 3)), AV.I IntKind.i64 (asI (asA (r12.snd.headD AV.bad) 4)), AV.I IntKind.i64 (asI (asA (r12.snd.headD AV.bad) 5))]), AV.I IntKind.i64 (asI r12.fst), AV.I IntKind.i64 0]), []))
                else
                  (none)))
            else
              (none)))
        else
          (none)))) := by kernel_rfl
theorem e15 (Γ : Orc) (H : Hd) (cs : List Int) : ent Try.prog cfg Γ 15 H [slB cs] [] =
  some (AV.B (decide (1048576 < zN cs.length)), []) := by kernel_rfl
theorem e16 (Γ : Orc) (H : Hd) (cs : List Int) (i : Int) : ent Try.prog cfg Γ 16 H [slB cs, nI i] [] =
  bif decide (i < zN cs.length) then
    (bif bif decide (0 ≤ i) then decide (i < zN cs.length) else false then
      (some (AV.I IntKind.i64 (IntKind.i64.wrap (cs.getD i.toNat 0)), []))
    else
      (none))
  else
    (some (AV.I IntKind.i64 ((IntKind.i64.wrap (IntKind.i64.wrap (i * 7) + zN cs.length)).tmod 256), [])) := by kernel_rfl
theorem e17 (Γ : Orc) (H : Hd) (n : NT) : ent Try.prog cfg Γ 17 H [slN n] [] =
  Option.bind (Γ 36 [AV.ag 6 (lstG [AV.B n.p, AV.sl n.l.length 1 (gI n.l), AV.sl n.g.length 2 (gG n.g), AV.I IntKind.i64 n.o, AV.I IntKind.i64 n.s, AV.I IntKind.i64 n.t])] []) fun r0 =>
  Option.bind (Γ 37 [AV.ag 6 (lstG [AV.B n.p, AV.sl n.l.length 1 (gI n.l), AV.sl n.g.length 2 (gG n.g), AV.I IntKind.i64 n.o, AV.I IntKind.i64 n.s, AV.I IntKind.i64 n.t])] []) fun r1 =>
  bif !asB r1.fst then
    (bif bif bif okT then bif okT then true else false else false then bif okT then true else false else false then
      (some (AV.tup 3 (lstG [AV.ag 6 (lstG [AV.B (asB (asA r0.fst 0)), AV.own (asN (asA r0.fst 1)) 1 fun i => lstG [AV.I IntKind.i64 (asI (asG (asA r0.fst 1) i 0))], AV.own (asN (asA r0.fst 2)) 2 fun i => lstG [AV.I IntKind.i64 (asI (asG (asA r0.fst 2) i 0)), AV.B (asB (asG (asA r0.fst 2) i 1))], AV.I IntKind.i64 (asI (asA r0.fst 3)), AV.I IntKind.i64 (asI (asA r0.fst 4)), AV.I IntKind.i64 (asI (asA r0.fst 5))]), AV.own 0 1 fun i => lstG [AV.I IntKind.i64 0], AV.I IntKind.i64 1]), []))
    else
      (none))
  else
    (bif decide (32 < IntKind.i64.wrap (zN n.l.length + zN n.g.length)) then
      (bif bif bif okT then bif okT then true else false else false then bif okT then true else false else false then
        (some (AV.tup 3 (lstG [AV.ag 6 (lstG [AV.B (asB (asA r0.fst 0)), AV.own (asN (asA r0.fst 1)) 1 fun i => lstG [AV.I IntKind.i64 (asI (asG (asA r0.fst 1) i 0))], AV.own (asN (asA r0.fst 2)) 2 fun i => lstG [AV.I IntKind.i64 (asI (asG (asA r0.fst 2) i 0)), AV.B (asB (asG (asA r0.fst 2) i 1))], AV.I IntKind.i64 (asI (asA r0.fst 3)), AV.I IntKind.i64 (asI (asA r0.fst 4)), AV.I IntKind.i64 (asI (asA r0.fst 5))]), AV.own 0 1 fun i => lstG [AV.I IntKind.i64 0], AV.I IntKind.i64 2]), []))
      else
        (none))
    else
      (H [true, true, true, false, true] (hdS [(1, AV.pb 65 0), (2, AV.pb 66 0), (5, AV.pb 69 0), (26, AV.sl n.l.length 1 (gI n.l)), (27, AV.I IntKind.i64 (zN n.l.length)), (28, AV.I IntKind.i64 0)] [(299009, ⟨asN (asA r0.fst 1), 1, fun i => lstG [AV.I IntKind.i64 (asI (asG (asA r0.fst 1) i 0))]⟩), (413696, ⟨asN (asA r0.fst 2), 2, fun i => lstG [AV.I IntKind.i64 (asI (asG (asA r0.fst 2) i 0)), AV.B (asB (asG (asA r0.fst 2) i 1))]⟩)] [(65, 6, [AV.B n.p, AV.sl n.l.length 1 (gI n.l), AV.sl n.g.length 2 (gG n.g), AV.I IntKind.i64 n.o, AV.I IntKind.i64 n.s, AV.I IntKind.i64 n.t]), (66, 6, [AV.B false, AV.nsl 1 fun x => lstG [AV.I IntKind.i64 0], AV.nsl 2 fun x => lstG [AV.I IntKind.i64 0, AV.B false], AV.I IntKind.i64 0, AV.I IntKind.i64 0, AV.I IntKind.i64 0]), (69, 6, [AV.B (asB (asA r0.fst 0)), AV.rf 299009, AV.rf 413696, AV.I IntKind.i64 (asI (asA r0.fst 3)), AV.I IntKind.i64 (asI (asA r0.fst 4)), AV.I IntKind.i64 (asI (asA r0.fst 5))])]))) := by kernel_rfl
theorem h17 (Γ : Orc) (H : Hd) (n : NT) (ls : List Int) (os : List (Int × Bool)) (m i : Int) : hed Try.prog cfg Γ 17 H [] [true, true, true, false, true] (hdS [(1, .pb 65 0), (2, .pb 66 0), (5, .pb 69 0), (26, slI n.l), (27, nI m), (28, nI i)] [(299009, ⟨ls.length, 1, gI ls⟩), (413696, ⟨os.length, 2, gG os⟩)] [(65, 6, [.B n.p, slI n.l, slG n.g, nI n.o, nI n.s, nI n.t]), (66, 6, [.B false, .nsl 1 (fun _ => lstG [nI 0]), .nsl 2 (fun _ => lstG [nI 0, .B false]), nI 0, nI 0, nI 0]), (69, 6, [.B n.p, .rf 299009, .rf 413696, nI n.o, nI n.s, nI n.t])]) =
  bif decide (i < m) then
    (bif bif decide (0 ≤ i) then decide (i < zN n.l.length) else false then
      (bif decide (os.length + 1 ≤ 4294967296) && true && true && true && true then
        (H [true, true, true, false, true] (hdS [(1, AV.pb 65 0), (2, AV.pb 66 0), (5, AV.pb 69 0), (26, AV.sl n.l.length 1 (gI n.l)), (27, AV.I IntKind.i64 m), (28, AV.I IntKind.i64 (IntKind.i64.wrap (i + 1)))] [(299009, ⟨ls.length, 1, gI ls⟩), (413696, ⟨os.length + 1, 2, fun i_1 => lstG [AV.I IntKind.i64 (bif decide (i_1 < os.length) then (os.getD i_1 (0, false)).fst else bif decide (i_1 - os.length = 0) then n.l.getD i.toNat 0 else 0), AV.B (bif decide (i_1 < os.length) then (os.getD i_1 (0, false)).snd else bif decide (i_1 - os.length = 0) then false else false)]⟩)] [(65, 6, [AV.B n.p, AV.sl n.l.length 1 (gI n.l), AV.sl n.g.length 2 (gG n.g), AV.I IntKind.i64 n.o, AV.I IntKind.i64 n.s, AV.I IntKind.i64 n.t]), (66, 6, [AV.B false, AV.nsl 1 fun x => lstG [AV.I IntKind.i64 0], AV.nsl 2 fun x => lstG [AV.I IntKind.i64 0, AV.B false], AV.I IntKind.i64 0, AV.I IntKind.i64 0, AV.I IntKind.i64 0]), (69, 6, [AV.B n.p, AV.rf 299009, AV.rf 413696, AV.I IntKind.i64 n.o, AV.I IntKind.i64 n.s, AV.I IntKind.i64 n.t])]))
      else
        (none))
    else
      (none))
  else
    (and2
    (Option.bind (Γ 45 [AV.sl n.l.length 1 (gI n.l)] []) fun r2 =>
      bif bif bif okT then bif okT then true else false else false then bif okT then true else false else false then
        (some (AV.tup 3 (lstG [AV.ag 6 (lstG [AV.B n.p, AV.own 0 1 fun i => lstG [AV.I IntKind.i64 0], AV.own os.length 2 (gG os), AV.I IntKind.i64 n.o, AV.I IntKind.i64 n.s, AV.I IntKind.i64 n.t]), AV.own (asN r2.fst) 1 fun i => lstG [AV.I IntKind.i64 (asI (asG r2.fst i 0))], AV.I IntKind.i64 0]), []))
      else
        (none))
    (Option.bind (Γ 45 [AV.sl n.l.length 1 (gI n.l)] []) fun r2 =>
      bif bif bif okT then bif okT then true else false else false then bif okT then true else false else false then
        (some (AV.tup 3 (lstG [AV.ag 6 (lstG [AV.B n.p, AV.own 0 1 fun i => lstG [AV.I IntKind.i64 0], AV.own os.length 2 (gG os), AV.I IntKind.i64 n.o, AV.I IntKind.i64 n.s, AV.I IntKind.i64 n.t]), AV.own (asN r2.fst) 1 fun i => lstG [AV.I IntKind.i64 (asI (asG r2.fst i 0))], AV.I IntKind.i64 0]), []))
      else
        (none))) := by kernel_rfl
theorem e18 (Γ : Orc) (H : Hd) (xs ys : List Int) : ent Try.prog cfg Γ 18 H [slI xs, slI ys] [] =
  bif !decide (zN xs.length = zN ys.length) then
    (some (AV.B false, []))
  else
    (H [true, true, false, true] (hdS [(0, AV.sl xs.length 1 (gI xs)), (1, AV.sl ys.length 1 (gI ys)), (5, AV.I IntKind.i64 0)] [] [])) := by kernel_rfl
theorem h18 (Γ : Orc) (H : Hd) (xs ys : List Int) (i : Int) : hed Try.prog cfg Γ 18 H [] [true, true, false, true] (hdS [(0, slI xs), (1, slI ys), (5, nI i)] [] []) =
  bif decide (i < zN xs.length) then
    (bif bif decide (0 ≤ i) then decide (i < zN xs.length) else false then
      (bif bif decide (0 ≤ i) then decide (i < zN ys.length) else false then
        (bif !decide (xs.getD i.toNat 0 = ys.getD i.toNat 0) then
          (some (AV.B false, []))
        else
          (H [true, true, false, true] (hdS [(0, AV.sl xs.length 1 (gI xs)), (1, AV.sl ys.length 1 (gI ys)), (5, AV.I IntKind.i64 (IntKind.i64.wrap (i + 1)))] [] [])))
      else
        (none))
    else
      (none))
  else
    (some (AV.B true, [])) := by kernel_rfl
theorem e19 (Γ : Orc) (H : Hd) (n : NT) (a : Int) : ent Try.prog cfg Γ 19 H [slN n, nI a] [] =
  Option.bind (Γ 36 [AV.ag 6 (lstG [AV.B n.p, AV.sl n.l.length 1 (gI n.l), AV.sl n.g.length 2 (gG n.g), AV.I IntKind.i64 n.o, AV.I IntKind.i64 n.s, AV.I IntKind.i64 n.t])] []) fun r0 =>
  Option.bind (Γ 46 [AV.sl n.g.length 2 (gG n.g), AV.I IntKind.i64 a] []) fun r1 =>
  Option.bind (Γ 37 [AV.ag 6 (lstG [AV.B n.p, AV.sl n.l.length 1 (gI n.l), AV.sl n.g.length 2 (gG n.g), AV.I IntKind.i64 n.o, AV.I IntKind.i64 n.s, AV.I IntKind.i64 n.t])] []) fun r2 =>
  bif !asB r2.fst then
    (bif bif bif okT then bif okT then true else false else false then true else false then
      (some (AV.tup 2 (lstG [AV.ag 6 (lstG [AV.B (asB (asA r0.fst 0)), AV.own (asN (asA r0.fst 1)) 1 fun i => lstG [AV.I IntKind.i64 (asI (asG (asA r0.fst 1) i 0))], AV.own (asN (asA r0.fst 2)) 2 fun i => lstG [AV.I IntKind.i64 (asI (asG (asA r0.fst 2) i 0)), AV.B (asB (asG (asA r0.fst 2) i 1))], AV.I IntKind.i64 (asI (asA r0.fst 3)), AV.I IntKind.i64 (asI (asA r0.fst 4)), AV.I IntKind.i64 (asI (asA r0.fst 5))]), AV.I IntKind.i64 1]), []))
    else
      (none))
  else
    (Option.bind (Γ 47 [AV.sl n.l.length 1 (gI n.l), AV.I IntKind.i64 a] []) fun r4 =>
    bif asB r4.fst then
      (bif bif bif okT then bif okT then true else false else false then true else false then
        (some (AV.tup 2 (lstG [AV.ag 6 (lstG [AV.B (asB (asA r0.fst 0)), AV.own (asN (asA r0.fst 1)) 1 fun i => lstG [AV.I IntKind.i64 (asI (asG (asA r0.fst 1) i 0))], AV.own (asN (asA r0.fst 2)) 2 fun i => lstG [AV.I IntKind.i64 (asI (asG (asA r0.fst 2) i 0)), AV.B (asB (asG (asA r0.fst 2) i 1))], AV.I IntKind.i64 (asI (asA r0.fst 3)), AV.I IntKind.i64 (asI (asA r0.fst 4)), AV.I IntKind.i64 (asI (asA r0.fst 5))]), AV.I IntKind.i64 4]), []))
      else
        (none))
    else
      (bif decide (asI r1.fst < 0) then
        (bif bif bif okT then bif okT then true else false else false then true else false then
          (some (AV.tup 2 (lstG [AV.ag 6 (lstG [AV.B (asB (asA r0.fst 0)), AV.own (asN (asA r0.fst 1)) 1 fun i => lstG [AV.I IntKind.i64 (asI (asG (asA r0.fst 1) i 0))], AV.own (asN (asA r0.fst 2)) 2 fun i => lstG [AV.I IntKind.i64 (asI (asG (asA r0.fst 2) i 0)), AV.B (asB (asG (asA r0.fst 2) i 1))], AV.I IntKind.i64 (asI (asA r0.fst 3)), AV.I IntKind.i64 (asI (asA r0.fst 4)), AV.I IntKind.i64 (asI (asA r0.fst 5))]), AV.I IntKind.i64 3]), []))
        else
          (none))
      else
        (bif bif decide (0 ≤ asI r1.fst) then decide (asI r1.fst < zN n.g.length) else false then
          (bif (n.g.getD (asI r1.fst).toNat (0, false)).snd then
            (bif decide (n.t = 1000000000) then
              (bif bif bif okT then bif okT then true else false else false then true else false then
                (some (AV.tup 2 (lstG [AV.ag 6 (lstG [AV.B (asB (asA r0.fst 0)), AV.own (asN (asA r0.fst 1)) 1 fun i => lstG [AV.I IntKind.i64 (asI (asG (asA r0.fst 1) i 0))], AV.own (asN (asA r0.fst 2)) 2 fun i => lstG [AV.I IntKind.i64 (asI (asG (asA r0.fst 2) i 0)), AV.B (asB (asG (asA r0.fst 2) i 1))], AV.I IntKind.i64 (asI (asA r0.fst 3)), AV.I IntKind.i64 (asI (asA r0.fst 4)), AV.I IntKind.i64 (asI (asA r0.fst 5))]), AV.I IntKind.i64 2]), []))
              else
                (none))
            else
              (bif bif decide (0 ≤ asI r1.fst) then decide (asI r1.fst < zN n.g.length) else false then
                (bif (n.g.getD (asI r1.fst).toNat (0, false)).snd then
                  (Option.bind (Γ 48 [AV.rf 0, AV.I IntKind.i64 (asI r1.fst), AV.I IntKind.i64 (IntKind.i64.wrap (asI r1.fst + 1))] [AV.own (asN (asA r0.fst 2)) 2 fun i => lstG [AV.I IntKind.i64 (asI (asG (asA r0.fst 2) i 0)), AV.B (asB (asG (asA r0.fst 2) i 1))]]) fun r12 =>
                  bif bif bif okT then bif okT then true else false else false then true else false then
                    (some (AV.tup 2 (lstG [AV.ag 6 (lstG [AV.B (asB (asA r0.fst 0)), AV.own (asN (asA r0.fst 1)) 1 fun i => lstG [AV.I IntKind.i64 (asI (asG (asA r0.fst 1) i 0))], AV.own (asN r12.fst) 2 fun i => lstG [AV.I IntKind.i64 (asI (asG r12.fst i 0)), AV.B (asB (asG r12.fst i 1))], AV.I IntKind.i64 (asI (asA r0.fst 3)), AV.I IntKind.i64 (asI (asA r0.fst 4)), AV.I IntKind.i64 (IntKind.i64.wrap (asI (asA r0.fst 5) + 1))]), AV.I IntKind.i64 0]), []))
                  else
                    (none))
                else
                  (Option.bind (Γ 48 [AV.rf 0, AV.I IntKind.i64 (asI r1.fst), AV.I IntKind.i64 (IntKind.i64.wrap (asI r1.fst + 1))] [AV.own (asN (asA r0.fst 2)) 2 fun i => lstG [AV.I IntKind.i64 (asI (asG (asA r0.fst 2) i 0)), AV.B (asB (asG (asA r0.fst 2) i 1))]]) fun r12 =>
                  bif bif bif okT then bif okT then true else false else false then true else false then
                    (some (AV.tup 2 (lstG [AV.ag 6 (lstG [AV.B (asB (asA r0.fst 0)), AV.own (asN (asA r0.fst 1)) 1 fun i => lstG [AV.I IntKind.i64 (asI (asG (asA r0.fst 1) i 0))], AV.own (asN r12.fst) 2 fun i => lstG [AV.I IntKind.i64 (asI (asG r12.fst i 0)), AV.B (asB (asG r12.fst i 1))], AV.I IntKind.i64 (asI (asA r0.fst 3)), AV.I IntKind.i64 (asI (asA r0.fst 4)), AV.I IntKind.i64 (asI (asA r0.fst 5))]), AV.I IntKind.i64 0]), []))
                  else
                    (none)))
              else
                (none)))
          else
            (bif bif decide (0 ≤ asI r1.fst) then decide (asI r1.fst < zN n.g.length) else false then
              (bif (n.g.getD (asI r1.fst).toNat (0, false)).snd then
                (Option.bind (Γ 48 [AV.rf 0, AV.I IntKind.i64 (asI r1.fst), AV.I IntKind.i64 (IntKind.i64.wrap (asI r1.fst + 1))] [AV.own (asN (asA r0.fst 2)) 2 fun i => lstG [AV.I IntKind.i64 (asI (asG (asA r0.fst 2) i 0)), AV.B (asB (asG (asA r0.fst 2) i 1))]]) fun r11 =>
                bif bif bif okT then bif okT then true else false else false then true else false then
                  (some (AV.tup 2 (lstG [AV.ag 6 (lstG [AV.B (asB (asA r0.fst 0)), AV.own (asN (asA r0.fst 1)) 1 fun i => lstG [AV.I IntKind.i64 (asI (asG (asA r0.fst 1) i 0))], AV.own (asN r11.fst) 2 fun i => lstG [AV.I IntKind.i64 (asI (asG r11.fst i 0)), AV.B (asB (asG r11.fst i 1))], AV.I IntKind.i64 (asI (asA r0.fst 3)), AV.I IntKind.i64 (asI (asA r0.fst 4)), AV.I IntKind.i64 (IntKind.i64.wrap (asI (asA r0.fst 5) + 1))]), AV.I IntKind.i64 0]), []))
                else
                  (none))
              else
                (Option.bind (Γ 48 [AV.rf 0, AV.I IntKind.i64 (asI r1.fst), AV.I IntKind.i64 (IntKind.i64.wrap (asI r1.fst + 1))] [AV.own (asN (asA r0.fst 2)) 2 fun i => lstG [AV.I IntKind.i64 (asI (asG (asA r0.fst 2) i 0)), AV.B (asB (asG (asA r0.fst 2) i 1))]]) fun r11 =>
                bif bif bif okT then bif okT then true else false else false then true else false then
                  (some (AV.tup 2 (lstG [AV.ag 6 (lstG [AV.B (asB (asA r0.fst 0)), AV.own (asN (asA r0.fst 1)) 1 fun i => lstG [AV.I IntKind.i64 (asI (asG (asA r0.fst 1) i 0))], AV.own (asN r11.fst) 2 fun i => lstG [AV.I IntKind.i64 (asI (asG r11.fst i 0)), AV.B (asB (asG r11.fst i 1))], AV.I IntKind.i64 (asI (asA r0.fst 3)), AV.I IntKind.i64 (asI (asA r0.fst 4)), AV.I IntKind.i64 (asI (asA r0.fst 5))]), AV.I IntKind.i64 0]), []))
                else
                  (none)))
            else
              (none)))
        else
          (none)))) := by kernel_rfl
theorem e20 (Γ : Orc) (H : Hd) (n : NT) (a : Int) : ent Try.prog cfg Γ 20 H [slN n, nI a] [] =
  Option.bind (Γ 32 [AV.ag 6 (lstG [AV.B n.p, AV.sl n.l.length 1 (gI n.l), AV.sl n.g.length 2 (gG n.g), AV.I IntKind.i64 n.o, AV.I IntKind.i64 n.s, AV.I IntKind.i64 n.t])] []) fun r0 =>
  Option.bind (Γ 49 [AV.sl n.g.length 2 (gG n.g), AV.I IntKind.i64 a] []) fun r1 =>
  Option.bind (Γ 24 [AV.ag 6 (lstG [AV.B n.p, AV.sl n.l.length 1 (gI n.l), AV.sl n.g.length 2 (gG n.g), AV.I IntKind.i64 n.o, AV.I IntKind.i64 n.s, AV.I IntKind.i64 n.t])] []) fun r2 =>
  bif !asB r2.fst then
    (bif bif bif okT then bif okT then true else false else false then true else false then
      (some (AV.tup 2 (lstG [AV.ag 6 (lstG [AV.B (asB (asA r0.fst 0)), AV.own (asN (asA r0.fst 1)) 1 fun i => lstG [AV.I IntKind.i64 (asI (asG (asA r0.fst 1) i 0))], AV.own (asN (asA r0.fst 2)) 2 fun i => lstG [AV.I IntKind.i64 (asI (asG (asA r0.fst 2) i 0)), AV.B (asB (asG (asA r0.fst 2) i 1))], AV.I IntKind.i64 (asI (asA r0.fst 3)), AV.I IntKind.i64 (asI (asA r0.fst 4)), AV.I IntKind.i64 (asI (asA r0.fst 5))]), AV.I IntKind.i64 1]), []))
    else
      (none))
  else
    (Option.bind (Γ 50 [AV.sl n.l.length 1 (gI n.l), AV.I IntKind.i64 a] []) fun r4 =>
    bif asB r4.fst then
      (bif bif bif okT then bif okT then true else false else false then true else false then
        (some (AV.tup 2 (lstG [AV.ag 6 (lstG [AV.B (asB (asA r0.fst 0)), AV.own (asN (asA r0.fst 1)) 1 fun i => lstG [AV.I IntKind.i64 (asI (asG (asA r0.fst 1) i 0))], AV.own (asN (asA r0.fst 2)) 2 fun i => lstG [AV.I IntKind.i64 (asI (asG (asA r0.fst 2) i 0)), AV.B (asB (asG (asA r0.fst 2) i 1))], AV.I IntKind.i64 (asI (asA r0.fst 3)), AV.I IntKind.i64 (asI (asA r0.fst 4)), AV.I IntKind.i64 (asI (asA r0.fst 5))]), AV.I IntKind.i64 4]), []))
      else
        (none))
    else
      (bif decide (asI r1.fst < 0) then
        (bif bif bif okT then bif okT then true else false else false then true else false then
          (some (AV.tup 2 (lstG [AV.ag 6 (lstG [AV.B (asB (asA r0.fst 0)), AV.own (asN (asA r0.fst 1)) 1 fun i => lstG [AV.I IntKind.i64 (asI (asG (asA r0.fst 1) i 0))], AV.own (asN (asA r0.fst 2)) 2 fun i => lstG [AV.I IntKind.i64 (asI (asG (asA r0.fst 2) i 0)), AV.B (asB (asG (asA r0.fst 2) i 1))], AV.I IntKind.i64 (asI (asA r0.fst 3)), AV.I IntKind.i64 (asI (asA r0.fst 4)), AV.I IntKind.i64 (asI (asA r0.fst 5))]), AV.I IntKind.i64 3]), []))
        else
          (none))
      else
        (bif bif decide (0 ≤ asI r1.fst) then decide (asI r1.fst < zN n.g.length) else false then
          (bif (n.g.getD (asI r1.fst).toNat (0, false)).snd then
            (bif decide (1000000000 ≤ n.t) then
              (bif bif bif okT then bif okT then true else false else false then true else false then
                (some (AV.tup 2 (lstG [AV.ag 6 (lstG [AV.B (asB (asA r0.fst 0)), AV.own (asN (asA r0.fst 1)) 1 fun i => lstG [AV.I IntKind.i64 (asI (asG (asA r0.fst 1) i 0))], AV.own (asN (asA r0.fst 2)) 2 fun i => lstG [AV.I IntKind.i64 (asI (asG (asA r0.fst 2) i 0)), AV.B (asB (asG (asA r0.fst 2) i 1))], AV.I IntKind.i64 (asI (asA r0.fst 3)), AV.I IntKind.i64 (asI (asA r0.fst 4)), AV.I IntKind.i64 (asI (asA r0.fst 5))]), AV.I IntKind.i64 2]), []))
              else
                (none))
            else
              (bif bif decide (0 ≤ asI r1.fst) then decide (asI r1.fst < zN n.g.length) else false then
                (bif (n.g.getD (asI r1.fst).toNat (0, false)).snd then
                  (Option.bind (Γ 51 [AV.ag 6 (lstG [AV.B (asB (asA r0.fst 0)), AV.rf 0, AV.rf 4096, AV.I IntKind.i64 (asI (asA r0.fst 3)), AV.I IntKind.i64 (asI (asA r0.fst 4)), AV.I IntKind.i64 (IntKind.i64.wrap (asI (asA r0.fst 5) + 1))]), AV.I IntKind.i64 (asI r1.fst)] [AV.own (asN (asA r0.fst 1)) 1 fun i => lstG [AV.I IntKind.i64 (asI (asG (asA r0.fst 1) i 0))], AV.own (asN (asA r0.fst 2)) 2 fun i => lstG [AV.I IntKind.i64 (asI (asG (asA r0.fst 2) i 0)), AV.B (asB (asG (asA r0.fst 2) i 1))]]) fun r12 =>
                  bif bif bif okT then bif okT then true else false else false then true else false then
                    (some (AV.tup 2 (lstG [AV.ag 6 (lstG [AV.B (asB (asA r12.fst 0)), AV.own (asN (asA r12.fst 1)) 1 fun i => lstG [AV.I IntKind.i64 (asI (asG (asA r12.fst 1) i 0))], AV.own (asN (asA r12.fst 2)) 2 fun i => lstG [AV.I IntKind.i64 (asI (asG (asA r12.fst 2) i 0)), AV.B (asB (asG (asA r12.fst 2) i 1))], AV.I IntKind.i64 (asI (asA r12.fst 3)), AV.I IntKind.i64 (asI (asA r12.fst 4)), AV.I IntKind.i64 (asI (asA r12.fst 5))]), AV.I IntKind.i64 0]), []))
                  else
                    (none))
                else
                  (Option.bind (Γ 51 [AV.ag 6 (lstG [AV.B (asB (asA r0.fst 0)), AV.rf 0, AV.rf 4096, AV.I IntKind.i64 (asI (asA r0.fst 3)), AV.I IntKind.i64 (asI (asA r0.fst 4)), AV.I IntKind.i64 (asI (asA r0.fst 5))]), AV.I IntKind.i64 (asI r1.fst)] [AV.own (asN (asA r0.fst 1)) 1 fun i => lstG [AV.I IntKind.i64 (asI (asG (asA r0.fst 1) i 0))], AV.own (asN (asA r0.fst 2)) 2 fun i => lstG [AV.I IntKind.i64 (asI (asG (asA r0.fst 2) i 0)), AV.B (asB (asG (asA r0.fst 2) i 1))]]) fun r12 =>
                  bif bif bif okT then bif okT then true else false else false then true else false then
                    (some (AV.tup 2 (lstG [AV.ag 6 (lstG [AV.B (asB (asA r12.fst 0)), AV.own (asN (asA r12.fst 1)) 1 fun i => lstG [AV.I IntKind.i64 (asI (asG (asA r12.fst 1) i 0))], AV.own (asN (asA r12.fst 2)) 2 fun i => lstG [AV.I IntKind.i64 (asI (asG (asA r12.fst 2) i 0)), AV.B (asB (asG (asA r12.fst 2) i 1))], AV.I IntKind.i64 (asI (asA r12.fst 3)), AV.I IntKind.i64 (asI (asA r12.fst 4)), AV.I IntKind.i64 (asI (asA r12.fst 5))]), AV.I IntKind.i64 0]), []))
                  else
                    (none)))
              else
                (none)))
          else
            (bif bif decide (0 ≤ asI r1.fst) then decide (asI r1.fst < zN n.g.length) else false then
              (bif (n.g.getD (asI r1.fst).toNat (0, false)).snd then
                (Option.bind (Γ 51 [AV.ag 6 (lstG [AV.B (asB (asA r0.fst 0)), AV.rf 0, AV.rf 4096, AV.I IntKind.i64 (asI (asA r0.fst 3)), AV.I IntKind.i64 (asI (asA r0.fst 4)), AV.I IntKind.i64 (IntKind.i64.wrap (asI (asA r0.fst 5) + 1))]), AV.I IntKind.i64 (asI r1.fst)] [AV.own (asN (asA r0.fst 1)) 1 fun i => lstG [AV.I IntKind.i64 (asI (asG (asA r0.fst 1) i 0))], AV.own (asN (asA r0.fst 2)) 2 fun i => lstG [AV.I IntKind.i64 (asI (asG (asA r0.fst 2) i 0)), AV.B (asB (asG (asA r0.fst 2) i 1))]]) fun r11 =>
                bif bif bif okT then bif okT then true else false else false then true else false then
                  (some (AV.tup 2 (lstG [AV.ag 6 (lstG [AV.B (asB (asA r11.fst 0)), AV.own (asN (asA r11.fst 1)) 1 fun i => lstG [AV.I IntKind.i64 (asI (asG (asA r11.fst 1) i 0))], AV.own (asN (asA r11.fst 2)) 2 fun i => lstG [AV.I IntKind.i64 (asI (asG (asA r11.fst 2) i 0)), AV.B (asB (asG (asA r11.fst 2) i 1))], AV.I IntKind.i64 (asI (asA r11.fst 3)), AV.I IntKind.i64 (asI (asA r11.fst 4)), AV.I IntKind.i64 (asI (asA r11.fst 5))]), AV.I IntKind.i64 0]), []))
                else
                  (none))
              else
                (Option.bind (Γ 51 [AV.ag 6 (lstG [AV.B (asB (asA r0.fst 0)), AV.rf 0, AV.rf 4096, AV.I IntKind.i64 (asI (asA r0.fst 3)), AV.I IntKind.i64 (asI (asA r0.fst 4)), AV.I IntKind.i64 (asI (asA r0.fst 5))]), AV.I IntKind.i64 (asI r1.fst)] [AV.own (asN (asA r0.fst 1)) 1 fun i => lstG [AV.I IntKind.i64 (asI (asG (asA r0.fst 1) i 0))], AV.own (asN (asA r0.fst 2)) 2 fun i => lstG [AV.I IntKind.i64 (asI (asG (asA r0.fst 2) i 0)), AV.B (asB (asG (asA r0.fst 2) i 1))]]) fun r11 =>
                bif bif bif okT then bif okT then true else false else false then true else false then
                  (some (AV.tup 2 (lstG [AV.ag 6 (lstG [AV.B (asB (asA r11.fst 0)), AV.own (asN (asA r11.fst 1)) 1 fun i => lstG [AV.I IntKind.i64 (asI (asG (asA r11.fst 1) i 0))], AV.own (asN (asA r11.fst 2)) 2 fun i => lstG [AV.I IntKind.i64 (asI (asG (asA r11.fst 2) i 0)), AV.B (asB (asG (asA r11.fst 2) i 1))], AV.I IntKind.i64 (asI (asA r11.fst 3)), AV.I IntKind.i64 (asI (asA r11.fst 4)), AV.I IntKind.i64 (asI (asA r11.fst 5))]), AV.I IntKind.i64 0]), []))
                else
                  (none)))
            else
              (none)))
        else
          (none)))) := by kernel_rfl
theorem e23 (Γ : Orc) (H : Hd) (n : NT) (a : Int) : ent Try.prog cfg Γ 23 H [slN n, nI a] [] =
  Option.bind (Γ 36 [AV.ag 6 (lstG [AV.B n.p, AV.sl n.l.length 1 (gI n.l), AV.sl n.g.length 2 (gG n.g), AV.I IntKind.i64 n.o, AV.I IntKind.i64 n.s, AV.I IntKind.i64 n.t])] []) fun r0 =>
  Option.bind (Γ 37 [AV.ag 6 (lstG [AV.B n.p, AV.sl n.l.length 1 (gI n.l), AV.sl n.g.length 2 (gG n.g), AV.I IntKind.i64 n.o, AV.I IntKind.i64 n.s, AV.I IntKind.i64 n.t])] []) fun r1 =>
  bif !asB r1.fst then
    (bif bif bif okT then bif okT then true else false else false then true else false then
      (some (AV.tup 2 (lstG [AV.ag 6 (lstG [AV.B (asB (asA r0.fst 0)), AV.own (asN (asA r0.fst 1)) 1 fun i => lstG [AV.I IntKind.i64 (asI (asG (asA r0.fst 1) i 0))], AV.own (asN (asA r0.fst 2)) 2 fun i => lstG [AV.I IntKind.i64 (asI (asG (asA r0.fst 2) i 0)), AV.B (asB (asG (asA r0.fst 2) i 1))], AV.I IntKind.i64 (asI (asA r0.fst 3)), AV.I IntKind.i64 (asI (asA r0.fst 4)), AV.I IntKind.i64 (asI (asA r0.fst 5))]), AV.I IntKind.i64 1]), []))
    else
      (none))
  else
    (Option.bind (Γ 54 [AV.I IntKind.i64 a] []) fun r3 =>
    bif !asB r3.fst then
      (bif bif bif okT then bif okT then true else false else false then true else false then
        (some (AV.tup 2 (lstG [AV.ag 6 (lstG [AV.B (asB (asA r0.fst 0)), AV.own (asN (asA r0.fst 1)) 1 fun i => lstG [AV.I IntKind.i64 (asI (asG (asA r0.fst 1) i 0))], AV.own (asN (asA r0.fst 2)) 2 fun i => lstG [AV.I IntKind.i64 (asI (asG (asA r0.fst 2) i 0)), AV.B (asB (asG (asA r0.fst 2) i 1))], AV.I IntKind.i64 (asI (asA r0.fst 3)), AV.I IntKind.i64 (asI (asA r0.fst 4)), AV.I IntKind.i64 (asI (asA r0.fst 5))]), AV.I IntKind.i64 1]), []))
      else
        (none))
    else
      (Option.bind (Γ 47 [AV.sl n.l.length 1 (gI n.l), AV.I IntKind.i64 a] []) fun r5 =>
      bif asB r5.fst then
        (bif bif bif okT then bif okT then true else false else false then true else false then
          (some (AV.tup 2 (lstG [AV.ag 6 (lstG [AV.B (asB (asA r0.fst 0)), AV.own (asN (asA r0.fst 1)) 1 fun i => lstG [AV.I IntKind.i64 (asI (asG (asA r0.fst 1) i 0))], AV.own (asN (asA r0.fst 2)) 2 fun i => lstG [AV.I IntKind.i64 (asI (asG (asA r0.fst 2) i 0)), AV.B (asB (asG (asA r0.fst 2) i 1))], AV.I IntKind.i64 (asI (asA r0.fst 3)), AV.I IntKind.i64 (asI (asA r0.fst 4)), AV.I IntKind.i64 (asI (asA r0.fst 5))]), AV.I IntKind.i64 5]), []))
        else
          (none))
      else
        (Option.bind (Γ 46 [AV.sl n.g.length 2 (gG n.g), AV.I IntKind.i64 a] []) fun r7 =>
        bif decide (0 ≤ asI r7.fst) then
          (bif bif bif okT then bif okT then true else false else false then true else false then
            (some (AV.tup 2 (lstG [AV.ag 6 (lstG [AV.B (asB (asA r0.fst 0)), AV.own (asN (asA r0.fst 1)) 1 fun i => lstG [AV.I IntKind.i64 (asI (asG (asA r0.fst 1) i 0))], AV.own (asN (asA r0.fst 2)) 2 fun i => lstG [AV.I IntKind.i64 (asI (asG (asA r0.fst 2) i 0)), AV.B (asB (asG (asA r0.fst 2) i 1))], AV.I IntKind.i64 (asI (asA r0.fst 3)), AV.I IntKind.i64 (asI (asA r0.fst 4)), AV.I IntKind.i64 (asI (asA r0.fst 5))]), AV.I IntKind.i64 5]), []))
          else
            (none))
        else
          (bif decide (n.t = 1000000000) then
            (bif bif bif okT then bif okT then true else false else false then true else false then
              (some (AV.tup 2 (lstG [AV.ag 6 (lstG [AV.B (asB (asA r0.fst 0)), AV.own (asN (asA r0.fst 1)) 1 fun i => lstG [AV.I IntKind.i64 (asI (asG (asA r0.fst 1) i 0))], AV.own (asN (asA r0.fst 2)) 2 fun i => lstG [AV.I IntKind.i64 (asI (asG (asA r0.fst 2) i 0)), AV.B (asB (asG (asA r0.fst 2) i 1))], AV.I IntKind.i64 (asI (asA r0.fst 3)), AV.I IntKind.i64 (asI (asA r0.fst 4)), AV.I IntKind.i64 (asI (asA r0.fst 5))]), AV.I IntKind.i64 2]), []))
            else
              (none))
          else
            (bif !n.p then
              (bif decide (zN n.l.length = 32) then
                (bif bif bif okT then bif okT then true else false else false then true else false then
                  (some (AV.tup 2 (lstG [AV.ag 6 (lstG [AV.B (asB (asA r0.fst 0)), AV.own (asN (asA r0.fst 1)) 1 fun i => lstG [AV.I IntKind.i64 (asI (asG (asA r0.fst 1) i 0))], AV.own (asN (asA r0.fst 2)) 2 fun i => lstG [AV.I IntKind.i64 (asI (asG (asA r0.fst 2) i 0)), AV.B (asB (asG (asA r0.fst 2) i 1))], AV.I IntKind.i64 (asI (asA r0.fst 3)), AV.I IntKind.i64 (asI (asA r0.fst 4)), AV.I IntKind.i64 (asI (asA r0.fst 5))]), AV.I IntKind.i64 2]), []))
                else
                  (none))
              else
                (bif n.p then
                  (bif bif bif okT then bif okT then true else false else false then true else false then
                    (some (AV.tup 2 (lstG [AV.ag 6 (lstG [AV.B false, AV.own (asN (asA r0.fst 1)) 1 fun i => lstG [AV.I IntKind.i64 (asI (asG (asA r0.fst 1) i 0))], AV.own (asN (asA r0.fst 2)) 2 fun i => lstG [AV.I IntKind.i64 (asI (asG (asA r0.fst 2) i 0)), AV.B (asB (asG (asA r0.fst 2) i 1))], AV.I IntKind.i64 (asI (asA r0.fst 3)), AV.I IntKind.i64 (asI (asA r0.fst 4)), AV.I IntKind.i64 (IntKind.i64.wrap (asI (asA r0.fst 5) + 1))]), AV.I IntKind.i64 0]), []))
                  else
                    (none))
                else
                  (bif decide (asN (asA r0.fst 1) + 1 ≤ 4294967296) && true && true && true && true then
                    (bif bif bif okT then bif okT then true else false else false then true else false then
                      (some (AV.tup 2 (lstG [AV.ag 6 (lstG [AV.B (asB (asA r0.fst 0)), AV.own (asN (asA r0.fst 1) + 1) 1 fun i => lstG [AV.I IntKind.i64 (bif decide (i < asN (asA r0.fst 1)) then asI (asG (asA r0.fst 1) i 0) else bif decide (i - asN (asA r0.fst 1) = 0) then a else 0)], AV.own (asN (asA r0.fst 2)) 2 fun i => lstG [AV.I IntKind.i64 (asI (asG (asA r0.fst 2) i 0)), AV.B (asB (asG (asA r0.fst 2) i 1))], AV.I IntKind.i64 (asI (asA r0.fst 3)), AV.I IntKind.i64 (asI (asA r0.fst 4)), AV.I IntKind.i64 (asI (asA r0.fst 5))]), AV.I IntKind.i64 4]), []))
                    else
                      (none))
                  else
                    (none))))
            else
              (bif n.p then
                (bif bif bif okT then bif okT then true else false else false then true else false then
                  (some (AV.tup 2 (lstG [AV.ag 6 (lstG [AV.B false, AV.own (asN (asA r0.fst 1)) 1 fun i => lstG [AV.I IntKind.i64 (asI (asG (asA r0.fst 1) i 0))], AV.own (asN (asA r0.fst 2)) 2 fun i => lstG [AV.I IntKind.i64 (asI (asG (asA r0.fst 2) i 0)), AV.B (asB (asG (asA r0.fst 2) i 1))], AV.I IntKind.i64 (asI (asA r0.fst 3)), AV.I IntKind.i64 (asI (asA r0.fst 4)), AV.I IntKind.i64 (IntKind.i64.wrap (asI (asA r0.fst 5) + 1))]), AV.I IntKind.i64 0]), []))
                else
                  (none))
              else
                (bif decide (asN (asA r0.fst 1) + 1 ≤ 4294967296) && true && true && true && true then
                  (bif bif bif okT then bif okT then true else false else false then true else false then
                    (some (AV.tup 2 (lstG [AV.ag 6 (lstG [AV.B (asB (asA r0.fst 0)), AV.own (asN (asA r0.fst 1) + 1) 1 fun i => lstG [AV.I IntKind.i64 (bif decide (i < asN (asA r0.fst 1)) then asI (asG (asA r0.fst 1) i 0) else bif decide (i - asN (asA r0.fst 1) = 0) then a else 0)], AV.own (asN (asA r0.fst 2)) 2 fun i => lstG [AV.I IntKind.i64 (asI (asG (asA r0.fst 2) i 0)), AV.B (asB (asG (asA r0.fst 2) i 1))], AV.I IntKind.i64 (asI (asA r0.fst 3)), AV.I IntKind.i64 (asI (asA r0.fst 4)), AV.I IntKind.i64 (asI (asA r0.fst 5))]), AV.I IntKind.i64 4]), []))
                  else
                    (none))
                else
                  (none)))))))) := by kernel_rfl
theorem e26 (Γ : Orc) (H : Hd) (xs : List Int) (a : Int) : ent Try.prog cfg Γ 26 H [slI xs, nI a] [] =
  H [true, false, true] (hdS [(0, AV.sl xs.length 1 (gI xs)), (1, AV.I IntKind.i64 a), (5, AV.I IntKind.i64 0)] [] []) := by kernel_rfl
theorem h26 (Γ : Orc) (H : Hd) (xs : List Int) (a i : Int) : hed Try.prog cfg Γ 26 H [] [true, false, true] (hdS [(0, slI xs), (1, nI a), (5, nI i)] [] []) =
  bif decide (i < zN xs.length) then
    (bif bif decide (0 ≤ i) then decide (i < zN xs.length) else false then
      (bif decide (xs.getD i.toNat 0 = a) then
        (some (AV.I IntKind.i64 i, []))
      else
        (H [true, false, true] (hdS [(0, AV.sl xs.length 1 (gI xs)), (1, AV.I IntKind.i64 a), (5, AV.I IntKind.i64 (IntKind.i64.wrap (i + 1)))] [] [])))
    else
      (none))
  else
    (some (AV.I IntKind.i64 (-1), [])) := by kernel_rfl
theorem e58 (Γ : Orc) (H : Hd) (cs : List Int) : ent Try.prog cfg Γ 58 H [.gv cs] [] =
  H [true, true, false, true] (hdS [(0, AV.gv cs), (3, AV.I IntKind.i64 (IntKind.i64.wrap (98098 + zN cs.length))), (4, AV.I IntKind.i64 0)] [] []) := by kernel_rfl
theorem h58 (Γ : Orc) (H : Hd) (cs : List Int) (h i : Int) : hed Try.prog cfg Γ 58 H [] [true, true, false, true] (hdS [(0, .gv cs), (3, nI h), (4, nI i)] [] []) =
  bif decide (i < zN cs.length) then
    (bif decide (i < 4000) then
      (bif bif decide (0 ≤ i) then decide (i < zN cs.length) else false then
        (H [true, true, false, true] (hdS [(0, AV.gv cs), (3, AV.I IntKind.i64 (IntKind.i64.wrap (zN (BitVec.ofInt 64 (IntKind.i64.wrap (IntKind.i64.wrap (IntKind.i64.wrap (h * 131) + IntKind.i64.wrap (cs.getD i.toNat 0)) + 7)) &&& BitVec.ofInt 64 1073741823).toNat))), (4, AV.I IntKind.i64 (IntKind.i64.wrap (i + 1)))] [] []))
      else
        (none))
    else
      (some (AV.nbx 3 (lstG [AV.gv cs, AV.I IntKind.i64 0, AV.I IntKind.i64 h]), [])))
  else
    (some (AV.nbx 3 (lstG [AV.gv cs, AV.I IntKind.i64 0, AV.I IntKind.i64 h]), [])) := by kernel_rfl
theorem e15g (Γ : Orc) (H : Hd) (cs : List Int) : ent Try.prog cfg Γ 15 H [.gv cs] [] =
  some (AV.B (decide (1048576 < zN cs.length)), []) := by kernel_rfl
theorem e86 (Γ : Orc) (H : Hd) (cs : List Int) (i h : Int) : ent Try.prog cfg Γ 86 H [.pb 0 0] [.nbx 3 (lstG [.gv cs, nI i, nI h])] =
  and2
  (bif decide (i < zN cs.length) then
      (bif bif decide (0 ≤ i) then decide (i < zN cs.length) else false then
        (some (AV.I IntKind.i64 (IntKind.i64.wrap (zN (BitVec.ofInt 64 (IntKind.i64.wrap (IntKind.i64.wrap (zN (BitVec.ofInt 64 (IntKind.i64.wrap (zN (BitVec.ofInt 64 ((IntKind.i64.wrap (IntKind.i64.wrap (h * 6364136223846793005) + 1442695040888963407)).fdiv 8589934592) ^^^ BitVec.ofInt 64 ((IntKind.i64.wrap (IntKind.i64.wrap (h * 6364136223846793005) + 1442695040888963407)).fdiv 35184372088832)).toNat)) &&& BitVec.ofInt 64 255).toNat) + IntKind.i64.wrap (cs.getD i.toNat 0))) &&& BitVec.ofInt 64 255).toNat)), [AV.nbx 3 (lstG [AV.gv cs, AV.I IntKind.i64 (IntKind.i64.wrap (i + 1)), AV.I IntKind.i64 (IntKind.i64.wrap (IntKind.i64.wrap (h * 6364136223846793005) + 1442695040888963407))])]))
      else
        (none))
    else
      (some (AV.I IntKind.i64 (IntKind.i64.wrap (zN (BitVec.ofInt 64 (IntKind.i64.wrap (zN (BitVec.ofInt 64 ((IntKind.i64.wrap (IntKind.i64.wrap (h * 6364136223846793005) + 1442695040888963407)).fdiv 8589934592) ^^^ BitVec.ofInt 64 ((IntKind.i64.wrap (IntKind.i64.wrap (h * 6364136223846793005) + 1442695040888963407)).fdiv 35184372088832)).toNat)) &&& BitVec.ofInt 64 255).toNat)), [AV.nbx 3 (lstG [AV.gv cs, AV.I IntKind.i64 i, AV.I IntKind.i64 (IntKind.i64.wrap (IntKind.i64.wrap (h * 6364136223846793005) + 1442695040888963407))])])))
  (bif decide (i < zN cs.length) then
      (bif bif decide (0 ≤ i) then decide (i < zN cs.length) else false then
        (some (AV.I IntKind.i64 (IntKind.i64.wrap (zN (BitVec.ofInt 64 (IntKind.i64.wrap (IntKind.i64.wrap (zN (BitVec.ofInt 64 (IntKind.i64.wrap (zN (BitVec.ofInt 64 ((IntKind.i64.wrap (IntKind.i64.wrap (h * 6364136223846793005) + 1442695040888963407)).fdiv 8589934592) ^^^ BitVec.ofInt 64 ((IntKind.i64.wrap (IntKind.i64.wrap (h * 6364136223846793005) + 1442695040888963407)).fdiv 35184372088832)).toNat)) &&& BitVec.ofInt 64 255).toNat) + IntKind.i64.wrap (cs.getD i.toNat 0))) &&& BitVec.ofInt 64 255).toNat)), [AV.nbx 3 (lstG [AV.gv cs, AV.I IntKind.i64 (IntKind.i64.wrap (i + 1)), AV.I IntKind.i64 (IntKind.i64.wrap (IntKind.i64.wrap (h * 6364136223846793005) + 1442695040888963407))])]))
      else
        (none))
    else
      (some (AV.I IntKind.i64 (IntKind.i64.wrap (zN (BitVec.ofInt 64 (IntKind.i64.wrap (zN (BitVec.ofInt 64 ((IntKind.i64.wrap (IntKind.i64.wrap (h * 6364136223846793005) + 1442695040888963407)).fdiv 8589934592) ^^^ BitVec.ofInt 64 ((IntKind.i64.wrap (IntKind.i64.wrap (h * 6364136223846793005) + 1442695040888963407)).fdiv 35184372088832)).toNat)) &&& BitVec.ofInt 64 255).toNat)), [AV.nbx 3 (lstG [AV.gv cs, AV.I IntKind.i64 i, AV.I IntKind.i64 (IntKind.i64.wrap (IntKind.i64.wrap (h * 6364136223846793005) + 1442695040888963407))])]))) := by kernel_rfl
theorem e75 (Γ : Orc) (H : Hd) (cs : List Int) (i h n : Int) : ent Try.prog cfg Γ 75 H [.pb 0 0, nI n] [.nbx 3 (lstG [.gv cs, nI i, nI h])] =
  bif decide (n ≤ 0) then
    (some (AV.I IntKind.i64 0, [AV.nbx 3 (lstG [AV.gv cs, AV.I IntKind.i64 i, AV.I IntKind.i64 h])]))
  else
    (bif decide (n ≤ 256) then
      (Option.bind (Γ 86 [AV.pb 0 0] [AV.nbx 3 (lstG [AV.gv cs, AV.I IntKind.i64 i, AV.I IntKind.i64 h])]) fun r2 =>
      bif !decide (n = 0) then
        (some (AV.I IntKind.i64 ((asI r2.fst).tmod n), [AV.nbx 3 (lstG [AV.gv (asV (asA (r2.snd.headD AV.bad) 0)), AV.I IntKind.i64 (asI (asA (r2.snd.headD AV.bad) 1)), AV.I IntKind.i64 (asI (asA (r2.snd.headD AV.bad) 2))])]))
      else
        (none))
    else
      (Option.bind (Γ 86 [AV.pb 0 0] [AV.nbx 3 (lstG [AV.gv cs, AV.I IntKind.i64 i, AV.I IntKind.i64 h])]) fun r2 =>
      Option.bind (Γ 86 [AV.pb 0 0] [AV.nbx 3 (lstG [AV.gv (asV (asA (r2.snd.headD AV.bad) 0)), AV.I IntKind.i64 (asI (asA (r2.snd.headD AV.bad) 1)), AV.I IntKind.i64 (asI (asA (r2.snd.headD AV.bad) 2))])]) fun r3 =>
      Option.bind (Γ 86 [AV.pb 0 0] [AV.nbx 3 (lstG [AV.gv (asV (asA (r3.snd.headD AV.bad) 0)), AV.I IntKind.i64 (asI (asA (r3.snd.headD AV.bad) 1)), AV.I IntKind.i64 (asI (asA (r3.snd.headD AV.bad) 2))])]) fun r4 =>
      Option.bind (Γ 86 [AV.pb 0 0] [AV.nbx 3 (lstG [AV.gv (asV (asA (r4.snd.headD AV.bad) 0)), AV.I IntKind.i64 (asI (asA (r4.snd.headD AV.bad) 1)), AV.I IntKind.i64 (asI (asA (r4.snd.headD AV.bad) 2))])]) fun r5 =>
      bif !decide (n = 0) then
        (some (AV.I IntKind.i64 ((IntKind.i64.wrap (IntKind.i64.wrap (IntKind.i64.wrap (IntKind.i64.wrap (asI r2.fst * 16777216) + IntKind.i64.wrap (asI r3.fst * 65536)) + IntKind.i64.wrap (asI r4.fst * 256)) + asI r5.fst)).tmod n), [AV.nbx 3 (lstG [AV.gv (asV (asA (r5.snd.headD AV.bad) 0)), AV.I IntKind.i64 (asI (asA (r5.snd.headD AV.bad) 1)), AV.I IntKind.i64 (asI (asA (r5.snd.headD AV.bad) 2))])]))
      else
        (none))) := by kernel_rfl
theorem e76 (Γ : Orc) (H : Hd) (cs : List Int) (i h n : Int) : ent Try.prog cfg Γ 76 H [.pb 0 0, nI n] [.nbx 3 (lstG [.gv cs, nI i, nI h])] =
  Option.bind (Γ 75 [AV.pb 0 0, AV.I IntKind.i64 n] [AV.nbx 3 (lstG [AV.gv cs, AV.I IntKind.i64 i, AV.I IntKind.i64 h])]) fun r0 =>
  some (AV.B (decide (asI r0.fst = 0)), [AV.nbx 3 (lstG [AV.gv (asV (asA (r0.snd.headD AV.bad) 0)), AV.I IntKind.i64 (asI (asA (r0.snd.headD AV.bad) 1)), AV.I IntKind.i64 (asI (asA (r0.snd.headD AV.bad) 2))])]) := by kernel_rfl
theorem e87 (Γ : Orc) (H : Hd) (cs : List Int) (i h : Int) (xs : List Int) : ent Try.prog cfg Γ 87 H [.pb 0 0, slI xs] [.nbx 3 (lstG [.gv cs, nI i, nI h])] =
  Option.bind (Γ 75 [AV.pb 0 0, AV.I IntKind.i64 (zN xs.length)] [AV.nbx 3 (lstG [AV.gv cs, AV.I IntKind.i64 i, AV.I IntKind.i64 h])]) fun r0 =>
  bif bif decide (0 ≤ asI r0.fst) then decide (asI r0.fst < zN xs.length) else false then
    (some (AV.I IntKind.i64 (xs.getD (asI r0.fst).toNat 0), [AV.nbx 3 (lstG [AV.gv (asV (asA (r0.snd.headD AV.bad) 0)), AV.I IntKind.i64 (asI (asA (r0.snd.headD AV.bad) 1)), AV.I IntKind.i64 (asI (asA (r0.snd.headD AV.bad) 2))])]))
  else
    (none) := by kernel_rfl
theorem e74 (Γ : Orc) (H : Hd) (cs : List Int) (i h n : Int) : ent Try.prog cfg Γ 74 H [.pb 0 0, nI n] [.nbx 3 (lstG [.gv cs, nI i, nI h])] =
  H [true, true, false, true] (hdS [(0, AV.pb 0 0), (1, AV.I IntKind.i64 n), (4, AV.pb 68 0), (5, AV.pb 69 0), (6, AV.I IntKind.i64 0)] [(712704, ⟨0, 1, fun i => lstG [AV.I IntKind.i64 0]⟩), (716800, ⟨0, 2, fun i => lstG [AV.I IntKind.i64 0, AV.B false]⟩)] [(0, 3, [AV.gv cs, AV.I IntKind.i64 i, AV.I IntKind.i64 h]), (68, 6, [AV.B false, AV.nsl 1 fun x => lstG [AV.I IntKind.i64 0], AV.nsl 2 fun x => lstG [AV.I IntKind.i64 0, AV.B false], AV.I IntKind.i64 0, AV.I IntKind.i64 0, AV.I IntKind.i64 0]), (69, 6, [AV.B false, AV.rf 712704, AV.rf 716800, AV.I IntKind.i64 0, AV.I IntKind.i64 0, AV.I IntKind.i64 0])]) := by kernel_rfl
theorem h74 (Γ : Orc) (H : Hd) (cs cs0 : List Int) (i0 h0 : Int) (n : NT) (i h st k : Int) : hed Try.prog cfg Γ 74 H [.nbx 3 (lstG [.gv cs0, nI i0, nI h0])] [true, true, false, true] (hdS [(0, .pb 0 0), (1, nI st), (4, .pb 68 0), (5, .pb 69 0), (6, nI k)] [(712704, ⟨n.l.length, 1, gI n.l⟩), (716800, ⟨n.g.length, 2, gG n.g⟩)] [(0, 3, [.gv cs, nI i, nI h]), (68, 6, [.B false, .nsl 1 (fun _ => lstG [nI 0]), .nsl 2 (fun _ => lstG [nI 0, .B false]), nI 0, nI 0, nI 0]), (69, 6, [.B n.p, .rf 712704, .rf 716800, nI n.o, nI n.s, nI n.t])]) =
  bif decide (k < st) then
    (Option.bind (Γ 75 [AV.pb 0 0, AV.I IntKind.i64 6] [AV.nbx 3 (lstG [AV.gv cs, AV.I IntKind.i64 i, AV.I IntKind.i64 h])]) fun r1 =>
    bif decide (asI r1.fst = 0) then
      (Option.bind (Γ 9 [AV.ag 6 (lstG [AV.B n.p, AV.sl n.l.length 1 (gI n.l), AV.sl n.g.length 2 (gG n.g), AV.I IntKind.i64 n.o, AV.I IntKind.i64 n.s, AV.I IntKind.i64 n.t])] []) fun r3 =>
      H [true, true, false, true] (hdS [(0, AV.pb 0 0), (1, AV.I IntKind.i64 st), (4, AV.pb 68 0), (5, AV.pb 69 0), (6, AV.I IntKind.i64 (IntKind.i64.wrap (k + 1)))] [(712704, ⟨asN (asA (asA r3.fst 0) 1), 1, fun i => lstG [AV.I IntKind.i64 (asI (asG (asA (asA r3.fst 0) 1) i 0))]⟩), (716800, ⟨asN (asA (asA r3.fst 0) 2), 2, fun i => lstG [AV.I IntKind.i64 (asI (asG (asA (asA r3.fst 0) 2) i 0)), AV.B (asB (asG (asA (asA r3.fst 0) 2) i 1))]⟩)] [(0, 3, [AV.gv (asV (asA (r1.snd.headD AV.bad) 0)), AV.I IntKind.i64 (asI (asA (r1.snd.headD AV.bad) 1)), AV.I IntKind.i64 (asI (asA (r1.snd.headD AV.bad) 2))]), (68, 6, [AV.B false, AV.nsl 1 fun x => lstG [AV.I IntKind.i64 0], AV.nsl 2 fun x => lstG [AV.I IntKind.i64 0, AV.B false], AV.I IntKind.i64 0, AV.I IntKind.i64 0, AV.I IntKind.i64 0]), (69, 6, [AV.B (asB (asA (asA r3.fst 0) 0)), AV.rf 712704, AV.rf 716800, AV.I IntKind.i64 (asI (asA (asA r3.fst 0) 3)), AV.I IntKind.i64 (asI (asA (asA r3.fst 0) 4)), AV.I IntKind.i64 (asI (asA (asA r3.fst 0) 5))])]))
    else
      (bif decide (asI r1.fst = 1) then
        (Option.bind (Γ 76 [AV.pb 0 0, AV.I IntKind.i64 3] [AV.nbx 3 (lstG [AV.gv (asV (asA (r1.snd.headD AV.bad) 0)), AV.I IntKind.i64 (asI (asA (r1.snd.headD AV.bad) 1)), AV.I IntKind.i64 (asI (asA (r1.snd.headD AV.bad) 2))])]) fun r4 =>
        bif asB r4.fst then
          (Option.bind (Γ 85 [AV.ag 6 (lstG [AV.B n.p, AV.sl n.l.length 1 (gI n.l), AV.sl n.g.length 2 (gG n.g), AV.I IntKind.i64 n.o, AV.I IntKind.i64 n.s, AV.I IntKind.i64 n.t])] []) fun r6 =>
          H [true, true, false, true] (hdS [(0, AV.pb 0 0), (1, AV.I IntKind.i64 st), (4, AV.pb 68 0), (5, AV.pb 69 0), (6, AV.I IntKind.i64 (IntKind.i64.wrap (k + 1)))] [(712704, ⟨asN (asA (asA r6.fst 0) 1), 1, fun i => lstG [AV.I IntKind.i64 (asI (asG (asA (asA r6.fst 0) 1) i 0))]⟩), (716800, ⟨asN (asA (asA r6.fst 0) 2), 2, fun i => lstG [AV.I IntKind.i64 (asI (asG (asA (asA r6.fst 0) 2) i 0)), AV.B (asB (asG (asA (asA r6.fst 0) 2) i 1))]⟩)] [(0, 3, [AV.gv (asV (asA (r4.snd.headD AV.bad) 0)), AV.I IntKind.i64 (asI (asA (r4.snd.headD AV.bad) 1)), AV.I IntKind.i64 (asI (asA (r4.snd.headD AV.bad) 2))]), (68, 6, [AV.B false, AV.nsl 1 fun x => lstG [AV.I IntKind.i64 0], AV.nsl 2 fun x => lstG [AV.I IntKind.i64 0, AV.B false], AV.I IntKind.i64 0, AV.I IntKind.i64 0, AV.I IntKind.i64 0]), (69, 6, [AV.B (asB (asA (asA r6.fst 0) 0)), AV.rf 712704, AV.rf 716800, AV.I IntKind.i64 (asI (asA (asA r6.fst 0) 3)), AV.I IntKind.i64 (asI (asA (asA r6.fst 0) 4)), AV.I IntKind.i64 (asI (asA (asA r6.fst 0) 5))])]))
        else
          (H [true, true, false, true] (hdS [(0, AV.pb 0 0), (1, AV.I IntKind.i64 st), (4, AV.pb 68 0), (5, AV.pb 69 0), (6, AV.I IntKind.i64 (IntKind.i64.wrap (k + 1)))] [(712704, ⟨n.l.length, 1, gI n.l⟩), (716800, ⟨n.g.length, 2, gG n.g⟩)] [(0, 3, [AV.gv (asV (asA (r4.snd.headD AV.bad) 0)), AV.I IntKind.i64 (asI (asA (r4.snd.headD AV.bad) 1)), AV.I IntKind.i64 (asI (asA (r4.snd.headD AV.bad) 2))]), (68, 6, [AV.B false, AV.nsl 1 fun x => lstG [AV.I IntKind.i64 0], AV.nsl 2 fun x => lstG [AV.I IntKind.i64 0, AV.B false], AV.I IntKind.i64 0, AV.I IntKind.i64 0, AV.I IntKind.i64 0]), (69, 6, [AV.B n.p, AV.rf 712704, AV.rf 716800, AV.I IntKind.i64 n.o, AV.I IntKind.i64 n.s, AV.I IntKind.i64 n.t])])))
      else
        (bif decide (asI r1.fst = 2) then
          (bif decide (0 < zN n.g.length) then
            (and2
            (and2
              (and2
                (Option.bind (Γ 75 [AV.pb 0 0, AV.I IntKind.i64 (zN n.g.length)] [AV.nbx 3 (lstG [AV.gv (asV (asA (r1.snd.headD AV.bad) 0)), AV.I IntKind.i64 (asI (asA (r1.snd.headD AV.bad) 1)), AV.I IntKind.i64 (asI (asA (r1.snd.headD AV.bad) 2))])]) fun r9 =>
                  bif bif decide (0 ≤ asI r9.fst) then decide (asI r9.fst < zN n.g.length) else false then
                    (and2
                    (Option.bind (Γ 20 [AV.ag 6 (lstG [AV.B n.p, AV.sl n.l.length 1 (gI n.l), AV.sl n.g.length 2 (gG n.g), AV.I IntKind.i64 n.o, AV.I IntKind.i64 n.s, AV.I IntKind.i64 n.t]), AV.I IntKind.i64 (n.g.getD (asI r9.fst).toNat (0, false)).fst] []) fun r12 =>
                      H [true, true, false, true] (hdS [(0, AV.pb 0 0), (1, AV.I IntKind.i64 st), (4, AV.pb 68 0), (5, AV.pb 69 0), (6, AV.I IntKind.i64 (IntKind.i64.wrap (k + 1)))] [(712704, ⟨asN (asA (asA r12.fst 0) 1), 1, fun i => lstG [AV.I IntKind.i64 (asI (asG (asA (asA r12.fst 0) 1) i 0))]⟩), (716800, ⟨asN (asA (asA r12.fst 0) 2), 2, fun i => lstG [AV.I IntKind.i64 (asI (asG (asA (asA r12.fst 0) 2) i 0)), AV.B (asB (asG (asA (asA r12.fst 0) 2) i 1))]⟩)] [(0, 3, [AV.gv (asV (asA (r9.snd.headD AV.bad) 0)), AV.I IntKind.i64 (asI (asA (r9.snd.headD AV.bad) 1)), AV.I IntKind.i64 (asI (asA (r9.snd.headD AV.bad) 2))]), (68, 6, [AV.B false, AV.nsl 1 fun x => lstG [AV.I IntKind.i64 0], AV.nsl 2 fun x => lstG [AV.I IntKind.i64 0, AV.B false], AV.I IntKind.i64 0, AV.I IntKind.i64 0, AV.I IntKind.i64 0]), (69, 6, [AV.B (asB (asA (asA r12.fst 0) 0)), AV.rf 712704, AV.rf 716800, AV.I IntKind.i64 (asI (asA (asA r12.fst 0) 3)), AV.I IntKind.i64 (asI (asA (asA r12.fst 0) 4)), AV.I IntKind.i64 (asI (asA (asA r12.fst 0) 5))])]))
                    (Option.bind (Γ 20 [AV.ag 6 (lstG [AV.B n.p, AV.sl n.l.length 1 (gI n.l), AV.sl n.g.length 2 (gG n.g), AV.I IntKind.i64 n.o, AV.I IntKind.i64 n.s, AV.I IntKind.i64 n.t]), AV.I IntKind.i64 (n.g.getD (asI r9.fst).toNat (0, false)).fst] []) fun r12 =>
                      H [true, true, false, true] (hdS [(0, AV.pb 0 0), (1, AV.I IntKind.i64 st), (4, AV.pb 68 0), (5, AV.pb 69 0), (6, AV.I IntKind.i64 (IntKind.i64.wrap (k + 1)))] [(712704, ⟨asN (asA (asA r12.fst 0) 1), 1, fun i => lstG [AV.I IntKind.i64 (asI (asG (asA (asA r12.fst 0) 1) i 0))]⟩), (716800, ⟨asN (asA (asA r12.fst 0) 2), 2, fun i => lstG [AV.I IntKind.i64 (asI (asG (asA (asA r12.fst 0) 2) i 0)), AV.B (asB (asG (asA (asA r12.fst 0) 2) i 1))]⟩)] [(0, 3, [AV.gv (asV (asA (r9.snd.headD AV.bad) 0)), AV.I IntKind.i64 (asI (asA (r9.snd.headD AV.bad) 1)), AV.I IntKind.i64 (asI (asA (r9.snd.headD AV.bad) 2))]), (68, 6, [AV.B false, AV.nsl 1 fun x => lstG [AV.I IntKind.i64 0], AV.nsl 2 fun x => lstG [AV.I IntKind.i64 0, AV.B false], AV.I IntKind.i64 0, AV.I IntKind.i64 0, AV.I IntKind.i64 0]), (69, 6, [AV.B (asB (asA (asA r12.fst 0) 0)), AV.rf 712704, AV.rf 716800, AV.I IntKind.i64 (asI (asA (asA r12.fst 0) 3)), AV.I IntKind.i64 (asI (asA (asA r12.fst 0) 4)), AV.I IntKind.i64 (asI (asA (asA r12.fst 0) 5))])])))
                  else
                    (none))
                (Option.bind (Γ 75 [AV.pb 0 0, AV.I IntKind.i64 (zN n.g.length)] [AV.nbx 3 (lstG [AV.gv (asV (asA (r1.snd.headD AV.bad) 0)), AV.I IntKind.i64 (asI (asA (r1.snd.headD AV.bad) 1)), AV.I IntKind.i64 (asI (asA (r1.snd.headD AV.bad) 2))])]) fun r9 =>
                  bif bif decide (0 ≤ asI r9.fst) then decide (asI r9.fst < zN n.g.length) else false then
                    (Option.bind (Γ 20 [AV.ag 6 (lstG [AV.B n.p, AV.sl n.l.length 1 (gI n.l), AV.sl n.g.length 2 (gG n.g), AV.I IntKind.i64 n.o, AV.I IntKind.i64 n.s, AV.I IntKind.i64 n.t]), AV.I IntKind.i64 (n.g.getD (asI r9.fst).toNat (0, false)).fst] []) fun r11 =>
                    H [true, true, false, true] (hdS [(0, AV.pb 0 0), (1, AV.I IntKind.i64 st), (4, AV.pb 68 0), (5, AV.pb 69 0), (6, AV.I IntKind.i64 (IntKind.i64.wrap (k + 1)))] [(712704, ⟨asN (asA (asA r11.fst 0) 1), 1, fun i => lstG [AV.I IntKind.i64 (asI (asG (asA (asA r11.fst 0) 1) i 0))]⟩), (716800, ⟨asN (asA (asA r11.fst 0) 2), 2, fun i => lstG [AV.I IntKind.i64 (asI (asG (asA (asA r11.fst 0) 2) i 0)), AV.B (asB (asG (asA (asA r11.fst 0) 2) i 1))]⟩)] [(0, 3, [AV.gv (asV (asA (r9.snd.headD AV.bad) 0)), AV.I IntKind.i64 (asI (asA (r9.snd.headD AV.bad) 1)), AV.I IntKind.i64 (asI (asA (r9.snd.headD AV.bad) 2))]), (68, 6, [AV.B false, AV.nsl 1 fun x => lstG [AV.I IntKind.i64 0], AV.nsl 2 fun x => lstG [AV.I IntKind.i64 0, AV.B false], AV.I IntKind.i64 0, AV.I IntKind.i64 0, AV.I IntKind.i64 0]), (69, 6, [AV.B (asB (asA (asA r11.fst 0) 0)), AV.rf 712704, AV.rf 716800, AV.I IntKind.i64 (asI (asA (asA r11.fst 0) 3)), AV.I IntKind.i64 (asI (asA (asA r11.fst 0) 4)), AV.I IntKind.i64 (asI (asA (asA r11.fst 0) 5))])]))
                  else
                    (none)))
              (and2
                (Option.bind (Γ 75 [AV.pb 0 0, AV.I IntKind.i64 (zN n.g.length)] [AV.nbx 3 (lstG [AV.gv (asV (asA (r1.snd.headD AV.bad) 0)), AV.I IntKind.i64 (asI (asA (r1.snd.headD AV.bad) 1)), AV.I IntKind.i64 (asI (asA (r1.snd.headD AV.bad) 2))])]) fun r9 =>
                  bif bif decide (0 ≤ asI r9.fst) then decide (asI r9.fst < zN n.g.length) else false then
                    (and2
                    (Option.bind (Γ 20 [AV.ag 6 (lstG [AV.B n.p, AV.sl n.l.length 1 (gI n.l), AV.sl n.g.length 2 (gG n.g), AV.I IntKind.i64 n.o, AV.I IntKind.i64 n.s, AV.I IntKind.i64 n.t]), AV.I IntKind.i64 (n.g.getD (asI r9.fst).toNat (0, false)).fst] []) fun r12 =>
                      H [true, true, false, true] (hdS [(0, AV.pb 0 0), (1, AV.I IntKind.i64 st), (4, AV.pb 68 0), (5, AV.pb 69 0), (6, AV.I IntKind.i64 (IntKind.i64.wrap (k + 1)))] [(712704, ⟨asN (asA (asA r12.fst 0) 1), 1, fun i => lstG [AV.I IntKind.i64 (asI (asG (asA (asA r12.fst 0) 1) i 0))]⟩), (716800, ⟨asN (asA (asA r12.fst 0) 2), 2, fun i => lstG [AV.I IntKind.i64 (asI (asG (asA (asA r12.fst 0) 2) i 0)), AV.B (asB (asG (asA (asA r12.fst 0) 2) i 1))]⟩)] [(0, 3, [AV.gv (asV (asA (r9.snd.headD AV.bad) 0)), AV.I IntKind.i64 (asI (asA (r9.snd.headD AV.bad) 1)), AV.I IntKind.i64 (asI (asA (r9.snd.headD AV.bad) 2))]), (68, 6, [AV.B false, AV.nsl 1 fun x => lstG [AV.I IntKind.i64 0], AV.nsl 2 fun x => lstG [AV.I IntKind.i64 0, AV.B false], AV.I IntKind.i64 0, AV.I IntKind.i64 0, AV.I IntKind.i64 0]), (69, 6, [AV.B (asB (asA (asA r12.fst 0) 0)), AV.rf 712704, AV.rf 716800, AV.I IntKind.i64 (asI (asA (asA r12.fst 0) 3)), AV.I IntKind.i64 (asI (asA (asA r12.fst 0) 4)), AV.I IntKind.i64 (asI (asA (asA r12.fst 0) 5))])]))
                    (Option.bind (Γ 20 [AV.ag 6 (lstG [AV.B n.p, AV.sl n.l.length 1 (gI n.l), AV.sl n.g.length 2 (gG n.g), AV.I IntKind.i64 n.o, AV.I IntKind.i64 n.s, AV.I IntKind.i64 n.t]), AV.I IntKind.i64 (n.g.getD (asI r9.fst).toNat (0, false)).fst] []) fun r12 =>
                      H [true, true, false, true] (hdS [(0, AV.pb 0 0), (1, AV.I IntKind.i64 st), (4, AV.pb 68 0), (5, AV.pb 69 0), (6, AV.I IntKind.i64 (IntKind.i64.wrap (k + 1)))] [(712704, ⟨asN (asA (asA r12.fst 0) 1), 1, fun i => lstG [AV.I IntKind.i64 (asI (asG (asA (asA r12.fst 0) 1) i 0))]⟩), (716800, ⟨asN (asA (asA r12.fst 0) 2), 2, fun i => lstG [AV.I IntKind.i64 (asI (asG (asA (asA r12.fst 0) 2) i 0)), AV.B (asB (asG (asA (asA r12.fst 0) 2) i 1))]⟩)] [(0, 3, [AV.gv (asV (asA (r9.snd.headD AV.bad) 0)), AV.I IntKind.i64 (asI (asA (r9.snd.headD AV.bad) 1)), AV.I IntKind.i64 (asI (asA (r9.snd.headD AV.bad) 2))]), (68, 6, [AV.B false, AV.nsl 1 fun x => lstG [AV.I IntKind.i64 0], AV.nsl 2 fun x => lstG [AV.I IntKind.i64 0, AV.B false], AV.I IntKind.i64 0, AV.I IntKind.i64 0, AV.I IntKind.i64 0]), (69, 6, [AV.B (asB (asA (asA r12.fst 0) 0)), AV.rf 712704, AV.rf 716800, AV.I IntKind.i64 (asI (asA (asA r12.fst 0) 3)), AV.I IntKind.i64 (asI (asA (asA r12.fst 0) 4)), AV.I IntKind.i64 (asI (asA (asA r12.fst 0) 5))])])))
                  else
                    (none))
                (and2
                  (Option.bind (Γ 75 [AV.pb 0 0, AV.I IntKind.i64 (zN n.g.length)] [AV.nbx 3 (lstG [AV.gv (asV (asA (r1.snd.headD AV.bad) 0)), AV.I IntKind.i64 (asI (asA (r1.snd.headD AV.bad) 1)), AV.I IntKind.i64 (asI (asA (r1.snd.headD AV.bad) 2))])]) fun r10 =>
                    bif bif decide (0 ≤ asI r10.fst) then decide (asI r10.fst < zN n.g.length) else false then
                      (Option.bind (Γ 20 [AV.ag 6 (lstG [AV.B n.p, AV.sl n.l.length 1 (gI n.l), AV.sl n.g.length 2 (gG n.g), AV.I IntKind.i64 n.o, AV.I IntKind.i64 n.s, AV.I IntKind.i64 n.t]), AV.I IntKind.i64 (n.g.getD (asI r10.fst).toNat (0, false)).fst] []) fun r12 =>
                      H [true, true, false, true] (hdS [(0, AV.pb 0 0), (1, AV.I IntKind.i64 st), (4, AV.pb 68 0), (5, AV.pb 69 0), (6, AV.I IntKind.i64 (IntKind.i64.wrap (k + 1)))] [(712704, ⟨asN (asA (asA r12.fst 0) 1), 1, fun i => lstG [AV.I IntKind.i64 (asI (asG (asA (asA r12.fst 0) 1) i 0))]⟩), (716800, ⟨asN (asA (asA r12.fst 0) 2), 2, fun i => lstG [AV.I IntKind.i64 (asI (asG (asA (asA r12.fst 0) 2) i 0)), AV.B (asB (asG (asA (asA r12.fst 0) 2) i 1))]⟩)] [(0, 3, [AV.gv (asV (asA (r10.snd.headD AV.bad) 0)), AV.I IntKind.i64 (asI (asA (r10.snd.headD AV.bad) 1)), AV.I IntKind.i64 (asI (asA (r10.snd.headD AV.bad) 2))]), (68, 6, [AV.B false, AV.nsl 1 fun x => lstG [AV.I IntKind.i64 0], AV.nsl 2 fun x => lstG [AV.I IntKind.i64 0, AV.B false], AV.I IntKind.i64 0, AV.I IntKind.i64 0, AV.I IntKind.i64 0]), (69, 6, [AV.B (asB (asA (asA r12.fst 0) 0)), AV.rf 712704, AV.rf 716800, AV.I IntKind.i64 (asI (asA (asA r12.fst 0) 3)), AV.I IntKind.i64 (asI (asA (asA r12.fst 0) 4)), AV.I IntKind.i64 (asI (asA (asA r12.fst 0) 5))])]))
                    else
                      (none))
                  (Option.bind (Γ 75 [AV.pb 0 0, AV.I IntKind.i64 (zN n.g.length)] [AV.nbx 3 (lstG [AV.gv (asV (asA (r1.snd.headD AV.bad) 0)), AV.I IntKind.i64 (asI (asA (r1.snd.headD AV.bad) 1)), AV.I IntKind.i64 (asI (asA (r1.snd.headD AV.bad) 2))])]) fun r10 =>
                    bif bif decide (0 ≤ asI r10.fst) then decide (asI r10.fst < zN n.g.length) else false then
                      (Option.bind (Γ 20 [AV.ag 6 (lstG [AV.B n.p, AV.sl n.l.length 1 (gI n.l), AV.sl n.g.length 2 (gG n.g), AV.I IntKind.i64 n.o, AV.I IntKind.i64 n.s, AV.I IntKind.i64 n.t]), AV.I IntKind.i64 (n.g.getD (asI r10.fst).toNat (0, false)).fst] []) fun r12 =>
                      H [true, true, false, true] (hdS [(0, AV.pb 0 0), (1, AV.I IntKind.i64 st), (4, AV.pb 68 0), (5, AV.pb 69 0), (6, AV.I IntKind.i64 (IntKind.i64.wrap (k + 1)))] [(712704, ⟨asN (asA (asA r12.fst 0) 1), 1, fun i => lstG [AV.I IntKind.i64 (asI (asG (asA (asA r12.fst 0) 1) i 0))]⟩), (716800, ⟨asN (asA (asA r12.fst 0) 2), 2, fun i => lstG [AV.I IntKind.i64 (asI (asG (asA (asA r12.fst 0) 2) i 0)), AV.B (asB (asG (asA (asA r12.fst 0) 2) i 1))]⟩)] [(0, 3, [AV.gv (asV (asA (r10.snd.headD AV.bad) 0)), AV.I IntKind.i64 (asI (asA (r10.snd.headD AV.bad) 1)), AV.I IntKind.i64 (asI (asA (r10.snd.headD AV.bad) 2))]), (68, 6, [AV.B false, AV.nsl 1 fun x => lstG [AV.I IntKind.i64 0], AV.nsl 2 fun x => lstG [AV.I IntKind.i64 0, AV.B false], AV.I IntKind.i64 0, AV.I IntKind.i64 0, AV.I IntKind.i64 0]), (69, 6, [AV.B (asB (asA (asA r12.fst 0) 0)), AV.rf 712704, AV.rf 716800, AV.I IntKind.i64 (asI (asA (asA r12.fst 0) 3)), AV.I IntKind.i64 (asI (asA (asA r12.fst 0) 4)), AV.I IntKind.i64 (asI (asA (asA r12.fst 0) 5))])]))
                    else
                      (none)))))
            (and2
              (and2
                (and2
                  (Option.bind (Γ 75 [AV.pb 0 0, AV.I IntKind.i64 (zN n.g.length)] [AV.nbx 3 (lstG [AV.gv (asV (asA (r1.snd.headD AV.bad) 0)), AV.I IntKind.i64 (asI (asA (r1.snd.headD AV.bad) 1)), AV.I IntKind.i64 (asI (asA (r1.snd.headD AV.bad) 2))])]) fun r10 =>
                    bif bif decide (0 ≤ asI r10.fst) then decide (asI r10.fst < zN n.g.length) else false then
                      (and2
                      (Option.bind (Γ 20 [AV.ag 6 (lstG [AV.B n.p, AV.sl n.l.length 1 (gI n.l), AV.sl n.g.length 2 (gG n.g), AV.I IntKind.i64 n.o, AV.I IntKind.i64 n.s, AV.I IntKind.i64 n.t]), AV.I IntKind.i64 (n.g.getD (asI r10.fst).toNat (0, false)).fst] []) fun r13 =>
                        H [true, true, false, true] (hdS [(0, AV.pb 0 0), (1, AV.I IntKind.i64 st), (4, AV.pb 68 0), (5, AV.pb 69 0), (6, AV.I IntKind.i64 (IntKind.i64.wrap (k + 1)))] [(712704, ⟨asN (asA (asA r13.fst 0) 1), 1, fun i => lstG [AV.I IntKind.i64 (asI (asG (asA (asA r13.fst 0) 1) i 0))]⟩), (716800, ⟨asN (asA (asA r13.fst 0) 2), 2, fun i => lstG [AV.I IntKind.i64 (asI (asG (asA (asA r13.fst 0) 2) i 0)), AV.B (asB (asG (asA (asA r13.fst 0) 2) i 1))]⟩)] [(0, 3, [AV.gv (asV (asA (r10.snd.headD AV.bad) 0)), AV.I IntKind.i64 (asI (asA (r10.snd.headD AV.bad) 1)), AV.I IntKind.i64 (asI (asA (r10.snd.headD AV.bad) 2))]), (68, 6, [AV.B false, AV.nsl 1 fun x => lstG [AV.I IntKind.i64 0], AV.nsl 2 fun x => lstG [AV.I IntKind.i64 0, AV.B false], AV.I IntKind.i64 0, AV.I IntKind.i64 0, AV.I IntKind.i64 0]), (69, 6, [AV.B (asB (asA (asA r13.fst 0) 0)), AV.rf 712704, AV.rf 716800, AV.I IntKind.i64 (asI (asA (asA r13.fst 0) 3)), AV.I IntKind.i64 (asI (asA (asA r13.fst 0) 4)), AV.I IntKind.i64 (asI (asA (asA r13.fst 0) 5))])]))
                      (Option.bind (Γ 20 [AV.ag 6 (lstG [AV.B n.p, AV.sl n.l.length 1 (gI n.l), AV.sl n.g.length 2 (gG n.g), AV.I IntKind.i64 n.o, AV.I IntKind.i64 n.s, AV.I IntKind.i64 n.t]), AV.I IntKind.i64 (n.g.getD (asI r10.fst).toNat (0, false)).fst] []) fun r13 =>
                        H [true, true, false, true] (hdS [(0, AV.pb 0 0), (1, AV.I IntKind.i64 st), (4, AV.pb 68 0), (5, AV.pb 69 0), (6, AV.I IntKind.i64 (IntKind.i64.wrap (k + 1)))] [(712704, ⟨asN (asA (asA r13.fst 0) 1), 1, fun i => lstG [AV.I IntKind.i64 (asI (asG (asA (asA r13.fst 0) 1) i 0))]⟩), (716800, ⟨asN (asA (asA r13.fst 0) 2), 2, fun i => lstG [AV.I IntKind.i64 (asI (asG (asA (asA r13.fst 0) 2) i 0)), AV.B (asB (asG (asA (asA r13.fst 0) 2) i 1))]⟩)] [(0, 3, [AV.gv (asV (asA (r10.snd.headD AV.bad) 0)), AV.I IntKind.i64 (asI (asA (r10.snd.headD AV.bad) 1)), AV.I IntKind.i64 (asI (asA (r10.snd.headD AV.bad) 2))]), (68, 6, [AV.B false, AV.nsl 1 fun x => lstG [AV.I IntKind.i64 0], AV.nsl 2 fun x => lstG [AV.I IntKind.i64 0, AV.B false], AV.I IntKind.i64 0, AV.I IntKind.i64 0, AV.I IntKind.i64 0]), (69, 6, [AV.B (asB (asA (asA r13.fst 0) 0)), AV.rf 712704, AV.rf 716800, AV.I IntKind.i64 (asI (asA (asA r13.fst 0) 3)), AV.I IntKind.i64 (asI (asA (asA r13.fst 0) 4)), AV.I IntKind.i64 (asI (asA (asA r13.fst 0) 5))])])))
                    else
                      (none))
                  (Option.bind (Γ 75 [AV.pb 0 0, AV.I IntKind.i64 (zN n.g.length)] [AV.nbx 3 (lstG [AV.gv (asV (asA (r1.snd.headD AV.bad) 0)), AV.I IntKind.i64 (asI (asA (r1.snd.headD AV.bad) 1)), AV.I IntKind.i64 (asI (asA (r1.snd.headD AV.bad) 2))])]) fun r10 =>
                    bif bif decide (0 ≤ asI r10.fst) then decide (asI r10.fst < zN n.g.length) else false then
                      (Option.bind (Γ 20 [AV.ag 6 (lstG [AV.B n.p, AV.sl n.l.length 1 (gI n.l), AV.sl n.g.length 2 (gG n.g), AV.I IntKind.i64 n.o, AV.I IntKind.i64 n.s, AV.I IntKind.i64 n.t]), AV.I IntKind.i64 (n.g.getD (asI r10.fst).toNat (0, false)).fst] []) fun r12 =>
                      H [true, true, false, true] (hdS [(0, AV.pb 0 0), (1, AV.I IntKind.i64 st), (4, AV.pb 68 0), (5, AV.pb 69 0), (6, AV.I IntKind.i64 (IntKind.i64.wrap (k + 1)))] [(712704, ⟨asN (asA (asA r12.fst 0) 1), 1, fun i => lstG [AV.I IntKind.i64 (asI (asG (asA (asA r12.fst 0) 1) i 0))]⟩), (716800, ⟨asN (asA (asA r12.fst 0) 2), 2, fun i => lstG [AV.I IntKind.i64 (asI (asG (asA (asA r12.fst 0) 2) i 0)), AV.B (asB (asG (asA (asA r12.fst 0) 2) i 1))]⟩)] [(0, 3, [AV.gv (asV (asA (r10.snd.headD AV.bad) 0)), AV.I IntKind.i64 (asI (asA (r10.snd.headD AV.bad) 1)), AV.I IntKind.i64 (asI (asA (r10.snd.headD AV.bad) 2))]), (68, 6, [AV.B false, AV.nsl 1 fun x => lstG [AV.I IntKind.i64 0], AV.nsl 2 fun x => lstG [AV.I IntKind.i64 0, AV.B false], AV.I IntKind.i64 0, AV.I IntKind.i64 0, AV.I IntKind.i64 0]), (69, 6, [AV.B (asB (asA (asA r12.fst 0) 0)), AV.rf 712704, AV.rf 716800, AV.I IntKind.i64 (asI (asA (asA r12.fst 0) 3)), AV.I IntKind.i64 (asI (asA (asA r12.fst 0) 4)), AV.I IntKind.i64 (asI (asA (asA r12.fst 0) 5))])]))
                    else
                      (none)))
                (and2
                  (Option.bind (Γ 75 [AV.pb 0 0, AV.I IntKind.i64 (zN n.g.length)] [AV.nbx 3 (lstG [AV.gv (asV (asA (r1.snd.headD AV.bad) 0)), AV.I IntKind.i64 (asI (asA (r1.snd.headD AV.bad) 1)), AV.I IntKind.i64 (asI (asA (r1.snd.headD AV.bad) 2))])]) fun r10 =>
                    bif bif decide (0 ≤ asI r10.fst) then decide (asI r10.fst < zN n.g.length) else false then
                      (and2
                      (Option.bind (Γ 20 [AV.ag 6 (lstG [AV.B n.p, AV.sl n.l.length 1 (gI n.l), AV.sl n.g.length 2 (gG n.g), AV.I IntKind.i64 n.o, AV.I IntKind.i64 n.s, AV.I IntKind.i64 n.t]), AV.I IntKind.i64 (n.g.getD (asI r10.fst).toNat (0, false)).fst] []) fun r13 =>
                        H [true, true, false, true] (hdS [(0, AV.pb 0 0), (1, AV.I IntKind.i64 st), (4, AV.pb 68 0), (5, AV.pb 69 0), (6, AV.I IntKind.i64 (IntKind.i64.wrap (k + 1)))] [(712704, ⟨asN (asA (asA r13.fst 0) 1), 1, fun i => lstG [AV.I IntKind.i64 (asI (asG (asA (asA r13.fst 0) 1) i 0))]⟩), (716800, ⟨asN (asA (asA r13.fst 0) 2), 2, fun i => lstG [AV.I IntKind.i64 (asI (asG (asA (asA r13.fst 0) 2) i 0)), AV.B (asB (asG (asA (asA r13.fst 0) 2) i 1))]⟩)] [(0, 3, [AV.gv (asV (asA (r10.snd.headD AV.bad) 0)), AV.I IntKind.i64 (asI (asA (r10.snd.headD AV.bad) 1)), AV.I IntKind.i64 (asI (asA (r10.snd.headD AV.bad) 2))]), (68, 6, [AV.B false, AV.nsl 1 fun x => lstG [AV.I IntKind.i64 0], AV.nsl 2 fun x => lstG [AV.I IntKind.i64 0, AV.B false], AV.I IntKind.i64 0, AV.I IntKind.i64 0, AV.I IntKind.i64 0]), (69, 6, [AV.B (asB (asA (asA r13.fst 0) 0)), AV.rf 712704, AV.rf 716800, AV.I IntKind.i64 (asI (asA (asA r13.fst 0) 3)), AV.I IntKind.i64 (asI (asA (asA r13.fst 0) 4)), AV.I IntKind.i64 (asI (asA (asA r13.fst 0) 5))])]))
                      (Option.bind (Γ 20 [AV.ag 6 (lstG [AV.B n.p, AV.sl n.l.length 1 (gI n.l), AV.sl n.g.length 2 (gG n.g), AV.I IntKind.i64 n.o, AV.I IntKind.i64 n.s, AV.I IntKind.i64 n.t]), AV.I IntKind.i64 (n.g.getD (asI r10.fst).toNat (0, false)).fst] []) fun r13 =>
                        H [true, true, false, true] (hdS [(0, AV.pb 0 0), (1, AV.I IntKind.i64 st), (4, AV.pb 68 0), (5, AV.pb 69 0), (6, AV.I IntKind.i64 (IntKind.i64.wrap (k + 1)))] [(712704, ⟨asN (asA (asA r13.fst 0) 1), 1, fun i => lstG [AV.I IntKind.i64 (asI (asG (asA (asA r13.fst 0) 1) i 0))]⟩), (716800, ⟨asN (asA (asA r13.fst 0) 2), 2, fun i => lstG [AV.I IntKind.i64 (asI (asG (asA (asA r13.fst 0) 2) i 0)), AV.B (asB (asG (asA (asA r13.fst 0) 2) i 1))]⟩)] [(0, 3, [AV.gv (asV (asA (r10.snd.headD AV.bad) 0)), AV.I IntKind.i64 (asI (asA (r10.snd.headD AV.bad) 1)), AV.I IntKind.i64 (asI (asA (r10.snd.headD AV.bad) 2))]), (68, 6, [AV.B false, AV.nsl 1 fun x => lstG [AV.I IntKind.i64 0], AV.nsl 2 fun x => lstG [AV.I IntKind.i64 0, AV.B false], AV.I IntKind.i64 0, AV.I IntKind.i64 0, AV.I IntKind.i64 0]), (69, 6, [AV.B (asB (asA (asA r13.fst 0) 0)), AV.rf 712704, AV.rf 716800, AV.I IntKind.i64 (asI (asA (asA r13.fst 0) 3)), AV.I IntKind.i64 (asI (asA (asA r13.fst 0) 4)), AV.I IntKind.i64 (asI (asA (asA r13.fst 0) 5))])])))
                    else
                      (none))
                  (and2
                    (Option.bind (Γ 75 [AV.pb 0 0, AV.I IntKind.i64 (zN n.g.length)] [AV.nbx 3 (lstG [AV.gv (asV (asA (r1.snd.headD AV.bad) 0)), AV.I IntKind.i64 (asI (asA (r1.snd.headD AV.bad) 1)), AV.I IntKind.i64 (asI (asA (r1.snd.headD AV.bad) 2))])]) fun r11 =>
                      bif bif decide (0 ≤ asI r11.fst) then decide (asI r11.fst < zN n.g.length) else false then
                        (Option.bind (Γ 20 [AV.ag 6 (lstG [AV.B n.p, AV.sl n.l.length 1 (gI n.l), AV.sl n.g.length 2 (gG n.g), AV.I IntKind.i64 n.o, AV.I IntKind.i64 n.s, AV.I IntKind.i64 n.t]), AV.I IntKind.i64 (n.g.getD (asI r11.fst).toNat (0, false)).fst] []) fun r13 =>
                        H [true, true, false, true] (hdS [(0, AV.pb 0 0), (1, AV.I IntKind.i64 st), (4, AV.pb 68 0), (5, AV.pb 69 0), (6, AV.I IntKind.i64 (IntKind.i64.wrap (k + 1)))] [(712704, ⟨asN (asA (asA r13.fst 0) 1), 1, fun i => lstG [AV.I IntKind.i64 (asI (asG (asA (asA r13.fst 0) 1) i 0))]⟩), (716800, ⟨asN (asA (asA r13.fst 0) 2), 2, fun i => lstG [AV.I IntKind.i64 (asI (asG (asA (asA r13.fst 0) 2) i 0)), AV.B (asB (asG (asA (asA r13.fst 0) 2) i 1))]⟩)] [(0, 3, [AV.gv (asV (asA (r11.snd.headD AV.bad) 0)), AV.I IntKind.i64 (asI (asA (r11.snd.headD AV.bad) 1)), AV.I IntKind.i64 (asI (asA (r11.snd.headD AV.bad) 2))]), (68, 6, [AV.B false, AV.nsl 1 fun x => lstG [AV.I IntKind.i64 0], AV.nsl 2 fun x => lstG [AV.I IntKind.i64 0, AV.B false], AV.I IntKind.i64 0, AV.I IntKind.i64 0, AV.I IntKind.i64 0]), (69, 6, [AV.B (asB (asA (asA r13.fst 0) 0)), AV.rf 712704, AV.rf 716800, AV.I IntKind.i64 (asI (asA (asA r13.fst 0) 3)), AV.I IntKind.i64 (asI (asA (asA r13.fst 0) 4)), AV.I IntKind.i64 (asI (asA (asA r13.fst 0) 5))])]))
                      else
                        (none))
                    (Option.bind (Γ 75 [AV.pb 0 0, AV.I IntKind.i64 (zN n.g.length)] [AV.nbx 3 (lstG [AV.gv (asV (asA (r1.snd.headD AV.bad) 0)), AV.I IntKind.i64 (asI (asA (r1.snd.headD AV.bad) 1)), AV.I IntKind.i64 (asI (asA (r1.snd.headD AV.bad) 2))])]) fun r11 =>
                      bif bif decide (0 ≤ asI r11.fst) then decide (asI r11.fst < zN n.g.length) else false then
                        (Option.bind (Γ 20 [AV.ag 6 (lstG [AV.B n.p, AV.sl n.l.length 1 (gI n.l), AV.sl n.g.length 2 (gG n.g), AV.I IntKind.i64 n.o, AV.I IntKind.i64 n.s, AV.I IntKind.i64 n.t]), AV.I IntKind.i64 (n.g.getD (asI r11.fst).toNat (0, false)).fst] []) fun r13 =>
                        H [true, true, false, true] (hdS [(0, AV.pb 0 0), (1, AV.I IntKind.i64 st), (4, AV.pb 68 0), (5, AV.pb 69 0), (6, AV.I IntKind.i64 (IntKind.i64.wrap (k + 1)))] [(712704, ⟨asN (asA (asA r13.fst 0) 1), 1, fun i => lstG [AV.I IntKind.i64 (asI (asG (asA (asA r13.fst 0) 1) i 0))]⟩), (716800, ⟨asN (asA (asA r13.fst 0) 2), 2, fun i => lstG [AV.I IntKind.i64 (asI (asG (asA (asA r13.fst 0) 2) i 0)), AV.B (asB (asG (asA (asA r13.fst 0) 2) i 1))]⟩)] [(0, 3, [AV.gv (asV (asA (r11.snd.headD AV.bad) 0)), AV.I IntKind.i64 (asI (asA (r11.snd.headD AV.bad) 1)), AV.I IntKind.i64 (asI (asA (r11.snd.headD AV.bad) 2))]), (68, 6, [AV.B false, AV.nsl 1 fun x => lstG [AV.I IntKind.i64 0], AV.nsl 2 fun x => lstG [AV.I IntKind.i64 0, AV.B false], AV.I IntKind.i64 0, AV.I IntKind.i64 0, AV.I IntKind.i64 0]), (69, 6, [AV.B (asB (asA (asA r13.fst 0) 0)), AV.rf 712704, AV.rf 716800, AV.I IntKind.i64 (asI (asA (asA r13.fst 0) 3)), AV.I IntKind.i64 (asI (asA (asA r13.fst 0) 4)), AV.I IntKind.i64 (asI (asA (asA r13.fst 0) 5))])]))
                      else
                        (none)))))
              (and2
                (Option.bind (Γ 75 [AV.pb 0 0, AV.I IntKind.i64 (zN n.g.length)] [AV.nbx 3 (lstG [AV.gv (asV (asA (r1.snd.headD AV.bad) 0)), AV.I IntKind.i64 (asI (asA (r1.snd.headD AV.bad) 1)), AV.I IntKind.i64 (asI (asA (r1.snd.headD AV.bad) 2))])]) fun r9 =>
                  bif bif decide (0 ≤ asI r9.fst) then decide (asI r9.fst < zN n.g.length) else false then
                    (and2
                    (Option.bind (Γ 20 [AV.ag 6 (lstG [AV.B n.p, AV.sl n.l.length 1 (gI n.l), AV.sl n.g.length 2 (gG n.g), AV.I IntKind.i64 n.o, AV.I IntKind.i64 n.s, AV.I IntKind.i64 n.t]), AV.I IntKind.i64 (n.g.getD (asI r9.fst).toNat (0, false)).fst] []) fun r12 =>
                      H [true, true, false, true] (hdS [(0, AV.pb 0 0), (1, AV.I IntKind.i64 st), (4, AV.pb 68 0), (5, AV.pb 69 0), (6, AV.I IntKind.i64 (IntKind.i64.wrap (k + 1)))] [(712704, ⟨asN (asA (asA r12.fst 0) 1), 1, fun i => lstG [AV.I IntKind.i64 (asI (asG (asA (asA r12.fst 0) 1) i 0))]⟩), (716800, ⟨asN (asA (asA r12.fst 0) 2), 2, fun i => lstG [AV.I IntKind.i64 (asI (asG (asA (asA r12.fst 0) 2) i 0)), AV.B (asB (asG (asA (asA r12.fst 0) 2) i 1))]⟩)] [(0, 3, [AV.gv (asV (asA (r9.snd.headD AV.bad) 0)), AV.I IntKind.i64 (asI (asA (r9.snd.headD AV.bad) 1)), AV.I IntKind.i64 (asI (asA (r9.snd.headD AV.bad) 2))]), (68, 6, [AV.B false, AV.nsl 1 fun x => lstG [AV.I IntKind.i64 0], AV.nsl 2 fun x => lstG [AV.I IntKind.i64 0, AV.B false], AV.I IntKind.i64 0, AV.I IntKind.i64 0, AV.I IntKind.i64 0]), (69, 6, [AV.B (asB (asA (asA r12.fst 0) 0)), AV.rf 712704, AV.rf 716800, AV.I IntKind.i64 (asI (asA (asA r12.fst 0) 3)), AV.I IntKind.i64 (asI (asA (asA r12.fst 0) 4)), AV.I IntKind.i64 (asI (asA (asA r12.fst 0) 5))])]))
                    (Option.bind (Γ 20 [AV.ag 6 (lstG [AV.B n.p, AV.sl n.l.length 1 (gI n.l), AV.sl n.g.length 2 (gG n.g), AV.I IntKind.i64 n.o, AV.I IntKind.i64 n.s, AV.I IntKind.i64 n.t]), AV.I IntKind.i64 (n.g.getD (asI r9.fst).toNat (0, false)).fst] []) fun r12 =>
                      H [true, true, false, true] (hdS [(0, AV.pb 0 0), (1, AV.I IntKind.i64 st), (4, AV.pb 68 0), (5, AV.pb 69 0), (6, AV.I IntKind.i64 (IntKind.i64.wrap (k + 1)))] [(712704, ⟨asN (asA (asA r12.fst 0) 1), 1, fun i => lstG [AV.I IntKind.i64 (asI (asG (asA (asA r12.fst 0) 1) i 0))]⟩), (716800, ⟨asN (asA (asA r12.fst 0) 2), 2, fun i => lstG [AV.I IntKind.i64 (asI (asG (asA (asA r12.fst 0) 2) i 0)), AV.B (asB (asG (asA (asA r12.fst 0) 2) i 1))]⟩)] [(0, 3, [AV.gv (asV (asA (r9.snd.headD AV.bad) 0)), AV.I IntKind.i64 (asI (asA (r9.snd.headD AV.bad) 1)), AV.I IntKind.i64 (asI (asA (r9.snd.headD AV.bad) 2))]), (68, 6, [AV.B false, AV.nsl 1 fun x => lstG [AV.I IntKind.i64 0], AV.nsl 2 fun x => lstG [AV.I IntKind.i64 0, AV.B false], AV.I IntKind.i64 0, AV.I IntKind.i64 0, AV.I IntKind.i64 0]), (69, 6, [AV.B (asB (asA (asA r12.fst 0) 0)), AV.rf 712704, AV.rf 716800, AV.I IntKind.i64 (asI (asA (asA r12.fst 0) 3)), AV.I IntKind.i64 (asI (asA (asA r12.fst 0) 4)), AV.I IntKind.i64 (asI (asA (asA r12.fst 0) 5))])])))
                  else
                    (none))
                (and2
                  (and2
                    (Option.bind (Γ 75 [AV.pb 0 0, AV.I IntKind.i64 (zN n.g.length)] [AV.nbx 3 (lstG [AV.gv (asV (asA (r1.snd.headD AV.bad) 0)), AV.I IntKind.i64 (asI (asA (r1.snd.headD AV.bad) 1)), AV.I IntKind.i64 (asI (asA (r1.snd.headD AV.bad) 2))])]) fun r11 =>
                      bif bif decide (0 ≤ asI r11.fst) then decide (asI r11.fst < zN n.g.length) else false then
                        (Option.bind (Γ 20 [AV.ag 6 (lstG [AV.B n.p, AV.sl n.l.length 1 (gI n.l), AV.sl n.g.length 2 (gG n.g), AV.I IntKind.i64 n.o, AV.I IntKind.i64 n.s, AV.I IntKind.i64 n.t]), AV.I IntKind.i64 (n.g.getD (asI r11.fst).toNat (0, false)).fst] []) fun r13 =>
                        H [true, true, false, true] (hdS [(0, AV.pb 0 0), (1, AV.I IntKind.i64 st), (4, AV.pb 68 0), (5, AV.pb 69 0), (6, AV.I IntKind.i64 (IntKind.i64.wrap (k + 1)))] [(712704, ⟨asN (asA (asA r13.fst 0) 1), 1, fun i => lstG [AV.I IntKind.i64 (asI (asG (asA (asA r13.fst 0) 1) i 0))]⟩), (716800, ⟨asN (asA (asA r13.fst 0) 2), 2, fun i => lstG [AV.I IntKind.i64 (asI (asG (asA (asA r13.fst 0) 2) i 0)), AV.B (asB (asG (asA (asA r13.fst 0) 2) i 1))]⟩)] [(0, 3, [AV.gv (asV (asA (r11.snd.headD AV.bad) 0)), AV.I IntKind.i64 (asI (asA (r11.snd.headD AV.bad) 1)), AV.I IntKind.i64 (asI (asA (r11.snd.headD AV.bad) 2))]), (68, 6, [AV.B false, AV.nsl 1 fun x => lstG [AV.I IntKind.i64 0], AV.nsl 2 fun x => lstG [AV.I IntKind.i64 0, AV.B false], AV.I IntKind.i64 0, AV.I IntKind.i64 0, AV.I IntKind.i64 0]), (69, 6, [AV.B (asB (asA (asA r13.fst 0) 0)), AV.rf 712704, AV.rf 716800, AV.I IntKind.i64 (asI (asA (asA r13.fst 0) 3)), AV.I IntKind.i64 (asI (asA (asA r13.fst 0) 4)), AV.I IntKind.i64 (asI (asA (asA r13.fst 0) 5))])]))
                      else
                        (none))
                    (Option.bind (Γ 75 [AV.pb 0 0, AV.I IntKind.i64 (zN n.g.length)] [AV.nbx 3 (lstG [AV.gv (asV (asA (r1.snd.headD AV.bad) 0)), AV.I IntKind.i64 (asI (asA (r1.snd.headD AV.bad) 1)), AV.I IntKind.i64 (asI (asA (r1.snd.headD AV.bad) 2))])]) fun r11 =>
                      bif bif decide (0 ≤ asI r11.fst) then decide (asI r11.fst < zN n.g.length) else false then
                        (Option.bind (Γ 20 [AV.ag 6 (lstG [AV.B n.p, AV.sl n.l.length 1 (gI n.l), AV.sl n.g.length 2 (gG n.g), AV.I IntKind.i64 n.o, AV.I IntKind.i64 n.s, AV.I IntKind.i64 n.t]), AV.I IntKind.i64 (n.g.getD (asI r11.fst).toNat (0, false)).fst] []) fun r13 =>
                        H [true, true, false, true] (hdS [(0, AV.pb 0 0), (1, AV.I IntKind.i64 st), (4, AV.pb 68 0), (5, AV.pb 69 0), (6, AV.I IntKind.i64 (IntKind.i64.wrap (k + 1)))] [(712704, ⟨asN (asA (asA r13.fst 0) 1), 1, fun i => lstG [AV.I IntKind.i64 (asI (asG (asA (asA r13.fst 0) 1) i 0))]⟩), (716800, ⟨asN (asA (asA r13.fst 0) 2), 2, fun i => lstG [AV.I IntKind.i64 (asI (asG (asA (asA r13.fst 0) 2) i 0)), AV.B (asB (asG (asA (asA r13.fst 0) 2) i 1))]⟩)] [(0, 3, [AV.gv (asV (asA (r11.snd.headD AV.bad) 0)), AV.I IntKind.i64 (asI (asA (r11.snd.headD AV.bad) 1)), AV.I IntKind.i64 (asI (asA (r11.snd.headD AV.bad) 2))]), (68, 6, [AV.B false, AV.nsl 1 fun x => lstG [AV.I IntKind.i64 0], AV.nsl 2 fun x => lstG [AV.I IntKind.i64 0, AV.B false], AV.I IntKind.i64 0, AV.I IntKind.i64 0, AV.I IntKind.i64 0]), (69, 6, [AV.B (asB (asA (asA r13.fst 0) 0)), AV.rf 712704, AV.rf 716800, AV.I IntKind.i64 (asI (asA (asA r13.fst 0) 3)), AV.I IntKind.i64 (asI (asA (asA r13.fst 0) 4)), AV.I IntKind.i64 (asI (asA (asA r13.fst 0) 5))])]))
                      else
                        (none)))
                  (and2
                    (and2
                      (Option.bind (Γ 75 [AV.pb 0 0, AV.I IntKind.i64 (zN n.g.length)] [AV.nbx 3 (lstG [AV.gv (asV (asA (r1.snd.headD AV.bad) 0)), AV.I IntKind.i64 (asI (asA (r1.snd.headD AV.bad) 1)), AV.I IntKind.i64 (asI (asA (r1.snd.headD AV.bad) 2))])]) fun r12 =>
                        bif bif decide (0 ≤ asI r12.fst) then decide (asI r12.fst < zN n.g.length) else false then
                          (Option.bind (Γ 20 [AV.ag 6 (lstG [AV.B n.p, AV.sl n.l.length 1 (gI n.l), AV.sl n.g.length 2 (gG n.g), AV.I IntKind.i64 n.o, AV.I IntKind.i64 n.s, AV.I IntKind.i64 n.t]), AV.I IntKind.i64 (n.g.getD (asI r12.fst).toNat (0, false)).fst] []) fun r14 =>
                          H [true, true, false, true] (hdS [(0, AV.pb 0 0), (1, AV.I IntKind.i64 st), (4, AV.pb 68 0), (5, AV.pb 69 0), (6, AV.I IntKind.i64 (IntKind.i64.wrap (k + 1)))] [(712704, ⟨asN (asA (asA r14.fst 0) 1), 1, fun i => lstG [AV.I IntKind.i64 (asI (asG (asA (asA r14.fst 0) 1) i 0))]⟩), (716800, ⟨asN (asA (asA r14.fst 0) 2), 2, fun i => lstG [AV.I IntKind.i64 (asI (asG (asA (asA r14.fst 0) 2) i 0)), AV.B (asB (asG (asA (asA r14.fst 0) 2) i 1))]⟩)] [(0, 3, [AV.gv (asV (asA (r12.snd.headD AV.bad) 0)), AV.I IntKind.i64 (asI (asA (r12.snd.headD AV.bad) 1)), AV.I IntKind.i64 (asI (asA (r12.snd.headD AV.bad) 2))]), (68, 6, [AV.B false, AV.nsl 1 fun x => lstG [AV.I IntKind.i64 0], AV.nsl 2 fun x => lstG [AV.I IntKind.i64 0, AV.B false], AV.I IntKind.i64 0, AV.I IntKind.i64 0, AV.I IntKind.i64 0]), (69, 6, [AV.B (asB (asA (asA r14.fst 0) 0)), AV.rf 712704, AV.rf 716800, AV.I IntKind.i64 (asI (asA (asA r14.fst 0) 3)), AV.I IntKind.i64 (asI (asA (asA r14.fst 0) 4)), AV.I IntKind.i64 (asI (asA (asA r14.fst 0) 5))])]))
                        else
                          (none))
                      (Option.bind (Γ 75 [AV.pb 0 0, AV.I IntKind.i64 (zN n.g.length)] [AV.nbx 3 (lstG [AV.gv (asV (asA (r1.snd.headD AV.bad) 0)), AV.I IntKind.i64 (asI (asA (r1.snd.headD AV.bad) 1)), AV.I IntKind.i64 (asI (asA (r1.snd.headD AV.bad) 2))])]) fun r12 =>
                        bif bif decide (0 ≤ asI r12.fst) then decide (asI r12.fst < zN n.g.length) else false then
                          (Option.bind (Γ 20 [AV.ag 6 (lstG [AV.B n.p, AV.sl n.l.length 1 (gI n.l), AV.sl n.g.length 2 (gG n.g), AV.I IntKind.i64 n.o, AV.I IntKind.i64 n.s, AV.I IntKind.i64 n.t]), AV.I IntKind.i64 (n.g.getD (asI r12.fst).toNat (0, false)).fst] []) fun r14 =>
                          H [true, true, false, true] (hdS [(0, AV.pb 0 0), (1, AV.I IntKind.i64 st), (4, AV.pb 68 0), (5, AV.pb 69 0), (6, AV.I IntKind.i64 (IntKind.i64.wrap (k + 1)))] [(712704, ⟨asN (asA (asA r14.fst 0) 1), 1, fun i => lstG [AV.I IntKind.i64 (asI (asG (asA (asA r14.fst 0) 1) i 0))]⟩), (716800, ⟨asN (asA (asA r14.fst 0) 2), 2, fun i => lstG [AV.I IntKind.i64 (asI (asG (asA (asA r14.fst 0) 2) i 0)), AV.B (asB (asG (asA (asA r14.fst 0) 2) i 1))]⟩)] [(0, 3, [AV.gv (asV (asA (r12.snd.headD AV.bad) 0)), AV.I IntKind.i64 (asI (asA (r12.snd.headD AV.bad) 1)), AV.I IntKind.i64 (asI (asA (r12.snd.headD AV.bad) 2))]), (68, 6, [AV.B false, AV.nsl 1 fun x => lstG [AV.I IntKind.i64 0], AV.nsl 2 fun x => lstG [AV.I IntKind.i64 0, AV.B false], AV.I IntKind.i64 0, AV.I IntKind.i64 0, AV.I IntKind.i64 0]), (69, 6, [AV.B (asB (asA (asA r14.fst 0) 0)), AV.rf 712704, AV.rf 716800, AV.I IntKind.i64 (asI (asA (asA r14.fst 0) 3)), AV.I IntKind.i64 (asI (asA (asA r14.fst 0) 4)), AV.I IntKind.i64 (asI (asA (asA r14.fst 0) 5))])]))
                        else
                          (none)))
                    (Option.bind (Γ 75 [AV.pb 0 0, AV.I IntKind.i64 (zN n.g.length)] [AV.nbx 3 (lstG [AV.gv (asV (asA (r1.snd.headD AV.bad) 0)), AV.I IntKind.i64 (asI (asA (r1.snd.headD AV.bad) 1)), AV.I IntKind.i64 (asI (asA (r1.snd.headD AV.bad) 2))])]) fun r11 =>
                      bif bif decide (0 ≤ asI r11.fst) then decide (asI r11.fst < zN n.g.length) else false then
                        (Option.bind (Γ 20 [AV.ag 6 (lstG [AV.B n.p, AV.sl n.l.length 1 (gI n.l), AV.sl n.g.length 2 (gG n.g), AV.I IntKind.i64 n.o, AV.I IntKind.i64 n.s, AV.I IntKind.i64 n.t]), AV.I IntKind.i64 (n.g.getD (asI r11.fst).toNat (0, false)).fst] []) fun r13 =>
                        H [true, true, false, true] (hdS [(0, AV.pb 0 0), (1, AV.I IntKind.i64 st), (4, AV.pb 68 0), (5, AV.pb 69 0), (6, AV.I IntKind.i64 (IntKind.i64.wrap (k + 1)))] [(712704, ⟨asN (asA (asA r13.fst 0) 1), 1, fun i => lstG [AV.I IntKind.i64 (asI (asG (asA (asA r13.fst 0) 1) i 0))]⟩), (716800, ⟨asN (asA (asA r13.fst 0) 2), 2, fun i => lstG [AV.I IntKind.i64 (asI (asG (asA (asA r13.fst 0) 2) i 0)), AV.B (asB (asG (asA (asA r13.fst 0) 2) i 1))]⟩)] [(0, 3, [AV.gv (asV (asA (r11.snd.headD AV.bad) 0)), AV.I IntKind.i64 (asI (asA (r11.snd.headD AV.bad) 1)), AV.I IntKind.i64 (asI (asA (r11.snd.headD AV.bad) 2))]), (68, 6, [AV.B false, AV.nsl 1 fun x => lstG [AV.I IntKind.i64 0], AV.nsl 2 fun x => lstG [AV.I IntKind.i64 0, AV.B false], AV.I IntKind.i64 0, AV.I IntKind.i64 0, AV.I IntKind.i64 0]), (69, 6, [AV.B (asB (asA (asA r13.fst 0) 0)), AV.rf 712704, AV.rf 716800, AV.I IntKind.i64 (asI (asA (asA r13.fst 0) 3)), AV.I IntKind.i64 (asI (asA (asA r13.fst 0) 4)), AV.I IntKind.i64 (asI (asA (asA r13.fst 0) 5))])]))
                      else
                        (none)))))))
          else
            (H [true, true, false, true] (hdS [(0, AV.pb 0 0), (1, AV.I IntKind.i64 st), (4, AV.pb 68 0), (5, AV.pb 69 0), (6, AV.I IntKind.i64 (IntKind.i64.wrap (k + 1)))] [(712704, ⟨n.l.length, 1, gI n.l⟩), (716800, ⟨n.g.length, 2, gG n.g⟩)] [(0, 3, [AV.gv (asV (asA (r1.snd.headD AV.bad) 0)), AV.I IntKind.i64 (asI (asA (r1.snd.headD AV.bad) 1)), AV.I IntKind.i64 (asI (asA (r1.snd.headD AV.bad) 2))]), (68, 6, [AV.B false, AV.nsl 1 fun x => lstG [AV.I IntKind.i64 0], AV.nsl 2 fun x => lstG [AV.I IntKind.i64 0, AV.B false], AV.I IntKind.i64 0, AV.I IntKind.i64 0, AV.I IntKind.i64 0]), (69, 6, [AV.B n.p, AV.rf 712704, AV.rf 716800, AV.I IntKind.i64 n.o, AV.I IntKind.i64 n.s, AV.I IntKind.i64 n.t])])))
        else
          (bif decide (asI r1.fst = 3) then
            (bif decide (0 < zN n.g.length) then
              (Option.bind (Γ 76 [AV.pb 0 0, AV.I IntKind.i64 2] [AV.nbx 3 (lstG [AV.gv (asV (asA (r1.snd.headD AV.bad) 0)), AV.I IntKind.i64 (asI (asA (r1.snd.headD AV.bad) 1)), AV.I IntKind.i64 (asI (asA (r1.snd.headD AV.bad) 2))])]) fun r7 =>
              bif asB r7.fst then
                (and2
                (and2
                  (and2
                    (Option.bind (Γ 75 [AV.pb 0 0, AV.I IntKind.i64 (zN n.g.length)] [AV.nbx 3 (lstG [AV.gv (asV (asA (r7.snd.headD AV.bad) 0)), AV.I IntKind.i64 (asI (asA (r7.snd.headD AV.bad) 1)), AV.I IntKind.i64 (asI (asA (r7.snd.headD AV.bad) 2))])]) fun r12 =>
                      bif bif decide (0 ≤ asI r12.fst) then decide (asI r12.fst < zN n.g.length) else false then
                        (and2
                        (Option.bind (Γ 22 [AV.ag 6 (lstG [AV.B n.p, AV.sl n.l.length 1 (gI n.l), AV.sl n.g.length 2 (gG n.g), AV.I IntKind.i64 n.o, AV.I IntKind.i64 n.s, AV.I IntKind.i64 n.t]), AV.I IntKind.i64 (n.g.getD (asI r12.fst).toNat (0, false)).fst] []) fun r15 =>
                          H [true, true, false, true] (hdS [(0, AV.pb 0 0), (1, AV.I IntKind.i64 st), (4, AV.pb 68 0), (5, AV.pb 69 0), (6, AV.I IntKind.i64 (IntKind.i64.wrap (k + 1)))] [(712704, ⟨asN (asA (asA r15.fst 0) 1), 1, fun i => lstG [AV.I IntKind.i64 (asI (asG (asA (asA r15.fst 0) 1) i 0))]⟩), (716800, ⟨asN (asA (asA r15.fst 0) 2), 2, fun i => lstG [AV.I IntKind.i64 (asI (asG (asA (asA r15.fst 0) 2) i 0)), AV.B (asB (asG (asA (asA r15.fst 0) 2) i 1))]⟩)] [(0, 3, [AV.gv (asV (asA (r12.snd.headD AV.bad) 0)), AV.I IntKind.i64 (asI (asA (r12.snd.headD AV.bad) 1)), AV.I IntKind.i64 (asI (asA (r12.snd.headD AV.bad) 2))]), (68, 6, [AV.B false, AV.nsl 1 fun x => lstG [AV.I IntKind.i64 0], AV.nsl 2 fun x => lstG [AV.I IntKind.i64 0, AV.B false], AV.I IntKind.i64 0, AV.I IntKind.i64 0, AV.I IntKind.i64 0]), (69, 6, [AV.B (asB (asA (asA r15.fst 0) 0)), AV.rf 712704, AV.rf 716800, AV.I IntKind.i64 (asI (asA (asA r15.fst 0) 3)), AV.I IntKind.i64 (asI (asA (asA r15.fst 0) 4)), AV.I IntKind.i64 (asI (asA (asA r15.fst 0) 5))])]))
                        (Option.bind (Γ 22 [AV.ag 6 (lstG [AV.B n.p, AV.sl n.l.length 1 (gI n.l), AV.sl n.g.length 2 (gG n.g), AV.I IntKind.i64 n.o, AV.I IntKind.i64 n.s, AV.I IntKind.i64 n.t]), AV.I IntKind.i64 (n.g.getD (asI r12.fst).toNat (0, false)).fst] []) fun r15 =>
                          H [true, true, false, true] (hdS [(0, AV.pb 0 0), (1, AV.I IntKind.i64 st), (4, AV.pb 68 0), (5, AV.pb 69 0), (6, AV.I IntKind.i64 (IntKind.i64.wrap (k + 1)))] [(712704, ⟨asN (asA (asA r15.fst 0) 1), 1, fun i => lstG [AV.I IntKind.i64 (asI (asG (asA (asA r15.fst 0) 1) i 0))]⟩), (716800, ⟨asN (asA (asA r15.fst 0) 2), 2, fun i => lstG [AV.I IntKind.i64 (asI (asG (asA (asA r15.fst 0) 2) i 0)), AV.B (asB (asG (asA (asA r15.fst 0) 2) i 1))]⟩)] [(0, 3, [AV.gv (asV (asA (r12.snd.headD AV.bad) 0)), AV.I IntKind.i64 (asI (asA (r12.snd.headD AV.bad) 1)), AV.I IntKind.i64 (asI (asA (r12.snd.headD AV.bad) 2))]), (68, 6, [AV.B false, AV.nsl 1 fun x => lstG [AV.I IntKind.i64 0], AV.nsl 2 fun x => lstG [AV.I IntKind.i64 0, AV.B false], AV.I IntKind.i64 0, AV.I IntKind.i64 0, AV.I IntKind.i64 0]), (69, 6, [AV.B (asB (asA (asA r15.fst 0) 0)), AV.rf 712704, AV.rf 716800, AV.I IntKind.i64 (asI (asA (asA r15.fst 0) 3)), AV.I IntKind.i64 (asI (asA (asA r15.fst 0) 4)), AV.I IntKind.i64 (asI (asA (asA r15.fst 0) 5))])])))
                      else
                        (none))
                    (Option.bind (Γ 75 [AV.pb 0 0, AV.I IntKind.i64 (zN n.g.length)] [AV.nbx 3 (lstG [AV.gv (asV (asA (r7.snd.headD AV.bad) 0)), AV.I IntKind.i64 (asI (asA (r7.snd.headD AV.bad) 1)), AV.I IntKind.i64 (asI (asA (r7.snd.headD AV.bad) 2))])]) fun r12 =>
                      bif bif decide (0 ≤ asI r12.fst) then decide (asI r12.fst < zN n.g.length) else false then
                        (Option.bind (Γ 22 [AV.ag 6 (lstG [AV.B n.p, AV.sl n.l.length 1 (gI n.l), AV.sl n.g.length 2 (gG n.g), AV.I IntKind.i64 n.o, AV.I IntKind.i64 n.s, AV.I IntKind.i64 n.t]), AV.I IntKind.i64 (n.g.getD (asI r12.fst).toNat (0, false)).fst] []) fun r14 =>
                        H [true, true, false, true] (hdS [(0, AV.pb 0 0), (1, AV.I IntKind.i64 st), (4, AV.pb 68 0), (5, AV.pb 69 0), (6, AV.I IntKind.i64 (IntKind.i64.wrap (k + 1)))] [(712704, ⟨asN (asA (asA r14.fst 0) 1), 1, fun i => lstG [AV.I IntKind.i64 (asI (asG (asA (asA r14.fst 0) 1) i 0))]⟩), (716800, ⟨asN (asA (asA r14.fst 0) 2), 2, fun i => lstG [AV.I IntKind.i64 (asI (asG (asA (asA r14.fst 0) 2) i 0)), AV.B (asB (asG (asA (asA r14.fst 0) 2) i 1))]⟩)] [(0, 3, [AV.gv (asV (asA (r12.snd.headD AV.bad) 0)), AV.I IntKind.i64 (asI (asA (r12.snd.headD AV.bad) 1)), AV.I IntKind.i64 (asI (asA (r12.snd.headD AV.bad) 2))]), (68, 6, [AV.B false, AV.nsl 1 fun x => lstG [AV.I IntKind.i64 0], AV.nsl 2 fun x => lstG [AV.I IntKind.i64 0, AV.B false], AV.I IntKind.i64 0, AV.I IntKind.i64 0, AV.I IntKind.i64 0]), (69, 6, [AV.B (asB (asA (asA r14.fst 0) 0)), AV.rf 712704, AV.rf 716800, AV.I IntKind.i64 (asI (asA (asA r14.fst 0) 3)), AV.I IntKind.i64 (asI (asA (asA r14.fst 0) 4)), AV.I IntKind.i64 (asI (asA (asA r14.fst 0) 5))])]))
                      else
                        (none)))
                  (and2
                    (Option.bind (Γ 75 [AV.pb 0 0, AV.I IntKind.i64 (zN n.g.length)] [AV.nbx 3 (lstG [AV.gv (asV (asA (r7.snd.headD AV.bad) 0)), AV.I IntKind.i64 (asI (asA (r7.snd.headD AV.bad) 1)), AV.I IntKind.i64 (asI (asA (r7.snd.headD AV.bad) 2))])]) fun r12 =>
                      bif bif decide (0 ≤ asI r12.fst) then decide (asI r12.fst < zN n.g.length) else false then
                        (and2
                        (Option.bind (Γ 22 [AV.ag 6 (lstG [AV.B n.p, AV.sl n.l.length 1 (gI n.l), AV.sl n.g.length 2 (gG n.g), AV.I IntKind.i64 n.o, AV.I IntKind.i64 n.s, AV.I IntKind.i64 n.t]), AV.I IntKind.i64 (n.g.getD (asI r12.fst).toNat (0, false)).fst] []) fun r15 =>
                          H [true, true, false, true] (hdS [(0, AV.pb 0 0), (1, AV.I IntKind.i64 st), (4, AV.pb 68 0), (5, AV.pb 69 0), (6, AV.I IntKind.i64 (IntKind.i64.wrap (k + 1)))] [(712704, ⟨asN (asA (asA r15.fst 0) 1), 1, fun i => lstG [AV.I IntKind.i64 (asI (asG (asA (asA r15.fst 0) 1) i 0))]⟩), (716800, ⟨asN (asA (asA r15.fst 0) 2), 2, fun i => lstG [AV.I IntKind.i64 (asI (asG (asA (asA r15.fst 0) 2) i 0)), AV.B (asB (asG (asA (asA r15.fst 0) 2) i 1))]⟩)] [(0, 3, [AV.gv (asV (asA (r12.snd.headD AV.bad) 0)), AV.I IntKind.i64 (asI (asA (r12.snd.headD AV.bad) 1)), AV.I IntKind.i64 (asI (asA (r12.snd.headD AV.bad) 2))]), (68, 6, [AV.B false, AV.nsl 1 fun x => lstG [AV.I IntKind.i64 0], AV.nsl 2 fun x => lstG [AV.I IntKind.i64 0, AV.B false], AV.I IntKind.i64 0, AV.I IntKind.i64 0, AV.I IntKind.i64 0]), (69, 6, [AV.B (asB (asA (asA r15.fst 0) 0)), AV.rf 712704, AV.rf 716800, AV.I IntKind.i64 (asI (asA (asA r15.fst 0) 3)), AV.I IntKind.i64 (asI (asA (asA r15.fst 0) 4)), AV.I IntKind.i64 (asI (asA (asA r15.fst 0) 5))])]))
                        (Option.bind (Γ 22 [AV.ag 6 (lstG [AV.B n.p, AV.sl n.l.length 1 (gI n.l), AV.sl n.g.length 2 (gG n.g), AV.I IntKind.i64 n.o, AV.I IntKind.i64 n.s, AV.I IntKind.i64 n.t]), AV.I IntKind.i64 (n.g.getD (asI r12.fst).toNat (0, false)).fst] []) fun r15 =>
                          H [true, true, false, true] (hdS [(0, AV.pb 0 0), (1, AV.I IntKind.i64 st), (4, AV.pb 68 0), (5, AV.pb 69 0), (6, AV.I IntKind.i64 (IntKind.i64.wrap (k + 1)))] [(712704, ⟨asN (asA (asA r15.fst 0) 1), 1, fun i => lstG [AV.I IntKind.i64 (asI (asG (asA (asA r15.fst 0) 1) i 0))]⟩), (716800, ⟨asN (asA (asA r15.fst 0) 2), 2, fun i => lstG [AV.I IntKind.i64 (asI (asG (asA (asA r15.fst 0) 2) i 0)), AV.B (asB (asG (asA (asA r15.fst 0) 2) i 1))]⟩)] [(0, 3, [AV.gv (asV (asA (r12.snd.headD AV.bad) 0)), AV.I IntKind.i64 (asI (asA (r12.snd.headD AV.bad) 1)), AV.I IntKind.i64 (asI (asA (r12.snd.headD AV.bad) 2))]), (68, 6, [AV.B false, AV.nsl 1 fun x => lstG [AV.I IntKind.i64 0], AV.nsl 2 fun x => lstG [AV.I IntKind.i64 0, AV.B false], AV.I IntKind.i64 0, AV.I IntKind.i64 0, AV.I IntKind.i64 0]), (69, 6, [AV.B (asB (asA (asA r15.fst 0) 0)), AV.rf 712704, AV.rf 716800, AV.I IntKind.i64 (asI (asA (asA r15.fst 0) 3)), AV.I IntKind.i64 (asI (asA (asA r15.fst 0) 4)), AV.I IntKind.i64 (asI (asA (asA r15.fst 0) 5))])])))
                      else
                        (none))
                    (and2
                      (Option.bind (Γ 75 [AV.pb 0 0, AV.I IntKind.i64 (zN n.g.length)] [AV.nbx 3 (lstG [AV.gv (asV (asA (r7.snd.headD AV.bad) 0)), AV.I IntKind.i64 (asI (asA (r7.snd.headD AV.bad) 1)), AV.I IntKind.i64 (asI (asA (r7.snd.headD AV.bad) 2))])]) fun r13 =>
                        bif bif decide (0 ≤ asI r13.fst) then decide (asI r13.fst < zN n.g.length) else false then
                          (Option.bind (Γ 22 [AV.ag 6 (lstG [AV.B n.p, AV.sl n.l.length 1 (gI n.l), AV.sl n.g.length 2 (gG n.g), AV.I IntKind.i64 n.o, AV.I IntKind.i64 n.s, AV.I IntKind.i64 n.t]), AV.I IntKind.i64 (n.g.getD (asI r13.fst).toNat (0, false)).fst] []) fun r15 =>
                          H [true, true, false, true] (hdS [(0, AV.pb 0 0), (1, AV.I IntKind.i64 st), (4, AV.pb 68 0), (5, AV.pb 69 0), (6, AV.I IntKind.i64 (IntKind.i64.wrap (k + 1)))] [(712704, ⟨asN (asA (asA r15.fst 0) 1), 1, fun i => lstG [AV.I IntKind.i64 (asI (asG (asA (asA r15.fst 0) 1) i 0))]⟩), (716800, ⟨asN (asA (asA r15.fst 0) 2), 2, fun i => lstG [AV.I IntKind.i64 (asI (asG (asA (asA r15.fst 0) 2) i 0)), AV.B (asB (asG (asA (asA r15.fst 0) 2) i 1))]⟩)] [(0, 3, [AV.gv (asV (asA (r13.snd.headD AV.bad) 0)), AV.I IntKind.i64 (asI (asA (r13.snd.headD AV.bad) 1)), AV.I IntKind.i64 (asI (asA (r13.snd.headD AV.bad) 2))]), (68, 6, [AV.B false, AV.nsl 1 fun x => lstG [AV.I IntKind.i64 0], AV.nsl 2 fun x => lstG [AV.I IntKind.i64 0, AV.B false], AV.I IntKind.i64 0, AV.I IntKind.i64 0, AV.I IntKind.i64 0]), (69, 6, [AV.B (asB (asA (asA r15.fst 0) 0)), AV.rf 712704, AV.rf 716800, AV.I IntKind.i64 (asI (asA (asA r15.fst 0) 3)), AV.I IntKind.i64 (asI (asA (asA r15.fst 0) 4)), AV.I IntKind.i64 (asI (asA (asA r15.fst 0) 5))])]))
                        else
                          (none))
                      (Option.bind (Γ 75 [AV.pb 0 0, AV.I IntKind.i64 (zN n.g.length)] [AV.nbx 3 (lstG [AV.gv (asV (asA (r7.snd.headD AV.bad) 0)), AV.I IntKind.i64 (asI (asA (r7.snd.headD AV.bad) 1)), AV.I IntKind.i64 (asI (asA (r7.snd.headD AV.bad) 2))])]) fun r13 =>
                        bif bif decide (0 ≤ asI r13.fst) then decide (asI r13.fst < zN n.g.length) else false then
                          (Option.bind (Γ 22 [AV.ag 6 (lstG [AV.B n.p, AV.sl n.l.length 1 (gI n.l), AV.sl n.g.length 2 (gG n.g), AV.I IntKind.i64 n.o, AV.I IntKind.i64 n.s, AV.I IntKind.i64 n.t]), AV.I IntKind.i64 (n.g.getD (asI r13.fst).toNat (0, false)).fst] []) fun r15 =>
                          H [true, true, false, true] (hdS [(0, AV.pb 0 0), (1, AV.I IntKind.i64 st), (4, AV.pb 68 0), (5, AV.pb 69 0), (6, AV.I IntKind.i64 (IntKind.i64.wrap (k + 1)))] [(712704, ⟨asN (asA (asA r15.fst 0) 1), 1, fun i => lstG [AV.I IntKind.i64 (asI (asG (asA (asA r15.fst 0) 1) i 0))]⟩), (716800, ⟨asN (asA (asA r15.fst 0) 2), 2, fun i => lstG [AV.I IntKind.i64 (asI (asG (asA (asA r15.fst 0) 2) i 0)), AV.B (asB (asG (asA (asA r15.fst 0) 2) i 1))]⟩)] [(0, 3, [AV.gv (asV (asA (r13.snd.headD AV.bad) 0)), AV.I IntKind.i64 (asI (asA (r13.snd.headD AV.bad) 1)), AV.I IntKind.i64 (asI (asA (r13.snd.headD AV.bad) 2))]), (68, 6, [AV.B false, AV.nsl 1 fun x => lstG [AV.I IntKind.i64 0], AV.nsl 2 fun x => lstG [AV.I IntKind.i64 0, AV.B false], AV.I IntKind.i64 0, AV.I IntKind.i64 0, AV.I IntKind.i64 0]), (69, 6, [AV.B (asB (asA (asA r15.fst 0) 0)), AV.rf 712704, AV.rf 716800, AV.I IntKind.i64 (asI (asA (asA r15.fst 0) 3)), AV.I IntKind.i64 (asI (asA (asA r15.fst 0) 4)), AV.I IntKind.i64 (asI (asA (asA r15.fst 0) 5))])]))
                        else
                          (none)))))
                (and2
                  (and2
                    (and2
                      (Option.bind (Γ 75 [AV.pb 0 0, AV.I IntKind.i64 (zN n.g.length)] [AV.nbx 3 (lstG [AV.gv (asV (asA (r7.snd.headD AV.bad) 0)), AV.I IntKind.i64 (asI (asA (r7.snd.headD AV.bad) 1)), AV.I IntKind.i64 (asI (asA (r7.snd.headD AV.bad) 2))])]) fun r13 =>
                        bif bif decide (0 ≤ asI r13.fst) then decide (asI r13.fst < zN n.g.length) else false then
                          (and2
                          (Option.bind (Γ 22 [AV.ag 6 (lstG [AV.B n.p, AV.sl n.l.length 1 (gI n.l), AV.sl n.g.length 2 (gG n.g), AV.I IntKind.i64 n.o, AV.I IntKind.i64 n.s, AV.I IntKind.i64 n.t]), AV.I IntKind.i64 (n.g.getD (asI r13.fst).toNat (0, false)).fst] []) fun r16 =>
                            H [true, true, false, true] (hdS [(0, AV.pb 0 0), (1, AV.I IntKind.i64 st), (4, AV.pb 68 0), (5, AV.pb 69 0), (6, AV.I IntKind.i64 (IntKind.i64.wrap (k + 1)))] [(712704, ⟨asN (asA (asA r16.fst 0) 1), 1, fun i => lstG [AV.I IntKind.i64 (asI (asG (asA (asA r16.fst 0) 1) i 0))]⟩), (716800, ⟨asN (asA (asA r16.fst 0) 2), 2, fun i => lstG [AV.I IntKind.i64 (asI (asG (asA (asA r16.fst 0) 2) i 0)), AV.B (asB (asG (asA (asA r16.fst 0) 2) i 1))]⟩)] [(0, 3, [AV.gv (asV (asA (r13.snd.headD AV.bad) 0)), AV.I IntKind.i64 (asI (asA (r13.snd.headD AV.bad) 1)), AV.I IntKind.i64 (asI (asA (r13.snd.headD AV.bad) 2))]), (68, 6, [AV.B false, AV.nsl 1 fun x => lstG [AV.I IntKind.i64 0], AV.nsl 2 fun x => lstG [AV.I IntKind.i64 0, AV.B false], AV.I IntKind.i64 0, AV.I IntKind.i64 0, AV.I IntKind.i64 0]), (69, 6, [AV.B (asB (asA (asA r16.fst 0) 0)), AV.rf 712704, AV.rf 716800, AV.I IntKind.i64 (asI (asA (asA r16.fst 0) 3)), AV.I IntKind.i64 (asI (asA (asA r16.fst 0) 4)), AV.I IntKind.i64 (asI (asA (asA r16.fst 0) 5))])]))
                          (Option.bind (Γ 22 [AV.ag 6 (lstG [AV.B n.p, AV.sl n.l.length 1 (gI n.l), AV.sl n.g.length 2 (gG n.g), AV.I IntKind.i64 n.o, AV.I IntKind.i64 n.s, AV.I IntKind.i64 n.t]), AV.I IntKind.i64 (n.g.getD (asI r13.fst).toNat (0, false)).fst] []) fun r16 =>
                            H [true, true, false, true] (hdS [(0, AV.pb 0 0), (1, AV.I IntKind.i64 st), (4, AV.pb 68 0), (5, AV.pb 69 0), (6, AV.I IntKind.i64 (IntKind.i64.wrap (k + 1)))] [(712704, ⟨asN (asA (asA r16.fst 0) 1), 1, fun i => lstG [AV.I IntKind.i64 (asI (asG (asA (asA r16.fst 0) 1) i 0))]⟩), (716800, ⟨asN (asA (asA r16.fst 0) 2), 2, fun i => lstG [AV.I IntKind.i64 (asI (asG (asA (asA r16.fst 0) 2) i 0)), AV.B (asB (asG (asA (asA r16.fst 0) 2) i 1))]⟩)] [(0, 3, [AV.gv (asV (asA (r13.snd.headD AV.bad) 0)), AV.I IntKind.i64 (asI (asA (r13.snd.headD AV.bad) 1)), AV.I IntKind.i64 (asI (asA (r13.snd.headD AV.bad) 2))]), (68, 6, [AV.B false, AV.nsl 1 fun x => lstG [AV.I IntKind.i64 0], AV.nsl 2 fun x => lstG [AV.I IntKind.i64 0, AV.B false], AV.I IntKind.i64 0, AV.I IntKind.i64 0, AV.I IntKind.i64 0]), (69, 6, [AV.B (asB (asA (asA r16.fst 0) 0)), AV.rf 712704, AV.rf 716800, AV.I IntKind.i64 (asI (asA (asA r16.fst 0) 3)), AV.I IntKind.i64 (asI (asA (asA r16.fst 0) 4)), AV.I IntKind.i64 (asI (asA (asA r16.fst 0) 5))])])))
                        else
                          (none))
                      (Option.bind (Γ 75 [AV.pb 0 0, AV.I IntKind.i64 (zN n.g.length)] [AV.nbx 3 (lstG [AV.gv (asV (asA (r7.snd.headD AV.bad) 0)), AV.I IntKind.i64 (asI (asA (r7.snd.headD AV.bad) 1)), AV.I IntKind.i64 (asI (asA (r7.snd.headD AV.bad) 2))])]) fun r13 =>
                        bif bif decide (0 ≤ asI r13.fst) then decide (asI r13.fst < zN n.g.length) else false then
                          (Option.bind (Γ 22 [AV.ag 6 (lstG [AV.B n.p, AV.sl n.l.length 1 (gI n.l), AV.sl n.g.length 2 (gG n.g), AV.I IntKind.i64 n.o, AV.I IntKind.i64 n.s, AV.I IntKind.i64 n.t]), AV.I IntKind.i64 (n.g.getD (asI r13.fst).toNat (0, false)).fst] []) fun r15 =>
                          H [true, true, false, true] (hdS [(0, AV.pb 0 0), (1, AV.I IntKind.i64 st), (4, AV.pb 68 0), (5, AV.pb 69 0), (6, AV.I IntKind.i64 (IntKind.i64.wrap (k + 1)))] [(712704, ⟨asN (asA (asA r15.fst 0) 1), 1, fun i => lstG [AV.I IntKind.i64 (asI (asG (asA (asA r15.fst 0) 1) i 0))]⟩), (716800, ⟨asN (asA (asA r15.fst 0) 2), 2, fun i => lstG [AV.I IntKind.i64 (asI (asG (asA (asA r15.fst 0) 2) i 0)), AV.B (asB (asG (asA (asA r15.fst 0) 2) i 1))]⟩)] [(0, 3, [AV.gv (asV (asA (r13.snd.headD AV.bad) 0)), AV.I IntKind.i64 (asI (asA (r13.snd.headD AV.bad) 1)), AV.I IntKind.i64 (asI (asA (r13.snd.headD AV.bad) 2))]), (68, 6, [AV.B false, AV.nsl 1 fun x => lstG [AV.I IntKind.i64 0], AV.nsl 2 fun x => lstG [AV.I IntKind.i64 0, AV.B false], AV.I IntKind.i64 0, AV.I IntKind.i64 0, AV.I IntKind.i64 0]), (69, 6, [AV.B (asB (asA (asA r15.fst 0) 0)), AV.rf 712704, AV.rf 716800, AV.I IntKind.i64 (asI (asA (asA r15.fst 0) 3)), AV.I IntKind.i64 (asI (asA (asA r15.fst 0) 4)), AV.I IntKind.i64 (asI (asA (asA r15.fst 0) 5))])]))
                        else
                          (none)))
                    (and2
                      (Option.bind (Γ 75 [AV.pb 0 0, AV.I IntKind.i64 (zN n.g.length)] [AV.nbx 3 (lstG [AV.gv (asV (asA (r7.snd.headD AV.bad) 0)), AV.I IntKind.i64 (asI (asA (r7.snd.headD AV.bad) 1)), AV.I IntKind.i64 (asI (asA (r7.snd.headD AV.bad) 2))])]) fun r13 =>
                        bif bif decide (0 ≤ asI r13.fst) then decide (asI r13.fst < zN n.g.length) else false then
                          (and2
                          (Option.bind (Γ 22 [AV.ag 6 (lstG [AV.B n.p, AV.sl n.l.length 1 (gI n.l), AV.sl n.g.length 2 (gG n.g), AV.I IntKind.i64 n.o, AV.I IntKind.i64 n.s, AV.I IntKind.i64 n.t]), AV.I IntKind.i64 (n.g.getD (asI r13.fst).toNat (0, false)).fst] []) fun r16 =>
                            H [true, true, false, true] (hdS [(0, AV.pb 0 0), (1, AV.I IntKind.i64 st), (4, AV.pb 68 0), (5, AV.pb 69 0), (6, AV.I IntKind.i64 (IntKind.i64.wrap (k + 1)))] [(712704, ⟨asN (asA (asA r16.fst 0) 1), 1, fun i => lstG [AV.I IntKind.i64 (asI (asG (asA (asA r16.fst 0) 1) i 0))]⟩), (716800, ⟨asN (asA (asA r16.fst 0) 2), 2, fun i => lstG [AV.I IntKind.i64 (asI (asG (asA (asA r16.fst 0) 2) i 0)), AV.B (asB (asG (asA (asA r16.fst 0) 2) i 1))]⟩)] [(0, 3, [AV.gv (asV (asA (r13.snd.headD AV.bad) 0)), AV.I IntKind.i64 (asI (asA (r13.snd.headD AV.bad) 1)), AV.I IntKind.i64 (asI (asA (r13.snd.headD AV.bad) 2))]), (68, 6, [AV.B false, AV.nsl 1 fun x => lstG [AV.I IntKind.i64 0], AV.nsl 2 fun x => lstG [AV.I IntKind.i64 0, AV.B false], AV.I IntKind.i64 0, AV.I IntKind.i64 0, AV.I IntKind.i64 0]), (69, 6, [AV.B (asB (asA (asA r16.fst 0) 0)), AV.rf 712704, AV.rf 716800, AV.I IntKind.i64 (asI (asA (asA r16.fst 0) 3)), AV.I IntKind.i64 (asI (asA (asA r16.fst 0) 4)), AV.I IntKind.i64 (asI (asA (asA r16.fst 0) 5))])]))
                          (Option.bind (Γ 22 [AV.ag 6 (lstG [AV.B n.p, AV.sl n.l.length 1 (gI n.l), AV.sl n.g.length 2 (gG n.g), AV.I IntKind.i64 n.o, AV.I IntKind.i64 n.s, AV.I IntKind.i64 n.t]), AV.I IntKind.i64 (n.g.getD (asI r13.fst).toNat (0, false)).fst] []) fun r16 =>
                            H [true, true, false, true] (hdS [(0, AV.pb 0 0), (1, AV.I IntKind.i64 st), (4, AV.pb 68 0), (5, AV.pb 69 0), (6, AV.I IntKind.i64 (IntKind.i64.wrap (k + 1)))] [(712704, ⟨asN (asA (asA r16.fst 0) 1), 1, fun i => lstG [AV.I IntKind.i64 (asI (asG (asA (asA r16.fst 0) 1) i 0))]⟩), (716800, ⟨asN (asA (asA r16.fst 0) 2), 2, fun i => lstG [AV.I IntKind.i64 (asI (asG (asA (asA r16.fst 0) 2) i 0)), AV.B (asB (asG (asA (asA r16.fst 0) 2) i 1))]⟩)] [(0, 3, [AV.gv (asV (asA (r13.snd.headD AV.bad) 0)), AV.I IntKind.i64 (asI (asA (r13.snd.headD AV.bad) 1)), AV.I IntKind.i64 (asI (asA (r13.snd.headD AV.bad) 2))]), (68, 6, [AV.B false, AV.nsl 1 fun x => lstG [AV.I IntKind.i64 0], AV.nsl 2 fun x => lstG [AV.I IntKind.i64 0, AV.B false], AV.I IntKind.i64 0, AV.I IntKind.i64 0, AV.I IntKind.i64 0]), (69, 6, [AV.B (asB (asA (asA r16.fst 0) 0)), AV.rf 712704, AV.rf 716800, AV.I IntKind.i64 (asI (asA (asA r16.fst 0) 3)), AV.I IntKind.i64 (asI (asA (asA r16.fst 0) 4)), AV.I IntKind.i64 (asI (asA (asA r16.fst 0) 5))])])))
                        else
                          (none))
                      (and2
                        (Option.bind (Γ 75 [AV.pb 0 0, AV.I IntKind.i64 (zN n.g.length)] [AV.nbx 3 (lstG [AV.gv (asV (asA (r7.snd.headD AV.bad) 0)), AV.I IntKind.i64 (asI (asA (r7.snd.headD AV.bad) 1)), AV.I IntKind.i64 (asI (asA (r7.snd.headD AV.bad) 2))])]) fun r14 =>
                          bif bif decide (0 ≤ asI r14.fst) then decide (asI r14.fst < zN n.g.length) else false then
                            (Option.bind (Γ 22 [AV.ag 6 (lstG [AV.B n.p, AV.sl n.l.length 1 (gI n.l), AV.sl n.g.length 2 (gG n.g), AV.I IntKind.i64 n.o, AV.I IntKind.i64 n.s, AV.I IntKind.i64 n.t]), AV.I IntKind.i64 (n.g.getD (asI r14.fst).toNat (0, false)).fst] []) fun r16 =>
                            H [true, true, false, true] (hdS [(0, AV.pb 0 0), (1, AV.I IntKind.i64 st), (4, AV.pb 68 0), (5, AV.pb 69 0), (6, AV.I IntKind.i64 (IntKind.i64.wrap (k + 1)))] [(712704, ⟨asN (asA (asA r16.fst 0) 1), 1, fun i => lstG [AV.I IntKind.i64 (asI (asG (asA (asA r16.fst 0) 1) i 0))]⟩), (716800, ⟨asN (asA (asA r16.fst 0) 2), 2, fun i => lstG [AV.I IntKind.i64 (asI (asG (asA (asA r16.fst 0) 2) i 0)), AV.B (asB (asG (asA (asA r16.fst 0) 2) i 1))]⟩)] [(0, 3, [AV.gv (asV (asA (r14.snd.headD AV.bad) 0)), AV.I IntKind.i64 (asI (asA (r14.snd.headD AV.bad) 1)), AV.I IntKind.i64 (asI (asA (r14.snd.headD AV.bad) 2))]), (68, 6, [AV.B false, AV.nsl 1 fun x => lstG [AV.I IntKind.i64 0], AV.nsl 2 fun x => lstG [AV.I IntKind.i64 0, AV.B false], AV.I IntKind.i64 0, AV.I IntKind.i64 0, AV.I IntKind.i64 0]), (69, 6, [AV.B (asB (asA (asA r16.fst 0) 0)), AV.rf 712704, AV.rf 716800, AV.I IntKind.i64 (asI (asA (asA r16.fst 0) 3)), AV.I IntKind.i64 (asI (asA (asA r16.fst 0) 4)), AV.I IntKind.i64 (asI (asA (asA r16.fst 0) 5))])]))
                          else
                            (none))
                        (Option.bind (Γ 75 [AV.pb 0 0, AV.I IntKind.i64 (zN n.g.length)] [AV.nbx 3 (lstG [AV.gv (asV (asA (r7.snd.headD AV.bad) 0)), AV.I IntKind.i64 (asI (asA (r7.snd.headD AV.bad) 1)), AV.I IntKind.i64 (asI (asA (r7.snd.headD AV.bad) 2))])]) fun r14 =>
                          bif bif decide (0 ≤ asI r14.fst) then decide (asI r14.fst < zN n.g.length) else false then
                            (Option.bind (Γ 22 [AV.ag 6 (lstG [AV.B n.p, AV.sl n.l.length 1 (gI n.l), AV.sl n.g.length 2 (gG n.g), AV.I IntKind.i64 n.o, AV.I IntKind.i64 n.s, AV.I IntKind.i64 n.t]), AV.I IntKind.i64 (n.g.getD (asI r14.fst).toNat (0, false)).fst] []) fun r16 =>
                            H [true, true, false, true] (hdS [(0, AV.pb 0 0), (1, AV.I IntKind.i64 st), (4, AV.pb 68 0), (5, AV.pb 69 0), (6, AV.I IntKind.i64 (IntKind.i64.wrap (k + 1)))] [(712704, ⟨asN (asA (asA r16.fst 0) 1), 1, fun i => lstG [AV.I IntKind.i64 (asI (asG (asA (asA r16.fst 0) 1) i 0))]⟩), (716800, ⟨asN (asA (asA r16.fst 0) 2), 2, fun i => lstG [AV.I IntKind.i64 (asI (asG (asA (asA r16.fst 0) 2) i 0)), AV.B (asB (asG (asA (asA r16.fst 0) 2) i 1))]⟩)] [(0, 3, [AV.gv (asV (asA (r14.snd.headD AV.bad) 0)), AV.I IntKind.i64 (asI (asA (r14.snd.headD AV.bad) 1)), AV.I IntKind.i64 (asI (asA (r14.snd.headD AV.bad) 2))]), (68, 6, [AV.B false, AV.nsl 1 fun x => lstG [AV.I IntKind.i64 0], AV.nsl 2 fun x => lstG [AV.I IntKind.i64 0, AV.B false], AV.I IntKind.i64 0, AV.I IntKind.i64 0, AV.I IntKind.i64 0]), (69, 6, [AV.B (asB (asA (asA r16.fst 0) 0)), AV.rf 712704, AV.rf 716800, AV.I IntKind.i64 (asI (asA (asA r16.fst 0) 3)), AV.I IntKind.i64 (asI (asA (asA r16.fst 0) 4)), AV.I IntKind.i64 (asI (asA (asA r16.fst 0) 5))])]))
                          else
                            (none)))))
                  (and2
                    (Option.bind (Γ 75 [AV.pb 0 0, AV.I IntKind.i64 (zN n.g.length)] [AV.nbx 3 (lstG [AV.gv (asV (asA (r7.snd.headD AV.bad) 0)), AV.I IntKind.i64 (asI (asA (r7.snd.headD AV.bad) 1)), AV.I IntKind.i64 (asI (asA (r7.snd.headD AV.bad) 2))])]) fun r12 =>
                      bif bif decide (0 ≤ asI r12.fst) then decide (asI r12.fst < zN n.g.length) else false then
                        (and2
                        (Option.bind (Γ 22 [AV.ag 6 (lstG [AV.B n.p, AV.sl n.l.length 1 (gI n.l), AV.sl n.g.length 2 (gG n.g), AV.I IntKind.i64 n.o, AV.I IntKind.i64 n.s, AV.I IntKind.i64 n.t]), AV.I IntKind.i64 (n.g.getD (asI r12.fst).toNat (0, false)).fst] []) fun r15 =>
                          H [true, true, false, true] (hdS [(0, AV.pb 0 0), (1, AV.I IntKind.i64 st), (4, AV.pb 68 0), (5, AV.pb 69 0), (6, AV.I IntKind.i64 (IntKind.i64.wrap (k + 1)))] [(712704, ⟨asN (asA (asA r15.fst 0) 1), 1, fun i => lstG [AV.I IntKind.i64 (asI (asG (asA (asA r15.fst 0) 1) i 0))]⟩), (716800, ⟨asN (asA (asA r15.fst 0) 2), 2, fun i => lstG [AV.I IntKind.i64 (asI (asG (asA (asA r15.fst 0) 2) i 0)), AV.B (asB (asG (asA (asA r15.fst 0) 2) i 1))]⟩)] [(0, 3, [AV.gv (asV (asA (r12.snd.headD AV.bad) 0)), AV.I IntKind.i64 (asI (asA (r12.snd.headD AV.bad) 1)), AV.I IntKind.i64 (asI (asA (r12.snd.headD AV.bad) 2))]), (68, 6, [AV.B false, AV.nsl 1 fun x => lstG [AV.I IntKind.i64 0], AV.nsl 2 fun x => lstG [AV.I IntKind.i64 0, AV.B false], AV.I IntKind.i64 0, AV.I IntKind.i64 0, AV.I IntKind.i64 0]), (69, 6, [AV.B (asB (asA (asA r15.fst 0) 0)), AV.rf 712704, AV.rf 716800, AV.I IntKind.i64 (asI (asA (asA r15.fst 0) 3)), AV.I IntKind.i64 (asI (asA (asA r15.fst 0) 4)), AV.I IntKind.i64 (asI (asA (asA r15.fst 0) 5))])]))
                        (Option.bind (Γ 22 [AV.ag 6 (lstG [AV.B n.p, AV.sl n.l.length 1 (gI n.l), AV.sl n.g.length 2 (gG n.g), AV.I IntKind.i64 n.o, AV.I IntKind.i64 n.s, AV.I IntKind.i64 n.t]), AV.I IntKind.i64 (n.g.getD (asI r12.fst).toNat (0, false)).fst] []) fun r15 =>
                          H [true, true, false, true] (hdS [(0, AV.pb 0 0), (1, AV.I IntKind.i64 st), (4, AV.pb 68 0), (5, AV.pb 69 0), (6, AV.I IntKind.i64 (IntKind.i64.wrap (k + 1)))] [(712704, ⟨asN (asA (asA r15.fst 0) 1), 1, fun i => lstG [AV.I IntKind.i64 (asI (asG (asA (asA r15.fst 0) 1) i 0))]⟩), (716800, ⟨asN (asA (asA r15.fst 0) 2), 2, fun i => lstG [AV.I IntKind.i64 (asI (asG (asA (asA r15.fst 0) 2) i 0)), AV.B (asB (asG (asA (asA r15.fst 0) 2) i 1))]⟩)] [(0, 3, [AV.gv (asV (asA (r12.snd.headD AV.bad) 0)), AV.I IntKind.i64 (asI (asA (r12.snd.headD AV.bad) 1)), AV.I IntKind.i64 (asI (asA (r12.snd.headD AV.bad) 2))]), (68, 6, [AV.B false, AV.nsl 1 fun x => lstG [AV.I IntKind.i64 0], AV.nsl 2 fun x => lstG [AV.I IntKind.i64 0, AV.B false], AV.I IntKind.i64 0, AV.I IntKind.i64 0, AV.I IntKind.i64 0]), (69, 6, [AV.B (asB (asA (asA r15.fst 0) 0)), AV.rf 712704, AV.rf 716800, AV.I IntKind.i64 (asI (asA (asA r15.fst 0) 3)), AV.I IntKind.i64 (asI (asA (asA r15.fst 0) 4)), AV.I IntKind.i64 (asI (asA (asA r15.fst 0) 5))])])))
                      else
                        (none))
                    (and2
                      (and2
                        (Option.bind (Γ 75 [AV.pb 0 0, AV.I IntKind.i64 (zN n.g.length)] [AV.nbx 3 (lstG [AV.gv (asV (asA (r7.snd.headD AV.bad) 0)), AV.I IntKind.i64 (asI (asA (r7.snd.headD AV.bad) 1)), AV.I IntKind.i64 (asI (asA (r7.snd.headD AV.bad) 2))])]) fun r14 =>
                          bif bif decide (0 ≤ asI r14.fst) then decide (asI r14.fst < zN n.g.length) else false then
                            (Option.bind (Γ 22 [AV.ag 6 (lstG [AV.B n.p, AV.sl n.l.length 1 (gI n.l), AV.sl n.g.length 2 (gG n.g), AV.I IntKind.i64 n.o, AV.I IntKind.i64 n.s, AV.I IntKind.i64 n.t]), AV.I IntKind.i64 (n.g.getD (asI r14.fst).toNat (0, false)).fst] []) fun r16 =>
                            H [true, true, false, true] (hdS [(0, AV.pb 0 0), (1, AV.I IntKind.i64 st), (4, AV.pb 68 0), (5, AV.pb 69 0), (6, AV.I IntKind.i64 (IntKind.i64.wrap (k + 1)))] [(712704, ⟨asN (asA (asA r16.fst 0) 1), 1, fun i => lstG [AV.I IntKind.i64 (asI (asG (asA (asA r16.fst 0) 1) i 0))]⟩), (716800, ⟨asN (asA (asA r16.fst 0) 2), 2, fun i => lstG [AV.I IntKind.i64 (asI (asG (asA (asA r16.fst 0) 2) i 0)), AV.B (asB (asG (asA (asA r16.fst 0) 2) i 1))]⟩)] [(0, 3, [AV.gv (asV (asA (r14.snd.headD AV.bad) 0)), AV.I IntKind.i64 (asI (asA (r14.snd.headD AV.bad) 1)), AV.I IntKind.i64 (asI (asA (r14.snd.headD AV.bad) 2))]), (68, 6, [AV.B false, AV.nsl 1 fun x => lstG [AV.I IntKind.i64 0], AV.nsl 2 fun x => lstG [AV.I IntKind.i64 0, AV.B false], AV.I IntKind.i64 0, AV.I IntKind.i64 0, AV.I IntKind.i64 0]), (69, 6, [AV.B (asB (asA (asA r16.fst 0) 0)), AV.rf 712704, AV.rf 716800, AV.I IntKind.i64 (asI (asA (asA r16.fst 0) 3)), AV.I IntKind.i64 (asI (asA (asA r16.fst 0) 4)), AV.I IntKind.i64 (asI (asA (asA r16.fst 0) 5))])]))
                          else
                            (none))
                        (Option.bind (Γ 75 [AV.pb 0 0, AV.I IntKind.i64 (zN n.g.length)] [AV.nbx 3 (lstG [AV.gv (asV (asA (r7.snd.headD AV.bad) 0)), AV.I IntKind.i64 (asI (asA (r7.snd.headD AV.bad) 1)), AV.I IntKind.i64 (asI (asA (r7.snd.headD AV.bad) 2))])]) fun r14 =>
                          bif bif decide (0 ≤ asI r14.fst) then decide (asI r14.fst < zN n.g.length) else false then
                            (Option.bind (Γ 22 [AV.ag 6 (lstG [AV.B n.p, AV.sl n.l.length 1 (gI n.l), AV.sl n.g.length 2 (gG n.g), AV.I IntKind.i64 n.o, AV.I IntKind.i64 n.s, AV.I IntKind.i64 n.t]), AV.I IntKind.i64 (n.g.getD (asI r14.fst).toNat (0, false)).fst] []) fun r16 =>
                            H [true, true, false, true] (hdS [(0, AV.pb 0 0), (1, AV.I IntKind.i64 st), (4, AV.pb 68 0), (5, AV.pb 69 0), (6, AV.I IntKind.i64 (IntKind.i64.wrap (k + 1)))] [(712704, ⟨asN (asA (asA r16.fst 0) 1), 1, fun i => lstG [AV.I IntKind.i64 (asI (asG (asA (asA r16.fst 0) 1) i 0))]⟩), (716800, ⟨asN (asA (asA r16.fst 0) 2), 2, fun i => lstG [AV.I IntKind.i64 (asI (asG (asA (asA r16.fst 0) 2) i 0)), AV.B (asB (asG (asA (asA r16.fst 0) 2) i 1))]⟩)] [(0, 3, [AV.gv (asV (asA (r14.snd.headD AV.bad) 0)), AV.I IntKind.i64 (asI (asA (r14.snd.headD AV.bad) 1)), AV.I IntKind.i64 (asI (asA (r14.snd.headD AV.bad) 2))]), (68, 6, [AV.B false, AV.nsl 1 fun x => lstG [AV.I IntKind.i64 0], AV.nsl 2 fun x => lstG [AV.I IntKind.i64 0, AV.B false], AV.I IntKind.i64 0, AV.I IntKind.i64 0, AV.I IntKind.i64 0]), (69, 6, [AV.B (asB (asA (asA r16.fst 0) 0)), AV.rf 712704, AV.rf 716800, AV.I IntKind.i64 (asI (asA (asA r16.fst 0) 3)), AV.I IntKind.i64 (asI (asA (asA r16.fst 0) 4)), AV.I IntKind.i64 (asI (asA (asA r16.fst 0) 5))])]))
                          else
                            (none)))
                      (and2
                        (and2
                          (Option.bind (Γ 75 [AV.pb 0 0, AV.I IntKind.i64 (zN n.g.length)] [AV.nbx 3 (lstG [AV.gv (asV (asA (r7.snd.headD AV.bad) 0)), AV.I IntKind.i64 (asI (asA (r7.snd.headD AV.bad) 1)), AV.I IntKind.i64 (asI (asA (r7.snd.headD AV.bad) 2))])]) fun r15 =>
                            bif bif decide (0 ≤ asI r15.fst) then decide (asI r15.fst < zN n.g.length) else false then
                              (Option.bind (Γ 22 [AV.ag 6 (lstG [AV.B n.p, AV.sl n.l.length 1 (gI n.l), AV.sl n.g.length 2 (gG n.g), AV.I IntKind.i64 n.o, AV.I IntKind.i64 n.s, AV.I IntKind.i64 n.t]), AV.I IntKind.i64 (n.g.getD (asI r15.fst).toNat (0, false)).fst] []) fun r17 =>
                              H [true, true, false, true] (hdS [(0, AV.pb 0 0), (1, AV.I IntKind.i64 st), (4, AV.pb 68 0), (5, AV.pb 69 0), (6, AV.I IntKind.i64 (IntKind.i64.wrap (k + 1)))] [(712704, ⟨asN (asA (asA r17.fst 0) 1), 1, fun i => lstG [AV.I IntKind.i64 (asI (asG (asA (asA r17.fst 0) 1) i 0))]⟩), (716800, ⟨asN (asA (asA r17.fst 0) 2), 2, fun i => lstG [AV.I IntKind.i64 (asI (asG (asA (asA r17.fst 0) 2) i 0)), AV.B (asB (asG (asA (asA r17.fst 0) 2) i 1))]⟩)] [(0, 3, [AV.gv (asV (asA (r15.snd.headD AV.bad) 0)), AV.I IntKind.i64 (asI (asA (r15.snd.headD AV.bad) 1)), AV.I IntKind.i64 (asI (asA (r15.snd.headD AV.bad) 2))]), (68, 6, [AV.B false, AV.nsl 1 fun x => lstG [AV.I IntKind.i64 0], AV.nsl 2 fun x => lstG [AV.I IntKind.i64 0, AV.B false], AV.I IntKind.i64 0, AV.I IntKind.i64 0, AV.I IntKind.i64 0]), (69, 6, [AV.B (asB (asA (asA r17.fst 0) 0)), AV.rf 712704, AV.rf 716800, AV.I IntKind.i64 (asI (asA (asA r17.fst 0) 3)), AV.I IntKind.i64 (asI (asA (asA r17.fst 0) 4)), AV.I IntKind.i64 (asI (asA (asA r17.fst 0) 5))])]))
                            else
                              (none))
                          (Option.bind (Γ 75 [AV.pb 0 0, AV.I IntKind.i64 (zN n.g.length)] [AV.nbx 3 (lstG [AV.gv (asV (asA (r7.snd.headD AV.bad) 0)), AV.I IntKind.i64 (asI (asA (r7.snd.headD AV.bad) 1)), AV.I IntKind.i64 (asI (asA (r7.snd.headD AV.bad) 2))])]) fun r15 =>
                            bif bif decide (0 ≤ asI r15.fst) then decide (asI r15.fst < zN n.g.length) else false then
                              (Option.bind (Γ 22 [AV.ag 6 (lstG [AV.B n.p, AV.sl n.l.length 1 (gI n.l), AV.sl n.g.length 2 (gG n.g), AV.I IntKind.i64 n.o, AV.I IntKind.i64 n.s, AV.I IntKind.i64 n.t]), AV.I IntKind.i64 (n.g.getD (asI r15.fst).toNat (0, false)).fst] []) fun r17 =>
                              H [true, true, false, true] (hdS [(0, AV.pb 0 0), (1, AV.I IntKind.i64 st), (4, AV.pb 68 0), (5, AV.pb 69 0), (6, AV.I IntKind.i64 (IntKind.i64.wrap (k + 1)))] [(712704, ⟨asN (asA (asA r17.fst 0) 1), 1, fun i => lstG [AV.I IntKind.i64 (asI (asG (asA (asA r17.fst 0) 1) i 0))]⟩), (716800, ⟨asN (asA (asA r17.fst 0) 2), 2, fun i => lstG [AV.I IntKind.i64 (asI (asG (asA (asA r17.fst 0) 2) i 0)), AV.B (asB (asG (asA (asA r17.fst 0) 2) i 1))]⟩)] [(0, 3, [AV.gv (asV (asA (r15.snd.headD AV.bad) 0)), AV.I IntKind.i64 (asI (asA (r15.snd.headD AV.bad) 1)), AV.I IntKind.i64 (asI (asA (r15.snd.headD AV.bad) 2))]), (68, 6, [AV.B false, AV.nsl 1 fun x => lstG [AV.I IntKind.i64 0], AV.nsl 2 fun x => lstG [AV.I IntKind.i64 0, AV.B false], AV.I IntKind.i64 0, AV.I IntKind.i64 0, AV.I IntKind.i64 0]), (69, 6, [AV.B (asB (asA (asA r17.fst 0) 0)), AV.rf 712704, AV.rf 716800, AV.I IntKind.i64 (asI (asA (asA r17.fst 0) 3)), AV.I IntKind.i64 (asI (asA (asA r17.fst 0) 4)), AV.I IntKind.i64 (asI (asA (asA r17.fst 0) 5))])]))
                            else
                              (none)))
                        (Option.bind (Γ 75 [AV.pb 0 0, AV.I IntKind.i64 (zN n.g.length)] [AV.nbx 3 (lstG [AV.gv (asV (asA (r7.snd.headD AV.bad) 0)), AV.I IntKind.i64 (asI (asA (r7.snd.headD AV.bad) 1)), AV.I IntKind.i64 (asI (asA (r7.snd.headD AV.bad) 2))])]) fun r14 =>
                          bif bif decide (0 ≤ asI r14.fst) then decide (asI r14.fst < zN n.g.length) else false then
                            (Option.bind (Γ 22 [AV.ag 6 (lstG [AV.B n.p, AV.sl n.l.length 1 (gI n.l), AV.sl n.g.length 2 (gG n.g), AV.I IntKind.i64 n.o, AV.I IntKind.i64 n.s, AV.I IntKind.i64 n.t]), AV.I IntKind.i64 (n.g.getD (asI r14.fst).toNat (0, false)).fst] []) fun r16 =>
                            H [true, true, false, true] (hdS [(0, AV.pb 0 0), (1, AV.I IntKind.i64 st), (4, AV.pb 68 0), (5, AV.pb 69 0), (6, AV.I IntKind.i64 (IntKind.i64.wrap (k + 1)))] [(712704, ⟨asN (asA (asA r16.fst 0) 1), 1, fun i => lstG [AV.I IntKind.i64 (asI (asG (asA (asA r16.fst 0) 1) i 0))]⟩), (716800, ⟨asN (asA (asA r16.fst 0) 2), 2, fun i => lstG [AV.I IntKind.i64 (asI (asG (asA (asA r16.fst 0) 2) i 0)), AV.B (asB (asG (asA (asA r16.fst 0) 2) i 1))]⟩)] [(0, 3, [AV.gv (asV (asA (r14.snd.headD AV.bad) 0)), AV.I IntKind.i64 (asI (asA (r14.snd.headD AV.bad) 1)), AV.I IntKind.i64 (asI (asA (r14.snd.headD AV.bad) 2))]), (68, 6, [AV.B false, AV.nsl 1 fun x => lstG [AV.I IntKind.i64 0], AV.nsl 2 fun x => lstG [AV.I IntKind.i64 0, AV.B false], AV.I IntKind.i64 0, AV.I IntKind.i64 0, AV.I IntKind.i64 0]), (69, 6, [AV.B (asB (asA (asA r16.fst 0) 0)), AV.rf 712704, AV.rf 716800, AV.I IntKind.i64 (asI (asA (asA r16.fst 0) 3)), AV.I IntKind.i64 (asI (asA (asA r16.fst 0) 4)), AV.I IntKind.i64 (asI (asA (asA r16.fst 0) 5))])]))
                          else
                            (none)))))))
              else
                (H [true, true, false, true] (hdS [(0, AV.pb 0 0), (1, AV.I IntKind.i64 st), (4, AV.pb 68 0), (5, AV.pb 69 0), (6, AV.I IntKind.i64 (IntKind.i64.wrap (k + 1)))] [(712704, ⟨n.l.length, 1, gI n.l⟩), (716800, ⟨n.g.length, 2, gG n.g⟩)] [(0, 3, [AV.gv (asV (asA (r7.snd.headD AV.bad) 0)), AV.I IntKind.i64 (asI (asA (r7.snd.headD AV.bad) 1)), AV.I IntKind.i64 (asI (asA (r7.snd.headD AV.bad) 2))]), (68, 6, [AV.B false, AV.nsl 1 fun x => lstG [AV.I IntKind.i64 0], AV.nsl 2 fun x => lstG [AV.I IntKind.i64 0, AV.B false], AV.I IntKind.i64 0, AV.I IntKind.i64 0, AV.I IntKind.i64 0]), (69, 6, [AV.B n.p, AV.rf 712704, AV.rf 716800, AV.I IntKind.i64 n.o, AV.I IntKind.i64 n.s, AV.I IntKind.i64 n.t])])))
            else
              (H [true, true, false, true] (hdS [(0, AV.pb 0 0), (1, AV.I IntKind.i64 st), (4, AV.pb 68 0), (5, AV.pb 69 0), (6, AV.I IntKind.i64 (IntKind.i64.wrap (k + 1)))] [(712704, ⟨n.l.length, 1, gI n.l⟩), (716800, ⟨n.g.length, 2, gG n.g⟩)] [(0, 3, [AV.gv (asV (asA (r1.snd.headD AV.bad) 0)), AV.I IntKind.i64 (asI (asA (r1.snd.headD AV.bad) 1)), AV.I IntKind.i64 (asI (asA (r1.snd.headD AV.bad) 2))]), (68, 6, [AV.B false, AV.nsl 1 fun x => lstG [AV.I IntKind.i64 0], AV.nsl 2 fun x => lstG [AV.I IntKind.i64 0, AV.B false], AV.I IntKind.i64 0, AV.I IntKind.i64 0, AV.I IntKind.i64 0]), (69, 6, [AV.B n.p, AV.rf 712704, AV.rf 716800, AV.I IntKind.i64 n.o, AV.I IntKind.i64 n.s, AV.I IntKind.i64 n.t])])))
          else
            (and2
            (and2
              (Option.bind (Γ 75 [AV.pb 0 0, AV.I IntKind.i64 12] [AV.nbx 3 (lstG [AV.gv (asV (asA (r1.snd.headD AV.bad) 0)), AV.I IntKind.i64 (asI (asA (r1.snd.headD AV.bad) 1)), AV.I IntKind.i64 (asI (asA (r1.snd.headD AV.bad) 2))])]) fun r8 =>
                and2
                (Option.bind (Γ 77 [AV.ag 6 (lstG [AV.B n.p, AV.sl n.l.length 1 (gI n.l), AV.sl n.g.length 2 (gG n.g), AV.I IntKind.i64 n.o, AV.I IntKind.i64 n.s, AV.I IntKind.i64 n.t]), AV.I IntKind.i64 (asI r8.fst)] []) fun r10 =>
                  H [true, true, false, true] (hdS [(0, AV.pb 0 0), (1, AV.I IntKind.i64 st), (4, AV.pb 68 0), (5, AV.pb 69 0), (6, AV.I IntKind.i64 (IntKind.i64.wrap (k + 1)))] [(712704, ⟨asN (asA (asA r10.fst 0) 1), 1, fun i => lstG [AV.I IntKind.i64 (asI (asG (asA (asA r10.fst 0) 1) i 0))]⟩), (716800, ⟨asN (asA (asA r10.fst 0) 2), 2, fun i => lstG [AV.I IntKind.i64 (asI (asG (asA (asA r10.fst 0) 2) i 0)), AV.B (asB (asG (asA (asA r10.fst 0) 2) i 1))]⟩)] [(0, 3, [AV.gv (asV (asA (r8.snd.headD AV.bad) 0)), AV.I IntKind.i64 (asI (asA (r8.snd.headD AV.bad) 1)), AV.I IntKind.i64 (asI (asA (r8.snd.headD AV.bad) 2))]), (68, 6, [AV.B false, AV.nsl 1 fun x => lstG [AV.I IntKind.i64 0], AV.nsl 2 fun x => lstG [AV.I IntKind.i64 0, AV.B false], AV.I IntKind.i64 0, AV.I IntKind.i64 0, AV.I IntKind.i64 0]), (69, 6, [AV.B (asB (asA (asA r10.fst 0) 0)), AV.rf 712704, AV.rf 716800, AV.I IntKind.i64 (asI (asA (asA r10.fst 0) 3)), AV.I IntKind.i64 (asI (asA (asA r10.fst 0) 4)), AV.I IntKind.i64 (asI (asA (asA r10.fst 0) 5))])]))
                (Option.bind (Γ 77 [AV.ag 6 (lstG [AV.B n.p, AV.sl n.l.length 1 (gI n.l), AV.sl n.g.length 2 (gG n.g), AV.I IntKind.i64 n.o, AV.I IntKind.i64 n.s, AV.I IntKind.i64 n.t]), AV.I IntKind.i64 (asI r8.fst)] []) fun r10 =>
                  H [true, true, false, true] (hdS [(0, AV.pb 0 0), (1, AV.I IntKind.i64 st), (4, AV.pb 68 0), (5, AV.pb 69 0), (6, AV.I IntKind.i64 (IntKind.i64.wrap (k + 1)))] [(712704, ⟨asN (asA (asA r10.fst 0) 1), 1, fun i => lstG [AV.I IntKind.i64 (asI (asG (asA (asA r10.fst 0) 1) i 0))]⟩), (716800, ⟨asN (asA (asA r10.fst 0) 2), 2, fun i => lstG [AV.I IntKind.i64 (asI (asG (asA (asA r10.fst 0) 2) i 0)), AV.B (asB (asG (asA (asA r10.fst 0) 2) i 1))]⟩)] [(0, 3, [AV.gv (asV (asA (r8.snd.headD AV.bad) 0)), AV.I IntKind.i64 (asI (asA (r8.snd.headD AV.bad) 1)), AV.I IntKind.i64 (asI (asA (r8.snd.headD AV.bad) 2))]), (68, 6, [AV.B false, AV.nsl 1 fun x => lstG [AV.I IntKind.i64 0], AV.nsl 2 fun x => lstG [AV.I IntKind.i64 0, AV.B false], AV.I IntKind.i64 0, AV.I IntKind.i64 0, AV.I IntKind.i64 0]), (69, 6, [AV.B (asB (asA (asA r10.fst 0) 0)), AV.rf 712704, AV.rf 716800, AV.I IntKind.i64 (asI (asA (asA r10.fst 0) 3)), AV.I IntKind.i64 (asI (asA (asA r10.fst 0) 4)), AV.I IntKind.i64 (asI (asA (asA r10.fst 0) 5))])])))
              (Option.bind (Γ 75 [AV.pb 0 0, AV.I IntKind.i64 12] [AV.nbx 3 (lstG [AV.gv (asV (asA (r1.snd.headD AV.bad) 0)), AV.I IntKind.i64 (asI (asA (r1.snd.headD AV.bad) 1)), AV.I IntKind.i64 (asI (asA (r1.snd.headD AV.bad) 2))])]) fun r8 =>
                Option.bind (Γ 77 [AV.ag 6 (lstG [AV.B n.p, AV.sl n.l.length 1 (gI n.l), AV.sl n.g.length 2 (gG n.g), AV.I IntKind.i64 n.o, AV.I IntKind.i64 n.s, AV.I IntKind.i64 n.t]), AV.I IntKind.i64 (asI r8.fst)] []) fun r9 =>
                H [true, true, false, true] (hdS [(0, AV.pb 0 0), (1, AV.I IntKind.i64 st), (4, AV.pb 68 0), (5, AV.pb 69 0), (6, AV.I IntKind.i64 (IntKind.i64.wrap (k + 1)))] [(712704, ⟨asN (asA (asA r9.fst 0) 1), 1, fun i => lstG [AV.I IntKind.i64 (asI (asG (asA (asA r9.fst 0) 1) i 0))]⟩), (716800, ⟨asN (asA (asA r9.fst 0) 2), 2, fun i => lstG [AV.I IntKind.i64 (asI (asG (asA (asA r9.fst 0) 2) i 0)), AV.B (asB (asG (asA (asA r9.fst 0) 2) i 1))]⟩)] [(0, 3, [AV.gv (asV (asA (r8.snd.headD AV.bad) 0)), AV.I IntKind.i64 (asI (asA (r8.snd.headD AV.bad) 1)), AV.I IntKind.i64 (asI (asA (r8.snd.headD AV.bad) 2))]), (68, 6, [AV.B false, AV.nsl 1 fun x => lstG [AV.I IntKind.i64 0], AV.nsl 2 fun x => lstG [AV.I IntKind.i64 0, AV.B false], AV.I IntKind.i64 0, AV.I IntKind.i64 0, AV.I IntKind.i64 0]), (69, 6, [AV.B (asB (asA (asA r9.fst 0) 0)), AV.rf 712704, AV.rf 716800, AV.I IntKind.i64 (asI (asA (asA r9.fst 0) 3)), AV.I IntKind.i64 (asI (asA (asA r9.fst 0) 4)), AV.I IntKind.i64 (asI (asA (asA r9.fst 0) 5))])])))
            (and2
              (Option.bind (Γ 75 [AV.pb 0 0, AV.I IntKind.i64 12] [AV.nbx 3 (lstG [AV.gv (asV (asA (r1.snd.headD AV.bad) 0)), AV.I IntKind.i64 (asI (asA (r1.snd.headD AV.bad) 1)), AV.I IntKind.i64 (asI (asA (r1.snd.headD AV.bad) 2))])]) fun r8 =>
                and2
                (Option.bind (Γ 77 [AV.ag 6 (lstG [AV.B n.p, AV.sl n.l.length 1 (gI n.l), AV.sl n.g.length 2 (gG n.g), AV.I IntKind.i64 n.o, AV.I IntKind.i64 n.s, AV.I IntKind.i64 n.t]), AV.I IntKind.i64 (asI r8.fst)] []) fun r10 =>
                  H [true, true, false, true] (hdS [(0, AV.pb 0 0), (1, AV.I IntKind.i64 st), (4, AV.pb 68 0), (5, AV.pb 69 0), (6, AV.I IntKind.i64 (IntKind.i64.wrap (k + 1)))] [(712704, ⟨asN (asA (asA r10.fst 0) 1), 1, fun i => lstG [AV.I IntKind.i64 (asI (asG (asA (asA r10.fst 0) 1) i 0))]⟩), (716800, ⟨asN (asA (asA r10.fst 0) 2), 2, fun i => lstG [AV.I IntKind.i64 (asI (asG (asA (asA r10.fst 0) 2) i 0)), AV.B (asB (asG (asA (asA r10.fst 0) 2) i 1))]⟩)] [(0, 3, [AV.gv (asV (asA (r8.snd.headD AV.bad) 0)), AV.I IntKind.i64 (asI (asA (r8.snd.headD AV.bad) 1)), AV.I IntKind.i64 (asI (asA (r8.snd.headD AV.bad) 2))]), (68, 6, [AV.B false, AV.nsl 1 fun x => lstG [AV.I IntKind.i64 0], AV.nsl 2 fun x => lstG [AV.I IntKind.i64 0, AV.B false], AV.I IntKind.i64 0, AV.I IntKind.i64 0, AV.I IntKind.i64 0]), (69, 6, [AV.B (asB (asA (asA r10.fst 0) 0)), AV.rf 712704, AV.rf 716800, AV.I IntKind.i64 (asI (asA (asA r10.fst 0) 3)), AV.I IntKind.i64 (asI (asA (asA r10.fst 0) 4)), AV.I IntKind.i64 (asI (asA (asA r10.fst 0) 5))])]))
                (Option.bind (Γ 77 [AV.ag 6 (lstG [AV.B n.p, AV.sl n.l.length 1 (gI n.l), AV.sl n.g.length 2 (gG n.g), AV.I IntKind.i64 n.o, AV.I IntKind.i64 n.s, AV.I IntKind.i64 n.t]), AV.I IntKind.i64 (asI r8.fst)] []) fun r10 =>
                  H [true, true, false, true] (hdS [(0, AV.pb 0 0), (1, AV.I IntKind.i64 st), (4, AV.pb 68 0), (5, AV.pb 69 0), (6, AV.I IntKind.i64 (IntKind.i64.wrap (k + 1)))] [(712704, ⟨asN (asA (asA r10.fst 0) 1), 1, fun i => lstG [AV.I IntKind.i64 (asI (asG (asA (asA r10.fst 0) 1) i 0))]⟩), (716800, ⟨asN (asA (asA r10.fst 0) 2), 2, fun i => lstG [AV.I IntKind.i64 (asI (asG (asA (asA r10.fst 0) 2) i 0)), AV.B (asB (asG (asA (asA r10.fst 0) 2) i 1))]⟩)] [(0, 3, [AV.gv (asV (asA (r8.snd.headD AV.bad) 0)), AV.I IntKind.i64 (asI (asA (r8.snd.headD AV.bad) 1)), AV.I IntKind.i64 (asI (asA (r8.snd.headD AV.bad) 2))]), (68, 6, [AV.B false, AV.nsl 1 fun x => lstG [AV.I IntKind.i64 0], AV.nsl 2 fun x => lstG [AV.I IntKind.i64 0, AV.B false], AV.I IntKind.i64 0, AV.I IntKind.i64 0, AV.I IntKind.i64 0]), (69, 6, [AV.B (asB (asA (asA r10.fst 0) 0)), AV.rf 712704, AV.rf 716800, AV.I IntKind.i64 (asI (asA (asA r10.fst 0) 3)), AV.I IntKind.i64 (asI (asA (asA r10.fst 0) 4)), AV.I IntKind.i64 (asI (asA (asA r10.fst 0) 5))])])))
              (and2
                (Option.bind (Γ 75 [AV.pb 0 0, AV.I IntKind.i64 12] [AV.nbx 3 (lstG [AV.gv (asV (asA (r1.snd.headD AV.bad) 0)), AV.I IntKind.i64 (asI (asA (r1.snd.headD AV.bad) 1)), AV.I IntKind.i64 (asI (asA (r1.snd.headD AV.bad) 2))])]) fun r9 =>
                  Option.bind (Γ 77 [AV.ag 6 (lstG [AV.B n.p, AV.sl n.l.length 1 (gI n.l), AV.sl n.g.length 2 (gG n.g), AV.I IntKind.i64 n.o, AV.I IntKind.i64 n.s, AV.I IntKind.i64 n.t]), AV.I IntKind.i64 (asI r9.fst)] []) fun r10 =>
                  H [true, true, false, true] (hdS [(0, AV.pb 0 0), (1, AV.I IntKind.i64 st), (4, AV.pb 68 0), (5, AV.pb 69 0), (6, AV.I IntKind.i64 (IntKind.i64.wrap (k + 1)))] [(712704, ⟨asN (asA (asA r10.fst 0) 1), 1, fun i => lstG [AV.I IntKind.i64 (asI (asG (asA (asA r10.fst 0) 1) i 0))]⟩), (716800, ⟨asN (asA (asA r10.fst 0) 2), 2, fun i => lstG [AV.I IntKind.i64 (asI (asG (asA (asA r10.fst 0) 2) i 0)), AV.B (asB (asG (asA (asA r10.fst 0) 2) i 1))]⟩)] [(0, 3, [AV.gv (asV (asA (r9.snd.headD AV.bad) 0)), AV.I IntKind.i64 (asI (asA (r9.snd.headD AV.bad) 1)), AV.I IntKind.i64 (asI (asA (r9.snd.headD AV.bad) 2))]), (68, 6, [AV.B false, AV.nsl 1 fun x => lstG [AV.I IntKind.i64 0], AV.nsl 2 fun x => lstG [AV.I IntKind.i64 0, AV.B false], AV.I IntKind.i64 0, AV.I IntKind.i64 0, AV.I IntKind.i64 0]), (69, 6, [AV.B (asB (asA (asA r10.fst 0) 0)), AV.rf 712704, AV.rf 716800, AV.I IntKind.i64 (asI (asA (asA r10.fst 0) 3)), AV.I IntKind.i64 (asI (asA (asA r10.fst 0) 4)), AV.I IntKind.i64 (asI (asA (asA r10.fst 0) 5))])]))
                (Option.bind (Γ 75 [AV.pb 0 0, AV.I IntKind.i64 12] [AV.nbx 3 (lstG [AV.gv (asV (asA (r1.snd.headD AV.bad) 0)), AV.I IntKind.i64 (asI (asA (r1.snd.headD AV.bad) 1)), AV.I IntKind.i64 (asI (asA (r1.snd.headD AV.bad) 2))])]) fun r9 =>
                  Option.bind (Γ 77 [AV.ag 6 (lstG [AV.B n.p, AV.sl n.l.length 1 (gI n.l), AV.sl n.g.length 2 (gG n.g), AV.I IntKind.i64 n.o, AV.I IntKind.i64 n.s, AV.I IntKind.i64 n.t]), AV.I IntKind.i64 (asI r9.fst)] []) fun r10 =>
                  H [true, true, false, true] (hdS [(0, AV.pb 0 0), (1, AV.I IntKind.i64 st), (4, AV.pb 68 0), (5, AV.pb 69 0), (6, AV.I IntKind.i64 (IntKind.i64.wrap (k + 1)))] [(712704, ⟨asN (asA (asA r10.fst 0) 1), 1, fun i => lstG [AV.I IntKind.i64 (asI (asG (asA (asA r10.fst 0) 1) i 0))]⟩), (716800, ⟨asN (asA (asA r10.fst 0) 2), 2, fun i => lstG [AV.I IntKind.i64 (asI (asG (asA (asA r10.fst 0) 2) i 0)), AV.B (asB (asG (asA (asA r10.fst 0) 2) i 1))]⟩)] [(0, 3, [AV.gv (asV (asA (r9.snd.headD AV.bad) 0)), AV.I IntKind.i64 (asI (asA (r9.snd.headD AV.bad) 1)), AV.I IntKind.i64 (asI (asA (r9.snd.headD AV.bad) 2))]), (68, 6, [AV.B false, AV.nsl 1 fun x => lstG [AV.I IntKind.i64 0], AV.nsl 2 fun x => lstG [AV.I IntKind.i64 0, AV.B false], AV.I IntKind.i64 0, AV.I IntKind.i64 0, AV.I IntKind.i64 0]), (69, 6, [AV.B (asB (asA (asA r10.fst 0) 0)), AV.rf 712704, AV.rf 716800, AV.I IntKind.i64 (asI (asA (asA r10.fst 0) 3)), AV.I IntKind.i64 (asI (asA (asA r10.fst 0) 4)), AV.I IntKind.i64 (asI (asA (asA r10.fst 0) 5))])])))))))))
  else
    (bif bif okT then bif okT then true else false else false then
      (some (AV.ag 6 (lstG [AV.B n.p, AV.own n.l.length 1 (gI n.l), AV.own n.g.length 2 (gG n.g), AV.I IntKind.i64 n.o, AV.I IntKind.i64 n.s, AV.I IntKind.i64 n.t]), [AV.nbx 3 (lstG [AV.gv cs, AV.I IntKind.i64 i, AV.I IntKind.i64 h])]))
    else
      (none)) := by kernel_rfl
theorem e59 (Γ : Orc) (H : Hd) (cs : List Int) (i h : Int) : ent Try.prog cfg Γ 59 H [.pb 0 0] [.nbx 3 (lstG [.gv cs, nI i, nI h])] =
  Option.bind (Γ 75 [AV.pb 0 0, AV.I IntKind.i64 14] [AV.nbx 3 (lstG [AV.gv cs, AV.I IntKind.i64 i, AV.I IntKind.i64 h])]) fun r0 =>
  Option.bind (Γ 74 [AV.pb 0 0, AV.I IntKind.i64 (asI r0.fst)] [AV.nbx 3 (lstG [AV.gv (asV (asA (r0.snd.headD AV.bad) 0)), AV.I IntKind.i64 (asI (asA (r0.snd.headD AV.bad) 1)), AV.I IntKind.i64 (asI (asA (r0.snd.headD AV.bad) 2))])]) fun r1 =>
  Option.bind (Γ 76 [AV.pb 0 0, AV.I IntKind.i64 12] [AV.nbx 3 (lstG [AV.gv (asV (asA (r1.snd.headD AV.bad) 0)), AV.I IntKind.i64 (asI (asA (r1.snd.headD AV.bad) 1)), AV.I IntKind.i64 (asI (asA (r1.snd.headD AV.bad) 2))])]) fun r2 =>
  bif asB r2.fst then
    (H [true, true, false, true, false, true] (hdS [(0, AV.pb 0 0), (2, AV.pb 66 0), (3, AV.pb 67 0), (4, AV.I IntKind.i64 0)] [(655360, ⟨asN (asA r1.fst 1), 1, fun i => lstG [AV.I IntKind.i64 (asI (asG (asA r1.fst 1) i 0))]⟩), (659456, ⟨asN (asA r1.fst 2), 2, fun i => lstG [AV.I IntKind.i64 (asI (asG (asA r1.fst 2) i 0)), AV.B (asB (asG (asA r1.fst 2) i 1))]⟩)] [(0, 3, [AV.gv (asV (asA (r2.snd.headD AV.bad) 0)), AV.I IntKind.i64 (asI (asA (r2.snd.headD AV.bad) 1)), AV.I IntKind.i64 (asI (asA (r2.snd.headD AV.bad) 2))]), (66, 6, [AV.B false, AV.nsl 1 fun x => lstG [AV.I IntKind.i64 0], AV.nsl 2 fun x => lstG [AV.I IntKind.i64 0, AV.B false], AV.I IntKind.i64 0, AV.I IntKind.i64 0, AV.I IntKind.i64 0]), (67, 6, [AV.B (asB (asA r1.fst 0)), AV.rf 655360, AV.rf 659456, AV.I IntKind.i64 (asI (asA r1.fst 3)), AV.I IntKind.i64 (asI (asA r1.fst 4)), AV.I IntKind.i64 (asI (asA r1.fst 5))])]))
  else
    (Option.bind (Γ 76 [AV.pb 0 0, AV.I IntKind.i64 15] [AV.nbx 3 (lstG [AV.gv (asV (asA (r2.snd.headD AV.bad) 0)), AV.I IntKind.i64 (asI (asA (r2.snd.headD AV.bad) 1)), AV.I IntKind.i64 (asI (asA (r2.snd.headD AV.bad) 2))])]) fun r4 =>
    H [true, true, true, false, false] (hdS [(0, AV.pb 0 0), (2, AV.pb 66 0), (3, AV.pb 67 0), (31, AV.B (asB r4.fst))] [(655360, ⟨asN (asA r1.fst 1), 1, fun i => lstG [AV.I IntKind.i64 (asI (asG (asA r1.fst 1) i 0))]⟩), (659456, ⟨asN (asA r1.fst 2), 2, fun i => lstG [AV.I IntKind.i64 (asI (asG (asA r1.fst 2) i 0)), AV.B (asB (asG (asA r1.fst 2) i 1))]⟩)] [(0, 3, [AV.gv (asV (asA (r4.snd.headD AV.bad) 0)), AV.I IntKind.i64 (asI (asA (r4.snd.headD AV.bad) 1)), AV.I IntKind.i64 (asI (asA (r4.snd.headD AV.bad) 2))]), (66, 6, [AV.B false, AV.nsl 1 fun x => lstG [AV.I IntKind.i64 0], AV.nsl 2 fun x => lstG [AV.I IntKind.i64 0, AV.B false], AV.I IntKind.i64 0, AV.I IntKind.i64 0, AV.I IntKind.i64 0]), (67, 6, [AV.B (asB (asA r1.fst 0)), AV.rf 655360, AV.rf 659456, AV.I IntKind.i64 (asI (asA r1.fst 3)), AV.I IntKind.i64 (asI (asA r1.fst 4)), AV.I IntKind.i64 (asI (asA r1.fst 5))])])) := by kernel_rfl
theorem h59 (Γ : Orc) (H : Hd) (cs cs0 : List Int) (i0 h0 : Int) (n : NT) (i h k : Int) : hed Try.prog cfg Γ 59 H [.nbx 3 (lstG [.gv cs0, nI i0, nI h0])] [true, true, false, true, false, true] (hdS [(0, .pb 0 0), (2, .pb 66 0), (3, .pb 67 0), (4, nI k)] [(655360, ⟨n.l.length, 1, gI n.l⟩), (659456, ⟨n.g.length, 2, gG n.g⟩)] [(0, 3, [.gv cs, nI i, nI h]), (66, 6, [.B false, .nsl 1 (fun _ => lstG [nI 0]), .nsl 2 (fun _ => lstG [nI 0, .B false]), nI 0, nI 0, nI 0]), (67, 6, [.B n.p, .rf 655360, .rf 659456, nI n.o, nI n.s, nI n.t])]) =
  bif decide (k < 32) then
    (bif !n.p then
      (Option.bind (Γ 77 [AV.ag 6 (lstG [AV.B n.p, AV.sl n.l.length 1 (gI n.l), AV.sl n.g.length 2 (gG n.g), AV.I IntKind.i64 n.o, AV.I IntKind.i64 n.s, AV.I IntKind.i64 n.t]), AV.I IntKind.i64 k] []) fun r2 =>
      H [true, true, false, true, false, true] (hdS [(0, AV.pb 0 0), (2, AV.pb 66 0), (3, AV.pb 67 0), (4, AV.I IntKind.i64 (IntKind.i64.wrap (k + 1)))] [(655360, ⟨asN (asA (asA r2.fst 0) 1), 1, fun i => lstG [AV.I IntKind.i64 (asI (asG (asA (asA r2.fst 0) 1) i 0))]⟩), (659456, ⟨asN (asA (asA r2.fst 0) 2), 2, fun i => lstG [AV.I IntKind.i64 (asI (asG (asA (asA r2.fst 0) 2) i 0)), AV.B (asB (asG (asA (asA r2.fst 0) 2) i 1))]⟩)] [(0, 3, [AV.gv cs, AV.I IntKind.i64 i, AV.I IntKind.i64 h]), (66, 6, [AV.B false, AV.nsl 1 fun x => lstG [AV.I IntKind.i64 0], AV.nsl 2 fun x => lstG [AV.I IntKind.i64 0, AV.B false], AV.I IntKind.i64 0, AV.I IntKind.i64 0, AV.I IntKind.i64 0]), (67, 6, [AV.B (asB (asA (asA r2.fst 0) 0)), AV.rf 655360, AV.rf 659456, AV.I IntKind.i64 (asI (asA (asA r2.fst 0) 3)), AV.I IntKind.i64 (asI (asA (asA r2.fst 0) 4)), AV.I IntKind.i64 (asI (asA (asA r2.fst 0) 5))])]))
    else
      (Option.bind (Γ 76 [AV.pb 0 0, AV.I IntKind.i64 15] [AV.nbx 3 (lstG [AV.gv cs, AV.I IntKind.i64 i, AV.I IntKind.i64 h])]) fun r2 =>
      H [true, true, true, false, false] (hdS [(0, AV.pb 0 0), (2, AV.pb 66 0), (3, AV.pb 67 0), (31, AV.B (asB r2.fst))] [(655360, ⟨n.l.length, 1, gI n.l⟩), (659456, ⟨n.g.length, 2, gG n.g⟩)] [(0, 3, [AV.gv (asV (asA (r2.snd.headD AV.bad) 0)), AV.I IntKind.i64 (asI (asA (r2.snd.headD AV.bad) 1)), AV.I IntKind.i64 (asI (asA (r2.snd.headD AV.bad) 2))]), (66, 6, [AV.B false, AV.nsl 1 fun x => lstG [AV.I IntKind.i64 0], AV.nsl 2 fun x => lstG [AV.I IntKind.i64 0, AV.B false], AV.I IntKind.i64 0, AV.I IntKind.i64 0, AV.I IntKind.i64 0]), (67, 6, [AV.B n.p, AV.rf 655360, AV.rf 659456, AV.I IntKind.i64 n.o, AV.I IntKind.i64 n.s, AV.I IntKind.i64 n.t])])))
  else
    (Option.bind (Γ 76 [AV.pb 0 0, AV.I IntKind.i64 15] [AV.nbx 3 (lstG [AV.gv cs, AV.I IntKind.i64 i, AV.I IntKind.i64 h])]) fun r1 =>
    H [true, true, true, false, false] (hdS [(0, AV.pb 0 0), (2, AV.pb 66 0), (3, AV.pb 67 0), (31, AV.B (asB r1.fst))] [(655360, ⟨n.l.length, 1, gI n.l⟩), (659456, ⟨n.g.length, 2, gG n.g⟩)] [(0, 3, [AV.gv (asV (asA (r1.snd.headD AV.bad) 0)), AV.I IntKind.i64 (asI (asA (r1.snd.headD AV.bad) 1)), AV.I IntKind.i64 (asI (asA (r1.snd.headD AV.bad) 2))]), (66, 6, [AV.B false, AV.nsl 1 fun x => lstG [AV.I IntKind.i64 0], AV.nsl 2 fun x => lstG [AV.I IntKind.i64 0, AV.B false], AV.I IntKind.i64 0, AV.I IntKind.i64 0, AV.I IntKind.i64 0]), (67, 6, [AV.B n.p, AV.rf 655360, AV.rf 659456, AV.I IntKind.i64 n.o, AV.I IntKind.i64 n.s, AV.I IntKind.i64 n.t])])) := by kernel_rfl
theorem h59b (Γ : Orc) (H : Hd) (cs cs0 : List Int) (i0 h0 : Int) (n : NT) (i h : Int) (b : Bool) : hed Try.prog cfg Γ 59 H [.nbx 3 (lstG [.gv cs0, nI i0, nI h0])] [true, true, true, false, false] (hdS [(0, .pb 0 0), (2, .pb 66 0), (3, .pb 67 0), (31, .B b)] [(655360, ⟨n.l.length, 1, gI n.l⟩), (659456, ⟨n.g.length, 2, gG n.g⟩)] [(0, 3, [.gv cs, nI i, nI h]), (66, 6, [.B false, .nsl 1 (fun _ => lstG [nI 0]), .nsl 2 (fun _ => lstG [nI 0, .B false]), nI 0, nI 0, nI 0]), (67, 6, [.B n.p, .rf 655360, .rf 659456, nI n.o, nI n.s, nI n.t])]) =
  bif b then
    (Option.bind (Γ 76 [AV.pb 0 0, AV.I IntKind.i64 2] [AV.nbx 3 (lstG [AV.gv cs, AV.I IntKind.i64 i, AV.I IntKind.i64 h])]) fun r1 =>
    bif asB r1.fst then
      (bif decide (999999995 < IntKind.i64.wrap (n.t + IntKind.i64.wrap (1000000000 - n.o))) then
        (Option.bind (Γ 76 [AV.pb 0 0, AV.I IntKind.i64 8] [AV.nbx 3 (lstG [AV.gv (asV (asA (r1.snd.headD AV.bad) 0)), AV.I IntKind.i64 (asI (asA (r1.snd.headD AV.bad) 1)), AV.I IntKind.i64 (asI (asA (r1.snd.headD AV.bad) 2))])]) fun r4 =>
        H [true, true, true, true, false, false] (hdS [(0, AV.pb 0 0), (2, AV.pb 66 0), (3, AV.pb 67 0), (61, AV.B (asB r4.fst))] [(655360, ⟨n.l.length, 1, gI n.l⟩), (659456, ⟨n.g.length, 2, gG n.g⟩)] [(0, 3, [AV.gv (asV (asA (r4.snd.headD AV.bad) 0)), AV.I IntKind.i64 (asI (asA (r4.snd.headD AV.bad) 1)), AV.I IntKind.i64 (asI (asA (r4.snd.headD AV.bad) 2))]), (66, 6, [AV.B false, AV.nsl 1 fun x => lstG [AV.I IntKind.i64 0], AV.nsl 2 fun x => lstG [AV.I IntKind.i64 0, AV.B false], AV.I IntKind.i64 0, AV.I IntKind.i64 0, AV.I IntKind.i64 0]), (67, 6, [AV.B n.p, AV.rf 655360, AV.rf 659456, AV.I IntKind.i64 (IntKind.i64.wrap (n.o + IntKind.i64.wrap (1000000000 - n.o))), AV.I IntKind.i64 (IntKind.i64.wrap (n.s + 3)), AV.I IntKind.i64 (IntKind.i64.wrap (IntKind.i64.wrap (n.t + IntKind.i64.wrap (1000000000 - n.o)) - 3))])]))
      else
        (Option.bind (Γ 76 [AV.pb 0 0, AV.I IntKind.i64 8] [AV.nbx 3 (lstG [AV.gv (asV (asA (r1.snd.headD AV.bad) 0)), AV.I IntKind.i64 (asI (asA (r1.snd.headD AV.bad) 1)), AV.I IntKind.i64 (asI (asA (r1.snd.headD AV.bad) 2))])]) fun r4 =>
        H [true, true, true, true, false, false] (hdS [(0, AV.pb 0 0), (2, AV.pb 66 0), (3, AV.pb 67 0), (61, AV.B (asB r4.fst))] [(655360, ⟨n.l.length, 1, gI n.l⟩), (659456, ⟨n.g.length, 2, gG n.g⟩)] [(0, 3, [AV.gv (asV (asA (r4.snd.headD AV.bad) 0)), AV.I IntKind.i64 (asI (asA (r4.snd.headD AV.bad) 1)), AV.I IntKind.i64 (asI (asA (r4.snd.headD AV.bad) 2))]), (66, 6, [AV.B false, AV.nsl 1 fun x => lstG [AV.I IntKind.i64 0], AV.nsl 2 fun x => lstG [AV.I IntKind.i64 0, AV.B false], AV.I IntKind.i64 0, AV.I IntKind.i64 0, AV.I IntKind.i64 0]), (67, 6, [AV.B n.p, AV.rf 655360, AV.rf 659456, AV.I IntKind.i64 (IntKind.i64.wrap (n.o + IntKind.i64.wrap (1000000000 - n.o))), AV.I IntKind.i64 n.s, AV.I IntKind.i64 (IntKind.i64.wrap (n.t + IntKind.i64.wrap (1000000000 - n.o)))])])))
    else
      (Option.bind (Γ 76 [AV.pb 0 0, AV.I IntKind.i64 8] [AV.nbx 3 (lstG [AV.gv (asV (asA (r1.snd.headD AV.bad) 0)), AV.I IntKind.i64 (asI (asA (r1.snd.headD AV.bad) 1)), AV.I IntKind.i64 (asI (asA (r1.snd.headD AV.bad) 2))])]) fun r3 =>
      H [true, true, true, true, false, false] (hdS [(0, AV.pb 0 0), (2, AV.pb 66 0), (3, AV.pb 67 0), (61, AV.B (asB r3.fst))] [(655360, ⟨n.l.length, 1, gI n.l⟩), (659456, ⟨n.g.length, 2, gG n.g⟩)] [(0, 3, [AV.gv (asV (asA (r3.snd.headD AV.bad) 0)), AV.I IntKind.i64 (asI (asA (r3.snd.headD AV.bad) 1)), AV.I IntKind.i64 (asI (asA (r3.snd.headD AV.bad) 2))]), (66, 6, [AV.B false, AV.nsl 1 fun x => lstG [AV.I IntKind.i64 0], AV.nsl 2 fun x => lstG [AV.I IntKind.i64 0, AV.B false], AV.I IntKind.i64 0, AV.I IntKind.i64 0, AV.I IntKind.i64 0]), (67, 6, [AV.B n.p, AV.rf 655360, AV.rf 659456, AV.I IntKind.i64 (IntKind.i64.wrap (n.o + IntKind.i64.wrap (1000000000 - n.o))), AV.I IntKind.i64 n.s, AV.I IntKind.i64 (IntKind.i64.wrap (n.t + IntKind.i64.wrap (1000000000 - n.o)))])])))
  else
    (Option.bind (Γ 76 [AV.pb 0 0, AV.I IntKind.i64 8] [AV.nbx 3 (lstG [AV.gv cs, AV.I IntKind.i64 i, AV.I IntKind.i64 h])]) fun r1 =>
    H [true, true, true, true, false, false] (hdS [(0, AV.pb 0 0), (2, AV.pb 66 0), (3, AV.pb 67 0), (61, AV.B (asB r1.fst))] [(655360, ⟨n.l.length, 1, gI n.l⟩), (659456, ⟨n.g.length, 2, gG n.g⟩)] [(0, 3, [AV.gv (asV (asA (r1.snd.headD AV.bad) 0)), AV.I IntKind.i64 (asI (asA (r1.snd.headD AV.bad) 1)), AV.I IntKind.i64 (asI (asA (r1.snd.headD AV.bad) 2))]), (66, 6, [AV.B false, AV.nsl 1 fun x => lstG [AV.I IntKind.i64 0], AV.nsl 2 fun x => lstG [AV.I IntKind.i64 0, AV.B false], AV.I IntKind.i64 0, AV.I IntKind.i64 0, AV.I IntKind.i64 0]), (67, 6, [AV.B n.p, AV.rf 655360, AV.rf 659456, AV.I IntKind.i64 n.o, AV.I IntKind.i64 n.s, AV.I IntKind.i64 n.t])])) := by kernel_rfl
theorem h59c (Γ : Orc) (H : Hd) (cs cs0 : List Int) (i0 h0 : Int) (n : NT) (i h : Int) (b : Bool) : hed Try.prog cfg Γ 59 H [.nbx 3 (lstG [.gv cs0, nI i0, nI h0])] [true, true, true, true, false, false] (hdS [(0, .pb 0 0), (2, .pb 66 0), (3, .pb 67 0), (61, .B b)] [(655360, ⟨n.l.length, 1, gI n.l⟩), (659456, ⟨n.g.length, 2, gG n.g⟩)] [(0, 3, [.gv cs, nI i, nI h]), (66, 6, [.B false, .nsl 1 (fun _ => lstG [nI 0]), .nsl 2 (fun _ => lstG [nI 0, .B false]), nI 0, nI 0, nI 0]), (67, 6, [.B n.p, .rf 655360, .rf 659456, nI n.o, nI n.s, nI n.t])]) =
  bif b then
    (Option.bind (Γ 75 [AV.pb 0 0, AV.I IntKind.i64 4] [AV.nbx 3 (lstG [AV.gv cs, AV.I IntKind.i64 i, AV.I IntKind.i64 h])]) fun r1 =>
    bif decide (asI r1.fst = 0) then
      (bif bif okT then bif okT then true else false else false then
        (some (AV.ag 6 (lstG [AV.B n.p, AV.own n.l.length 1 (gI n.l), AV.own n.g.length 2 (gG n.g), AV.I IntKind.i64 n.o, AV.I IntKind.i64 (IntKind.i64.wrap (n.s + 1)), AV.I IntKind.i64 n.t]), [AV.nbx 3 (lstG [AV.gv (asV (asA (r1.snd.headD AV.bad) 0)), AV.I IntKind.i64 (asI (asA (r1.snd.headD AV.bad) 1)), AV.I IntKind.i64 (asI (asA (r1.snd.headD AV.bad) 2))])]))
      else
        (none))
    else
      (bif decide (asI r1.fst = 1) then
        (bif bif okT then bif okT then true else false else false then
          (some (AV.ag 6 (lstG [AV.B !n.p, AV.own n.l.length 1 (gI n.l), AV.own n.g.length 2 (gG n.g), AV.I IntKind.i64 n.o, AV.I IntKind.i64 n.s, AV.I IntKind.i64 n.t]), [AV.nbx 3 (lstG [AV.gv (asV (asA (r1.snd.headD AV.bad) 0)), AV.I IntKind.i64 (asI (asA (r1.snd.headD AV.bad) 1)), AV.I IntKind.i64 (asI (asA (r1.snd.headD AV.bad) 2))])]))
        else
          (none))
      else
        (bif decide (asI r1.fst = 2) then
          (and2
          (Option.bind (Γ 75 [AV.pb 0 0, AV.I IntKind.i64 5] [AV.nbx 3 (lstG [AV.gv (asV (asA (r1.snd.headD AV.bad) 0)), AV.I IntKind.i64 (asI (asA (r1.snd.headD AV.bad) 1)), AV.I IntKind.i64 (asI (asA (r1.snd.headD AV.bad) 2))])]) fun r6 =>
            bif decide (n.g.length + 1 ≤ 4294967296) && true && true && true && true then
              (bif bif okT then bif okT then true else false else false then
                (some (AV.ag 6 (lstG [AV.B n.p, AV.own n.l.length 1 (gI n.l), AV.own (n.g.length + 1) 2 fun i => lstG [AV.I IntKind.i64 (bif decide (i < n.g.length) then (n.g.getD i (0, false)).fst else bif decide (i - n.g.length = 0) then asI r6.fst else 0), AV.B (bif decide (i < n.g.length) then (n.g.getD i (0, false)).snd else bif decide (i - n.g.length = 0) then false else false)], AV.I IntKind.i64 n.o, AV.I IntKind.i64 n.s, AV.I IntKind.i64 n.t]), [AV.nbx 3 (lstG [AV.gv (asV (asA (r6.snd.headD AV.bad) 0)), AV.I IntKind.i64 (asI (asA (r6.snd.headD AV.bad) 1)), AV.I IntKind.i64 (asI (asA (r6.snd.headD AV.bad) 2))])]))
              else
                (none))
            else
              (none))
          (Option.bind (Γ 75 [AV.pb 0 0, AV.I IntKind.i64 5] [AV.nbx 3 (lstG [AV.gv (asV (asA (r1.snd.headD AV.bad) 0)), AV.I IntKind.i64 (asI (asA (r1.snd.headD AV.bad) 1)), AV.I IntKind.i64 (asI (asA (r1.snd.headD AV.bad) 2))])]) fun r6 =>
            and2
            (bif decide (n.g.length + 1 ≤ 4294967296) && true && true && true && true then
                (bif bif okT then bif okT then true else false else false then
                  (some (AV.ag 6 (lstG [AV.B n.p, AV.own n.l.length 1 (gI n.l), AV.own (n.g.length + 1) 2 fun i => lstG [AV.I IntKind.i64 (bif decide (i < n.g.length) then (n.g.getD i (0, false)).fst else bif decide (i - n.g.length = 0) then asI r6.fst else 0), AV.B (bif decide (i < n.g.length) then (n.g.getD i (0, false)).snd else bif decide (i - n.g.length = 0) then false else false)], AV.I IntKind.i64 n.o, AV.I IntKind.i64 n.s, AV.I IntKind.i64 n.t]), [AV.nbx 3 (lstG [AV.gv (asV (asA (r6.snd.headD AV.bad) 0)), AV.I IntKind.i64 (asI (asA (r6.snd.headD AV.bad) 1)), AV.I IntKind.i64 (asI (asA (r6.snd.headD AV.bad) 2))])]))
                else
                  (none))
              else
                (none))
            (bif decide (n.g.length + 1 ≤ 4294967296) && true && true && true && true then
                (bif bif okT then bif okT then true else false else false then
                  (some (AV.ag 6 (lstG [AV.B n.p, AV.own n.l.length 1 (gI n.l), AV.own (n.g.length + 1) 2 fun i => lstG [AV.I IntKind.i64 (bif decide (i < n.g.length) then (n.g.getD i (0, false)).fst else bif decide (i - n.g.length = 0) then asI r6.fst else 0), AV.B (bif decide (i < n.g.length) then (n.g.getD i (0, false)).snd else bif decide (i - n.g.length = 0) then false else false)], AV.I IntKind.i64 n.o, AV.I IntKind.i64 n.s, AV.I IntKind.i64 n.t]), [AV.nbx 3 (lstG [AV.gv (asV (asA (r6.snd.headD AV.bad) 0)), AV.I IntKind.i64 (asI (asA (r6.snd.headD AV.bad) 1)), AV.I IntKind.i64 (asI (asA (r6.snd.headD AV.bad) 2))])]))
                else
                  (none))
              else
                (none))))
        else
          (bif decide (n.l.length + 1 ≤ 4294967296) && true && true && true && true then
            (bif bif okT then bif okT then true else false else false then
              (some (AV.ag 6 (lstG [AV.B n.p, AV.own (n.l.length + 1) 1 fun i => lstG [AV.I IntKind.i64 (bif decide (i < n.l.length) then n.l.getD i 0 else bif decide (i - n.l.length = 0) then -1 else 0)], AV.own n.g.length 2 (gG n.g), AV.I IntKind.i64 n.o, AV.I IntKind.i64 n.s, AV.I IntKind.i64 n.t]), [AV.nbx 3 (lstG [AV.gv (asV (asA (r1.snd.headD AV.bad) 0)), AV.I IntKind.i64 (asI (asA (r1.snd.headD AV.bad) 1)), AV.I IntKind.i64 (asI (asA (r1.snd.headD AV.bad) 2))])]))
            else
              (none))
          else
            (none)))))
  else
    (bif bif okT then bif okT then true else false else false then
      (some (AV.ag 6 (lstG [AV.B n.p, AV.own n.l.length 1 (gI n.l), AV.own n.g.length 2 (gG n.g), AV.I IntKind.i64 n.o, AV.I IntKind.i64 n.s, AV.I IntKind.i64 n.t]), [AV.nbx 3 (lstG [AV.gv cs, AV.I IntKind.i64 i, AV.I IntKind.i64 h])]))
    else
      (none)) := by kernel_rfl
theorem e77 (Γ : Orc) (H : Hd) (n : NT) (a : Int) : ent Try.prog cfg Γ 77 H [slN n, nI a] [] =
  Option.bind (Γ 32 [AV.ag 6 (lstG [AV.B n.p, AV.sl n.l.length 1 (gI n.l), AV.sl n.g.length 2 (gG n.g), AV.I IntKind.i64 n.o, AV.I IntKind.i64 n.s, AV.I IntKind.i64 n.t])] []) fun r0 =>
  Option.bind (Γ 24 [AV.ag 6 (lstG [AV.B n.p, AV.sl n.l.length 1 (gI n.l), AV.sl n.g.length 2 (gG n.g), AV.I IntKind.i64 n.o, AV.I IntKind.i64 n.s, AV.I IntKind.i64 n.t])] []) fun r1 =>
  bif !asB r1.fst then
    (bif bif bif okT then bif okT then true else false else false then true else false then
      (some (AV.tup 2 (lstG [AV.ag 6 (lstG [AV.B (asB (asA r0.fst 0)), AV.own (asN (asA r0.fst 1)) 1 fun i => lstG [AV.I IntKind.i64 (asI (asG (asA r0.fst 1) i 0))], AV.own (asN (asA r0.fst 2)) 2 fun i => lstG [AV.I IntKind.i64 (asI (asG (asA r0.fst 2) i 0)), AV.B (asB (asG (asA r0.fst 2) i 1))], AV.I IntKind.i64 (asI (asA r0.fst 3)), AV.I IntKind.i64 (asI (asA r0.fst 4)), AV.I IntKind.i64 (asI (asA r0.fst 5))]), AV.I IntKind.i64 1]), []))
    else
      (none))
  else
    (Option.bind (Γ 57 [AV.I IntKind.i64 a] []) fun r3 =>
    bif !asB r3.fst then
      (bif bif bif okT then bif okT then true else false else false then true else false then
        (some (AV.tup 2 (lstG [AV.ag 6 (lstG [AV.B (asB (asA r0.fst 0)), AV.own (asN (asA r0.fst 1)) 1 fun i => lstG [AV.I IntKind.i64 (asI (asG (asA r0.fst 1) i 0))], AV.own (asN (asA r0.fst 2)) 2 fun i => lstG [AV.I IntKind.i64 (asI (asG (asA r0.fst 2) i 0)), AV.B (asB (asG (asA r0.fst 2) i 1))], AV.I IntKind.i64 (asI (asA r0.fst 3)), AV.I IntKind.i64 (asI (asA r0.fst 4)), AV.I IntKind.i64 (asI (asA r0.fst 5))]), AV.I IntKind.i64 1]), []))
      else
        (none))
    else
      (Option.bind (Γ 50 [AV.sl n.l.length 1 (gI n.l), AV.I IntKind.i64 a] []) fun r5 =>
      bif asB r5.fst then
        (bif bif bif okT then bif okT then true else false else false then true else false then
          (some (AV.tup 2 (lstG [AV.ag 6 (lstG [AV.B (asB (asA r0.fst 0)), AV.own (asN (asA r0.fst 1)) 1 fun i => lstG [AV.I IntKind.i64 (asI (asG (asA r0.fst 1) i 0))], AV.own (asN (asA r0.fst 2)) 2 fun i => lstG [AV.I IntKind.i64 (asI (asG (asA r0.fst 2) i 0)), AV.B (asB (asG (asA r0.fst 2) i 1))], AV.I IntKind.i64 (asI (asA r0.fst 3)), AV.I IntKind.i64 (asI (asA r0.fst 4)), AV.I IntKind.i64 (asI (asA r0.fst 5))]), AV.I IntKind.i64 5]), []))
        else
          (none))
      else
        (Option.bind (Γ 49 [AV.sl n.g.length 2 (gG n.g), AV.I IntKind.i64 a] []) fun r7 =>
        bif decide (0 ≤ asI r7.fst) then
          (bif bif bif okT then bif okT then true else false else false then true else false then
            (some (AV.tup 2 (lstG [AV.ag 6 (lstG [AV.B (asB (asA r0.fst 0)), AV.own (asN (asA r0.fst 1)) 1 fun i => lstG [AV.I IntKind.i64 (asI (asG (asA r0.fst 1) i 0))], AV.own (asN (asA r0.fst 2)) 2 fun i => lstG [AV.I IntKind.i64 (asI (asG (asA r0.fst 2) i 0)), AV.B (asB (asG (asA r0.fst 2) i 1))], AV.I IntKind.i64 (asI (asA r0.fst 3)), AV.I IntKind.i64 (asI (asA r0.fst 4)), AV.I IntKind.i64 (asI (asA r0.fst 5))]), AV.I IntKind.i64 5]), []))
          else
            (none))
        else
          (bif decide (1000000000 ≤ n.t) then
            (bif bif bif okT then bif okT then true else false else false then true else false then
              (some (AV.tup 2 (lstG [AV.ag 6 (lstG [AV.B (asB (asA r0.fst 0)), AV.own (asN (asA r0.fst 1)) 1 fun i => lstG [AV.I IntKind.i64 (asI (asG (asA r0.fst 1) i 0))], AV.own (asN (asA r0.fst 2)) 2 fun i => lstG [AV.I IntKind.i64 (asI (asG (asA r0.fst 2) i 0)), AV.B (asB (asG (asA r0.fst 2) i 1))], AV.I IntKind.i64 (asI (asA r0.fst 3)), AV.I IntKind.i64 (asI (asA r0.fst 4)), AV.I IntKind.i64 (asI (asA r0.fst 5))]), AV.I IntKind.i64 2]), []))
            else
              (none))
          else
            (bif !n.p then
              (bif decide (32 ≤ zN n.l.length) then
                (bif bif bif okT then bif okT then true else false else false then true else false then
                  (some (AV.tup 2 (lstG [AV.ag 6 (lstG [AV.B (asB (asA r0.fst 0)), AV.own (asN (asA r0.fst 1)) 1 fun i => lstG [AV.I IntKind.i64 (asI (asG (asA r0.fst 1) i 0))], AV.own (asN (asA r0.fst 2)) 2 fun i => lstG [AV.I IntKind.i64 (asI (asG (asA r0.fst 2) i 0)), AV.B (asB (asG (asA r0.fst 2) i 1))], AV.I IntKind.i64 (asI (asA r0.fst 3)), AV.I IntKind.i64 (asI (asA r0.fst 4)), AV.I IntKind.i64 (asI (asA r0.fst 5))]), AV.I IntKind.i64 2]), []))
                else
                  (none))
              else
                (bif n.p then
                  (bif bif bif okT then bif okT then true else false else false then true else false then
                    (some (AV.tup 2 (lstG [AV.ag 6 (lstG [AV.B false, AV.own (asN (asA r0.fst 1)) 1 fun i => lstG [AV.I IntKind.i64 (asI (asG (asA r0.fst 1) i 0))], AV.own (asN (asA r0.fst 2)) 2 fun i => lstG [AV.I IntKind.i64 (asI (asG (asA r0.fst 2) i 0)), AV.B (asB (asG (asA r0.fst 2) i 1))], AV.I IntKind.i64 (asI (asA r0.fst 3)), AV.I IntKind.i64 (asI (asA r0.fst 4)), AV.I IntKind.i64 (IntKind.i64.wrap (asI (asA r0.fst 5) + 1))]), AV.I IntKind.i64 0]), []))
                  else
                    (none))
                else
                  (bif decide (asN (asA r0.fst 1) + 1 ≤ 4294967296) && true && true && true && true then
                    (bif bif bif okT then bif okT then true else false else false then true else false then
                      (some (AV.tup 2 (lstG [AV.ag 6 (lstG [AV.B (asB (asA r0.fst 0)), AV.own (asN (asA r0.fst 1) + 1) 1 fun i => lstG [AV.I IntKind.i64 (bif decide (i < asN (asA r0.fst 1)) then asI (asG (asA r0.fst 1) i 0) else bif decide (i - asN (asA r0.fst 1) = 0) then a else 0)], AV.own (asN (asA r0.fst 2)) 2 fun i => lstG [AV.I IntKind.i64 (asI (asG (asA r0.fst 2) i 0)), AV.B (asB (asG (asA r0.fst 2) i 1))], AV.I IntKind.i64 (asI (asA r0.fst 3)), AV.I IntKind.i64 (asI (asA r0.fst 4)), AV.I IntKind.i64 (asI (asA r0.fst 5))]), AV.I IntKind.i64 4]), []))
                    else
                      (none))
                  else
                    (none))))
            else
              (bif n.p then
                (bif bif bif okT then bif okT then true else false else false then true else false then
                  (some (AV.tup 2 (lstG [AV.ag 6 (lstG [AV.B false, AV.own (asN (asA r0.fst 1)) 1 fun i => lstG [AV.I IntKind.i64 (asI (asG (asA r0.fst 1) i 0))], AV.own (asN (asA r0.fst 2)) 2 fun i => lstG [AV.I IntKind.i64 (asI (asG (asA r0.fst 2) i 0)), AV.B (asB (asG (asA r0.fst 2) i 1))], AV.I IntKind.i64 (asI (asA r0.fst 3)), AV.I IntKind.i64 (asI (asA r0.fst 4)), AV.I IntKind.i64 (IntKind.i64.wrap (asI (asA r0.fst 5) + 1))]), AV.I IntKind.i64 0]), []))
                else
                  (none))
              else
                (bif decide (asN (asA r0.fst 1) + 1 ≤ 4294967296) && true && true && true && true then
                  (bif bif bif okT then bif okT then true else false else false then true else false then
                    (some (AV.tup 2 (lstG [AV.ag 6 (lstG [AV.B (asB (asA r0.fst 0)), AV.own (asN (asA r0.fst 1) + 1) 1 fun i => lstG [AV.I IntKind.i64 (bif decide (i < asN (asA r0.fst 1)) then asI (asG (asA r0.fst 1) i 0) else bif decide (i - asN (asA r0.fst 1) = 0) then a else 0)], AV.own (asN (asA r0.fst 2)) 2 fun i => lstG [AV.I IntKind.i64 (asI (asG (asA r0.fst 2) i 0)), AV.B (asB (asG (asA r0.fst 2) i 1))], AV.I IntKind.i64 (asI (asA r0.fst 3)), AV.I IntKind.i64 (asI (asA r0.fst 4)), AV.I IntKind.i64 (asI (asA r0.fst 5))]), AV.I IntKind.i64 4]), []))
                  else
                    (none))
                else
                  (none)))))))) := by kernel_rfl
theorem e85 (Γ : Orc) (H : Hd) (n : NT) : ent Try.prog cfg Γ 85 H [slN n] [] =
  Option.bind (Γ 32 [AV.ag 6 (lstG [AV.B n.p, AV.sl n.l.length 1 (gI n.l), AV.sl n.g.length 2 (gG n.g), AV.I IntKind.i64 n.o, AV.I IntKind.i64 n.s, AV.I IntKind.i64 n.t])] []) fun r0 =>
  Option.bind (Γ 24 [AV.ag 6 (lstG [AV.B n.p, AV.sl n.l.length 1 (gI n.l), AV.sl n.g.length 2 (gG n.g), AV.I IntKind.i64 n.o, AV.I IntKind.i64 n.s, AV.I IntKind.i64 n.t])] []) fun r1 =>
  bif !asB r1.fst then
    (bif bif bif okT then bif okT then true else false else false then bif okT then true else false else false then
      (some (AV.tup 3 (lstG [AV.ag 6 (lstG [AV.B (asB (asA r0.fst 0)), AV.own (asN (asA r0.fst 1)) 1 fun i => lstG [AV.I IntKind.i64 (asI (asG (asA r0.fst 1) i 0))], AV.own (asN (asA r0.fst 2)) 2 fun i => lstG [AV.I IntKind.i64 (asI (asG (asA r0.fst 2) i 0)), AV.B (asB (asG (asA r0.fst 2) i 1))], AV.I IntKind.i64 (asI (asA r0.fst 3)), AV.I IntKind.i64 (asI (asA r0.fst 4)), AV.I IntKind.i64 (asI (asA r0.fst 5))]), AV.own 0 1 fun i => lstG [AV.I IntKind.i64 0], AV.I IntKind.i64 1]), []))
    else
      (none))
  else
    (bif decide (32 < IntKind.i64.wrap (zN n.l.length + zN n.g.length)) then
      (bif bif bif okT then bif okT then true else false else false then bif okT then true else false else false then
        (some (AV.tup 3 (lstG [AV.ag 6 (lstG [AV.B (asB (asA r0.fst 0)), AV.own (asN (asA r0.fst 1)) 1 fun i => lstG [AV.I IntKind.i64 (asI (asG (asA r0.fst 1) i 0))], AV.own (asN (asA r0.fst 2)) 2 fun i => lstG [AV.I IntKind.i64 (asI (asG (asA r0.fst 2) i 0)), AV.B (asB (asG (asA r0.fst 2) i 1))], AV.I IntKind.i64 (asI (asA r0.fst 3)), AV.I IntKind.i64 (asI (asA r0.fst 4)), AV.I IntKind.i64 (asI (asA r0.fst 5))]), AV.own 0 1 fun i => lstG [AV.I IntKind.i64 0], AV.I IntKind.i64 2]), []))
      else
        (none))
    else
      (H [true, true, true, false, true] (hdS [(1, AV.pb 65 0), (2, AV.pb 66 0), (5, AV.pb 69 0), (6, AV.I IntKind.i64 0)] [(466944, ⟨asN (asA r0.fst 1), 1, fun i => lstG [AV.I IntKind.i64 (asI (asG (asA r0.fst 1) i 0))]⟩), (471040, ⟨asN (asA r0.fst 2), 2, fun i => lstG [AV.I IntKind.i64 (asI (asG (asA r0.fst 2) i 0)), AV.B (asB (asG (asA r0.fst 2) i 1))]⟩)] [(65, 6, [AV.B n.p, AV.sl n.l.length 1 (gI n.l), AV.sl n.g.length 2 (gG n.g), AV.I IntKind.i64 n.o, AV.I IntKind.i64 n.s, AV.I IntKind.i64 n.t]), (66, 6, [AV.B false, AV.nsl 1 fun x => lstG [AV.I IntKind.i64 0], AV.nsl 2 fun x => lstG [AV.I IntKind.i64 0, AV.B false], AV.I IntKind.i64 0, AV.I IntKind.i64 0, AV.I IntKind.i64 0]), (69, 6, [AV.B (asB (asA r0.fst 0)), AV.rf 466944, AV.rf 471040, AV.I IntKind.i64 (asI (asA r0.fst 3)), AV.I IntKind.i64 (asI (asA r0.fst 4)), AV.I IntKind.i64 (asI (asA r0.fst 5))])]))) := by kernel_rfl
theorem h85 (Γ : Orc) (H : Hd) (n : NT) (ls : List Int) (os : List (Int × Bool)) (i : Int) : hed Try.prog cfg Γ 85 H [] [true, true, true, false, true] (hdS [(1, .pb 65 0), (2, .pb 66 0), (5, .pb 69 0), (6, nI i)] [(466944, ⟨ls.length, 1, gI ls⟩), (471040, ⟨os.length, 2, gG os⟩)] [(65, 6, [.B n.p, slI n.l, slG n.g, nI n.o, nI n.s, nI n.t]), (66, 6, [.B false, .nsl 1 (fun _ => lstG [nI 0]), .nsl 2 (fun _ => lstG [nI 0, .B false]), nI 0, nI 0, nI 0]), (69, 6, [.B n.p, .rf 466944, .rf 471040, nI n.o, nI n.s, nI n.t])]) =
  bif decide (i < zN n.l.length) then
    (bif bif decide (0 ≤ i) then decide (i < zN n.l.length) else false then
      (and2
      (bif decide (os.length + 1 ≤ 4294967296) && true && true && true && true then
          (H [true, true, true, false, true] (hdS [(1, AV.pb 65 0), (2, AV.pb 66 0), (5, AV.pb 69 0), (6, AV.I IntKind.i64 (IntKind.i64.wrap (i + 1)))] [(466944, ⟨ls.length, 1, gI ls⟩), (471040, ⟨os.length + 1, 2, fun i_1 => lstG [AV.I IntKind.i64 (bif decide (i_1 < os.length) then (os.getD i_1 (0, false)).fst else bif decide (i_1 - os.length = 0) then n.l.getD i.toNat 0 else 0), AV.B (bif decide (i_1 < os.length) then (os.getD i_1 (0, false)).snd else bif decide (i_1 - os.length = 0) then false else false)]⟩)] [(65, 6, [AV.B n.p, AV.sl n.l.length 1 (gI n.l), AV.sl n.g.length 2 (gG n.g), AV.I IntKind.i64 n.o, AV.I IntKind.i64 n.s, AV.I IntKind.i64 n.t]), (66, 6, [AV.B false, AV.nsl 1 fun x => lstG [AV.I IntKind.i64 0], AV.nsl 2 fun x => lstG [AV.I IntKind.i64 0, AV.B false], AV.I IntKind.i64 0, AV.I IntKind.i64 0, AV.I IntKind.i64 0]), (69, 6, [AV.B n.p, AV.rf 466944, AV.rf 471040, AV.I IntKind.i64 n.o, AV.I IntKind.i64 n.s, AV.I IntKind.i64 n.t])]))
        else
          (none))
      (bif decide (os.length + 1 ≤ 4294967296) && true && true && true && true then
          (H [true, true, true, false, true] (hdS [(1, AV.pb 65 0), (2, AV.pb 66 0), (5, AV.pb 69 0), (6, AV.I IntKind.i64 (IntKind.i64.wrap (i + 1)))] [(466944, ⟨ls.length, 1, gI ls⟩), (471040, ⟨os.length + 1, 2, fun i_1 => lstG [AV.I IntKind.i64 (bif decide (i_1 < os.length) then (os.getD i_1 (0, false)).fst else bif decide (i_1 - os.length = 0) then n.l.getD i.toNat 0 else 0), AV.B (bif decide (i_1 < os.length) then (os.getD i_1 (0, false)).snd else bif decide (i_1 - os.length = 0) then false else false)]⟩)] [(65, 6, [AV.B n.p, AV.sl n.l.length 1 (gI n.l), AV.sl n.g.length 2 (gG n.g), AV.I IntKind.i64 n.o, AV.I IntKind.i64 n.s, AV.I IntKind.i64 n.t]), (66, 6, [AV.B false, AV.nsl 1 fun x => lstG [AV.I IntKind.i64 0], AV.nsl 2 fun x => lstG [AV.I IntKind.i64 0, AV.B false], AV.I IntKind.i64 0, AV.I IntKind.i64 0, AV.I IntKind.i64 0]), (69, 6, [AV.B n.p, AV.rf 466944, AV.rf 471040, AV.I IntKind.i64 n.o, AV.I IntKind.i64 n.s, AV.I IntKind.i64 n.t])]))
        else
          (none)))
    else
      (none))
  else
    (and2
    (Option.bind (Γ 62 [AV.sl n.l.length 1 (gI n.l)] []) fun r2 =>
      bif bif bif okT then bif okT then true else false else false then bif okT then true else false else false then
        (some (AV.tup 3 (lstG [AV.ag 6 (lstG [AV.B n.p, AV.own 0 1 fun i => lstG [AV.I IntKind.i64 0], AV.own os.length 2 (gG os), AV.I IntKind.i64 n.o, AV.I IntKind.i64 n.s, AV.I IntKind.i64 n.t]), AV.own (asN r2.fst) 1 fun i => lstG [AV.I IntKind.i64 (asI (asG r2.fst i 0))], AV.I IntKind.i64 0]), []))
      else
        (none))
    (Option.bind (Γ 62 [AV.sl n.l.length 1 (gI n.l)] []) fun r2 =>
      bif bif bif okT then bif okT then true else false else false then bif okT then true else false else false then
        (some (AV.tup 3 (lstG [AV.ag 6 (lstG [AV.B n.p, AV.own 0 1 fun i => lstG [AV.I IntKind.i64 0], AV.own os.length 2 (gG os), AV.I IntKind.i64 n.o, AV.I IntKind.i64 n.s, AV.I IntKind.i64 n.t]), AV.own (asN r2.fst) 1 fun i => lstG [AV.I IntKind.i64 (asI (asG r2.fst i 0))], AV.I IntKind.i64 0]), []))
      else
        (none))) := by kernel_rfl
theorem e27 (Γ : Orc) (H : Hd) (n : NT) : ent Try.prog cfg Γ 27 H [slN n] [] =
  H [true, true, false, true] (hdS [(1, AV.pb 65 0), (3, AV.rf 348160), (4, AV.I IntKind.i64 0)] [(348160, ⟨0, 1, fun i => lstG [AV.I IntKind.i64 0]⟩)] [(65, 6, [AV.B n.p, AV.sl n.l.length 1 (gI n.l), AV.sl n.g.length 2 (gG n.g), AV.I IntKind.i64 n.o, AV.I IntKind.i64 n.s, AV.I IntKind.i64 n.t])]) := by kernel_rfl
theorem h27 (Γ : Orc) (H : Hd) (n : NT) (os : List Int) (i : Int) : hed Try.prog cfg Γ 27 H [] [true, true, false, true] (hdS [(1, .pb 65 0), (3, .rf 348160), (4, nI i)] [(348160, ⟨os.length, 1, gI os⟩)] [(65, 6, [.B n.p, slI n.l, slG n.g, nI n.o, nI n.s, nI n.t])]) =
  bif decide (i < zN n.g.length) then
    (bif bif decide (0 ≤ i) then decide (i < zN n.g.length) else false then
      (bif decide (os.length + 1 ≤ 4294967296) && true && true && true && true then
        (H [true, true, false, true] (hdS [(1, AV.pb 65 0), (3, AV.rf 348160), (4, AV.I IntKind.i64 (IntKind.i64.wrap (i + 1)))] [(348160, ⟨os.length + 1, 1, fun i_1 => lstG [AV.I IntKind.i64 (bif decide (i_1 < os.length) then os.getD i_1 0 else bif decide (i_1 - os.length = 0) then (n.g.getD i.toNat (0, false)).fst else 0)]⟩)] [(65, 6, [AV.B n.p, AV.sl n.l.length 1 (gI n.l), AV.sl n.g.length 2 (gG n.g), AV.I IntKind.i64 n.o, AV.I IntKind.i64 n.s, AV.I IntKind.i64 n.t])]))
      else
        (none))
    else
      (none))
  else
    (bif okT then
      (some (AV.own os.length 1 (gI os), []))
    else
      (none)) := by kernel_rfl
end Go.Fw
