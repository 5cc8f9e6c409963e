/- Trees of the functions' bodies, as printed by the framework's evaluation. -/
import Derived.Test.YtonhlheceebflaaGreatProg
import Derived.Test.YtonhlheceebflaaGreatFyB
import Derived.KernelRfl
import Derived.Test.YtonhlheceebflaaGreatK
set_option linter.unusedVariables false
set_option maxRecDepth 100000
namespace Go.Fw
open Go.Proofs
theorem e66 (Γ : Orc) (H : Hd) (x : (List Bool)) (a : Int) : ent Tryz.prog cfg Γ 66 H [slBoolS x, nI a] [] =
  bif decide (IntKind.i64.wrap (a - zN x.length) < 0) then
    (some (nI (-1), []))
  else
    (some (nI (IntKind.i64.wrap (a - zN x.length)), [])) := by kernel_rfl
theorem e106 (Γ : Orc) (H : Hd) (x : VCall) (a : Int) : ent Tryz.prog cfg Γ 106 H [slCall x, nI a] [] =
  bif decide (IntKind.i64.wrap (a - zN x.Name.size) < 0) then
    (some (nI (-1), []))
  else
    (Option.bind (Γ 102 [slMsg x.Msg, nI (IntKind.i64.wrap (a - zN x.Name.size))] []) fun r1 =>
    bif decide (asI r1.fst < 0) then
      (some (nI (-1), []))
    else
      (Option.bind (Γ 123 [slTermS x.Filter, nI (asI r1.fst)] []) fun r3 =>
      bif decide (asI r3.fst < 0) then
        (some (nI (-1), []))
      else
        (some (nI (asI r3.fst), [])))) := by kernel_rfl
theorem e75 (Γ : Orc) (H : Hd) (x : (List VCall)) (a : Int) : ent Tryz.prog cfg Γ 75 H [slCallS x, nI a] [] =
  bif decide (IntKind.i64.wrap (a - zN x.length) < 0) then
    (some (nI (-1), []))
  else
    (H P75 (S75 x (IntKind.i64.wrap (a - zN x.length)) 0)) := by kernel_rfl
theorem h75 (Γ : Orc) (H : Hd) (x : (List VCall)) (a i : Int) : hed Tryz.prog cfg Γ 75 H [] P75 (S75 x a i) =
  bif decide (i < zN x.length) then
    (bif bif decide (0 ≤ i) then decide (i < zN x.length) else false then
      (Option.bind (Γ 106 [slCall (x.getD i.toNat zCall), nI a] []) fun r2 =>
      bif decide (asI r2.fst < 0) then
        (some (nI (-1), []))
      else
        (H P75 (S75 x (asI r2.fst) (IntKind.i64.wrap (i + 1)))))
    else
      (none))
  else
    (some (nI a, [])) := by kernel_rfl
theorem e71 (Γ : Orc) (H : Hd) (x : VCell) (a : Int) : ent Tryz.prog cfg Γ 71 H [slCell x, nI a] [] =
  Option.bind (Γ 102 [slMsg x.Val, nI a] []) fun r0 =>
  bif decide (asI r0.fst < 0) then
    (some (nI (-1), []))
  else
    (Option.bind (Γ 65 [slIntS x.Line, nI (asI r0.fst)] []) fun r2 =>
    bif decide (asI r2.fst < 0) then
      (some (nI (-1), []))
    else
      (Option.bind (Γ 65 [slIntS x.Grants, nI (asI r2.fst)] []) fun r4 =>
      bif decide (asI r4.fst < 0) then
        (some (nI (-1), []))
      else
        (some (nI (asI r4.fst), [])))) := by kernel_rfl
theorem e23 (Γ : Orc) (H : Hd) (x : (List VCell)) (a : Int) : ent Tryz.prog cfg Γ 23 H [slCellS x, nI a] [] =
  bif decide (IntKind.i64.wrap (a - zN x.length) < 0) then
    (some (nI (-1), []))
  else
    (H P23 (S23 x (IntKind.i64.wrap (a - zN x.length)) 0)) := by kernel_rfl
theorem h23 (Γ : Orc) (H : Hd) (x : (List VCell)) (a i : Int) : hed Tryz.prog cfg Γ 23 H [] P23 (S23 x a i) =
  bif decide (i < zN x.length) then
    (bif bif decide (0 ≤ i) then decide (i < zN x.length) else false then
      (Option.bind (Γ 71 [slCell (x.getD i.toNat zCell), nI a] []) fun r2 =>
      bif decide (asI r2.fst < 0) then
        (some (nI (-1), []))
      else
        (H P23 (S23 x (asI r2.fst) (IntKind.i64.wrap (i + 1)))))
    else
      (none))
  else
    (some (nI a, [])) := by kernel_rfl
theorem e27 (Γ : Orc) (H : Hd) (x : VClient) (a : Int) : ent Tryz.prog cfg Γ 27 H [slClient x, nI a] [] =
  Option.bind (Γ 75 [slCallS x.Prog, nI a] []) fun r0 =>
  bif decide (asI r0.fst < 0) then
    (some (nI (-1), []))
  else
    (some (nI (asI r0.fst), [])) := by kernel_rfl
theorem e10 (Γ : Orc) (H : Hd) (x : (List VClient)) (a : Int) : ent Tryz.prog cfg Γ 10 H [slClientS x, nI a] [] =
  bif decide (IntKind.i64.wrap (a - zN x.length) < 0) then
    (some (nI (-1), []))
  else
    (H P10 (S10 x (IntKind.i64.wrap (a - zN x.length)) 0)) := by kernel_rfl
theorem h10 (Γ : Orc) (H : Hd) (x : (List VClient)) (a i : Int) : hed Tryz.prog cfg Γ 10 H [] P10 (S10 x a i) =
  bif decide (i < zN x.length) then
    (bif bif decide (0 ≤ i) then decide (i < zN x.length) else false then
      (Option.bind (Γ 27 [slClient (x.getD i.toNat zClient), nI a] []) fun r2 =>
      bif decide (asI r2.fst < 0) then
        (some (nI (-1), []))
      else
        (H P10 (S10 x (asI r2.fst) (IntKind.i64.wrap (i + 1)))))
    else
      (none))
  else
    (some (nI a, [])) := by kernel_rfl
theorem e19 (Γ : Orc) (H : Hd) (x : VClock) (a : Int) : ent Tryz.prog cfg Γ 19 H [slClock x, nI a] [] =
  Option.bind (Γ 67 [slTimerS x.Timers, nI a] []) fun r0 =>
  bif decide (asI r0.fst < 0) then
    (some (nI (-1), []))
  else
    (some (nI (asI r0.fst), [])) := by kernel_rfl
theorem e69 (Γ : Orc) (H : Hd) (x : VEvent) (a : Int) : ent Tryz.prog cfg Γ 69 H [slEvent x, nI a] [] =
  Option.bind (Γ 65 [slIntS x.Line, nI a] []) fun r0 =>
  bif decide (asI r0.fst < 0) then
    (some (nI (-1), []))
  else
    (Option.bind (Γ 65 [slIntS x.Grants, nI (asI r0.fst)] []) fun r2 =>
    bif decide (asI r2.fst < 0) then
      (some (nI (-1), []))
    else
      (some (nI (asI r2.fst), []))) := by kernel_rfl
theorem e21 (Γ : Orc) (H : Hd) (x : (List VEvent)) (a : Int) : ent Tryz.prog cfg Γ 21 H [slEventS x, nI a] [] =
  bif decide (IntKind.i64.wrap (a - zN x.length) < 0) then
    (some (nI (-1), []))
  else
    (H P21 (S21 x (IntKind.i64.wrap (a - zN x.length)) 0)) := by kernel_rfl
theorem h21 (Γ : Orc) (H : Hd) (x : (List VEvent)) (a i : Int) : hed Tryz.prog cfg Γ 21 H [] P21 (S21 x a i) =
  bif decide (i < zN x.length) then
    (bif bif decide (0 ≤ i) then decide (i < zN x.length) else false then
      (Option.bind (Γ 69 [slEvent (x.getD i.toNat zEvent), nI a] []) fun r2 =>
      bif decide (asI r2.fst < 0) then
        (some (nI (-1), []))
      else
        (H P21 (S21 x (asI r2.fst) (IntKind.i64.wrap (i + 1)))))
    else
      (none))
  else
    (some (nI a, [])) := by kernel_rfl
theorem e101 (Γ : Orc) (H : Hd) (x : (List VGrant)) (a : Int) : ent Tryz.prog cfg Γ 101 H [slGrantS x, nI a] [] =
  bif decide (IntKind.i64.wrap (a - zN x.length) < 0) then
    (some (nI (-1), []))
  else
    (some (nI (IntKind.i64.wrap (a - zN x.length)), [])) := by kernel_rfl
theorem e105 (Γ : Orc) (H : Hd) (x : (List VHit)) (a : Int) : ent Tryz.prog cfg Γ 105 H [slHitS x, nI a] [] =
  bif decide (IntKind.i64.wrap (a - zN x.length) < 0) then
    (some (nI (-1), []))
  else
    (some (nI (IntKind.i64.wrap (a - zN x.length)), [])) := by kernel_rfl
theorem e9 (Γ : Orc) (H : Hd) (x : VHub) (a : Int) : ent Tryz.prog cfg Γ 9 H [slHub x, nI a] [] =
  Option.bind (Γ 18 [slTokens x.Tokens, nI a] []) fun r0 =>
  bif decide (asI r0.fst < 0) then
    (some (nI (-1), []))
  else
    (Option.bind (Γ 19 [slClock x.Clock, nI (asI r0.fst)] []) fun r2 =>
    bif decide (asI r2.fst < 0) then
      (some (nI (-1), []))
    else
      (Option.bind (Γ 20 [slNotifyS x.Notes, nI (asI r2.fst)] []) fun r4 =>
      bif decide (asI r4.fst < 0) then
        (some (nI (-1), []))
      else
        (Option.bind (Γ 21 [slEventS x.Events, nI (asI r4.fst)] []) fun r6 =>
        bif decide (asI r6.fst < 0) then
          (some (nI (-1), []))
        else
          (Option.bind (Γ 22 [slLatchS x.Latches, nI (asI r6.fst)] []) fun r8 =>
          bif decide (asI r8.fst < 0) then
            (some (nI (-1), []))
          else
            (Option.bind (Γ 23 [slCellS x.Cells, nI (asI r8.fst)] []) fun r10 =>
            bif decide (asI r10.fst < 0) then
              (some (nI (-1), []))
            else
              (Option.bind (Γ 24 [slTopicS x.Topics, nI (asI r10.fst)] []) fun r12 =>
              bif decide (asI r12.fst < 0) then
                (some (nI (-1), []))
              else
                (Option.bind (Γ 25 [slMergeS x.Merges, nI (asI r12.fst)] []) fun r14 =>
                bif decide (asI r14.fst < 0) then
                  (some (nI (-1), []))
                else
                  (Option.bind (Γ 26 [slUserS x.Users, nI (asI r14.fst)] []) fun r16 =>
                  bif decide (asI r16.fst < 0) then
                    (some (nI (-1), []))
                  else
                    (some (nI (asI r16.fst), [])))))))))) := by kernel_rfl
theorem e65 (Γ : Orc) (H : Hd) (x : (List Int)) (a : Int) : ent Tryz.prog cfg Γ 65 H [slIntS x, nI a] [] =
  bif decide (IntKind.i64.wrap (a - zN x.length) < 0) then
    (some (nI (-1), []))
  else
    (some (nI (IntKind.i64.wrap (a - zN x.length)), [])) := by kernel_rfl
theorem e70 (Γ : Orc) (H : Hd) (x : VLatch) (a : Int) : ent Tryz.prog cfg Γ 70 H [slLatch x, nI a] [] =
  Option.bind (Γ 65 [slIntS x.Line, nI a] []) fun r0 =>
  bif decide (asI r0.fst < 0) then
    (some (nI (-1), []))
  else
    (Option.bind (Γ 65 [slIntS x.Grants, nI (asI r0.fst)] []) fun r2 =>
    bif decide (asI r2.fst < 0) then
      (some (nI (-1), []))
    else
      (some (nI (asI r2.fst), []))) := by kernel_rfl
theorem e22 (Γ : Orc) (H : Hd) (x : (List VLatch)) (a : Int) : ent Tryz.prog cfg Γ 22 H [slLatchS x, nI a] [] =
  bif decide (IntKind.i64.wrap (a - zN x.length) < 0) then
    (some (nI (-1), []))
  else
    (H P22 (S22 x (IntKind.i64.wrap (a - zN x.length)) 0)) := by kernel_rfl
theorem h22 (Γ : Orc) (H : Hd) (x : (List VLatch)) (a i : Int) : hed Tryz.prog cfg Γ 22 H [] P22 (S22 x a i) =
  bif decide (i < zN x.length) then
    (bif bif decide (0 ≤ i) then decide (i < zN x.length) else false then
      (Option.bind (Γ 70 [slLatch (x.getD i.toNat zLatch), nI a] []) fun r2 =>
      bif decide (asI r2.fst < 0) then
        (some (nI (-1), []))
      else
        (H P22 (S22 x (asI r2.fst) (IntKind.i64.wrap (i + 1)))))
    else
      (none))
  else
    (some (nI a, [])) := by kernel_rfl
theorem e104 (Γ : Orc) (H : Hd) (x : (List VLeg)) (a : Int) : ent Tryz.prog cfg Γ 104 H [slLegS x, nI a] [] =
  bif decide (IntKind.i64.wrap (a - zN x.length) < 0) then
    (some (nI (-1), []))
  else
    (some (nI (IntKind.i64.wrap (a - zN x.length)), [])) := by kernel_rfl
theorem e73 (Γ : Orc) (H : Hd) (x : VMerge) (a : Int) : ent Tryz.prog cfg Γ 73 H [slMerge x, nI a] [] =
  Option.bind (Γ 104 [slLegS x.Legs, nI a] []) fun r0 =>
  bif decide (asI r0.fst < 0) then
    (some (nI (-1), []))
  else
    (some (nI (asI r0.fst), [])) := by kernel_rfl
theorem e25 (Γ : Orc) (H : Hd) (x : (List VMerge)) (a : Int) : ent Tryz.prog cfg Γ 25 H [slMergeS x, nI a] [] =
  bif decide (IntKind.i64.wrap (a - zN x.length) < 0) then
    (some (nI (-1), []))
  else
    (H P25 (S25 x (IntKind.i64.wrap (a - zN x.length)) 0)) := by kernel_rfl
theorem h25 (Γ : Orc) (H : Hd) (x : (List VMerge)) (a i : Int) : hed Tryz.prog cfg Γ 25 H [] P25 (S25 x a i) =
  bif decide (i < zN x.length) then
    (bif bif decide (0 ≤ i) then decide (i < zN x.length) else false then
      (Option.bind (Γ 73 [slMerge (x.getD i.toNat zMerge), nI a] []) fun r2 =>
      bif decide (asI r2.fst < 0) then
        (some (nI (-1), []))
      else
        (H P25 (S25 x (asI r2.fst) (IntKind.i64.wrap (i + 1)))))
    else
      (none))
  else
    (some (nI a, [])) := by kernel_rfl
theorem e102 (Γ : Orc) (H : Hd) (x : VMsg) (a : Int) : ent Tryz.prog cfg Γ 102 H [slMsg x, nI a] [] =
  bif decide (IntKind.i64.wrap (a - zN x.Text.size) < 0) then
    (some (nI (-1), []))
  else
    (some (nI (IntKind.i64.wrap (a - zN x.Text.size)), [])) := by kernel_rfl
theorem e121 (Γ : Orc) (H : Hd) (x : (List VMsg)) (a : Int) : ent Tryz.prog cfg Γ 121 H [slMsgS x, nI a] [] =
  bif decide (IntKind.i64.wrap (a - zN x.length) < 0) then
    (some (nI (-1), []))
  else
    (H P121 (S121 x (IntKind.i64.wrap (a - zN x.length)) 0)) := by kernel_rfl
theorem h121 (Γ : Orc) (H : Hd) (x : (List VMsg)) (a i : Int) : hed Tryz.prog cfg Γ 121 H [] P121 (S121 x a i) =
  bif decide (i < zN x.length) then
    (bif bif decide (0 ≤ i) then decide (i < zN x.length) else false then
      (Option.bind (Γ 102 [slMsg (x.getD i.toNat zMsg), nI a] []) fun r2 =>
      bif decide (asI r2.fst < 0) then
        (some (nI (-1), []))
      else
        (H P121 (S121 x (asI r2.fst) (IntKind.i64.wrap (i + 1)))))
    else
      (none))
  else
    (some (nI a, [])) := by kernel_rfl
theorem e68 (Γ : Orc) (H : Hd) (x : VNotify) (a : Int) : ent Tryz.prog cfg Γ 68 H [slNotify x, nI a] [] =
  Option.bind (Γ 65 [slIntS x.Line, nI a] []) fun r0 =>
  bif decide (asI r0.fst < 0) then
    (some (nI (-1), []))
  else
    (Option.bind (Γ 101 [slGrantS x.Grants, nI (asI r0.fst)] []) fun r2 =>
    bif decide (asI r2.fst < 0) then
      (some (nI (-1), []))
    else
      (some (nI (asI r2.fst), []))) := by kernel_rfl
theorem e20 (Γ : Orc) (H : Hd) (x : (List VNotify)) (a : Int) : ent Tryz.prog cfg Γ 20 H [slNotifyS x, nI a] [] =
  bif decide (IntKind.i64.wrap (a - zN x.length) < 0) then
    (some (nI (-1), []))
  else
    (H P20 (S20 x (IntKind.i64.wrap (a - zN x.length)) 0)) := by kernel_rfl
theorem h20 (Γ : Orc) (H : Hd) (x : (List VNotify)) (a i : Int) : hed Tryz.prog cfg Γ 20 H [] P20 (S20 x a i) =
  bif decide (i < zN x.length) then
    (bif bif decide (0 ≤ i) then decide (i < zN x.length) else false then
      (Option.bind (Γ 68 [slNotify (x.getD i.toNat zNotify), nI a] []) fun r2 =>
      bif decide (asI r2.fst < 0) then
        (some (nI (-1), []))
      else
        (H P20 (S20 x (asI r2.fst) (IntKind.i64.wrap (i + 1)))))
    else
      (none))
  else
    (some (nI a, [])) := by kernel_rfl
theorem e103 (Γ : Orc) (H : Hd) (x : VRing) (a : Int) : ent Tryz.prog cfg Γ 103 H [slRing x, nI a] [] =
  Option.bind (Γ 121 [slMsgS x.Items, nI a] []) fun r0 =>
  bif decide (asI r0.fst < 0) then
    (some (nI (-1), []))
  else
    (Option.bind (Γ 122 [slSubS x.Subs, nI (asI r0.fst)] []) fun r2 =>
    bif decide (asI r2.fst < 0) then
      (some (nI (-1), []))
    else
      (Option.bind (Γ 65 [slIntS x.Line, nI (asI r2.fst)] []) fun r4 =>
      bif decide (asI r4.fst < 0) then
        (some (nI (-1), []))
      else
        (Option.bind (Γ 65 [slIntS x.Grants, nI (asI r4.fst)] []) fun r6 =>
        bif decide (asI r6.fst < 0) then
          (some (nI (-1), []))
        else
          (some (nI (asI r6.fst), []))))) := by kernel_rfl
theorem e4 (Γ : Orc) (H : Hd) (x : VState) (a : Int) : ent Tryz.prog cfg Γ 4 H [slState x, nI a] [] =
  Option.bind (Γ 9 [slHub x.Hub, nI a] []) fun r0 =>
  bif decide (asI r0.fst < 0) then
    (some (nI (-1), []))
  else
    (Option.bind (Γ 10 [slClientS x.Clients, nI (asI r0.fst)] []) fun r2 =>
    bif decide (asI r2.fst < 0) then
      (some (nI (-1), []))
    else
      (some (nI (asI r2.fst), []))) := by kernel_rfl
theorem e136 (Γ : Orc) (H : Hd) (x : VSub) (a : Int) : ent Tryz.prog cfg Γ 136 H [slSub x, nI a] [] =
  Option.bind (Γ 123 [slTermS x.Filter, nI a] []) fun r0 =>
  bif decide (asI r0.fst < 0) then
    (some (nI (-1), []))
  else
    (some (nI (asI r0.fst), [])) := by kernel_rfl
theorem e122 (Γ : Orc) (H : Hd) (x : (List VSub)) (a : Int) : ent Tryz.prog cfg Γ 122 H [slSubS x, nI a] [] =
  bif decide (IntKind.i64.wrap (a - zN x.length) < 0) then
    (some (nI (-1), []))
  else
    (H P122 (S122 x (IntKind.i64.wrap (a - zN x.length)) 0)) := by kernel_rfl
theorem h122 (Γ : Orc) (H : Hd) (x : (List VSub)) (a i : Int) : hed Tryz.prog cfg Γ 122 H [] P122 (S122 x a i) =
  bif decide (i < zN x.length) then
    (bif bif decide (0 ≤ i) then decide (i < zN x.length) else false then
      (Option.bind (Γ 136 [slSub (x.getD i.toNat zSub), nI a] []) fun r2 =>
      bif decide (asI r2.fst < 0) then
        (some (nI (-1), []))
      else
        (H P122 (S122 x (asI r2.fst) (IntKind.i64.wrap (i + 1)))))
    else
      (none))
  else
    (some (nI a, [])) := by kernel_rfl
theorem e137 (Γ : Orc) (H : Hd) (x : VTerm) (a : Int) : ent Tryz.prog cfg Γ 137 H [slTerm x, nI a] [] =
  bif decide (IntKind.i64.wrap (a - zN x.Text.size) < 0) then
    (some (nI (-1), []))
  else
    (some (nI (IntKind.i64.wrap (a - zN x.Text.size)), [])) := by kernel_rfl
theorem e123 (Γ : Orc) (H : Hd) (x : (List VTerm)) (a : Int) : ent Tryz.prog cfg Γ 123 H [slTermS x, nI a] [] =
  bif decide (IntKind.i64.wrap (a - zN x.length) < 0) then
    (some (nI (-1), []))
  else
    (H P123 (S123 x (IntKind.i64.wrap (a - zN x.length)) 0)) := by kernel_rfl
theorem h123 (Γ : Orc) (H : Hd) (x : (List VTerm)) (a i : Int) : hed Tryz.prog cfg Γ 123 H [] P123 (S123 x a i) =
  bif decide (i < zN x.length) then
    (bif bif decide (0 ≤ i) then decide (i < zN x.length) else false then
      (Option.bind (Γ 137 [slTerm (x.getD i.toNat zTerm), nI a] []) fun r2 =>
      bif decide (asI r2.fst < 0) then
        (some (nI (-1), []))
      else
        (H P123 (S123 x (asI r2.fst) (IntKind.i64.wrap (i + 1)))))
    else
      (none))
  else
    (some (nI a, [])) := by kernel_rfl
theorem e67 (Γ : Orc) (H : Hd) (x : (List VTimer)) (a : Int) : ent Tryz.prog cfg Γ 67 H [slTimerS x, nI a] [] =
  bif decide (IntKind.i64.wrap (a - zN x.length) < 0) then
    (some (nI (-1), []))
  else
    (some (nI (IntKind.i64.wrap (a - zN x.length)), [])) := by kernel_rfl
theorem e18 (Γ : Orc) (H : Hd) (x : VTokens) (a : Int) : ent Tryz.prog cfg Γ 18 H [slTokens x, nI a] [] =
  Option.bind (Γ 65 [slIntS x.Parents, nI a] []) fun r0 =>
  bif decide (asI r0.fst < 0) then
    (some (nI (-1), []))
  else
    (Option.bind (Γ 66 [slBoolS x.Off, nI (asI r0.fst)] []) fun r2 =>
    bif decide (asI r2.fst < 0) then
      (some (nI (-1), []))
    else
      (some (nI (asI r2.fst), []))) := by kernel_rfl
theorem e72 (Γ : Orc) (H : Hd) (x : VTopic) (a : Int) : ent Tryz.prog cfg Γ 72 H [slTopic x, nI a] [] =
  bif decide (IntKind.i64.wrap (a - zN x.Name.size) < 0) then
    (some (nI (-1), []))
  else
    (Option.bind (Γ 103 [slRing x.Ring, nI (IntKind.i64.wrap (a - zN x.Name.size))] []) fun r1 =>
    bif decide (asI r1.fst < 0) then
      (some (nI (-1), []))
    else
      (some (nI (asI r1.fst), []))) := by kernel_rfl
theorem e24 (Γ : Orc) (H : Hd) (x : (List VTopic)) (a : Int) : ent Tryz.prog cfg Γ 24 H [slTopicS x, nI a] [] =
  bif decide (IntKind.i64.wrap (a - zN x.length) < 0) then
    (some (nI (-1), []))
  else
    (H P24 (S24 x (IntKind.i64.wrap (a - zN x.length)) 0)) := by kernel_rfl
theorem h24 (Γ : Orc) (H : Hd) (x : (List VTopic)) (a i : Int) : hed Tryz.prog cfg Γ 24 H [] P24 (S24 x a i) =
  bif decide (i < zN x.length) then
    (bif bif decide (0 ≤ i) then decide (i < zN x.length) else false then
      (Option.bind (Γ 72 [slTopic (x.getD i.toNat zTopic), nI a] []) fun r2 =>
      bif decide (asI r2.fst < 0) then
        (some (nI (-1), []))
      else
        (H P24 (S24 x (asI r2.fst) (IntKind.i64.wrap (i + 1)))))
    else
      (none))
  else
    (some (nI a, [])) := by kernel_rfl
theorem e74 (Γ : Orc) (H : Hd) (x : VUser) (a : Int) : ent Tryz.prog cfg Γ 74 H [slUser x, nI a] [] =
  Option.bind (Γ 105 [slHitS x.Subs, nI a] []) fun r0 =>
  bif decide (asI r0.fst < 0) then
    (some (nI (-1), []))
  else
    (Option.bind (Γ 65 [slIntS x.Seen, nI (asI r0.fst)] []) fun r2 =>
    bif decide (asI r2.fst < 0) then
      (some (nI (-1), []))
    else
      (some (nI (asI r2.fst), []))) := by kernel_rfl
theorem e26 (Γ : Orc) (H : Hd) (x : (List VUser)) (a : Int) : ent Tryz.prog cfg Γ 26 H [slUserS x, nI a] [] =
  bif decide (IntKind.i64.wrap (a - zN x.length) < 0) then
    (some (nI (-1), []))
  else
    (H P26 (S26 x (IntKind.i64.wrap (a - zN x.length)) 0)) := by kernel_rfl
theorem h26 (Γ : Orc) (H : Hd) (x : (List VUser)) (a i : Int) : hed Tryz.prog cfg Γ 26 H [] P26 (S26 x a i) =
  bif decide (i < zN x.length) then
    (bif bif decide (0 ≤ i) then decide (i < zN x.length) else false then
      (Option.bind (Γ 74 [slUser (x.getD i.toNat zUser), nI a] []) fun r2 =>
      bif decide (asI r2.fst < 0) then
        (some (nI (-1), []))
      else
        (H P26 (S26 x (asI r2.fst) (IntKind.i64.wrap (i + 1)))))
    else
      (none))
  else
    (some (nI a, [])) := by kernel_rfl
theorem e79 (Γ : Orc) (H : Hd) (x : (List Bool)) : ent Tryz.prog cfg Γ 79 H [slBoolS x] [] =
  bif decide (zN x.length ≤ 4294967296) && decide (zN x.length ≤ zN x.length) && true && true && true then
    (H [true, true, false, true] (hdS [(0, slBoolS x), (3, AV.rf 290816), (4, nI 0)] [(290816, ⟨(zN x.length).toNat, 1, fun i => lstG [AV.B false]⟩)] []))
  else
    (none) := by kernel_rfl
theorem h79 (Γ : Orc) (H : Hd) (x : (List Bool)) (os : (List Bool)) (i : Int) : hed Tryz.prog cfg Γ 79 H [] P79 (S79 x os i) =
  bif decide (i < zN x.length) then
    (bif bif decide (0 ≤ i) then decide (i < zN x.length) else false then
      (bif bif decide (0 ≤ i) then decide (i < zN os.length) else false then
        (H [true, true, false, true] (hdS [(0, slBoolS x), (3, AV.rf 290816), (4, nI (IntKind.i64.wrap (i + 1)))] [(290816, ⟨os.length, 1, fun i_1 => lstG [AV.B (bif decide (i_1 = i.toNat) then x.getD i.toNat false else os.getD i_1 false)]⟩)] []))
      else
        (none))
    else
      (none))
  else
    (bif okT then
      (some (owBoolS os, []))
    else
      (none)) := by kernel_rfl
theorem e113 (Γ : Orc) (H : Hd) (x : VCall) : ent Tryz.prog cfg Γ 113 H [slCall x] [] =
  Option.bind (Γ 109 [slMsg x.Msg] []) fun r0 =>
  Option.bind (Γ 129 [slTermS x.Filter] []) fun r1 =>
  bif bif okT then true else false then
    (some (AV.ag 9 (lstG [nI x.Op, nI x.A, nI x.B, nI x.Tok, AV.S x.Name, nI (asI (asA r0.fst 0)), nI (asI (asA r0.fst 1)), AV.S (asS (asA r0.fst 2)), vowMsgS r1.fst]), []))
  else
    (none) := by kernel_rfl
theorem e88 (Γ : Orc) (H : Hd) (x : (List VCall)) : ent Tryz.prog cfg Γ 88 H [slCallS x] [] =
  bif decide (zN x.length ≤ 4294967296) && decide (zN x.length ≤ zN x.length) && true && true && true then
    (H [true, true, false, true] (hdS [(0, slCallS x), (3, AV.rf 290816), (4, nI 0)] [(290816, ⟨(zN x.length).toNat, 9, fun i => lstG [nI 0, nI 0, nI 0, nI 0, AV.S ByteArray.empty, nI 0, nI 0, AV.S ByteArray.empty, AV.own 0 3 fun i => lstG [nI 0, nI 0, AV.S ByteArray.empty]]⟩)] []))
  else
    (none) := by kernel_rfl
theorem h88 (Γ : Orc) (H : Hd) (x : (List VCall)) (os : (List VCall)) (i : Int) : hed Tryz.prog cfg Γ 88 H [] P88 (S88 x os i) =
  bif decide (i < zN x.length) then
    (bif bif decide (0 ≤ i) then decide (i < zN x.length) else false then
      (Option.bind (Γ 113 [slCall (x.getD i.toNat zCall)] []) fun r2 =>
      bif bif decide (0 ≤ i) then decide (i < zN os.length) else false then
        (H [true, true, false, true] (hdS [(0, slCallS x), (3, AV.rf 290816), (4, nI (IntKind.i64.wrap (i + 1)))] [(290816, ⟨os.length, 9, fun i_1 => lstG [nI (bif decide (i_1 = i.toNat) then asI (asA r2.fst 0) else (os.getD i_1 zCall).Op), nI (bif decide (i_1 = i.toNat) then asI (asA r2.fst 1) else (os.getD i_1 zCall).A), nI (bif decide (i_1 = i.toNat) then asI (asA r2.fst 2) else (os.getD i_1 zCall).B), nI (bif decide (i_1 = i.toNat) then asI (asA r2.fst 3) else (os.getD i_1 zCall).Tok), AV.S (bif decide (i_1 = i.toNat) then asS (asA r2.fst 4) else (os.getD i_1 zCall).Name), nI (bif decide (i_1 = i.toNat) then asI (asA r2.fst 5) else (os.getD i_1 zCall).Msg.Kind), nI (bif decide (i_1 = i.toNat) then asI (asA r2.fst 6) else (os.getD i_1 zCall).Msg.Num), AV.S (bif decide (i_1 = i.toNat) then asS (asA r2.fst 7) else (os.getD i_1 zCall).Msg.Text), AV.own (bif decide (i_1 = i.toNat) then asN (asA r2.fst 8) else (os.getD i_1 zCall).Filter.length) 3 fun i_2 => lstG [nI (bif decide (i_1 = i.toNat) then asI (asG (asA r2.fst 8) i_2 0) else ((os.getD i_1 zCall).Filter.getD i_2 zTerm).Op), nI (bif decide (i_1 = i.toNat) then asI (asG (asA r2.fst 8) i_2 1) else ((os.getD i_1 zCall).Filter.getD i_2 zTerm).Num), AV.S (bif decide (i_1 = i.toNat) then asS (asG (asA r2.fst 8) i_2 2) else ((os.getD i_1 zCall).Filter.getD i_2 zTerm).Text)]]⟩)] []))
      else
        (none))
    else
      (none))
  else
    (bif okU then
      (some (owCallS os, []))
    else
      (none)) := by kernel_rfl
theorem e84 (Γ : Orc) (H : Hd) (x : VCell) : ent Tryz.prog cfg Γ 84 H [slCell x] [] =
  Option.bind (Γ 109 [slMsg x.Val] []) fun r0 =>
  Option.bind (Γ 78 [slIntS x.Line] []) fun r1 =>
  Option.bind (Γ 78 [slIntS x.Grants] []) fun r2 =>
  bif bif okT then bif okT then true else false else false then
    (some (AV.ag 7 (lstG [nI (asI (asA r0.fst 0)), nI (asI (asA r0.fst 1)), AV.S (asS (asA r0.fst 2)), nI x.Version, AV.B x.Closed, vowIntS r1.fst, vowIntS r2.fst]), []))
  else
    (none) := by kernel_rfl
theorem e43 (Γ : Orc) (H : Hd) (x : (List VCell)) : ent Tryz.prog cfg Γ 43 H [slCellS x] [] =
  bif decide (zN x.length ≤ 4294967296) && decide (zN x.length ≤ zN x.length) && true && true && true then
    (H [true, true, false, true] (hdS [(0, slCellS x), (3, AV.rf 290816), (4, nI 0)] [(290816, ⟨(zN x.length).toNat, 7, fun i => lstG [nI 0, nI 0, AV.S ByteArray.empty, nI 0, AV.B false, AV.own 0 1 fun i => lstG [nI 0], AV.own 0 1 fun i => lstG [nI 0]]⟩)] []))
  else
    (none) := by kernel_rfl
theorem h43 (Γ : Orc) (H : Hd) (x : (List VCell)) (os : (List VCell)) (i : Int) : hed Tryz.prog cfg Γ 43 H [] P43 (S43 x os i) =
  bif decide (i < zN x.length) then
    (bif bif decide (0 ≤ i) then decide (i < zN x.length) else false then
      (Option.bind (Γ 84 [slCell (x.getD i.toNat zCell)] []) fun r2 =>
      bif bif decide (0 ≤ i) then decide (i < zN os.length) else false then
        (H [true, true, false, true] (hdS [(0, slCellS x), (3, AV.rf 290816), (4, nI (IntKind.i64.wrap (i + 1)))] [(290816, ⟨os.length, 7, fun i_1 => lstG [nI (bif decide (i_1 = i.toNat) then asI (asA r2.fst 0) else (os.getD i_1 zCell).Val.Kind), nI (bif decide (i_1 = i.toNat) then asI (asA r2.fst 1) else (os.getD i_1 zCell).Val.Num), AV.S (bif decide (i_1 = i.toNat) then asS (asA r2.fst 2) else (os.getD i_1 zCell).Val.Text), nI (bif decide (i_1 = i.toNat) then asI (asA r2.fst 3) else (os.getD i_1 zCell).Version), AV.B (bif decide (i_1 = i.toNat) then asB (asA r2.fst 4) else (os.getD i_1 zCell).Closed), AV.own (bif decide (i_1 = i.toNat) then asN (asA r2.fst 5) else (os.getD i_1 zCell).Line.length) 1 fun i_2 => lstG [nI (bif decide (i_1 = i.toNat) then asI (asG (asA r2.fst 5) i_2 0) else (os.getD i_1 zCell).Line.getD i_2 0)], AV.own (bif decide (i_1 = i.toNat) then asN (asA r2.fst 6) else (os.getD i_1 zCell).Grants.length) 1 fun i_2 => lstG [nI (bif decide (i_1 = i.toNat) then asI (asG (asA r2.fst 6) i_2 0) else (os.getD i_1 zCell).Grants.getD i_2 0)]]⟩)] []))
      else
        (none))
    else
      (none))
  else
    (bif okD (bif okT then bif okT then true else false else false) then
      (some (AV.own os.length 7 fun i => lstG [nI (os.getD i zCell).Val.Kind, nI (os.getD i zCell).Val.Num, AV.S (os.getD i zCell).Val.Text, nI (os.getD i zCell).Version, AV.B (os.getD i zCell).Closed, AV.own (os.getD i zCell).Line.length 1 (gI (os.getD i zCell).Line), AV.own (os.getD i zCell).Grants.length 1 (gI (os.getD i zCell).Grants)], []))
    else
      (none)) := by kernel_rfl
theorem e47 (Γ : Orc) (H : Hd) (x : VClient) : ent Tryz.prog cfg Γ 47 H [slClient x] [] =
  Option.bind (Γ 88 [slCallS x.Prog] []) fun r0 =>
  bif bif okU then true else false then
    (some (AV.ag 3 (lstG [AV.own (asN r0.fst) 9 fun i => lstG [nI (asI (asG r0.fst i 0)), nI (asI (asG r0.fst i 1)), nI (asI (asG r0.fst i 2)), nI (asI (asG r0.fst i 3)), AV.S (asS (asG r0.fst i 4)), nI (asI (asG r0.fst i 5)), nI (asI (asG r0.fst i 6)), AV.S (asS (asG r0.fst i 7)), vowMsgS (asG r0.fst i 8)], nI x.At, AV.B x.Waiting]), []))
  else
    (none) := by kernel_rfl
theorem e14 (Γ : Orc) (H : Hd) (x : (List VClient)) : ent Tryz.prog cfg Γ 14 H [slClientS x] [] =
  bif decide (zN x.length ≤ 4294967296) && decide (zN x.length ≤ zN x.length) && true && true && true then
    (H [true, true, false, true] (hdS [(0, slClientS x), (3, AV.rf 290816), (4, nI 0)] [(290816, ⟨(zN x.length).toNat, 3, fun i => lstG [AV.own 0 9 fun i => lstG [nI 0, nI 0, nI 0, nI 0, AV.S ByteArray.empty, nI 0, nI 0, AV.S ByteArray.empty, AV.own 0 3 fun i => lstG [nI 0, nI 0, AV.S ByteArray.empty]], nI 0, AV.B false]⟩)] []))
  else
    (none) := by kernel_rfl
theorem h14 (Γ : Orc) (H : Hd) (x : (List VClient)) (os : (List VClient)) (i : Int) : hed Tryz.prog cfg Γ 14 H [] P14 (S14 x os i) =
  bif decide (i < zN x.length) then
    (bif bif decide (0 ≤ i) then decide (i < zN x.length) else false then
      (Option.bind (Γ 47 [slClient (x.getD i.toNat zClient)] []) fun r2 =>
      bif bif decide (0 ≤ i) then decide (i < zN os.length) else false then
        (H [true, true, false, true] (hdS [(0, slClientS x), (3, AV.rf 290816), (4, nI (IntKind.i64.wrap (i + 1)))] [(290816, ⟨os.length, 3, fun i_1 => lstG [AV.own (bif decide (i_1 = i.toNat) then asN (asA r2.fst 0) else (os.getD i_1 zClient).Prog.length) 9 fun i_2 => lstG [nI (bif decide (i_1 = i.toNat) then asI (asG (asA r2.fst 0) i_2 0) else ((os.getD i_1 zClient).Prog.getD i_2 zCall).Op), nI (bif decide (i_1 = i.toNat) then asI (asG (asA r2.fst 0) i_2 1) else ((os.getD i_1 zClient).Prog.getD i_2 zCall).A), nI (bif decide (i_1 = i.toNat) then asI (asG (asA r2.fst 0) i_2 2) else ((os.getD i_1 zClient).Prog.getD i_2 zCall).B), nI (bif decide (i_1 = i.toNat) then asI (asG (asA r2.fst 0) i_2 3) else ((os.getD i_1 zClient).Prog.getD i_2 zCall).Tok), AV.S (bif decide (i_1 = i.toNat) then asS (asG (asA r2.fst 0) i_2 4) else ((os.getD i_1 zClient).Prog.getD i_2 zCall).Name), nI (bif decide (i_1 = i.toNat) then asI (asG (asA r2.fst 0) i_2 5) else ((os.getD i_1 zClient).Prog.getD i_2 zCall).Msg.Kind), nI (bif decide (i_1 = i.toNat) then asI (asG (asA r2.fst 0) i_2 6) else ((os.getD i_1 zClient).Prog.getD i_2 zCall).Msg.Num), AV.S (bif decide (i_1 = i.toNat) then asS (asG (asA r2.fst 0) i_2 7) else ((os.getD i_1 zClient).Prog.getD i_2 zCall).Msg.Text), AV.own (bif decide (i_1 = i.toNat) then asN (asG (asA r2.fst 0) i_2 8) else ((os.getD i_1 zClient).Prog.getD i_2 zCall).Filter.length) 3 fun i_3 => lstG [nI (bif decide (i_1 = i.toNat) then asI (asG (asG (asA r2.fst 0) i_2 8) i_3 0) else (((os.getD i_1 zClient).Prog.getD i_2 zCall).Filter.getD i_3 zTerm).Op), nI (bif decide (i_1 = i.toNat) then asI (asG (asG (asA r2.fst 0) i_2 8) i_3 1) else (((os.getD i_1 zClient).Prog.getD i_2 zCall).Filter.getD i_3 zTerm).Num), AV.S (bif decide (i_1 = i.toNat) then asS (asG (asG (asA r2.fst 0) i_2 8) i_3 2) else (((os.getD i_1 zClient).Prog.getD i_2 zCall).Filter.getD i_3 zTerm).Text)]], nI (bif decide (i_1 = i.toNat) then asI (asA r2.fst 1) else (os.getD i_1 zClient).At), AV.B (bif decide (i_1 = i.toNat) then asB (asA r2.fst 2) else (os.getD i_1 zClient).Waiting)]⟩)] []))
      else
        (none))
    else
      (none))
  else
    (bif okV then
      (some (owClientS os, []))
    else
      (none)) := by kernel_rfl
theorem e39 (Γ : Orc) (H : Hd) (x : VClock) : ent Tryz.prog cfg Γ 39 H [slClock x] [] =
  Option.bind (Γ 80 [slTimerS x.Timers] []) fun r0 =>
  bif bif okT then true else false then
    (some (AV.ag 2 (lstG [nI x.Now, vowTimerS r0.fst]), []))
  else
    (none) := by kernel_rfl
theorem e82 (Γ : Orc) (H : Hd) (x : VEvent) : ent Tryz.prog cfg Γ 82 H [slEvent x] [] =
  Option.bind (Γ 78 [slIntS x.Line] []) fun r0 =>
  Option.bind (Γ 78 [slIntS x.Grants] []) fun r1 =>
  bif bif okT then bif okT then true else false else false then
    (some (AV.ag 7 (lstG [AV.B x.Auto, AV.B x.Up, vowIntS r0.fst, vowIntS r1.fst, nI x.Sets, nI x.Spilt, nI x.Taken]), []))
  else
    (none) := by kernel_rfl
theorem e41 (Γ : Orc) (H : Hd) (x : (List VEvent)) : ent Tryz.prog cfg Γ 41 H [slEventS x] [] =
  bif decide (zN x.length ≤ 4294967296) && decide (zN x.length ≤ zN x.length) && true && true && true then
    (H [true, true, false, true] (hdS [(0, slEventS x), (3, AV.rf 290816), (4, nI 0)] [(290816, ⟨(zN x.length).toNat, 7, fun i => lstG [AV.B false, AV.B false, AV.own 0 1 fun i => lstG [nI 0], AV.own 0 1 fun i => lstG [nI 0], nI 0, nI 0, nI 0]⟩)] []))
  else
    (none) := by kernel_rfl
theorem h41 (Γ : Orc) (H : Hd) (x : (List VEvent)) (os : (List VEvent)) (i : Int) : hed Tryz.prog cfg Γ 41 H [] P41 (S41 x os i) =
  bif decide (i < zN x.length) then
    (bif bif decide (0 ≤ i) then decide (i < zN x.length) else false then
      (Option.bind (Γ 82 [slEvent (x.getD i.toNat zEvent)] []) fun r2 =>
      bif bif decide (0 ≤ i) then decide (i < zN os.length) else false then
        (H [true, true, false, true] (hdS [(0, slEventS x), (3, AV.rf 290816), (4, nI (IntKind.i64.wrap (i + 1)))] [(290816, ⟨os.length, 7, fun i_1 => lstG [AV.B (bif decide (i_1 = i.toNat) then asB (asA r2.fst 0) else (os.getD i_1 zEvent).Auto), AV.B (bif decide (i_1 = i.toNat) then asB (asA r2.fst 1) else (os.getD i_1 zEvent).Up), AV.own (bif decide (i_1 = i.toNat) then asN (asA r2.fst 2) else (os.getD i_1 zEvent).Line.length) 1 fun i_2 => lstG [nI (bif decide (i_1 = i.toNat) then asI (asG (asA r2.fst 2) i_2 0) else (os.getD i_1 zEvent).Line.getD i_2 0)], AV.own (bif decide (i_1 = i.toNat) then asN (asA r2.fst 3) else (os.getD i_1 zEvent).Grants.length) 1 fun i_2 => lstG [nI (bif decide (i_1 = i.toNat) then asI (asG (asA r2.fst 3) i_2 0) else (os.getD i_1 zEvent).Grants.getD i_2 0)], nI (bif decide (i_1 = i.toNat) then asI (asA r2.fst 4) else (os.getD i_1 zEvent).Sets), nI (bif decide (i_1 = i.toNat) then asI (asA r2.fst 5) else (os.getD i_1 zEvent).Spilt), nI (bif decide (i_1 = i.toNat) then asI (asA r2.fst 6) else (os.getD i_1 zEvent).Taken)]⟩)] []))
      else
        (none))
    else
      (none))
  else
    (bif okD (bif okT then bif okT then true else false else false) then
      (some (AV.own os.length 7 fun i => lstG [AV.B (os.getD i zEvent).Auto, AV.B (os.getD i zEvent).Up, AV.own (os.getD i zEvent).Line.length 1 (gI (os.getD i zEvent).Line), AV.own (os.getD i zEvent).Grants.length 1 (gI (os.getD i zEvent).Grants), nI (os.getD i zEvent).Sets, nI (os.getD i zEvent).Spilt, nI (os.getD i zEvent).Taken], []))
    else
      (none)) := by kernel_rfl
theorem e124 (Γ : Orc) (H : Hd) (x : VGrant) : ent Tryz.prog cfg Γ 124 H [slGrant x] [] =
  some (slGrant x, []) := by kernel_rfl
theorem e108 (Γ : Orc) (H : Hd) (x : (List VGrant)) : ent Tryz.prog cfg Γ 108 H [slGrantS x] [] =
  bif decide (zN x.length ≤ 4294967296) && decide (zN x.length ≤ zN x.length) && true && true && true then
    (H [true, true, false, true] (hdS [(0, slGrantS x), (3, AV.rf 290816), (4, nI 0)] [(290816, ⟨(zN x.length).toNat, 2, fun i => lstG [nI 0, AV.B false]⟩)] []))
  else
    (none) := by kernel_rfl
theorem h108 (Γ : Orc) (H : Hd) (x : (List VGrant)) (os : (List VGrant)) (i : Int) : hed Tryz.prog cfg Γ 108 H [] P108 (S108 x os i) =
  bif decide (i < zN x.length) then
    (bif bif decide (0 ≤ i) then decide (i < zN x.length) else false then
      (Option.bind (Γ 124 [slGrant (x.getD i.toNat zGrant)] []) fun r2 =>
      bif bif decide (0 ≤ i) then decide (i < zN os.length) else false then
        (H [true, true, false, true] (hdS [(0, slGrantS x), (3, AV.rf 290816), (4, nI (IntKind.i64.wrap (i + 1)))] [(290816, ⟨os.length, 2, fun i_1 => lstG [nI (bif decide (i_1 = i.toNat) then asI (asA r2.fst 0) else (os.getD i_1 zGrant).Who), AV.B (bif decide (i_1 = i.toNat) then asB (asA r2.fst 1) else (os.getD i_1 zGrant).One)]⟩)] []))
      else
        (none))
    else
      (none))
  else
    (bif okT then
      (some (owGrantS os, []))
    else
      (none)) := by kernel_rfl
theorem e128 (Γ : Orc) (H : Hd) (x : VHit) : ent Tryz.prog cfg Γ 128 H [slHit x] [] =
  some (slHit x, []) := by kernel_rfl
theorem e112 (Γ : Orc) (H : Hd) (x : (List VHit)) : ent Tryz.prog cfg Γ 112 H [slHitS x] [] =
  bif decide (zN x.length ≤ 4294967296) && decide (zN x.length ≤ zN x.length) && true && true && true then
    (H [true, true, false, true] (hdS [(0, slHitS x), (3, AV.rf 290816), (4, nI 0)] [(290816, ⟨(zN x.length).toNat, 2, fun i => lstG [nI 0, nI 0]⟩)] []))
  else
    (none) := by kernel_rfl
theorem h112 (Γ : Orc) (H : Hd) (x : (List VHit)) (os : (List VHit)) (i : Int) : hed Tryz.prog cfg Γ 112 H [] P112 (S112 x os i) =
  bif decide (i < zN x.length) then
    (bif bif decide (0 ≤ i) then decide (i < zN x.length) else false then
      (Option.bind (Γ 128 [slHit (x.getD i.toNat zHit)] []) fun r2 =>
      bif bif decide (0 ≤ i) then decide (i < zN os.length) else false then
        (H [true, true, false, true] (hdS [(0, slHitS x), (3, AV.rf 290816), (4, nI (IntKind.i64.wrap (i + 1)))] [(290816, ⟨os.length, 2, fun i_1 => lstG [nI (bif decide (i_1 = i.toNat) then asI (asA r2.fst 0) else (os.getD i_1 zHit).Topic), nI (bif decide (i_1 = i.toNat) then asI (asA r2.fst 1) else (os.getD i_1 zHit).Id)]⟩)] []))
      else
        (none))
    else
      (none))
  else
    (bif okT then
      (some (owHitS os, []))
    else
      (none)) := by kernel_rfl
theorem e13 (Γ : Orc) (H : Hd) (x : VHub) : ent Tryz.prog cfg Γ 13 H [slHub x] [] =
  Option.bind (Γ 38 [slTokens x.Tokens] []) fun r0 =>
  Option.bind (Γ 39 [slClock x.Clock] []) fun r1 =>
  Option.bind (Γ 40 [slNotifyS x.Notes] []) fun r2 =>
  Option.bind (Γ 41 [slEventS x.Events] []) fun r3 =>
  Option.bind (Γ 42 [slLatchS x.Latches] []) fun r4 =>
  Option.bind (Γ 43 [slCellS x.Cells] []) fun r5 =>
  Option.bind (Γ 44 [slTopicS x.Topics] []) fun r6 =>
  Option.bind (Γ 45 [slMergeS x.Merges] []) fun r7 =>
  Option.bind (Γ 46 [slUserS x.Users] []) fun r8 =>
  bif bif okT then bif okT then bif okT then bif okD (bif okT then bif okT then true else false else false) then bif okD (bif okT then bif okT then true else false else false) then bif okD (bif okT then bif okT then true else false else false) then bif okD (bif okT then bif okT then true else false else false) then bif okD (bif okT then bif okU then bif okT then bif okT then true else false else false else false else false) then bif okU then bif okD (bif okT then bif okT then true else false else false) then true else false else false else false else false else false else false else false else false else false else false then
    (some (AV.ag 11 (lstG [vowIntS (asA r0.fst 0), vowBoolS (asA r0.fst 1), nI (asI (asA r1.fst 0)), vowTimerS (asA r1.fst 1), vowNotifyS r2.fst, vowEventS r3.fst, vowLatchS r4.fst, vowCellS r5.fst, AV.own (asN r6.fst) 9 fun i => lstG [AV.S (asS (asG r6.fst i 0)), nI (asI (asG r6.fst i 1)), nI (asI (asG r6.fst i 2)), vowMsgS (asG r6.fst i 3), nI (asI (asG r6.fst i 4)), AV.own (asN (asG r6.fst i 5)) 7 fun i_1 => lstG [nI (asI (asG (asG r6.fst i 5) i_1 0)), nI (asI (asG (asG r6.fst i 5) i_1 1)), nI (asI (asG (asG r6.fst i 5) i_1 2)), nI (asI (asG (asG r6.fst i 5) i_1 3)), nI (asI (asG (asG r6.fst i 5) i_1 4)), nI (asI (asG (asG r6.fst i 5) i_1 5)), vowMsgS (asG (asG r6.fst i 5) i_1 6)], vowIntS (asG r6.fst i 6), vowIntS (asG r6.fst i 7), AV.B (asB (asG r6.fst i 8))], vowMergeS r7.fst, AV.own (asN r8.fst) 2 fun i => lstG [vowTimerS (asG r8.fst i 0), vowIntS (asG r8.fst i 1)]]), []))
  else
    (none) := by kernel_rfl
theorem e78 (Γ : Orc) (H : Hd) (x : (List Int)) : ent Tryz.prog cfg Γ 78 H [slIntS x] [] =
  bif decide (zN x.length ≤ 4294967296) && decide (zN x.length ≤ zN x.length) && true && true && true then
    (H [true, true, false, true] (hdS [(0, slIntS x), (3, AV.rf 290816), (4, nI 0)] [(290816, ⟨(zN x.length).toNat, 1, fun i => lstG [nI 0]⟩)] []))
  else
    (none) := by kernel_rfl
theorem h78 (Γ : Orc) (H : Hd) (x : (List Int)) (os : (List Int)) (i : Int) : hed Tryz.prog cfg Γ 78 H [] P78 (S78 x os i) =
  bif decide (i < zN x.length) then
    (bif bif decide (0 ≤ i) then decide (i < zN x.length) else false then
      (bif bif decide (0 ≤ i) then decide (i < zN os.length) else false then
        (H [true, true, false, true] (hdS [(0, slIntS x), (3, AV.rf 290816), (4, nI (IntKind.i64.wrap (i + 1)))] [(290816, ⟨os.length, 1, fun i_1 => lstG [nI (bif decide (i_1 = i.toNat) then x.getD i.toNat 0 else os.getD i_1 0)]⟩)] []))
      else
        (none))
    else
      (none))
  else
    (bif okT then
      (some (AV.own os.length 1 (gI os), []))
    else
      (none)) := by kernel_rfl
theorem e83 (Γ : Orc) (H : Hd) (x : VLatch) : ent Tryz.prog cfg Γ 83 H [slLatch x] [] =
  Option.bind (Γ 78 [slIntS x.Line] []) fun r0 =>
  Option.bind (Γ 78 [slIntS x.Grants] []) fun r1 =>
  bif bif okT then bif okT then true else false else false then
    (some (AV.ag 3 (lstG [nI x.Count, vowIntS r0.fst, vowIntS r1.fst]), []))
  else
    (none) := by kernel_rfl
theorem e42 (Γ : Orc) (H : Hd) (x : (List VLatch)) : ent Tryz.prog cfg Γ 42 H [slLatchS x] [] =
  bif decide (zN x.length ≤ 4294967296) && decide (zN x.length ≤ zN x.length) && true && true && true then
    (H [true, true, false, true] (hdS [(0, slLatchS x), (3, AV.rf 290816), (4, nI 0)] [(290816, ⟨(zN x.length).toNat, 3, fun i => lstG [nI 0, AV.own 0 1 fun i => lstG [nI 0], AV.own 0 1 fun i => lstG [nI 0]]⟩)] []))
  else
    (none) := by kernel_rfl
theorem h42 (Γ : Orc) (H : Hd) (x : (List VLatch)) (os : (List VLatch)) (i : Int) : hed Tryz.prog cfg Γ 42 H [] P42 (S42 x os i) =
  bif decide (i < zN x.length) then
    (bif bif decide (0 ≤ i) then decide (i < zN x.length) else false then
      (Option.bind (Γ 83 [slLatch (x.getD i.toNat zLatch)] []) fun r2 =>
      bif bif decide (0 ≤ i) then decide (i < zN os.length) else false then
        (H [true, true, false, true] (hdS [(0, slLatchS x), (3, AV.rf 290816), (4, nI (IntKind.i64.wrap (i + 1)))] [(290816, ⟨os.length, 3, fun i_1 => lstG [nI (bif decide (i_1 = i.toNat) then asI (asA r2.fst 0) else (os.getD i_1 zLatch).Count), AV.own (bif decide (i_1 = i.toNat) then asN (asA r2.fst 1) else (os.getD i_1 zLatch).Line.length) 1 fun i_2 => lstG [nI (bif decide (i_1 = i.toNat) then asI (asG (asA r2.fst 1) i_2 0) else (os.getD i_1 zLatch).Line.getD i_2 0)], AV.own (bif decide (i_1 = i.toNat) then asN (asA r2.fst 2) else (os.getD i_1 zLatch).Grants.length) 1 fun i_2 => lstG [nI (bif decide (i_1 = i.toNat) then asI (asG (asA r2.fst 2) i_2 0) else (os.getD i_1 zLatch).Grants.getD i_2 0)]]⟩)] []))
      else
        (none))
    else
      (none))
  else
    (bif okD (bif okT then bif okT then true else false else false) then
      (some (AV.own os.length 3 fun i => lstG [nI (os.getD i zLatch).Count, AV.own (os.getD i zLatch).Line.length 1 (gI (os.getD i zLatch).Line), AV.own (os.getD i zLatch).Grants.length 1 (gI (os.getD i zLatch).Grants)], []))
    else
      (none)) := by kernel_rfl
theorem e127 (Γ : Orc) (H : Hd) (x : VLeg) : ent Tryz.prog cfg Γ 127 H [slLeg x] [] =
  some (slLeg x, []) := by kernel_rfl
theorem e111 (Γ : Orc) (H : Hd) (x : (List VLeg)) : ent Tryz.prog cfg Γ 111 H [slLegS x] [] =
  bif decide (zN x.length ≤ 4294967296) && decide (zN x.length ≤ zN x.length) && true && true && true then
    (H [true, true, false, true] (hdS [(0, slLegS x), (3, AV.rf 290816), (4, nI 0)] [(290816, ⟨(zN x.length).toNat, 4, fun i => lstG [nI 0, nI 0, nI 0, AV.B false]⟩)] []))
  else
    (none) := by kernel_rfl
theorem h111 (Γ : Orc) (H : Hd) (x : (List VLeg)) (os : (List VLeg)) (i : Int) : hed Tryz.prog cfg Γ 111 H [] P111 (S111 x os i) =
  bif decide (i < zN x.length) then
    (bif bif decide (0 ≤ i) then decide (i < zN x.length) else false then
      (Option.bind (Γ 127 [slLeg (x.getD i.toNat zLeg)] []) fun r2 =>
      bif bif decide (0 ≤ i) then decide (i < zN os.length) else false then
        (H [true, true, false, true] (hdS [(0, slLegS x), (3, AV.rf 290816), (4, nI (IntKind.i64.wrap (i + 1)))] [(290816, ⟨os.length, 4, fun i_1 => lstG [nI (bif decide (i_1 = i.toNat) then asI (asA r2.fst 0) else (os.getD i_1 zLeg).Topic), nI (bif decide (i_1 = i.toNat) then asI (asA r2.fst 1) else (os.getD i_1 zLeg).Id), nI (bif decide (i_1 = i.toNat) then asI (asA r2.fst 2) else (os.getD i_1 zLeg).Lost), AV.B (bif decide (i_1 = i.toNat) then asB (asA r2.fst 3) else (os.getD i_1 zLeg).Over)]⟩)] []))
      else
        (none))
    else
      (none))
  else
    (bif okT then
      (some (owLegS os, []))
    else
      (none)) := by kernel_rfl
theorem e86 (Γ : Orc) (H : Hd) (x : VMerge) : ent Tryz.prog cfg Γ 86 H [slMerge x] [] =
  Option.bind (Γ 111 [slLegS x.Legs] []) fun r0 =>
  bif bif okT then true else false then
    (some (AV.ag 3 (lstG [vowLegS r0.fst, nI x.Into, nI x.Moved]), []))
  else
    (none) := by kernel_rfl
theorem e45 (Γ : Orc) (H : Hd) (x : (List VMerge)) : ent Tryz.prog cfg Γ 45 H [slMergeS x] [] =
  bif decide (zN x.length ≤ 4294967296) && decide (zN x.length ≤ zN x.length) && true && true && true then
    (H [true, true, false, true] (hdS [(0, slMergeS x), (3, AV.rf 290816), (4, nI 0)] [(290816, ⟨(zN x.length).toNat, 3, fun i => lstG [AV.own 0 4 fun i => lstG [nI 0, nI 0, nI 0, AV.B false], nI 0, nI 0]⟩)] []))
  else
    (none) := by kernel_rfl
theorem h45 (Γ : Orc) (H : Hd) (x : (List VMerge)) (os : (List VMerge)) (i : Int) : hed Tryz.prog cfg Γ 45 H [] P45 (S45 x os i) =
  bif decide (i < zN x.length) then
    (bif bif decide (0 ≤ i) then decide (i < zN x.length) else false then
      (Option.bind (Γ 86 [slMerge (x.getD i.toNat zMerge)] []) fun r2 =>
      bif bif decide (0 ≤ i) then decide (i < zN os.length) else false then
        (H [true, true, false, true] (hdS [(0, slMergeS x), (3, AV.rf 290816), (4, nI (IntKind.i64.wrap (i + 1)))] [(290816, ⟨os.length, 3, fun i_1 => lstG [AV.own (bif decide (i_1 = i.toNat) then asN (asA r2.fst 0) else (os.getD i_1 zMerge).Legs.length) 4 fun i_2 => lstG [nI (bif decide (i_1 = i.toNat) then asI (asG (asA r2.fst 0) i_2 0) else ((os.getD i_1 zMerge).Legs.getD i_2 zLeg).Topic), nI (bif decide (i_1 = i.toNat) then asI (asG (asA r2.fst 0) i_2 1) else ((os.getD i_1 zMerge).Legs.getD i_2 zLeg).Id), nI (bif decide (i_1 = i.toNat) then asI (asG (asA r2.fst 0) i_2 2) else ((os.getD i_1 zMerge).Legs.getD i_2 zLeg).Lost), AV.B (bif decide (i_1 = i.toNat) then asB (asG (asA r2.fst 0) i_2 3) else ((os.getD i_1 zMerge).Legs.getD i_2 zLeg).Over)], nI (bif decide (i_1 = i.toNat) then asI (asA r2.fst 1) else (os.getD i_1 zMerge).Into), nI (bif decide (i_1 = i.toNat) then asI (asA r2.fst 2) else (os.getD i_1 zMerge).Moved)]⟩)] []))
      else
        (none))
    else
      (none))
  else
    (bif okU then
      (some (owMergeS os, []))
    else
      (none)) := by kernel_rfl
theorem e109 (Γ : Orc) (H : Hd) (x : VMsg) : ent Tryz.prog cfg Γ 109 H [slMsg x] [] =
  some (slMsg x, []) := by kernel_rfl
theorem e125 (Γ : Orc) (H : Hd) (x : (List VMsg)) : ent Tryz.prog cfg Γ 125 H [slMsgS x] [] =
  bif decide (zN x.length ≤ 4294967296) && decide (zN x.length ≤ zN x.length) && true && true && true then
    (H [true, true, false, true] (hdS [(0, slMsgS x), (3, AV.rf 290816), (4, nI 0)] [(290816, ⟨(zN x.length).toNat, 3, fun i => lstG [nI 0, nI 0, AV.S ByteArray.empty]⟩)] []))
  else
    (none) := by kernel_rfl
theorem h125 (Γ : Orc) (H : Hd) (x : (List VMsg)) (os : (List VMsg)) (i : Int) : hed Tryz.prog cfg Γ 125 H [] P125 (S125 x os i) =
  bif decide (i < zN x.length) then
    (bif bif decide (0 ≤ i) then decide (i < zN x.length) else false then
      (Option.bind (Γ 109 [slMsg (x.getD i.toNat zMsg)] []) fun r2 =>
      bif bif decide (0 ≤ i) then decide (i < zN os.length) else false then
        (H [true, true, false, true] (hdS [(0, slMsgS x), (3, AV.rf 290816), (4, nI (IntKind.i64.wrap (i + 1)))] [(290816, ⟨os.length, 3, fun i_1 => lstG [nI (bif decide (i_1 = i.toNat) then asI (asA r2.fst 0) else (os.getD i_1 zMsg).Kind), nI (bif decide (i_1 = i.toNat) then asI (asA r2.fst 1) else (os.getD i_1 zMsg).Num), AV.S (bif decide (i_1 = i.toNat) then asS (asA r2.fst 2) else (os.getD i_1 zMsg).Text)]⟩)] []))
      else
        (none))
    else
      (none))
  else
    (bif okT then
      (some (owMsgS os, []))
    else
      (none)) := by kernel_rfl
theorem e81 (Γ : Orc) (H : Hd) (x : VNotify) : ent Tryz.prog cfg Γ 81 H [slNotify x] [] =
  Option.bind (Γ 78 [slIntS x.Line] []) fun r0 =>
  Option.bind (Γ 108 [slGrantS x.Grants] []) fun r1 =>
  bif bif okT then bif okT then true else false else false then
    (some (AV.ag 6 (lstG [AV.B x.Permit, vowIntS r0.fst, vowGrantS r1.fst, nI x.Ones, nI x.Spilt, nI x.Taken]), []))
  else
    (none) := by kernel_rfl
theorem e40 (Γ : Orc) (H : Hd) (x : (List VNotify)) : ent Tryz.prog cfg Γ 40 H [slNotifyS x] [] =
  bif decide (zN x.length ≤ 4294967296) && decide (zN x.length ≤ zN x.length) && true && true && true then
    (H [true, true, false, true] (hdS [(0, slNotifyS x), (3, AV.rf 290816), (4, nI 0)] [(290816, ⟨(zN x.length).toNat, 6, fun i => lstG [AV.B false, AV.own 0 1 fun i => lstG [nI 0], AV.own 0 2 fun i => lstG [nI 0, AV.B false], nI 0, nI 0, nI 0]⟩)] []))
  else
    (none) := by kernel_rfl
theorem h40 (Γ : Orc) (H : Hd) (x : (List VNotify)) (os : (List VNotify)) (i : Int) : hed Tryz.prog cfg Γ 40 H [] P40 (S40 x os i) =
  bif decide (i < zN x.length) then
    (bif bif decide (0 ≤ i) then decide (i < zN x.length) else false then
      (Option.bind (Γ 81 [slNotify (x.getD i.toNat zNotify)] []) fun r2 =>
      bif bif decide (0 ≤ i) then decide (i < zN os.length) else false then
        (H [true, true, false, true] (hdS [(0, slNotifyS x), (3, AV.rf 290816), (4, nI (IntKind.i64.wrap (i + 1)))] [(290816, ⟨os.length, 6, fun i_1 => lstG [AV.B (bif decide (i_1 = i.toNat) then asB (asA r2.fst 0) else (os.getD i_1 zNotify).Permit), AV.own (bif decide (i_1 = i.toNat) then asN (asA r2.fst 1) else (os.getD i_1 zNotify).Line.length) 1 fun i_2 => lstG [nI (bif decide (i_1 = i.toNat) then asI (asG (asA r2.fst 1) i_2 0) else (os.getD i_1 zNotify).Line.getD i_2 0)], AV.own (bif decide (i_1 = i.toNat) then asN (asA r2.fst 2) else (os.getD i_1 zNotify).Grants.length) 2 fun i_2 => lstG [nI (bif decide (i_1 = i.toNat) then asI (asG (asA r2.fst 2) i_2 0) else ((os.getD i_1 zNotify).Grants.getD i_2 zGrant).Who), AV.B (bif decide (i_1 = i.toNat) then asB (asG (asA r2.fst 2) i_2 1) else ((os.getD i_1 zNotify).Grants.getD i_2 zGrant).One)], nI (bif decide (i_1 = i.toNat) then asI (asA r2.fst 3) else (os.getD i_1 zNotify).Ones), nI (bif decide (i_1 = i.toNat) then asI (asA r2.fst 4) else (os.getD i_1 zNotify).Spilt), nI (bif decide (i_1 = i.toNat) then asI (asA r2.fst 5) else (os.getD i_1 zNotify).Taken)]⟩)] []))
      else
        (none))
    else
      (none))
  else
    (bif okD (bif okT then bif okT then true else false else false) then
      (some (AV.own os.length 6 fun i => lstG [AV.B (os.getD i zNotify).Permit, AV.own (os.getD i zNotify).Line.length 1 (gI (os.getD i zNotify).Line), owGrantS (os.getD i zNotify).Grants, nI (os.getD i zNotify).Ones, nI (os.getD i zNotify).Spilt, nI (os.getD i zNotify).Taken], []))
    else
      (none)) := by kernel_rfl
theorem e110 (Γ : Orc) (H : Hd) (x : VRing) : ent Tryz.prog cfg Γ 110 H [slRing x] [] =
  Option.bind (Γ 125 [slMsgS x.Items] []) fun r0 =>
  Option.bind (Γ 126 [slSubS x.Subs] []) fun r1 =>
  Option.bind (Γ 78 [slIntS x.Line] []) fun r2 =>
  Option.bind (Γ 78 [slIntS x.Grants] []) fun r3 =>
  bif bif okT then bif okU then bif okT then bif okT then true else false else false else false else false then
    (some (AV.ag 8 (lstG [nI x.Cap, nI x.Sent, vowMsgS r0.fst, nI x.Next, AV.own (asN r1.fst) 7 fun i => lstG [nI (asI (asG r1.fst i 0)), nI (asI (asG r1.fst i 1)), nI (asI (asG r1.fst i 2)), nI (asI (asG r1.fst i 3)), nI (asI (asG r1.fst i 4)), nI (asI (asG r1.fst i 5)), vowMsgS (asG r1.fst i 6)], vowIntS r2.fst, vowIntS r3.fst, AV.B x.Closed]), []))
  else
    (none) := by kernel_rfl
theorem e6 (Γ : Orc) (H : Hd) (x : VState) : ent Tryz.prog cfg Γ 6 H [slState x] [] =
  Option.bind (Γ 13 [slHub x.Hub] []) fun r0 =>
  Option.bind (Γ 14 [slClientS x.Clients] []) fun r1 =>
  bif bif okT then bif okT then bif okT then bif okD (bif okT then bif okT then true else false else false) then bif okD (bif okT then bif okT then true else false else false) then bif okD (bif okT then bif okT then true else false else false) then bif okD (bif okT then bif okT then true else false else false) then bif okD (bif okT then bif okU then bif okT then bif okT then true else false else false else false else false) then bif okU then bif okD (bif okT then bif okT then true else false else false) then bif okV then true else false else false else false else false else false else false else false else false else false else false else false then
    (some (AV.ag 12 (lstG [vowIntS (asA r0.fst 0), vowBoolS (asA r0.fst 1), nI (asI (asA r0.fst 2)), vowTimerS (asA r0.fst 3), vowNotifyS (asA r0.fst 4), vowEventS (asA r0.fst 5), vowLatchS (asA r0.fst 6), vowCellS (asA r0.fst 7), AV.own (asN (asA r0.fst 8)) 9 fun i => lstG [AV.S (asS (asG (asA r0.fst 8) i 0)), nI (asI (asG (asA r0.fst 8) i 1)), nI (asI (asG (asA r0.fst 8) i 2)), vowMsgS (asG (asA r0.fst 8) i 3), nI (asI (asG (asA r0.fst 8) i 4)), AV.own (asN (asG (asA r0.fst 8) i 5)) 7 fun i_1 => lstG [nI (asI (asG (asG (asA r0.fst 8) i 5) i_1 0)), nI (asI (asG (asG (asA r0.fst 8) i 5) i_1 1)), nI (asI (asG (asG (asA r0.fst 8) i 5) i_1 2)), nI (asI (asG (asG (asA r0.fst 8) i 5) i_1 3)), nI (asI (asG (asG (asA r0.fst 8) i 5) i_1 4)), nI (asI (asG (asG (asA r0.fst 8) i 5) i_1 5)), vowMsgS (asG (asG (asA r0.fst 8) i 5) i_1 6)], vowIntS (asG (asA r0.fst 8) i 6), vowIntS (asG (asA r0.fst 8) i 7), AV.B (asB (asG (asA r0.fst 8) i 8))], vowMergeS (asA r0.fst 9), AV.own (asN (asA r0.fst 10)) 2 fun i => lstG [vowTimerS (asG (asA r0.fst 10) i 0), vowIntS (asG (asA r0.fst 10) i 1)], AV.own (asN r1.fst) 3 fun i => lstG [AV.own (asN (asG r1.fst i 0)) 9 fun i_1 => lstG [nI (asI (asG (asG r1.fst i 0) i_1 0)), nI (asI (asG (asG r1.fst i 0) i_1 1)), nI (asI (asG (asG r1.fst i 0) i_1 2)), nI (asI (asG (asG r1.fst i 0) i_1 3)), AV.S (asS (asG (asG r1.fst i 0) i_1 4)), nI (asI (asG (asG r1.fst i 0) i_1 5)), nI (asI (asG (asG r1.fst i 0) i_1 6)), AV.S (asS (asG (asG r1.fst i 0) i_1 7)), vowMsgS (asG (asG r1.fst i 0) i_1 8)], nI (asI (asG r1.fst i 1)), AV.B (asB (asG r1.fst i 2))]]), []))
  else
    (none) := by kernel_rfl
theorem e138 (Γ : Orc) (H : Hd) (x : VSub) : ent Tryz.prog cfg Γ 138 H [slSub x] [] =
  Option.bind (Γ 129 [slTermS x.Filter] []) fun r0 =>
  bif bif okT then true else false then
    (some (AV.ag 7 (lstG [nI x.Id, nI x.Start, nI x.Cursor, nI x.Got, nI x.Lost, nI x.Passed, vowMsgS r0.fst]), []))
  else
    (none) := by kernel_rfl
theorem e126 (Γ : Orc) (H : Hd) (x : (List VSub)) : ent Tryz.prog cfg Γ 126 H [slSubS x] [] =
  bif decide (zN x.length ≤ 4294967296) && decide (zN x.length ≤ zN x.length) && true && true && true then
    (H [true, true, false, true] (hdS [(0, slSubS x), (3, AV.rf 290816), (4, nI 0)] [(290816, ⟨(zN x.length).toNat, 7, fun i => lstG [nI 0, nI 0, nI 0, nI 0, nI 0, nI 0, AV.own 0 3 fun i => lstG [nI 0, nI 0, AV.S ByteArray.empty]]⟩)] []))
  else
    (none) := by kernel_rfl
theorem h126 (Γ : Orc) (H : Hd) (x : (List VSub)) (os : (List VSub)) (i : Int) : hed Tryz.prog cfg Γ 126 H [] P126 (S126 x os i) =
  bif decide (i < zN x.length) then
    (bif bif decide (0 ≤ i) then decide (i < zN x.length) else false then
      (Option.bind (Γ 138 [slSub (x.getD i.toNat zSub)] []) fun r2 =>
      bif bif decide (0 ≤ i) then decide (i < zN os.length) else false then
        (H [true, true, false, true] (hdS [(0, slSubS x), (3, AV.rf 290816), (4, nI (IntKind.i64.wrap (i + 1)))] [(290816, ⟨os.length, 7, fun i_1 => lstG [nI (bif decide (i_1 = i.toNat) then asI (asA r2.fst 0) else (os.getD i_1 zSub).Id), nI (bif decide (i_1 = i.toNat) then asI (asA r2.fst 1) else (os.getD i_1 zSub).Start), nI (bif decide (i_1 = i.toNat) then asI (asA r2.fst 2) else (os.getD i_1 zSub).Cursor), nI (bif decide (i_1 = i.toNat) then asI (asA r2.fst 3) else (os.getD i_1 zSub).Got), nI (bif decide (i_1 = i.toNat) then asI (asA r2.fst 4) else (os.getD i_1 zSub).Lost), nI (bif decide (i_1 = i.toNat) then asI (asA r2.fst 5) else (os.getD i_1 zSub).Passed), AV.own (bif decide (i_1 = i.toNat) then asN (asA r2.fst 6) else (os.getD i_1 zSub).Filter.length) 3 fun i_2 => lstG [nI (bif decide (i_1 = i.toNat) then asI (asG (asA r2.fst 6) i_2 0) else ((os.getD i_1 zSub).Filter.getD i_2 zTerm).Op), nI (bif decide (i_1 = i.toNat) then asI (asG (asA r2.fst 6) i_2 1) else ((os.getD i_1 zSub).Filter.getD i_2 zTerm).Num), AV.S (bif decide (i_1 = i.toNat) then asS (asG (asA r2.fst 6) i_2 2) else ((os.getD i_1 zSub).Filter.getD i_2 zTerm).Text)]]⟩)] []))
      else
        (none))
    else
      (none))
  else
    (bif okU then
      (some (owSubS os, []))
    else
      (none)) := by kernel_rfl
theorem e139 (Γ : Orc) (H : Hd) (x : VTerm) : ent Tryz.prog cfg Γ 139 H [slTerm x] [] =
  some (slTerm x, []) := by kernel_rfl
theorem e129 (Γ : Orc) (H : Hd) (x : (List VTerm)) : ent Tryz.prog cfg Γ 129 H [slTermS x] [] =
  bif decide (zN x.length ≤ 4294967296) && decide (zN x.length ≤ zN x.length) && true && true && true then
    (H [true, true, false, true] (hdS [(0, slTermS x), (3, AV.rf 290816), (4, nI 0)] [(290816, ⟨(zN x.length).toNat, 3, fun i => lstG [nI 0, nI 0, AV.S ByteArray.empty]⟩)] []))
  else
    (none) := by kernel_rfl
theorem h129 (Γ : Orc) (H : Hd) (x : (List VTerm)) (os : (List VTerm)) (i : Int) : hed Tryz.prog cfg Γ 129 H [] P129 (S129 x os i) =
  bif decide (i < zN x.length) then
    (bif bif decide (0 ≤ i) then decide (i < zN x.length) else false then
      (Option.bind (Γ 139 [slTerm (x.getD i.toNat zTerm)] []) fun r2 =>
      bif bif decide (0 ≤ i) then decide (i < zN os.length) else false then
        (H [true, true, false, true] (hdS [(0, slTermS x), (3, AV.rf 290816), (4, nI (IntKind.i64.wrap (i + 1)))] [(290816, ⟨os.length, 3, fun i_1 => lstG [nI (bif decide (i_1 = i.toNat) then asI (asA r2.fst 0) else (os.getD i_1 zTerm).Op), nI (bif decide (i_1 = i.toNat) then asI (asA r2.fst 1) else (os.getD i_1 zTerm).Num), AV.S (bif decide (i_1 = i.toNat) then asS (asA r2.fst 2) else (os.getD i_1 zTerm).Text)]⟩)] []))
      else
        (none))
    else
      (none))
  else
    (bif okT then
      (some (owTermS os, []))
    else
      (none)) := by kernel_rfl
theorem e107 (Γ : Orc) (H : Hd) (x : VTimer) : ent Tryz.prog cfg Γ 107 H [slTimer x] [] =
  some (slTimer x, []) := by kernel_rfl
theorem e80 (Γ : Orc) (H : Hd) (x : (List VTimer)) : ent Tryz.prog cfg Γ 80 H [slTimerS x] [] =
  bif decide (zN x.length ≤ 4294967296) && decide (zN x.length ≤ zN x.length) && true && true && true then
    (H [true, true, false, true] (hdS [(0, slTimerS x), (3, AV.rf 290816), (4, nI 0)] [(290816, ⟨(zN x.length).toNat, 2, fun i => lstG [nI 0, nI 0]⟩)] []))
  else
    (none) := by kernel_rfl
theorem h80 (Γ : Orc) (H : Hd) (x : (List VTimer)) (os : (List VTimer)) (i : Int) : hed Tryz.prog cfg Γ 80 H [] P80 (S80 x os i) =
  bif decide (i < zN x.length) then
    (bif bif decide (0 ≤ i) then decide (i < zN x.length) else false then
      (Option.bind (Γ 107 [slTimer (x.getD i.toNat zTimer)] []) fun r2 =>
      bif bif decide (0 ≤ i) then decide (i < zN os.length) else false then
        (H [true, true, false, true] (hdS [(0, slTimerS x), (3, AV.rf 290816), (4, nI (IntKind.i64.wrap (i + 1)))] [(290816, ⟨os.length, 2, fun i_1 => lstG [nI (bif decide (i_1 = i.toNat) then asI (asA r2.fst 0) else (os.getD i_1 zTimer).At), nI (bif decide (i_1 = i.toNat) then asI (asA r2.fst 1) else (os.getD i_1 zTimer).Token)]⟩)] []))
      else
        (none))
    else
      (none))
  else
    (bif okT then
      (some (owTimerS os, []))
    else
      (none)) := by kernel_rfl
theorem e38 (Γ : Orc) (H : Hd) (x : VTokens) : ent Tryz.prog cfg Γ 38 H [slTokens x] [] =
  Option.bind (Γ 78 [slIntS x.Parents] []) fun r0 =>
  Option.bind (Γ 79 [slBoolS x.Off] []) fun r1 =>
  bif bif okT then bif okT then true else false else false then
    (some (AV.ag 2 (lstG [vowIntS r0.fst, vowBoolS r1.fst]), []))
  else
    (none) := by kernel_rfl
theorem e85 (Γ : Orc) (H : Hd) (x : VTopic) : ent Tryz.prog cfg Γ 85 H [slTopic x] [] =
  Option.bind (Γ 110 [slRing x.Ring] []) fun r0 =>
  bif bif okT then bif okU then bif okT then bif okT then true else false else false else false else false then
    (some (AV.ag 9 (lstG [AV.S x.Name, nI (asI (asA r0.fst 0)), nI (asI (asA r0.fst 1)), vowMsgS (asA r0.fst 2), nI (asI (asA r0.fst 3)), AV.own (asN (asA r0.fst 4)) 7 fun i => lstG [nI (asI (asG (asA r0.fst 4) i 0)), nI (asI (asG (asA r0.fst 4) i 1)), nI (asI (asG (asA r0.fst 4) i 2)), nI (asI (asG (asA r0.fst 4) i 3)), nI (asI (asG (asA r0.fst 4) i 4)), nI (asI (asG (asA r0.fst 4) i 5)), vowMsgS (asG (asA r0.fst 4) i 6)], vowIntS (asA r0.fst 5), vowIntS (asA r0.fst 6), AV.B (asB (asA r0.fst 7))]), []))
  else
    (none) := by kernel_rfl
theorem e44 (Γ : Orc) (H : Hd) (x : (List VTopic)) : ent Tryz.prog cfg Γ 44 H [slTopicS x] [] =
  bif decide (zN x.length ≤ 4294967296) && decide (zN x.length ≤ zN x.length) && true && true && true then
    (H [true, true, false, true] (hdS [(0, slTopicS x), (3, AV.rf 290816), (4, nI 0)] [(290816, ⟨(zN x.length).toNat, 9, fun i => lstG [AV.S ByteArray.empty, nI 0, nI 0, AV.own 0 3 fun i => lstG [nI 0, nI 0, AV.S ByteArray.empty], nI 0, AV.own 0 7 fun i => lstG [nI 0, nI 0, nI 0, nI 0, nI 0, nI 0, AV.own 0 3 fun i => lstG [nI 0, nI 0, AV.S ByteArray.empty]], AV.own 0 1 fun i => lstG [nI 0], AV.own 0 1 fun i => lstG [nI 0], AV.B false]⟩)] []))
  else
    (none) := by kernel_rfl
theorem h44 (Γ : Orc) (H : Hd) (x : (List VTopic)) (os : (List VTopic)) (i : Int) : hed Tryz.prog cfg Γ 44 H [] P44 (S44 x os i) =
  bif decide (i < zN x.length) then
    (bif bif decide (0 ≤ i) then decide (i < zN x.length) else false then
      (Option.bind (Γ 85 [slTopic (x.getD i.toNat zTopic)] []) fun r2 =>
      bif bif decide (0 ≤ i) then decide (i < zN os.length) else false then
        (H [true, true, false, true] (hdS [(0, slTopicS x), (3, AV.rf 290816), (4, nI (IntKind.i64.wrap (i + 1)))] [(290816, ⟨os.length, 9, fun i_1 => lstG [AV.S (bif decide (i_1 = i.toNat) then asS (asA r2.fst 0) else (os.getD i_1 zTopic).Name), nI (bif decide (i_1 = i.toNat) then asI (asA r2.fst 1) else (os.getD i_1 zTopic).Ring.Cap), nI (bif decide (i_1 = i.toNat) then asI (asA r2.fst 2) else (os.getD i_1 zTopic).Ring.Sent), AV.own (bif decide (i_1 = i.toNat) then asN (asA r2.fst 3) else (os.getD i_1 zTopic).Ring.Items.length) 3 fun i_2 => lstG [nI (bif decide (i_1 = i.toNat) then asI (asG (asA r2.fst 3) i_2 0) else ((os.getD i_1 zTopic).Ring.Items.getD i_2 zMsg).Kind), nI (bif decide (i_1 = i.toNat) then asI (asG (asA r2.fst 3) i_2 1) else ((os.getD i_1 zTopic).Ring.Items.getD i_2 zMsg).Num), AV.S (bif decide (i_1 = i.toNat) then asS (asG (asA r2.fst 3) i_2 2) else ((os.getD i_1 zTopic).Ring.Items.getD i_2 zMsg).Text)], nI (bif decide (i_1 = i.toNat) then asI (asA r2.fst 4) else (os.getD i_1 zTopic).Ring.Next), AV.own (bif decide (i_1 = i.toNat) then asN (asA r2.fst 5) else (os.getD i_1 zTopic).Ring.Subs.length) 7 fun i_2 => lstG [nI (bif decide (i_1 = i.toNat) then asI (asG (asA r2.fst 5) i_2 0) else ((os.getD i_1 zTopic).Ring.Subs.getD i_2 zSub).Id), nI (bif decide (i_1 = i.toNat) then asI (asG (asA r2.fst 5) i_2 1) else ((os.getD i_1 zTopic).Ring.Subs.getD i_2 zSub).Start), nI (bif decide (i_1 = i.toNat) then asI (asG (asA r2.fst 5) i_2 2) else ((os.getD i_1 zTopic).Ring.Subs.getD i_2 zSub).Cursor), nI (bif decide (i_1 = i.toNat) then asI (asG (asA r2.fst 5) i_2 3) else ((os.getD i_1 zTopic).Ring.Subs.getD i_2 zSub).Got), nI (bif decide (i_1 = i.toNat) then asI (asG (asA r2.fst 5) i_2 4) else ((os.getD i_1 zTopic).Ring.Subs.getD i_2 zSub).Lost), nI (bif decide (i_1 = i.toNat) then asI (asG (asA r2.fst 5) i_2 5) else ((os.getD i_1 zTopic).Ring.Subs.getD i_2 zSub).Passed), AV.own (bif decide (i_1 = i.toNat) then asN (asG (asA r2.fst 5) i_2 6) else ((os.getD i_1 zTopic).Ring.Subs.getD i_2 zSub).Filter.length) 3 fun i_3 => lstG [nI (bif decide (i_1 = i.toNat) then asI (asG (asG (asA r2.fst 5) i_2 6) i_3 0) else (((os.getD i_1 zTopic).Ring.Subs.getD i_2 zSub).Filter.getD i_3 zTerm).Op), nI (bif decide (i_1 = i.toNat) then asI (asG (asG (asA r2.fst 5) i_2 6) i_3 1) else (((os.getD i_1 zTopic).Ring.Subs.getD i_2 zSub).Filter.getD i_3 zTerm).Num), AV.S (bif decide (i_1 = i.toNat) then asS (asG (asG (asA r2.fst 5) i_2 6) i_3 2) else (((os.getD i_1 zTopic).Ring.Subs.getD i_2 zSub).Filter.getD i_3 zTerm).Text)]], AV.own (bif decide (i_1 = i.toNat) then asN (asA r2.fst 6) else (os.getD i_1 zTopic).Ring.Line.length) 1 fun i_2 => lstG [nI (bif decide (i_1 = i.toNat) then asI (asG (asA r2.fst 6) i_2 0) else (os.getD i_1 zTopic).Ring.Line.getD i_2 0)], AV.own (bif decide (i_1 = i.toNat) then asN (asA r2.fst 7) else (os.getD i_1 zTopic).Ring.Grants.length) 1 fun i_2 => lstG [nI (bif decide (i_1 = i.toNat) then asI (asG (asA r2.fst 7) i_2 0) else (os.getD i_1 zTopic).Ring.Grants.getD i_2 0)], AV.B (bif decide (i_1 = i.toNat) then asB (asA r2.fst 8) else (os.getD i_1 zTopic).Ring.Closed)]⟩)] []))
      else
        (none))
    else
      (none))
  else
    (bif okD (bif okT then bif okU then bif okT then bif okT then true else false else false else false else false) then
      (some (AV.own os.length 9 fun i => lstG [AV.S (os.getD i zTopic).Name, nI (os.getD i zTopic).Ring.Cap, nI (os.getD i zTopic).Ring.Sent, owMsgS (os.getD i zTopic).Ring.Items, nI (os.getD i zTopic).Ring.Next, owSubS (os.getD i zTopic).Ring.Subs, AV.own (os.getD i zTopic).Ring.Line.length 1 (gI (os.getD i zTopic).Ring.Line), AV.own (os.getD i zTopic).Ring.Grants.length 1 (gI (os.getD i zTopic).Ring.Grants), AV.B (os.getD i zTopic).Ring.Closed], []))
    else
      (none)) := by kernel_rfl
theorem e87 (Γ : Orc) (H : Hd) (x : VUser) : ent Tryz.prog cfg Γ 87 H [slUser x] [] =
  Option.bind (Γ 112 [slHitS x.Subs] []) fun r0 =>
  Option.bind (Γ 78 [slIntS x.Seen] []) fun r1 =>
  bif bif okT then bif okT then true else false else false then
    (some (AV.ag 2 (lstG [vowTimerS r0.fst, vowIntS r1.fst]), []))
  else
    (none) := by kernel_rfl
theorem e46 (Γ : Orc) (H : Hd) (x : (List VUser)) : ent Tryz.prog cfg Γ 46 H [slUserS x] [] =
  bif decide (zN x.length ≤ 4294967296) && decide (zN x.length ≤ zN x.length) && true && true && true then
    (H [true, true, false, true] (hdS [(0, slUserS x), (3, AV.rf 290816), (4, nI 0)] [(290816, ⟨(zN x.length).toNat, 2, fun i => lstG [AV.own 0 2 fun i => lstG [nI 0, nI 0], AV.own 0 1 fun i => lstG [nI 0]]⟩)] []))
  else
    (none) := by kernel_rfl
theorem h46 (Γ : Orc) (H : Hd) (x : (List VUser)) (os : (List VUser)) (i : Int) : hed Tryz.prog cfg Γ 46 H [] P46 (S46 x os i) =
  bif decide (i < zN x.length) then
    (bif bif decide (0 ≤ i) then decide (i < zN x.length) else false then
      (Option.bind (Γ 87 [slUser (x.getD i.toNat zUser)] []) fun r2 =>
      bif bif decide (0 ≤ i) then decide (i < zN os.length) else false then
        (H [true, true, false, true] (hdS [(0, slUserS x), (3, AV.rf 290816), (4, nI (IntKind.i64.wrap (i + 1)))] [(290816, ⟨os.length, 2, fun i_1 => lstG [AV.own (bif decide (i_1 = i.toNat) then asN (asA r2.fst 0) else (os.getD i_1 zUser).Subs.length) 2 fun i_2 => lstG [nI (bif decide (i_1 = i.toNat) then asI (asG (asA r2.fst 0) i_2 0) else ((os.getD i_1 zUser).Subs.getD i_2 zHit).Topic), nI (bif decide (i_1 = i.toNat) then asI (asG (asA r2.fst 0) i_2 1) else ((os.getD i_1 zUser).Subs.getD i_2 zHit).Id)], AV.own (bif decide (i_1 = i.toNat) then asN (asA r2.fst 1) else (os.getD i_1 zUser).Seen.length) 1 fun i_2 => lstG [nI (bif decide (i_1 = i.toNat) then asI (asG (asA r2.fst 1) i_2 0) else (os.getD i_1 zUser).Seen.getD i_2 0)]]⟩)] []))
      else
        (none))
    else
      (none))
  else
    (bif okD (bif okT then bif okT then true else false else false) then
      (some (AV.own os.length 2 fun i => lstG [owHitS (os.getD i zUser).Subs, AV.own (os.getD i zUser).Seen.length 1 (gI (os.getD i zUser).Seen)], []))
    else
      (none)) := by kernel_rfl
theorem e91 (Γ : Orc) (H : Hd) (x y : (List Bool)) : ent Tryz.prog cfg Γ 91 H [slBoolS x, slBoolS y] [] =
  bif !decide (zN x.length = zN y.length) then
    (some (AV.B false, []))
  else
    (H P91 (S91 x y 0)) := by kernel_rfl
theorem h91 (Γ : Orc) (H : Hd) (x y : (List Bool)) (i : Int) : hed Tryz.prog cfg Γ 91 H [] P91 (S91 x y i) =
  bif decide (i < zN x.length) then
    (bif bif decide (0 ≤ i) then decide (i < zN x.length) else false then
      (bif bif decide (0 ≤ i) then decide (i < zN y.length) else false then
        (bif !x.getD i.toNat false == y.getD i.toNat false then
          (some (AV.B false, []))
        else
          (H P91 (S91 x y (IntKind.i64.wrap (i + 1)))))
      else
        (none))
    else
      (none))
  else
    (some (AV.B true, [])) := by kernel_rfl
theorem e120 (Γ : Orc) (H : Hd) (x y : VCall) : ent Tryz.prog cfg Γ 120 H [slCall x, slCall y] [] =
  bif !decide (x.Op = y.Op) then
    (some (AV.B false, []))
  else
    (bif !decide (x.A = y.A) then
      (some (AV.B false, []))
    else
      (bif !decide (x.B = y.B) then
        (some (AV.B false, []))
      else
        (bif !decide (x.Tok = y.Tok) then
          (some (AV.B false, []))
        else
          (bif !x.Name.toList == y.Name.toList then
            (some (AV.B false, []))
          else
            (Option.bind (Γ 116 [slMsg x.Msg, slMsg y.Msg] []) fun r5 =>
            bif !asB r5.fst then
              (some (AV.B false, []))
            else
              (Option.bind (Γ 135 [slTermS x.Filter, slTermS y.Filter] []) fun r7 =>
              bif !asB r7.fst then
                (some (AV.B false, []))
              else
                (some (AV.B true, [])))))))) := by kernel_rfl
theorem e100 (Γ : Orc) (H : Hd) (x y : (List VCall)) : ent Tryz.prog cfg Γ 100 H [slCallS x, slCallS y] [] =
  bif !decide (zN x.length = zN y.length) then
    (some (AV.B false, []))
  else
    (H P100 (S100 x y 0)) := by kernel_rfl
theorem h100 (Γ : Orc) (H : Hd) (x y : (List VCall)) (i : Int) : hed Tryz.prog cfg Γ 100 H [] P100 (S100 x y i) =
  bif decide (i < zN x.length) then
    (bif bif decide (0 ≤ i) then decide (i < zN x.length) else false then
      (bif bif decide (0 ≤ i) then decide (i < zN y.length) else false then
        (Option.bind (Γ 120 [slCall (x.getD i.toNat zCall), slCall (y.getD i.toNat zCall)] []) fun r3 =>
        bif !asB r3.fst then
          (some (AV.B false, []))
        else
          (H P100 (S100 x y (IntKind.i64.wrap (i + 1)))))
      else
        (none))
    else
      (none))
  else
    (some (AV.B true, [])) := by kernel_rfl
theorem e96 (Γ : Orc) (H : Hd) (x y : VCell) : ent Tryz.prog cfg Γ 96 H [slCell x, slCell y] [] =
  Option.bind (Γ 116 [slMsg x.Val, slMsg y.Val] []) fun r0 =>
  bif !asB r0.fst then
    (some (AV.B false, []))
  else
    (bif !decide (x.Version = y.Version) then
      (some (AV.B false, []))
    else
      (bif !x.Closed == y.Closed then
        (some (AV.B false, []))
      else
        (Option.bind (Γ 90 [slIntS x.Line, slIntS y.Line] []) fun r4 =>
        bif !asB r4.fst then
          (some (AV.B false, []))
        else
          (Option.bind (Γ 90 [slIntS x.Grants, slIntS y.Grants] []) fun r6 =>
          bif !asB r6.fst then
            (some (AV.B false, []))
          else
            (some (AV.B true, [])))))) := by kernel_rfl
theorem e60 (Γ : Orc) (H : Hd) (x y : (List VCell)) : ent Tryz.prog cfg Γ 60 H [slCellS x, slCellS y] [] =
  bif !decide (zN x.length = zN y.length) then
    (some (AV.B false, []))
  else
    (H P60 (S60 x y 0)) := by kernel_rfl
theorem h60 (Γ : Orc) (H : Hd) (x y : (List VCell)) (i : Int) : hed Tryz.prog cfg Γ 60 H [] P60 (S60 x y i) =
  bif decide (i < zN x.length) then
    (bif bif decide (0 ≤ i) then decide (i < zN x.length) else false then
      (bif bif decide (0 ≤ i) then decide (i < zN y.length) else false then
        (Option.bind (Γ 96 [slCell (x.getD i.toNat zCell), slCell (y.getD i.toNat zCell)] []) fun r3 =>
        bif !asB r3.fst then
          (some (AV.B false, []))
        else
          (H P60 (S60 x y (IntKind.i64.wrap (i + 1)))))
      else
        (none))
    else
      (none))
  else
    (some (AV.B true, [])) := by kernel_rfl
theorem e64 (Γ : Orc) (H : Hd) (x y : VClient) : ent Tryz.prog cfg Γ 64 H [slClient x, slClient y] [] =
  Option.bind (Γ 100 [slCallS x.Prog, slCallS y.Prog] []) fun r0 =>
  bif !asB r0.fst then
    (some (AV.B false, []))
  else
    (bif !decide (x.At = y.At) then
      (some (AV.B false, []))
    else
      (bif !x.Waiting == y.Waiting then
        (some (AV.B false, []))
      else
        (some (AV.B true, [])))) := by kernel_rfl
theorem e17 (Γ : Orc) (H : Hd) (x y : (List VClient)) : ent Tryz.prog cfg Γ 17 H [slClientS x, slClientS y] [] =
  bif !decide (zN x.length = zN y.length) then
    (some (AV.B false, []))
  else
    (H P17 (S17 x y 0)) := by kernel_rfl
theorem h17 (Γ : Orc) (H : Hd) (x y : (List VClient)) (i : Int) : hed Tryz.prog cfg Γ 17 H [] P17 (S17 x y i) =
  bif decide (i < zN x.length) then
    (bif bif decide (0 ≤ i) then decide (i < zN x.length) else false then
      (bif bif decide (0 ≤ i) then decide (i < zN y.length) else false then
        (Option.bind (Γ 64 [slClient (x.getD i.toNat zClient), slClient (y.getD i.toNat zClient)] []) fun r3 =>
        bif !asB r3.fst then
          (some (AV.B false, []))
        else
          (H P17 (S17 x y (IntKind.i64.wrap (i + 1)))))
      else
        (none))
    else
      (none))
  else
    (some (AV.B true, [])) := by kernel_rfl
theorem e56 (Γ : Orc) (H : Hd) (x y : VClock) : ent Tryz.prog cfg Γ 56 H [slClock x, slClock y] [] =
  bif !decide (x.Now = y.Now) then
    (some (AV.B false, []))
  else
    (Option.bind (Γ 92 [slTimerS x.Timers, slTimerS y.Timers] []) fun r1 =>
    bif !asB r1.fst then
      (some (AV.B false, []))
    else
      (some (AV.B true, []))) := by kernel_rfl
theorem e94 (Γ : Orc) (H : Hd) (x y : VEvent) : ent Tryz.prog cfg Γ 94 H [slEvent x, slEvent y] [] =
  bif !x.Auto == y.Auto then
    (some (AV.B false, []))
  else
    (bif !x.Up == y.Up then
      (some (AV.B false, []))
    else
      (Option.bind (Γ 90 [slIntS x.Line, slIntS y.Line] []) fun r2 =>
      bif !asB r2.fst then
        (some (AV.B false, []))
      else
        (Option.bind (Γ 90 [slIntS x.Grants, slIntS y.Grants] []) fun r4 =>
        bif !asB r4.fst then
          (some (AV.B false, []))
        else
          (bif !decide (x.Sets = y.Sets) then
            (some (AV.B false, []))
          else
            (bif !decide (x.Spilt = y.Spilt) then
              (some (AV.B false, []))
            else
              (bif !decide (x.Taken = y.Taken) then
                (some (AV.B false, []))
              else
                (some (AV.B true, [])))))))) := by kernel_rfl
theorem e58 (Γ : Orc) (H : Hd) (x y : (List VEvent)) : ent Tryz.prog cfg Γ 58 H [slEventS x, slEventS y] [] =
  bif !decide (zN x.length = zN y.length) then
    (some (AV.B false, []))
  else
    (H P58 (S58 x y 0)) := by kernel_rfl
theorem h58 (Γ : Orc) (H : Hd) (x y : (List VEvent)) (i : Int) : hed Tryz.prog cfg Γ 58 H [] P58 (S58 x y i) =
  bif decide (i < zN x.length) then
    (bif bif decide (0 ≤ i) then decide (i < zN x.length) else false then
      (bif bif decide (0 ≤ i) then decide (i < zN y.length) else false then
        (Option.bind (Γ 94 [slEvent (x.getD i.toNat zEvent), slEvent (y.getD i.toNat zEvent)] []) fun r3 =>
        bif !asB r3.fst then
          (some (AV.B false, []))
        else
          (H P58 (S58 x y (IntKind.i64.wrap (i + 1)))))
      else
        (none))
    else
      (none))
  else
    (some (AV.B true, [])) := by kernel_rfl
theorem e130 (Γ : Orc) (H : Hd) (x y : VGrant) : ent Tryz.prog cfg Γ 130 H [slGrant x, slGrant y] [] =
  bif !decide (x.Who = y.Who) then
    (some (AV.B false, []))
  else
    (bif !x.One == y.One then
      (some (AV.B false, []))
    else
      (some (AV.B true, []))) := by kernel_rfl
theorem e115 (Γ : Orc) (H : Hd) (x y : (List VGrant)) : ent Tryz.prog cfg Γ 115 H [slGrantS x, slGrantS y] [] =
  bif !decide (zN x.length = zN y.length) then
    (some (AV.B false, []))
  else
    (H P115 (S115 x y 0)) := by kernel_rfl
theorem h115 (Γ : Orc) (H : Hd) (x y : (List VGrant)) (i : Int) : hed Tryz.prog cfg Γ 115 H [] P115 (S115 x y i) =
  bif decide (i < zN x.length) then
    (bif bif decide (0 ≤ i) then decide (i < zN x.length) else false then
      (bif bif decide (0 ≤ i) then decide (i < zN y.length) else false then
        (Option.bind (Γ 130 [slGrant (x.getD i.toNat zGrant), slGrant (y.getD i.toNat zGrant)] []) fun r3 =>
        bif !asB r3.fst then
          (some (AV.B false, []))
        else
          (H P115 (S115 x y (IntKind.i64.wrap (i + 1)))))
      else
        (none))
    else
      (none))
  else
    (some (AV.B true, [])) := by kernel_rfl
theorem e134 (Γ : Orc) (H : Hd) (x y : VHit) : ent Tryz.prog cfg Γ 134 H [slHit x, slHit y] [] =
  bif !decide (x.Topic = y.Topic) then
    (some (AV.B false, []))
  else
    (bif !decide (x.Id = y.Id) then
      (some (AV.B false, []))
    else
      (some (AV.B true, []))) := by kernel_rfl
theorem e119 (Γ : Orc) (H : Hd) (x y : (List VHit)) : ent Tryz.prog cfg Γ 119 H [slHitS x, slHitS y] [] =
  bif !decide (zN x.length = zN y.length) then
    (some (AV.B false, []))
  else
    (H P119 (S119 x y 0)) := by kernel_rfl
theorem h119 (Γ : Orc) (H : Hd) (x y : (List VHit)) (i : Int) : hed Tryz.prog cfg Γ 119 H [] P119 (S119 x y i) =
  bif decide (i < zN x.length) then
    (bif bif decide (0 ≤ i) then decide (i < zN x.length) else false then
      (bif bif decide (0 ≤ i) then decide (i < zN y.length) else false then
        (Option.bind (Γ 134 [slHit (x.getD i.toNat zHit), slHit (y.getD i.toNat zHit)] []) fun r3 =>
        bif !asB r3.fst then
          (some (AV.B false, []))
        else
          (H P119 (S119 x y (IntKind.i64.wrap (i + 1)))))
      else
        (none))
    else
      (none))
  else
    (some (AV.B true, [])) := by kernel_rfl
theorem e16 (Γ : Orc) (H : Hd) (x y : VHub) : ent Tryz.prog cfg Γ 16 H [slHub x, slHub y] [] =
  Option.bind (Γ 55 [slTokens x.Tokens, slTokens y.Tokens] []) fun r0 =>
  bif !asB r0.fst then
    (some (AV.B false, []))
  else
    (Option.bind (Γ 56 [slClock x.Clock, slClock y.Clock] []) fun r2 =>
    bif !asB r2.fst then
      (some (AV.B false, []))
    else
      (Option.bind (Γ 57 [slNotifyS x.Notes, slNotifyS y.Notes] []) fun r4 =>
      bif !asB r4.fst then
        (some (AV.B false, []))
      else
        (Option.bind (Γ 58 [slEventS x.Events, slEventS y.Events] []) fun r6 =>
        bif !asB r6.fst then
          (some (AV.B false, []))
        else
          (Option.bind (Γ 59 [slLatchS x.Latches, slLatchS y.Latches] []) fun r8 =>
          bif !asB r8.fst then
            (some (AV.B false, []))
          else
            (Option.bind (Γ 60 [slCellS x.Cells, slCellS y.Cells] []) fun r10 =>
            bif !asB r10.fst then
              (some (AV.B false, []))
            else
              (Option.bind (Γ 61 [slTopicS x.Topics, slTopicS y.Topics] []) fun r12 =>
              bif !asB r12.fst then
                (some (AV.B false, []))
              else
                (Option.bind (Γ 62 [slMergeS x.Merges, slMergeS y.Merges] []) fun r14 =>
                bif !asB r14.fst then
                  (some (AV.B false, []))
                else
                  (Option.bind (Γ 63 [slUserS x.Users, slUserS y.Users] []) fun r16 =>
                  bif !asB r16.fst then
                    (some (AV.B false, []))
                  else
                    (some (AV.B true, [])))))))))) := by kernel_rfl
theorem e90 (Γ : Orc) (H : Hd) (x y : (List Int)) : ent Tryz.prog cfg Γ 90 H [slIntS x, slIntS y] [] =
  bif !decide (zN x.length = zN y.length) then
    (some (AV.B false, []))
  else
    (H P90 (S90 x y 0)) := by kernel_rfl
theorem h90 (Γ : Orc) (H : Hd) (x y : (List Int)) (i : Int) : hed Tryz.prog cfg Γ 90 H [] P90 (S90 x y i) =
  bif decide (i < zN x.length) then
    (bif bif decide (0 ≤ i) then decide (i < zN x.length) else false then
      (bif bif decide (0 ≤ i) then decide (i < zN y.length) else false then
        (bif !decide (x.getD i.toNat 0 = y.getD i.toNat 0) then
          (some (AV.B false, []))
        else
          (H P90 (S90 x y (IntKind.i64.wrap (i + 1)))))
      else
        (none))
    else
      (none))
  else
    (some (AV.B true, [])) := by kernel_rfl
theorem e95 (Γ : Orc) (H : Hd) (x y : VLatch) : ent Tryz.prog cfg Γ 95 H [slLatch x, slLatch y] [] =
  bif !decide (x.Count = y.Count) then
    (some (AV.B false, []))
  else
    (Option.bind (Γ 90 [slIntS x.Line, slIntS y.Line] []) fun r1 =>
    bif !asB r1.fst then
      (some (AV.B false, []))
    else
      (Option.bind (Γ 90 [slIntS x.Grants, slIntS y.Grants] []) fun r3 =>
      bif !asB r3.fst then
        (some (AV.B false, []))
      else
        (some (AV.B true, [])))) := by kernel_rfl
theorem e59 (Γ : Orc) (H : Hd) (x y : (List VLatch)) : ent Tryz.prog cfg Γ 59 H [slLatchS x, slLatchS y] [] =
  bif !decide (zN x.length = zN y.length) then
    (some (AV.B false, []))
  else
    (H P59 (S59 x y 0)) := by kernel_rfl
theorem h59 (Γ : Orc) (H : Hd) (x y : (List VLatch)) (i : Int) : hed Tryz.prog cfg Γ 59 H [] P59 (S59 x y i) =
  bif decide (i < zN x.length) then
    (bif bif decide (0 ≤ i) then decide (i < zN x.length) else false then
      (bif bif decide (0 ≤ i) then decide (i < zN y.length) else false then
        (Option.bind (Γ 95 [slLatch (x.getD i.toNat zLatch), slLatch (y.getD i.toNat zLatch)] []) fun r3 =>
        bif !asB r3.fst then
          (some (AV.B false, []))
        else
          (H P59 (S59 x y (IntKind.i64.wrap (i + 1)))))
      else
        (none))
    else
      (none))
  else
    (some (AV.B true, [])) := by kernel_rfl
theorem e133 (Γ : Orc) (H : Hd) (x y : VLeg) : ent Tryz.prog cfg Γ 133 H [slLeg x, slLeg y] [] =
  bif !decide (x.Topic = y.Topic) then
    (some (AV.B false, []))
  else
    (bif !decide (x.Id = y.Id) then
      (some (AV.B false, []))
    else
      (bif !decide (x.Lost = y.Lost) then
        (some (AV.B false, []))
      else
        (bif !x.Over == y.Over then
          (some (AV.B false, []))
        else
          (some (AV.B true, []))))) := by kernel_rfl
theorem e118 (Γ : Orc) (H : Hd) (x y : (List VLeg)) : ent Tryz.prog cfg Γ 118 H [slLegS x, slLegS y] [] =
  bif !decide (zN x.length = zN y.length) then
    (some (AV.B false, []))
  else
    (H P118 (S118 x y 0)) := by kernel_rfl
theorem h118 (Γ : Orc) (H : Hd) (x y : (List VLeg)) (i : Int) : hed Tryz.prog cfg Γ 118 H [] P118 (S118 x y i) =
  bif decide (i < zN x.length) then
    (bif bif decide (0 ≤ i) then decide (i < zN x.length) else false then
      (bif bif decide (0 ≤ i) then decide (i < zN y.length) else false then
        (Option.bind (Γ 133 [slLeg (x.getD i.toNat zLeg), slLeg (y.getD i.toNat zLeg)] []) fun r3 =>
        bif !asB r3.fst then
          (some (AV.B false, []))
        else
          (H P118 (S118 x y (IntKind.i64.wrap (i + 1)))))
      else
        (none))
    else
      (none))
  else
    (some (AV.B true, [])) := by kernel_rfl
theorem e98 (Γ : Orc) (H : Hd) (x y : VMerge) : ent Tryz.prog cfg Γ 98 H [slMerge x, slMerge y] [] =
  Option.bind (Γ 118 [slLegS x.Legs, slLegS y.Legs] []) fun r0 =>
  bif !asB r0.fst then
    (some (AV.B false, []))
  else
    (bif !decide (x.Into = y.Into) then
      (some (AV.B false, []))
    else
      (bif !decide (x.Moved = y.Moved) then
        (some (AV.B false, []))
      else
        (some (AV.B true, [])))) := by kernel_rfl
theorem e62 (Γ : Orc) (H : Hd) (x y : (List VMerge)) : ent Tryz.prog cfg Γ 62 H [slMergeS x, slMergeS y] [] =
  bif !decide (zN x.length = zN y.length) then
    (some (AV.B false, []))
  else
    (H P62 (S62 x y 0)) := by kernel_rfl
theorem h62 (Γ : Orc) (H : Hd) (x y : (List VMerge)) (i : Int) : hed Tryz.prog cfg Γ 62 H [] P62 (S62 x y i) =
  bif decide (i < zN x.length) then
    (bif bif decide (0 ≤ i) then decide (i < zN x.length) else false then
      (bif bif decide (0 ≤ i) then decide (i < zN y.length) else false then
        (Option.bind (Γ 98 [slMerge (x.getD i.toNat zMerge), slMerge (y.getD i.toNat zMerge)] []) fun r3 =>
        bif !asB r3.fst then
          (some (AV.B false, []))
        else
          (H P62 (S62 x y (IntKind.i64.wrap (i + 1)))))
      else
        (none))
    else
      (none))
  else
    (some (AV.B true, [])) := by kernel_rfl
theorem e116 (Γ : Orc) (H : Hd) (x y : VMsg) : ent Tryz.prog cfg Γ 116 H [slMsg x, slMsg y] [] =
  bif !decide (x.Kind = y.Kind) then
    (some (AV.B false, []))
  else
    (bif !decide (x.Num = y.Num) then
      (some (AV.B false, []))
    else
      (bif !x.Text.toList == y.Text.toList then
        (some (AV.B false, []))
      else
        (some (AV.B true, [])))) := by kernel_rfl
theorem e131 (Γ : Orc) (H : Hd) (x y : (List VMsg)) : ent Tryz.prog cfg Γ 131 H [slMsgS x, slMsgS y] [] =
  bif !decide (zN x.length = zN y.length) then
    (some (AV.B false, []))
  else
    (H P131 (S131 x y 0)) := by kernel_rfl
theorem h131 (Γ : Orc) (H : Hd) (x y : (List VMsg)) (i : Int) : hed Tryz.prog cfg Γ 131 H [] P131 (S131 x y i) =
  bif decide (i < zN x.length) then
    (bif bif decide (0 ≤ i) then decide (i < zN x.length) else false then
      (bif bif decide (0 ≤ i) then decide (i < zN y.length) else false then
        (Option.bind (Γ 116 [slMsg (x.getD i.toNat zMsg), slMsg (y.getD i.toNat zMsg)] []) fun r3 =>
        bif !asB r3.fst then
          (some (AV.B false, []))
        else
          (H P131 (S131 x y (IntKind.i64.wrap (i + 1)))))
      else
        (none))
    else
      (none))
  else
    (some (AV.B true, [])) := by kernel_rfl
theorem e93 (Γ : Orc) (H : Hd) (x y : VNotify) : ent Tryz.prog cfg Γ 93 H [slNotify x, slNotify y] [] =
  bif !x.Permit == y.Permit then
    (some (AV.B false, []))
  else
    (Option.bind (Γ 90 [slIntS x.Line, slIntS y.Line] []) fun r1 =>
    bif !asB r1.fst then
      (some (AV.B false, []))
    else
      (Option.bind (Γ 115 [slGrantS x.Grants, slGrantS y.Grants] []) fun r3 =>
      bif !asB r3.fst then
        (some (AV.B false, []))
      else
        (bif !decide (x.Ones = y.Ones) then
          (some (AV.B false, []))
        else
          (bif !decide (x.Spilt = y.Spilt) then
            (some (AV.B false, []))
          else
            (bif !decide (x.Taken = y.Taken) then
              (some (AV.B false, []))
            else
              (some (AV.B true, []))))))) := by kernel_rfl
theorem e57 (Γ : Orc) (H : Hd) (x y : (List VNotify)) : ent Tryz.prog cfg Γ 57 H [slNotifyS x, slNotifyS y] [] =
  bif !decide (zN x.length = zN y.length) then
    (some (AV.B false, []))
  else
    (H P57 (S57 x y 0)) := by kernel_rfl
theorem h57 (Γ : Orc) (H : Hd) (x y : (List VNotify)) (i : Int) : hed Tryz.prog cfg Γ 57 H [] P57 (S57 x y i) =
  bif decide (i < zN x.length) then
    (bif bif decide (0 ≤ i) then decide (i < zN x.length) else false then
      (bif bif decide (0 ≤ i) then decide (i < zN y.length) else false then
        (Option.bind (Γ 93 [slNotify (x.getD i.toNat zNotify), slNotify (y.getD i.toNat zNotify)] []) fun r3 =>
        bif !asB r3.fst then
          (some (AV.B false, []))
        else
          (H P57 (S57 x y (IntKind.i64.wrap (i + 1)))))
      else
        (none))
    else
      (none))
  else
    (some (AV.B true, [])) := by kernel_rfl
theorem e117 (Γ : Orc) (H : Hd) (x y : VRing) : ent Tryz.prog cfg Γ 117 H [slRing x, slRing y] [] =
  bif !decide (x.Cap = y.Cap) then
    (some (AV.B false, []))
  else
    (bif !decide (x.Sent = y.Sent) then
      (some (AV.B false, []))
    else
      (Option.bind (Γ 131 [slMsgS x.Items, slMsgS y.Items] []) fun r2 =>
      bif !asB r2.fst then
        (some (AV.B false, []))
      else
        (bif !decide (x.Next = y.Next) then
          (some (AV.B false, []))
        else
          (Option.bind (Γ 132 [slSubS x.Subs, slSubS y.Subs] []) fun r5 =>
          bif !asB r5.fst then
            (some (AV.B false, []))
          else
            (Option.bind (Γ 90 [slIntS x.Line, slIntS y.Line] []) fun r7 =>
            bif !asB r7.fst then
              (some (AV.B false, []))
            else
              (Option.bind (Γ 90 [slIntS x.Grants, slIntS y.Grants] []) fun r9 =>
              bif !asB r9.fst then
                (some (AV.B false, []))
              else
                (bif !x.Closed == y.Closed then
                  (some (AV.B false, []))
                else
                  (some (AV.B true, []))))))))) := by kernel_rfl
theorem e8 (Γ : Orc) (H : Hd) (x y : VState) : ent Tryz.prog cfg Γ 8 H [slState x, slState y] [] =
  Option.bind (Γ 16 [slHub x.Hub, slHub y.Hub] []) fun r0 =>
  bif !asB r0.fst then
    (some (AV.B false, []))
  else
    (Option.bind (Γ 17 [slClientS x.Clients, slClientS y.Clients] []) fun r2 =>
    bif !asB r2.fst then
      (some (AV.B false, []))
    else
      (some (AV.B true, []))) := by kernel_rfl
theorem e140 (Γ : Orc) (H : Hd) (x y : VSub) : ent Tryz.prog cfg Γ 140 H [slSub x, slSub y] [] =
  bif !decide (x.Id = y.Id) then
    (some (AV.B false, []))
  else
    (bif !decide (x.Start = y.Start) then
      (some (AV.B false, []))
    else
      (bif !decide (x.Cursor = y.Cursor) then
        (some (AV.B false, []))
      else
        (bif !decide (x.Got = y.Got) then
          (some (AV.B false, []))
        else
          (bif !decide (x.Lost = y.Lost) then
            (some (AV.B false, []))
          else
            (bif !decide (x.Passed = y.Passed) then
              (some (AV.B false, []))
            else
              (Option.bind (Γ 135 [slTermS x.Filter, slTermS y.Filter] []) fun r6 =>
              bif !asB r6.fst then
                (some (AV.B false, []))
              else
                (some (AV.B true, [])))))))) := by kernel_rfl
theorem e132 (Γ : Orc) (H : Hd) (x y : (List VSub)) : ent Tryz.prog cfg Γ 132 H [slSubS x, slSubS y] [] =
  bif !decide (zN x.length = zN y.length) then
    (some (AV.B false, []))
  else
    (H P132 (S132 x y 0)) := by kernel_rfl
theorem h132 (Γ : Orc) (H : Hd) (x y : (List VSub)) (i : Int) : hed Tryz.prog cfg Γ 132 H [] P132 (S132 x y i) =
  bif decide (i < zN x.length) then
    (bif bif decide (0 ≤ i) then decide (i < zN x.length) else false then
      (bif bif decide (0 ≤ i) then decide (i < zN y.length) else false then
        (Option.bind (Γ 140 [slSub (x.getD i.toNat zSub), slSub (y.getD i.toNat zSub)] []) fun r3 =>
        bif !asB r3.fst then
          (some (AV.B false, []))
        else
          (H P132 (S132 x y (IntKind.i64.wrap (i + 1)))))
      else
        (none))
    else
      (none))
  else
    (some (AV.B true, [])) := by kernel_rfl
theorem e141 (Γ : Orc) (H : Hd) (x y : VTerm) : ent Tryz.prog cfg Γ 141 H [slTerm x, slTerm y] [] =
  bif !decide (x.Op = y.Op) then
    (some (AV.B false, []))
  else
    (bif !decide (x.Num = y.Num) then
      (some (AV.B false, []))
    else
      (bif !x.Text.toList == y.Text.toList then
        (some (AV.B false, []))
      else
        (some (AV.B true, [])))) := by kernel_rfl
theorem e135 (Γ : Orc) (H : Hd) (x y : (List VTerm)) : ent Tryz.prog cfg Γ 135 H [slTermS x, slTermS y] [] =
  bif !decide (zN x.length = zN y.length) then
    (some (AV.B false, []))
  else
    (H P135 (S135 x y 0)) := by kernel_rfl
theorem h135 (Γ : Orc) (H : Hd) (x y : (List VTerm)) (i : Int) : hed Tryz.prog cfg Γ 135 H [] P135 (S135 x y i) =
  bif decide (i < zN x.length) then
    (bif bif decide (0 ≤ i) then decide (i < zN x.length) else false then
      (bif bif decide (0 ≤ i) then decide (i < zN y.length) else false then
        (Option.bind (Γ 141 [slTerm (x.getD i.toNat zTerm), slTerm (y.getD i.toNat zTerm)] []) fun r3 =>
        bif !asB r3.fst then
          (some (AV.B false, []))
        else
          (H P135 (S135 x y (IntKind.i64.wrap (i + 1)))))
      else
        (none))
    else
      (none))
  else
    (some (AV.B true, [])) := by kernel_rfl
theorem e114 (Γ : Orc) (H : Hd) (x y : VTimer) : ent Tryz.prog cfg Γ 114 H [slTimer x, slTimer y] [] =
  bif !decide (x.At = y.At) then
    (some (AV.B false, []))
  else
    (bif !decide (x.Token = y.Token) then
      (some (AV.B false, []))
    else
      (some (AV.B true, []))) := by kernel_rfl
theorem e92 (Γ : Orc) (H : Hd) (x y : (List VTimer)) : ent Tryz.prog cfg Γ 92 H [slTimerS x, slTimerS y] [] =
  bif !decide (zN x.length = zN y.length) then
    (some (AV.B false, []))
  else
    (H P92 (S92 x y 0)) := by kernel_rfl
theorem h92 (Γ : Orc) (H : Hd) (x y : (List VTimer)) (i : Int) : hed Tryz.prog cfg Γ 92 H [] P92 (S92 x y i) =
  bif decide (i < zN x.length) then
    (bif bif decide (0 ≤ i) then decide (i < zN x.length) else false then
      (bif bif decide (0 ≤ i) then decide (i < zN y.length) else false then
        (Option.bind (Γ 114 [slTimer (x.getD i.toNat zTimer), slTimer (y.getD i.toNat zTimer)] []) fun r3 =>
        bif !asB r3.fst then
          (some (AV.B false, []))
        else
          (H P92 (S92 x y (IntKind.i64.wrap (i + 1)))))
      else
        (none))
    else
      (none))
  else
    (some (AV.B true, [])) := by kernel_rfl
theorem e55 (Γ : Orc) (H : Hd) (x y : VTokens) : ent Tryz.prog cfg Γ 55 H [slTokens x, slTokens y] [] =
  Option.bind (Γ 90 [slIntS x.Parents, slIntS y.Parents] []) fun r0 =>
  bif !asB r0.fst then
    (some (AV.B false, []))
  else
    (Option.bind (Γ 91 [slBoolS x.Off, slBoolS y.Off] []) fun r2 =>
    bif !asB r2.fst then
      (some (AV.B false, []))
    else
      (some (AV.B true, []))) := by kernel_rfl
theorem e97 (Γ : Orc) (H : Hd) (x y : VTopic) : ent Tryz.prog cfg Γ 97 H [slTopic x, slTopic y] [] =
  bif !x.Name.toList == y.Name.toList then
    (some (AV.B false, []))
  else
    (Option.bind (Γ 117 [slRing x.Ring, slRing y.Ring] []) fun r1 =>
    bif !asB r1.fst then
      (some (AV.B false, []))
    else
      (some (AV.B true, []))) := by kernel_rfl
theorem e61 (Γ : Orc) (H : Hd) (x y : (List VTopic)) : ent Tryz.prog cfg Γ 61 H [slTopicS x, slTopicS y] [] =
  bif !decide (zN x.length = zN y.length) then
    (some (AV.B false, []))
  else
    (H P61 (S61 x y 0)) := by kernel_rfl
theorem h61 (Γ : Orc) (H : Hd) (x y : (List VTopic)) (i : Int) : hed Tryz.prog cfg Γ 61 H [] P61 (S61 x y i) =
  bif decide (i < zN x.length) then
    (bif bif decide (0 ≤ i) then decide (i < zN x.length) else false then
      (bif bif decide (0 ≤ i) then decide (i < zN y.length) else false then
        (Option.bind (Γ 97 [slTopic (x.getD i.toNat zTopic), slTopic (y.getD i.toNat zTopic)] []) fun r3 =>
        bif !asB r3.fst then
          (some (AV.B false, []))
        else
          (H P61 (S61 x y (IntKind.i64.wrap (i + 1)))))
      else
        (none))
    else
      (none))
  else
    (some (AV.B true, [])) := by kernel_rfl
theorem e99 (Γ : Orc) (H : Hd) (x y : VUser) : ent Tryz.prog cfg Γ 99 H [slUser x, slUser y] [] =
  Option.bind (Γ 119 [slHitS x.Subs, slHitS y.Subs] []) fun r0 =>
  bif !asB r0.fst then
    (some (AV.B false, []))
  else
    (Option.bind (Γ 90 [slIntS x.Seen, slIntS y.Seen] []) fun r2 =>
    bif !asB r2.fst then
      (some (AV.B false, []))
    else
      (some (AV.B true, []))) := by kernel_rfl
theorem e63 (Γ : Orc) (H : Hd) (x y : (List VUser)) : ent Tryz.prog cfg Γ 63 H [slUserS x, slUserS y] [] =
  bif !decide (zN x.length = zN y.length) then
    (some (AV.B false, []))
  else
    (H P63 (S63 x y 0)) := by kernel_rfl
theorem h63 (Γ : Orc) (H : Hd) (x y : (List VUser)) (i : Int) : hed Tryz.prog cfg Γ 63 H [] P63 (S63 x y i) =
  bif decide (i < zN x.length) then
    (bif bif decide (0 ≤ i) then decide (i < zN x.length) else false then
      (bif bif decide (0 ≤ i) then decide (i < zN y.length) else false then
        (Option.bind (Γ 99 [slUser (x.getD i.toNat zUser), slUser (y.getD i.toNat zUser)] []) fun r3 =>
        bif !asB r3.fst then
          (some (AV.B false, []))
        else
          (H P63 (S63 x y (IntKind.i64.wrap (i + 1)))))
      else
        (none))
    else
      (none))
  else
    (some (AV.B true, [])) := by kernel_rfl
theorem e76 (Γ : Orc) (H : Hd) (x y : (List Int)) : ent Tryz.prog cfg Γ 76 H [slIntS x, slIntS y] [] =
  bif !decide (zN x.length = zN y.length) then
    (some (AV.B false, []))
  else
    (H P76 (S76 x y 0)) := by kernel_rfl
theorem e28 (Γ : Orc) (H : Hd) (x y : (List VTerm)) : ent Tryz.prog cfg Γ 28 H [slTermS x, slTermS y] [] =
  bif !decide (zN x.length = zN y.length) then
    (some (AV.B false, []))
  else
    (H P28 (S28 x y 0)) := by kernel_rfl
theorem e31 (Γ : Orc) (H : Hd) (x y : (List VNotify)) : ent Tryz.prog cfg Γ 31 H [slNotifyS x, slNotifyS y] [] =
  bif !decide (zN x.length = zN y.length) then
    (some (AV.B false, []))
  else
    (H P31a (S31a x y 0)) := by kernel_rfl
theorem e32 (Γ : Orc) (H : Hd) (x y : (List VEvent)) : ent Tryz.prog cfg Γ 32 H [slEventS x, slEventS y] [] =
  bif !decide (zN x.length = zN y.length) then
    (some (AV.B false, []))
  else
    (H P32 (S32 x y 0)) := by kernel_rfl
theorem e33 (Γ : Orc) (H : Hd) (x y : (List VLatch)) : ent Tryz.prog cfg Γ 33 H [slLatchS x, slLatchS y] [] =
  bif !decide (zN x.length = zN y.length) then
    (some (AV.B false, []))
  else
    (H P33 (S33 x y 0)) := by kernel_rfl
theorem e34 (Γ : Orc) (H : Hd) (x y : (List VCell)) : ent Tryz.prog cfg Γ 34 H [slCellS x, slCellS y] [] =
  bif !decide (zN x.length = zN y.length) then
    (some (AV.B false, []))
  else
    (H P34 (S34 x y 0)) := by kernel_rfl
theorem e35 (Γ : Orc) (H : Hd) (x y : (List VTopic)) : ent Tryz.prog cfg Γ 35 H [slTopicS x, slTopicS y] [] =
  bif !decide (zN x.length = zN y.length) then
    (some (AV.B false, []))
  else
    (H P35 (S35 x y 0)) := by kernel_rfl
theorem e36 (Γ : Orc) (H : Hd) (x y : (List VMerge)) : ent Tryz.prog cfg Γ 36 H [slMergeS x, slMergeS y] [] =
  bif !decide (zN x.length = zN y.length) then
    (some (AV.B false, []))
  else
    (H P36a (S36a x y 0)) := by kernel_rfl
theorem e37 (Γ : Orc) (H : Hd) (x y : (List VUser)) : ent Tryz.prog cfg Γ 37 H [slUserS x, slUserS y] [] =
  bif !decide (zN x.length = zN y.length) then
    (some (AV.B false, []))
  else
    (H P37a (S37a x y 0)) := by kernel_rfl
theorem e29 (Γ : Orc) (H : Hd) (x y : VTokens) : ent Tryz.prog cfg Γ 29 H [slTokens x, slTokens y] [] =
  Option.bind (Γ 76 [slIntS x.Parents, slIntS y.Parents] []) fun r0 =>
  bif !asB r0.fst then
    (some (AV.B false, []))
  else
    (bif !decide (zN x.Off.length = zN y.Off.length) then
      (some (AV.B false, []))
    else
      (H P29 (S29 x y 0))) := by kernel_rfl
theorem e30 (Γ : Orc) (H : Hd) (x y : VClock) : ent Tryz.prog cfg Γ 30 H [slClock x, slClock y] [] =
  bif !decide (x.Now = y.Now) then
    (some (AV.B false, []))
  else
    (bif !decide (zN x.Timers.length = zN y.Timers.length) then
      (some (AV.B false, []))
    else
      (H P30 (S30 x y 0))) := by kernel_rfl
theorem e77 (Γ : Orc) (H : Hd) (x y : VRing) : ent Tryz.prog cfg Γ 77 H [slRing x, slRing y] [] =
  bif !decide (x.Cap = y.Cap) then
    (some (AV.B false, []))
  else
    (bif !decide (x.Sent = y.Sent) then
      (some (AV.B false, []))
    else
      (bif !decide (x.Next = y.Next) then
        (some (AV.B false, []))
      else
        (bif !x.Closed == y.Closed then
          (some (AV.B false, []))
        else
          (Option.bind (Γ 76 [slIntS x.Line, slIntS y.Line] []) fun r4 =>
          bif !asB r4.fst then
            (some (AV.B false, []))
          else
            (Option.bind (Γ 76 [slIntS x.Grants, slIntS y.Grants] []) fun r6 =>
            bif !asB r6.fst then
              (some (AV.B false, []))
            else
              (bif !decide (zN x.Items.length = zN y.Items.length) then
                (some (AV.B false, []))
              else
                (bif !decide (zN x.Subs.length = zN y.Subs.length) then
                  (some (AV.B false, []))
                else
                  (H P77a (S77a x y 0))))))))) := by kernel_rfl
theorem e12 (Γ : Orc) (H : Hd) (x y : VHub) : ent Tryz.prog cfg Γ 12 H [slHub x, slHub y] [] =
  Option.bind (Γ 29 [slTokens x.Tokens, slTokens y.Tokens] []) fun r0 =>
  bif asB r0.fst then
    (Option.bind (Γ 30 [slClock x.Clock, slClock y.Clock] []) fun r2 =>
    bif asB r2.fst then
      (Option.bind (Γ 31 [slNotifyS x.Notes, slNotifyS y.Notes] []) fun r4 =>
      bif asB r4.fst then
        (Option.bind (Γ 32 [slEventS x.Events, slEventS y.Events] []) fun r6 =>
        bif asB r6.fst then
          (Option.bind (Γ 33 [slLatchS x.Latches, slLatchS y.Latches] []) fun r8 =>
          bif asB r8.fst then
            (Option.bind (Γ 34 [slCellS x.Cells, slCellS y.Cells] []) fun r10 =>
            bif asB r10.fst then
              (Option.bind (Γ 35 [slTopicS x.Topics, slTopicS y.Topics] []) fun r12 =>
              bif asB r12.fst then
                (Option.bind (Γ 36 [slMergeS x.Merges, slMergeS y.Merges] []) fun r14 =>
                bif asB r14.fst then
                  (Option.bind (Γ 37 [slUserS x.Users, slUserS y.Users] []) fun r16 =>
                  some (AV.B (asB r16.fst), []))
                else
                  (some (AV.B false, [])))
              else
                (some (AV.B false, [])))
            else
              (some (AV.B false, [])))
          else
            (some (AV.B false, [])))
        else
          (some (AV.B false, [])))
      else
        (some (AV.B false, [])))
    else
      (some (AV.B false, [])))
  else
    (some (AV.B false, [])) := by kernel_rfl
theorem e11 (Γ : Orc) (H : Hd) (x y : VCall) : ent Tryz.prog cfg Γ 11 H [slCall x, slCall y] [] =
  bif decide (x.Op = y.Op) then
    (bif decide (x.A = y.A) then
      (bif decide (x.B = y.B) then
        (bif decide (x.Tok = y.Tok) then
          (bif x.Name.toList == y.Name.toList then
            (bif bif decide (x.Msg.Kind = y.Msg.Kind) then bif decide (x.Msg.Num = y.Msg.Num) then bif x.Msg.Text.toList == y.Msg.Text.toList then true else false else false else false then
              (Option.bind (Γ 28 [slTermS x.Filter, slTermS y.Filter] []) fun r6 =>
              some (AV.B (asB r6.fst), []))
            else
              (some (AV.B false, [])))
          else
            (some (AV.B false, [])))
        else
          (some (AV.B false, [])))
      else
        (some (AV.B false, [])))
    else
      (some (AV.B false, [])))
  else
    (some (AV.B false, [])) := by kernel_rfl
theorem e5 (Γ : Orc) (H : Hd) (x y : VState) : ent Tryz.prog cfg Γ 5 H [slState x, slState y] [] =
  bif !decide (zN x.Clients.length = zN y.Clients.length) then
    (some (AV.B false, []))
  else
    (H P5a (S5a x y 0)) := by kernel_rfl
theorem h76 (Γ : Orc) (H : Hd) (x y : (List Int)) (i : Int) : hed Tryz.prog cfg Γ 76 H [] P76 (S76 x y i) =
  bif decide (i < zN x.length) then
    (bif bif decide (0 ≤ i) then decide (i < zN x.length) else false then
      (bif bif decide (0 ≤ i) then decide (i < zN y.length) else false then
        (bif !decide (x.getD i.toNat 0 = y.getD i.toNat 0) then
          (some (AV.B false, []))
        else
          (H P76 (S76 x y (IntKind.i64.wrap (i + 1)))))
      else
        (none))
    else
      (none))
  else
    (some (AV.B true, [])) := by kernel_rfl
theorem h28 (Γ : Orc) (H : Hd) (x y : (List VTerm)) (i : Int) : hed Tryz.prog cfg Γ 28 H [] P28 (S28 x y i) =
  bif decide (i < zN x.length) then
    (bif bif decide (0 ≤ i) then decide (i < zN x.length) else false then
      (bif bif decide (0 ≤ i) then decide (i < zN y.length) else false then
        (bif !bif decide ((x.getD i.toNat zTerm).Op = (y.getD i.toNat zTerm).Op) then bif decide ((x.getD i.toNat zTerm).Num = (y.getD i.toNat zTerm).Num) then bif (x.getD i.toNat zTerm).Text.toList == (y.getD i.toNat zTerm).Text.toList then true else false else false else false then
          (some (AV.B false, []))
        else
          (H P28 (S28 x y (IntKind.i64.wrap (i + 1)))))
      else
        (none))
    else
      (none))
  else
    (some (AV.B true, [])) := by kernel_rfl
theorem h32 (Γ : Orc) (H : Hd) (x y : (List VEvent)) (i : Int) : hed Tryz.prog cfg Γ 32 H [] P32 (S32 x y i) =
  bif decide (i < zN x.length) then
    (bif bif decide (0 ≤ i) then decide (i < zN x.length) else false then
      (bif bif decide (0 ≤ i) then decide (i < zN y.length) else false then
        (and2
        (and2
          (bif !(x.getD i.toNat zEvent).Auto == (y.getD i.toNat zEvent).Auto then
              (some (AV.B false, []))
            else
              (bif !(x.getD i.toNat zEvent).Up == (y.getD i.toNat zEvent).Up then
                (some (AV.B false, []))
              else
                (Option.bind (Γ 76 [slIntS (x.getD i.toNat zEvent).Line, slIntS (y.getD i.toNat zEvent).Line] []) fun r7 =>
                bif !asB r7.fst then
                  (some (AV.B false, []))
                else
                  (Option.bind (Γ 76 [slIntS (x.getD i.toNat zEvent).Grants, slIntS (y.getD i.toNat zEvent).Grants] []) fun r9 =>
                  bif !asB r9.fst then
                    (some (AV.B false, []))
                  else
                    (bif !decide ((x.getD i.toNat zEvent).Sets = (y.getD i.toNat zEvent).Sets) then
                      (some (AV.B false, []))
                    else
                      (bif !decide ((x.getD i.toNat zEvent).Spilt = (y.getD i.toNat zEvent).Spilt) then
                        (some (AV.B false, []))
                      else
                        (bif !decide ((x.getD i.toNat zEvent).Taken = (y.getD i.toNat zEvent).Taken) then
                          (some (AV.B false, []))
                        else
                          (H P32 (S32 x y (IntKind.i64.wrap (i + 1)))))))))))
          (bif !(x.getD i.toNat zEvent).Auto == (y.getD i.toNat zEvent).Auto then
              (some (AV.B false, []))
            else
              (bif !(x.getD i.toNat zEvent).Up == (y.getD i.toNat zEvent).Up then
                (some (AV.B false, []))
              else
                (Option.bind (Γ 76 [slIntS (x.getD i.toNat zEvent).Line, slIntS (y.getD i.toNat zEvent).Line] []) fun r7 =>
                bif !asB r7.fst then
                  (some (AV.B false, []))
                else
                  (Option.bind (Γ 76 [slIntS (x.getD i.toNat zEvent).Grants, slIntS (y.getD i.toNat zEvent).Grants] []) fun r9 =>
                  bif !asB r9.fst then
                    (some (AV.B false, []))
                  else
                    (bif !decide ((x.getD i.toNat zEvent).Sets = (y.getD i.toNat zEvent).Sets) then
                      (some (AV.B false, []))
                    else
                      (bif !decide ((x.getD i.toNat zEvent).Spilt = (y.getD i.toNat zEvent).Spilt) then
                        (some (AV.B false, []))
                      else
                        (bif !decide ((x.getD i.toNat zEvent).Taken = (y.getD i.toNat zEvent).Taken) then
                          (some (AV.B false, []))
                        else
                          (H P32 (S32 x y (IntKind.i64.wrap (i + 1))))))))))))
        (and2
          (and2
            (bif !(x.getD i.toNat zEvent).Auto == (y.getD i.toNat zEvent).Auto then
                (some (AV.B false, []))
              else
                (bif !(x.getD i.toNat zEvent).Up == (y.getD i.toNat zEvent).Up then
                  (some (AV.B false, []))
                else
                  (Option.bind (Γ 76 [slIntS (x.getD i.toNat zEvent).Line, slIntS (y.getD i.toNat zEvent).Line] []) fun r8 =>
                  bif !asB r8.fst then
                    (some (AV.B false, []))
                  else
                    (Option.bind (Γ 76 [slIntS (x.getD i.toNat zEvent).Grants, slIntS (y.getD i.toNat zEvent).Grants] []) fun r10 =>
                    bif !asB r10.fst then
                      (some (AV.B false, []))
                    else
                      (bif !decide ((x.getD i.toNat zEvent).Sets = (y.getD i.toNat zEvent).Sets) then
                        (some (AV.B false, []))
                      else
                        (bif !decide ((x.getD i.toNat zEvent).Spilt = (y.getD i.toNat zEvent).Spilt) then
                          (some (AV.B false, []))
                        else
                          (bif !decide ((x.getD i.toNat zEvent).Taken = (y.getD i.toNat zEvent).Taken) then
                            (some (AV.B false, []))
                          else
                            (H P32 (S32 x y (IntKind.i64.wrap (i + 1)))))))))))
            (and2
              (bif !(x.getD i.toNat zEvent).Auto == (y.getD i.toNat zEvent).Auto then
                  (some (AV.B false, []))
                else
                  (bif !(x.getD i.toNat zEvent).Up == (y.getD i.toNat zEvent).Up then
                    (some (AV.B false, []))
                  else
                    (Option.bind (Γ 76 [slIntS (x.getD i.toNat zEvent).Line, slIntS (y.getD i.toNat zEvent).Line] []) fun r9 =>
                    bif !asB r9.fst then
                      (some (AV.B false, []))
                    else
                      (Option.bind (Γ 76 [slIntS (x.getD i.toNat zEvent).Grants, slIntS (y.getD i.toNat zEvent).Grants] []) fun r11 =>
                      bif !asB r11.fst then
                        (some (AV.B false, []))
                      else
                        (bif !decide ((x.getD i.toNat zEvent).Sets = (y.getD i.toNat zEvent).Sets) then
                          (some (AV.B false, []))
                        else
                          (bif !decide ((x.getD i.toNat zEvent).Spilt = (y.getD i.toNat zEvent).Spilt) then
                            (some (AV.B false, []))
                          else
                            (bif !decide ((x.getD i.toNat zEvent).Taken = (y.getD i.toNat zEvent).Taken) then
                              (some (AV.B false, []))
                            else
                              (H P32 (S32 x y (IntKind.i64.wrap (i + 1)))))))))))
              (bif !(x.getD i.toNat zEvent).Auto == (y.getD i.toNat zEvent).Auto then
                  (some (AV.B false, []))
                else
                  (bif !(x.getD i.toNat zEvent).Up == (y.getD i.toNat zEvent).Up then
                    (some (AV.B false, []))
                  else
                    (Option.bind (Γ 76 [slIntS (x.getD i.toNat zEvent).Line, slIntS (y.getD i.toNat zEvent).Line] []) fun r9 =>
                    bif !asB r9.fst then
                      (some (AV.B false, []))
                    else
                      (Option.bind (Γ 76 [slIntS (x.getD i.toNat zEvent).Grants, slIntS (y.getD i.toNat zEvent).Grants] []) fun r11 =>
                      bif !asB r11.fst then
                        (some (AV.B false, []))
                      else
                        (bif !decide ((x.getD i.toNat zEvent).Sets = (y.getD i.toNat zEvent).Sets) then
                          (some (AV.B false, []))
                        else
                          (bif !decide ((x.getD i.toNat zEvent).Spilt = (y.getD i.toNat zEvent).Spilt) then
                            (some (AV.B false, []))
                          else
                            (bif !decide ((x.getD i.toNat zEvent).Taken = (y.getD i.toNat zEvent).Taken) then
                              (some (AV.B false, []))
                            else
                              (H P32 (S32 x y (IntKind.i64.wrap (i + 1)))))))))))))
          (and2
            (bif !(x.getD i.toNat zEvent).Auto == (y.getD i.toNat zEvent).Auto then
                (some (AV.B false, []))
              else
                (bif !(x.getD i.toNat zEvent).Up == (y.getD i.toNat zEvent).Up then
                  (some (AV.B false, []))
                else
                  (Option.bind (Γ 76 [slIntS (x.getD i.toNat zEvent).Line, slIntS (y.getD i.toNat zEvent).Line] []) fun r8 =>
                  bif !asB r8.fst then
                    (some (AV.B false, []))
                  else
                    (Option.bind (Γ 76 [slIntS (x.getD i.toNat zEvent).Grants, slIntS (y.getD i.toNat zEvent).Grants] []) fun r10 =>
                    bif !asB r10.fst then
                      (some (AV.B false, []))
                    else
                      (bif !decide ((x.getD i.toNat zEvent).Sets = (y.getD i.toNat zEvent).Sets) then
                        (some (AV.B false, []))
                      else
                        (bif !decide ((x.getD i.toNat zEvent).Spilt = (y.getD i.toNat zEvent).Spilt) then
                          (some (AV.B false, []))
                        else
                          (bif !decide ((x.getD i.toNat zEvent).Taken = (y.getD i.toNat zEvent).Taken) then
                            (some (AV.B false, []))
                          else
                            (H P32 (S32 x y (IntKind.i64.wrap (i + 1)))))))))))
            (and2
              (bif !(x.getD i.toNat zEvent).Auto == (y.getD i.toNat zEvent).Auto then
                  (some (AV.B false, []))
                else
                  (bif !(x.getD i.toNat zEvent).Up == (y.getD i.toNat zEvent).Up then
                    (some (AV.B false, []))
                  else
                    (Option.bind (Γ 76 [slIntS (x.getD i.toNat zEvent).Line, slIntS (y.getD i.toNat zEvent).Line] []) fun r9 =>
                    bif !asB r9.fst then
                      (some (AV.B false, []))
                    else
                      (Option.bind (Γ 76 [slIntS (x.getD i.toNat zEvent).Grants, slIntS (y.getD i.toNat zEvent).Grants] []) fun r11 =>
                      bif !asB r11.fst then
                        (some (AV.B false, []))
                      else
                        (bif !decide ((x.getD i.toNat zEvent).Sets = (y.getD i.toNat zEvent).Sets) then
                          (some (AV.B false, []))
                        else
                          (bif !decide ((x.getD i.toNat zEvent).Spilt = (y.getD i.toNat zEvent).Spilt) then
                            (some (AV.B false, []))
                          else
                            (bif !decide ((x.getD i.toNat zEvent).Taken = (y.getD i.toNat zEvent).Taken) then
                              (some (AV.B false, []))
                            else
                              (H P32 (S32 x y (IntKind.i64.wrap (i + 1)))))))))))
              (bif !(x.getD i.toNat zEvent).Auto == (y.getD i.toNat zEvent).Auto then
                  (some (AV.B false, []))
                else
                  (bif !(x.getD i.toNat zEvent).Up == (y.getD i.toNat zEvent).Up then
                    (some (AV.B false, []))
                  else
                    (Option.bind (Γ 76 [slIntS (x.getD i.toNat zEvent).Line, slIntS (y.getD i.toNat zEvent).Line] []) fun r9 =>
                    bif !asB r9.fst then
                      (some (AV.B false, []))
                    else
                      (Option.bind (Γ 76 [slIntS (x.getD i.toNat zEvent).Grants, slIntS (y.getD i.toNat zEvent).Grants] []) fun r11 =>
                      bif !asB r11.fst then
                        (some (AV.B false, []))
                      else
                        (bif !decide ((x.getD i.toNat zEvent).Sets = (y.getD i.toNat zEvent).Sets) then
                          (some (AV.B false, []))
                        else
                          (bif !decide ((x.getD i.toNat zEvent).Spilt = (y.getD i.toNat zEvent).Spilt) then
                            (some (AV.B false, []))
                          else
                            (bif !decide ((x.getD i.toNat zEvent).Taken = (y.getD i.toNat zEvent).Taken) then
                              (some (AV.B false, []))
                            else
                              (H P32 (S32 x y (IntKind.i64.wrap (i + 1)))))))))))))))
      else
        (none))
    else
      (none))
  else
    (some (AV.B true, [])) := by kernel_rfl
theorem h33 (Γ : Orc) (H : Hd) (x y : (List VLatch)) (i : Int) : hed Tryz.prog cfg Γ 33 H [] P33 (S33 x y i) =
  bif decide (i < zN x.length) then
    (bif bif decide (0 ≤ i) then decide (i < zN x.length) else false then
      (bif bif decide (0 ≤ i) then decide (i < zN y.length) else false then
        (bif !decide ((x.getD i.toNat zLatch).Count = (y.getD i.toNat zLatch).Count) then
          (some (AV.B false, []))
        else
          (bif bif decide (0 ≤ i) then decide (i < zN x.length) else false then
            (bif bif decide (0 ≤ i) then decide (i < zN y.length) else false then
              (Option.bind (Γ 76 [slIntS (x.getD i.toNat zLatch).Line, slIntS (y.getD i.toNat zLatch).Line] []) fun r6 =>
              bif !asB r6.fst then
                (some (AV.B false, []))
              else
                (bif bif decide (0 ≤ i) then decide (i < zN x.length) else false then
                  (bif bif decide (0 ≤ i) then decide (i < zN y.length) else false then
                    (Option.bind (Γ 76 [slIntS (x.getD i.toNat zLatch).Grants, slIntS (y.getD i.toNat zLatch).Grants] []) fun r10 =>
                    bif !asB r10.fst then
                      (some (AV.B false, []))
                    else
                      (H P33 (S33 x y (IntKind.i64.wrap (i + 1)))))
                  else
                    (none))
                else
                  (none)))
            else
              (none))
          else
            (none)))
      else
        (none))
    else
      (none))
  else
    (some (AV.B true, [])) := by kernel_rfl
theorem h34 (Γ : Orc) (H : Hd) (x y : (List VCell)) (i : Int) : hed Tryz.prog cfg Γ 34 H [] P34 (S34 x y i) =
  bif decide (i < zN x.length) then
    (bif bif decide (0 ≤ i) then decide (i < zN x.length) else false then
      (bif bif decide (0 ≤ i) then decide (i < zN y.length) else false then
        (and2
        (and2
          (bif !bif decide ((x.getD i.toNat zCell).Val.Kind = (y.getD i.toNat zCell).Val.Kind) then bif decide ((x.getD i.toNat zCell).Val.Num = (y.getD i.toNat zCell).Val.Num) then bif (x.getD i.toNat zCell).Val.Text.toList == (y.getD i.toNat zCell).Val.Text.toList then true else false else false else false then
              (some (AV.B false, []))
            else
              (bif !decide ((x.getD i.toNat zCell).Version = (y.getD i.toNat zCell).Version) then
                (some (AV.B false, []))
              else
                (bif !(x.getD i.toNat zCell).Closed == (y.getD i.toNat zCell).Closed then
                  (some (AV.B false, []))
                else
                  (Option.bind (Γ 76 [slIntS (x.getD i.toNat zCell).Line, slIntS (y.getD i.toNat zCell).Line] []) fun r8 =>
                  bif !asB r8.fst then
                    (some (AV.B false, []))
                  else
                    (Option.bind (Γ 76 [slIntS (x.getD i.toNat zCell).Grants, slIntS (y.getD i.toNat zCell).Grants] []) fun r10 =>
                    bif !asB r10.fst then
                      (some (AV.B false, []))
                    else
                      (H P34 (S34 x y (IntKind.i64.wrap (i + 1)))))))))
          (bif !bif decide ((x.getD i.toNat zCell).Val.Kind = (y.getD i.toNat zCell).Val.Kind) then bif decide ((x.getD i.toNat zCell).Val.Num = (y.getD i.toNat zCell).Val.Num) then bif (x.getD i.toNat zCell).Val.Text.toList == (y.getD i.toNat zCell).Val.Text.toList then true else false else false else false then
              (some (AV.B false, []))
            else
              (bif !decide ((x.getD i.toNat zCell).Version = (y.getD i.toNat zCell).Version) then
                (some (AV.B false, []))
              else
                (bif !(x.getD i.toNat zCell).Closed == (y.getD i.toNat zCell).Closed then
                  (some (AV.B false, []))
                else
                  (Option.bind (Γ 76 [slIntS (x.getD i.toNat zCell).Line, slIntS (y.getD i.toNat zCell).Line] []) fun r8 =>
                  bif !asB r8.fst then
                    (some (AV.B false, []))
                  else
                    (Option.bind (Γ 76 [slIntS (x.getD i.toNat zCell).Grants, slIntS (y.getD i.toNat zCell).Grants] []) fun r10 =>
                    bif !asB r10.fst then
                      (some (AV.B false, []))
                    else
                      (H P34 (S34 x y (IntKind.i64.wrap (i + 1))))))))))
        (and2
          (and2
            (bif !bif decide ((x.getD i.toNat zCell).Val.Kind = (y.getD i.toNat zCell).Val.Kind) then bif decide ((x.getD i.toNat zCell).Val.Num = (y.getD i.toNat zCell).Val.Num) then bif (x.getD i.toNat zCell).Val.Text.toList == (y.getD i.toNat zCell).Val.Text.toList then true else false else false else false then
                (some (AV.B false, []))
              else
                (bif !decide ((x.getD i.toNat zCell).Version = (y.getD i.toNat zCell).Version) then
                  (some (AV.B false, []))
                else
                  (bif !(x.getD i.toNat zCell).Closed == (y.getD i.toNat zCell).Closed then
                    (some (AV.B false, []))
                  else
                    (Option.bind (Γ 76 [slIntS (x.getD i.toNat zCell).Line, slIntS (y.getD i.toNat zCell).Line] []) fun r9 =>
                    bif !asB r9.fst then
                      (some (AV.B false, []))
                    else
                      (Option.bind (Γ 76 [slIntS (x.getD i.toNat zCell).Grants, slIntS (y.getD i.toNat zCell).Grants] []) fun r11 =>
                      bif !asB r11.fst then
                        (some (AV.B false, []))
                      else
                        (H P34 (S34 x y (IntKind.i64.wrap (i + 1)))))))))
            (and2
              (bif !bif decide ((x.getD i.toNat zCell).Val.Kind = (y.getD i.toNat zCell).Val.Kind) then bif decide ((x.getD i.toNat zCell).Val.Num = (y.getD i.toNat zCell).Val.Num) then bif (x.getD i.toNat zCell).Val.Text.toList == (y.getD i.toNat zCell).Val.Text.toList then true else false else false else false then
                  (some (AV.B false, []))
                else
                  (bif !decide ((x.getD i.toNat zCell).Version = (y.getD i.toNat zCell).Version) then
                    (some (AV.B false, []))
                  else
                    (bif !(x.getD i.toNat zCell).Closed == (y.getD i.toNat zCell).Closed then
                      (some (AV.B false, []))
                    else
                      (Option.bind (Γ 76 [slIntS (x.getD i.toNat zCell).Line, slIntS (y.getD i.toNat zCell).Line] []) fun r10 =>
                      bif !asB r10.fst then
                        (some (AV.B false, []))
                      else
                        (Option.bind (Γ 76 [slIntS (x.getD i.toNat zCell).Grants, slIntS (y.getD i.toNat zCell).Grants] []) fun r12 =>
                        bif !asB r12.fst then
                          (some (AV.B false, []))
                        else
                          (H P34 (S34 x y (IntKind.i64.wrap (i + 1)))))))))
              (bif !bif decide ((x.getD i.toNat zCell).Val.Kind = (y.getD i.toNat zCell).Val.Kind) then bif decide ((x.getD i.toNat zCell).Val.Num = (y.getD i.toNat zCell).Val.Num) then bif (x.getD i.toNat zCell).Val.Text.toList == (y.getD i.toNat zCell).Val.Text.toList then true else false else false else false then
                  (some (AV.B false, []))
                else
                  (bif !decide ((x.getD i.toNat zCell).Version = (y.getD i.toNat zCell).Version) then
                    (some (AV.B false, []))
                  else
                    (bif !(x.getD i.toNat zCell).Closed == (y.getD i.toNat zCell).Closed then
                      (some (AV.B false, []))
                    else
                      (Option.bind (Γ 76 [slIntS (x.getD i.toNat zCell).Line, slIntS (y.getD i.toNat zCell).Line] []) fun r10 =>
                      bif !asB r10.fst then
                        (some (AV.B false, []))
                      else
                        (Option.bind (Γ 76 [slIntS (x.getD i.toNat zCell).Grants, slIntS (y.getD i.toNat zCell).Grants] []) fun r12 =>
                        bif !asB r12.fst then
                          (some (AV.B false, []))
                        else
                          (H P34 (S34 x y (IntKind.i64.wrap (i + 1)))))))))))
          (and2
            (bif !bif decide ((x.getD i.toNat zCell).Val.Kind = (y.getD i.toNat zCell).Val.Kind) then bif decide ((x.getD i.toNat zCell).Val.Num = (y.getD i.toNat zCell).Val.Num) then bif (x.getD i.toNat zCell).Val.Text.toList == (y.getD i.toNat zCell).Val.Text.toList then true else false else false else false then
                (some (AV.B false, []))
              else
                (bif !decide ((x.getD i.toNat zCell).Version = (y.getD i.toNat zCell).Version) then
                  (some (AV.B false, []))
                else
                  (bif !(x.getD i.toNat zCell).Closed == (y.getD i.toNat zCell).Closed then
                    (some (AV.B false, []))
                  else
                    (Option.bind (Γ 76 [slIntS (x.getD i.toNat zCell).Line, slIntS (y.getD i.toNat zCell).Line] []) fun r9 =>
                    bif !asB r9.fst then
                      (some (AV.B false, []))
                    else
                      (Option.bind (Γ 76 [slIntS (x.getD i.toNat zCell).Grants, slIntS (y.getD i.toNat zCell).Grants] []) fun r11 =>
                      bif !asB r11.fst then
                        (some (AV.B false, []))
                      else
                        (H P34 (S34 x y (IntKind.i64.wrap (i + 1)))))))))
            (and2
              (bif !bif decide ((x.getD i.toNat zCell).Val.Kind = (y.getD i.toNat zCell).Val.Kind) then bif decide ((x.getD i.toNat zCell).Val.Num = (y.getD i.toNat zCell).Val.Num) then bif (x.getD i.toNat zCell).Val.Text.toList == (y.getD i.toNat zCell).Val.Text.toList then true else false else false else false then
                  (some (AV.B false, []))
                else
                  (bif !decide ((x.getD i.toNat zCell).Version = (y.getD i.toNat zCell).Version) then
                    (some (AV.B false, []))
                  else
                    (bif !(x.getD i.toNat zCell).Closed == (y.getD i.toNat zCell).Closed then
                      (some (AV.B false, []))
                    else
                      (Option.bind (Γ 76 [slIntS (x.getD i.toNat zCell).Line, slIntS (y.getD i.toNat zCell).Line] []) fun r10 =>
                      bif !asB r10.fst then
                        (some (AV.B false, []))
                      else
                        (Option.bind (Γ 76 [slIntS (x.getD i.toNat zCell).Grants, slIntS (y.getD i.toNat zCell).Grants] []) fun r12 =>
                        bif !asB r12.fst then
                          (some (AV.B false, []))
                        else
                          (H P34 (S34 x y (IntKind.i64.wrap (i + 1)))))))))
              (bif !bif decide ((x.getD i.toNat zCell).Val.Kind = (y.getD i.toNat zCell).Val.Kind) then bif decide ((x.getD i.toNat zCell).Val.Num = (y.getD i.toNat zCell).Val.Num) then bif (x.getD i.toNat zCell).Val.Text.toList == (y.getD i.toNat zCell).Val.Text.toList then true else false else false else false then
                  (some (AV.B false, []))
                else
                  (bif !decide ((x.getD i.toNat zCell).Version = (y.getD i.toNat zCell).Version) then
                    (some (AV.B false, []))
                  else
                    (bif !(x.getD i.toNat zCell).Closed == (y.getD i.toNat zCell).Closed then
                      (some (AV.B false, []))
                    else
                      (Option.bind (Γ 76 [slIntS (x.getD i.toNat zCell).Line, slIntS (y.getD i.toNat zCell).Line] []) fun r10 =>
                      bif !asB r10.fst then
                        (some (AV.B false, []))
                      else
                        (Option.bind (Γ 76 [slIntS (x.getD i.toNat zCell).Grants, slIntS (y.getD i.toNat zCell).Grants] []) fun r12 =>
                        bif !asB r12.fst then
                          (some (AV.B false, []))
                        else
                          (H P34 (S34 x y (IntKind.i64.wrap (i + 1)))))))))))))
      else
        (none))
    else
      (none))
  else
    (some (AV.B true, [])) := by kernel_rfl
theorem h35 (Γ : Orc) (H : Hd) (x y : (List VTopic)) (i : Int) : hed Tryz.prog cfg Γ 35 H [] P35 (S35 x y i) =
  bif decide (i < zN x.length) then
    (bif bif decide (0 ≤ i) then decide (i < zN x.length) else false then
      (bif bif decide (0 ≤ i) then decide (i < zN y.length) else false then
        (bif !(x.getD i.toNat zTopic).Name.toList == (y.getD i.toNat zTopic).Name.toList then
          (some (AV.B false, []))
        else
          (bif bif decide (0 ≤ i) then decide (i < zN x.length) else false then
            (bif bif decide (0 ≤ i) then decide (i < zN y.length) else false then
              (Option.bind (Γ 77 [slRing (x.getD i.toNat zTopic).Ring, slRing (y.getD i.toNat zTopic).Ring] []) fun r6 =>
              bif !asB r6.fst then
                (some (AV.B false, []))
              else
                (H P35 (S35 x y (IntKind.i64.wrap (i + 1)))))
            else
              (none))
          else
            (none)))
      else
        (none))
    else
      (none))
  else
    (some (AV.B true, [])) := by kernel_rfl
theorem h31a (Γ : Orc) (H : Hd) (x y : (List VNotify)) (i : Int) : hed Tryz.prog cfg Γ 31 H [] P31a (S31a x y i) =
  bif decide (i < zN x.length) then
    (bif bif decide (0 ≤ i) then decide (i < zN x.length) else false then
      (bif bif decide (0 ≤ i) then decide (i < zN y.length) else false then
        (and2
        (and2
          (bif !(x.getD i.toNat zNotify).Permit == (y.getD i.toNat zNotify).Permit then
              (some (AV.B false, []))
            else
              (Option.bind (Γ 76 [slIntS (x.getD i.toNat zNotify).Line, slIntS (y.getD i.toNat zNotify).Line] []) fun r6 =>
              bif !asB r6.fst then
                (some (AV.B false, []))
              else
                (bif !decide ((x.getD i.toNat zNotify).Ones = (y.getD i.toNat zNotify).Ones) then
                  (some (AV.B false, []))
                else
                  (bif !decide ((x.getD i.toNat zNotify).Spilt = (y.getD i.toNat zNotify).Spilt) then
                    (some (AV.B false, []))
                  else
                    (bif !decide ((x.getD i.toNat zNotify).Taken = (y.getD i.toNat zNotify).Taken) then
                      (some (AV.B false, []))
                    else
                      (bif !decide (zN (x.getD i.toNat zNotify).Grants.length = zN (y.getD i.toNat zNotify).Grants.length) then
                        (some (AV.B false, []))
                      else
                        (H P31b (S31b x y i (x.getD i.toNat zNotify) (y.getD i.toNat zNotify) 0))))))))
          (bif !(x.getD i.toNat zNotify).Permit == (y.getD i.toNat zNotify).Permit then
              (some (AV.B false, []))
            else
              (Option.bind (Γ 76 [slIntS (x.getD i.toNat zNotify).Line, slIntS (y.getD i.toNat zNotify).Line] []) fun r6 =>
              bif !asB r6.fst then
                (some (AV.B false, []))
              else
                (bif !decide ((x.getD i.toNat zNotify).Ones = (y.getD i.toNat zNotify).Ones) then
                  (some (AV.B false, []))
                else
                  (bif !decide ((x.getD i.toNat zNotify).Spilt = (y.getD i.toNat zNotify).Spilt) then
                    (some (AV.B false, []))
                  else
                    (bif !decide ((x.getD i.toNat zNotify).Taken = (y.getD i.toNat zNotify).Taken) then
                      (some (AV.B false, []))
                    else
                      (bif !decide (zN (x.getD i.toNat zNotify).Grants.length = zN (y.getD i.toNat zNotify).Grants.length) then
                        (some (AV.B false, []))
                      else
                        (H P31b (S31b x y i (x.getD i.toNat zNotify) (y.getD i.toNat zNotify) 0)))))))))
        (and2
          (and2
            (bif !(x.getD i.toNat zNotify).Permit == (y.getD i.toNat zNotify).Permit then
                (some (AV.B false, []))
              else
                (Option.bind (Γ 76 [slIntS (x.getD i.toNat zNotify).Line, slIntS (y.getD i.toNat zNotify).Line] []) fun r7 =>
                bif !asB r7.fst then
                  (some (AV.B false, []))
                else
                  (bif !decide ((x.getD i.toNat zNotify).Ones = (y.getD i.toNat zNotify).Ones) then
                    (some (AV.B false, []))
                  else
                    (bif !decide ((x.getD i.toNat zNotify).Spilt = (y.getD i.toNat zNotify).Spilt) then
                      (some (AV.B false, []))
                    else
                      (bif !decide ((x.getD i.toNat zNotify).Taken = (y.getD i.toNat zNotify).Taken) then
                        (some (AV.B false, []))
                      else
                        (bif !decide (zN (x.getD i.toNat zNotify).Grants.length = zN (y.getD i.toNat zNotify).Grants.length) then
                          (some (AV.B false, []))
                        else
                          (H P31b (S31b x y i (x.getD i.toNat zNotify) (y.getD i.toNat zNotify) 0))))))))
            (and2
              (bif !(x.getD i.toNat zNotify).Permit == (y.getD i.toNat zNotify).Permit then
                  (some (AV.B false, []))
                else
                  (Option.bind (Γ 76 [slIntS (x.getD i.toNat zNotify).Line, slIntS (y.getD i.toNat zNotify).Line] []) fun r8 =>
                  bif !asB r8.fst then
                    (some (AV.B false, []))
                  else
                    (bif !decide ((x.getD i.toNat zNotify).Ones = (y.getD i.toNat zNotify).Ones) then
                      (some (AV.B false, []))
                    else
                      (bif !decide ((x.getD i.toNat zNotify).Spilt = (y.getD i.toNat zNotify).Spilt) then
                        (some (AV.B false, []))
                      else
                        (bif !decide ((x.getD i.toNat zNotify).Taken = (y.getD i.toNat zNotify).Taken) then
                          (some (AV.B false, []))
                        else
                          (bif !decide (zN (x.getD i.toNat zNotify).Grants.length = zN (y.getD i.toNat zNotify).Grants.length) then
                            (some (AV.B false, []))
                          else
                            (H P31b (S31b x y i (x.getD i.toNat zNotify) (y.getD i.toNat zNotify) 0))))))))
              (bif !(x.getD i.toNat zNotify).Permit == (y.getD i.toNat zNotify).Permit then
                  (some (AV.B false, []))
                else
                  (Option.bind (Γ 76 [slIntS (x.getD i.toNat zNotify).Line, slIntS (y.getD i.toNat zNotify).Line] []) fun r8 =>
                  bif !asB r8.fst then
                    (some (AV.B false, []))
                  else
                    (bif !decide ((x.getD i.toNat zNotify).Ones = (y.getD i.toNat zNotify).Ones) then
                      (some (AV.B false, []))
                    else
                      (bif !decide ((x.getD i.toNat zNotify).Spilt = (y.getD i.toNat zNotify).Spilt) then
                        (some (AV.B false, []))
                      else
                        (bif !decide ((x.getD i.toNat zNotify).Taken = (y.getD i.toNat zNotify).Taken) then
                          (some (AV.B false, []))
                        else
                          (bif !decide (zN (x.getD i.toNat zNotify).Grants.length = zN (y.getD i.toNat zNotify).Grants.length) then
                            (some (AV.B false, []))
                          else
                            (H P31b (S31b x y i (x.getD i.toNat zNotify) (y.getD i.toNat zNotify) 0))))))))))
          (and2
            (bif !(x.getD i.toNat zNotify).Permit == (y.getD i.toNat zNotify).Permit then
                (some (AV.B false, []))
              else
                (Option.bind (Γ 76 [slIntS (x.getD i.toNat zNotify).Line, slIntS (y.getD i.toNat zNotify).Line] []) fun r7 =>
                bif !asB r7.fst then
                  (some (AV.B false, []))
                else
                  (bif !decide ((x.getD i.toNat zNotify).Ones = (y.getD i.toNat zNotify).Ones) then
                    (some (AV.B false, []))
                  else
                    (bif !decide ((x.getD i.toNat zNotify).Spilt = (y.getD i.toNat zNotify).Spilt) then
                      (some (AV.B false, []))
                    else
                      (bif !decide ((x.getD i.toNat zNotify).Taken = (y.getD i.toNat zNotify).Taken) then
                        (some (AV.B false, []))
                      else
                        (bif !decide (zN (x.getD i.toNat zNotify).Grants.length = zN (y.getD i.toNat zNotify).Grants.length) then
                          (some (AV.B false, []))
                        else
                          (H P31b (S31b x y i (x.getD i.toNat zNotify) (y.getD i.toNat zNotify) 0))))))))
            (and2
              (bif !(x.getD i.toNat zNotify).Permit == (y.getD i.toNat zNotify).Permit then
                  (some (AV.B false, []))
                else
                  (Option.bind (Γ 76 [slIntS (x.getD i.toNat zNotify).Line, slIntS (y.getD i.toNat zNotify).Line] []) fun r8 =>
                  bif !asB r8.fst then
                    (some (AV.B false, []))
                  else
                    (bif !decide ((x.getD i.toNat zNotify).Ones = (y.getD i.toNat zNotify).Ones) then
                      (some (AV.B false, []))
                    else
                      (bif !decide ((x.getD i.toNat zNotify).Spilt = (y.getD i.toNat zNotify).Spilt) then
                        (some (AV.B false, []))
                      else
                        (bif !decide ((x.getD i.toNat zNotify).Taken = (y.getD i.toNat zNotify).Taken) then
                          (some (AV.B false, []))
                        else
                          (bif !decide (zN (x.getD i.toNat zNotify).Grants.length = zN (y.getD i.toNat zNotify).Grants.length) then
                            (some (AV.B false, []))
                          else
                            (H P31b (S31b x y i (x.getD i.toNat zNotify) (y.getD i.toNat zNotify) 0))))))))
              (bif !(x.getD i.toNat zNotify).Permit == (y.getD i.toNat zNotify).Permit then
                  (some (AV.B false, []))
                else
                  (Option.bind (Γ 76 [slIntS (x.getD i.toNat zNotify).Line, slIntS (y.getD i.toNat zNotify).Line] []) fun r8 =>
                  bif !asB r8.fst then
                    (some (AV.B false, []))
                  else
                    (bif !decide ((x.getD i.toNat zNotify).Ones = (y.getD i.toNat zNotify).Ones) then
                      (some (AV.B false, []))
                    else
                      (bif !decide ((x.getD i.toNat zNotify).Spilt = (y.getD i.toNat zNotify).Spilt) then
                        (some (AV.B false, []))
                      else
                        (bif !decide ((x.getD i.toNat zNotify).Taken = (y.getD i.toNat zNotify).Taken) then
                          (some (AV.B false, []))
                        else
                          (bif !decide (zN (x.getD i.toNat zNotify).Grants.length = zN (y.getD i.toNat zNotify).Grants.length) then
                            (some (AV.B false, []))
                          else
                            (H P31b (S31b x y i (x.getD i.toNat zNotify) (y.getD i.toNat zNotify) 0))))))))))))
      else
        (none))
    else
      (none))
  else
    (some (AV.B true, [])) := by kernel_rfl
theorem h36a (Γ : Orc) (H : Hd) (x y : (List VMerge)) (i : Int) : hed Tryz.prog cfg Γ 36 H [] P36a (S36a x y i) =
  bif decide (i < zN x.length) then
    (bif bif decide (0 ≤ i) then decide (i < zN x.length) else false then
      (bif bif decide (0 ≤ i) then decide (i < zN y.length) else false then
        (bif !decide ((x.getD i.toNat zMerge).Into = (y.getD i.toNat zMerge).Into) then
          (some (AV.B false, []))
        else
          (bif bif decide (0 ≤ i) then decide (i < zN x.length) else false then
            (bif bif decide (0 ≤ i) then decide (i < zN y.length) else false then
              (bif !decide ((x.getD i.toNat zMerge).Moved = (y.getD i.toNat zMerge).Moved) then
                (some (AV.B false, []))
              else
                (bif bif decide (0 ≤ i) then decide (i < zN x.length) else false then
                  (bif bif decide (0 ≤ i) then decide (i < zN y.length) else false then
                    (bif !decide (zN (x.getD i.toNat zMerge).Legs.length = zN (y.getD i.toNat zMerge).Legs.length) then
                      (some (AV.B false, []))
                    else
                      (H P36b (S36b x y i 0)))
                  else
                    (none))
                else
                  (none)))
            else
              (none))
          else
            (none)))
      else
        (none))
    else
      (none))
  else
    (some (AV.B true, [])) := by kernel_rfl
theorem h37a (Γ : Orc) (H : Hd) (x y : (List VUser)) (i : Int) : hed Tryz.prog cfg Γ 37 H [] P37a (S37a x y i) =
  bif decide (i < zN x.length) then
    (bif bif decide (0 ≤ i) then decide (i < zN x.length) else false then
      (bif bif decide (0 ≤ i) then decide (i < zN y.length) else false then
        (bif !decide (zN (x.getD i.toNat zUser).Subs.length = zN (y.getD i.toNat zUser).Subs.length) then
          (some (AV.B false, []))
        else
          (bif bif decide (0 ≤ i) then decide (i < zN x.length) else false then
            (bif bif decide (0 ≤ i) then decide (i < zN y.length) else false then
              (Option.bind (Γ 76 [slIntS (x.getD i.toNat zUser).Seen, slIntS (y.getD i.toNat zUser).Seen] []) fun r6 =>
              bif !asB r6.fst then
                (some (AV.B false, []))
              else
                (H P37b (S37b x y i 0)))
            else
              (none))
          else
            (none)))
      else
        (none))
    else
      (none))
  else
    (some (AV.B true, [])) := by kernel_rfl
theorem h31b (Γ : Orc) (H : Hd) (x y : List VNotify) (i : Int) (p q : VNotify) (j : Int) : hed Tryz.prog cfg Γ 31 H [] P31b (S31b x y i p q j) =
  bif decide (j < zN p.Grants.length) then
    (bif bif decide (0 ≤ j) then decide (j < zN p.Grants.length) else false then
      (bif bif decide (0 ≤ j) then decide (j < zN q.Grants.length) else false then
        (bif !bif decide ((p.Grants.getD j.toNat zGrant).Who = (q.Grants.getD j.toNat zGrant).Who) then bif (p.Grants.getD j.toNat zGrant).One == (q.Grants.getD j.toNat zGrant).One then true else false else false then
          (some (AV.B false, []))
        else
          (H P31b (S31b x y i p q (IntKind.i64.wrap (j + 1)))))
      else
        (none))
    else
      (none))
  else
    (H P31a (S31a x y (IntKind.i64.wrap (i + 1)))) := by kernel_rfl
theorem h36b (Γ : Orc) (H : Hd) (x y : (List VMerge)) (i j : Int) : hed Tryz.prog cfg Γ 36 H [] P36b (S36b x y i j) =
  bif bif decide (0 ≤ i) then decide (i < zN x.length) else false then
    (bif decide (j < zN (x.getD i.toNat zMerge).Legs.length) then
      (bif bif decide (0 ≤ i) then decide (i < zN x.length) else false then
        (bif bif decide (0 ≤ j) then decide (j < zN (x.getD i.toNat zMerge).Legs.length) else false then
          (bif bif decide (0 ≤ i) then decide (i < zN y.length) else false then
            (bif bif decide (0 ≤ j) then decide (j < zN (y.getD i.toNat zMerge).Legs.length) else false then
              (bif !bif decide (((x.getD i.toNat zMerge).Legs.getD j.toNat zLeg).Topic = ((y.getD i.toNat zMerge).Legs.getD j.toNat zLeg).Topic) then bif decide (((x.getD i.toNat zMerge).Legs.getD j.toNat zLeg).Id = ((y.getD i.toNat zMerge).Legs.getD j.toNat zLeg).Id) then bif decide (((x.getD i.toNat zMerge).Legs.getD j.toNat zLeg).Lost = ((y.getD i.toNat zMerge).Legs.getD j.toNat zLeg).Lost) then bif ((x.getD i.toNat zMerge).Legs.getD j.toNat zLeg).Over == ((y.getD i.toNat zMerge).Legs.getD j.toNat zLeg).Over then true else false else false else false else false then
                (some (AV.B false, []))
              else
                (H P36b (S36b x y i (IntKind.i64.wrap (j + 1)))))
            else
              (none))
          else
            (none))
        else
          (none))
      else
        (none))
    else
      (H P36a (S36a x y (IntKind.i64.wrap (i + 1)))))
  else
    (none) := by kernel_rfl
theorem h37b (Γ : Orc) (H : Hd) (x y : (List VUser)) (i j : Int) : hed Tryz.prog cfg Γ 37 H [] P37b (S37b x y i j) =
  bif bif decide (0 ≤ i) then decide (i < zN x.length) else false then
    (bif decide (j < zN (x.getD i.toNat zUser).Subs.length) then
      (bif bif decide (0 ≤ i) then decide (i < zN x.length) else false then
        (bif bif decide (0 ≤ j) then decide (j < zN (x.getD i.toNat zUser).Subs.length) else false then
          (bif bif decide (0 ≤ i) then decide (i < zN y.length) else false then
            (bif bif decide (0 ≤ j) then decide (j < zN (y.getD i.toNat zUser).Subs.length) else false then
              (bif !bif decide (((x.getD i.toNat zUser).Subs.getD j.toNat zHit).Topic = ((y.getD i.toNat zUser).Subs.getD j.toNat zHit).Topic) then bif decide (((x.getD i.toNat zUser).Subs.getD j.toNat zHit).Id = ((y.getD i.toNat zUser).Subs.getD j.toNat zHit).Id) then true else false else false then
                (some (AV.B false, []))
              else
                (H P37b (S37b x y i (IntKind.i64.wrap (j + 1)))))
            else
              (none))
          else
            (none))
        else
          (none))
      else
        (none))
    else
      (H P37a (S37a x y (IntKind.i64.wrap (i + 1)))))
  else
    (none) := by kernel_rfl
theorem h29 (Γ : Orc) (H : Hd) (x y : VTokens) (i : Int) : hed Tryz.prog cfg Γ 29 H [] P29 (S29 x y i) =
  bif decide (i < zN x.Off.length) then
    (bif bif decide (0 ≤ i) then decide (i < zN x.Off.length) else false then
      (bif bif decide (0 ≤ i) then decide (i < zN y.Off.length) else false then
        (bif !x.Off.getD i.toNat false == y.Off.getD i.toNat false then
          (some (AV.B false, []))
        else
          (H P29 (S29 x y (IntKind.i64.wrap (i + 1)))))
      else
        (none))
    else
      (none))
  else
    (some (AV.B true, [])) := by kernel_rfl
theorem h30 (Γ : Orc) (H : Hd) (x y : VClock) (i : Int) : hed Tryz.prog cfg Γ 30 H [] P30 (S30 x y i) =
  bif decide (i < zN x.Timers.length) then
    (bif bif decide (0 ≤ i) then decide (i < zN x.Timers.length) else false then
      (bif bif decide (0 ≤ i) then decide (i < zN y.Timers.length) else false then
        (bif !bif decide ((x.Timers.getD i.toNat zTimer).At = (y.Timers.getD i.toNat zTimer).At) then bif decide ((x.Timers.getD i.toNat zTimer).Token = (y.Timers.getD i.toNat zTimer).Token) then true else false else false then
          (some (AV.B false, []))
        else
          (H P30 (S30 x y (IntKind.i64.wrap (i + 1)))))
      else
        (none))
    else
      (none))
  else
    (some (AV.B true, [])) := by kernel_rfl
theorem h77a (Γ : Orc) (H : Hd) (x y : VRing) (i : Int) : hed Tryz.prog cfg Γ 77 H [] P77a (S77a x y i) =
  bif decide (i < zN x.Items.length) then
    (bif bif decide (0 ≤ i) then decide (i < zN x.Items.length) else false then
      (bif bif decide (0 ≤ i) then decide (i < zN y.Items.length) else false then
        (bif !bif decide ((x.Items.getD i.toNat zMsg).Kind = (y.Items.getD i.toNat zMsg).Kind) then bif decide ((x.Items.getD i.toNat zMsg).Num = (y.Items.getD i.toNat zMsg).Num) then bif (x.Items.getD i.toNat zMsg).Text.toList == (y.Items.getD i.toNat zMsg).Text.toList then true else false else false else false then
          (some (AV.B false, []))
        else
          (H P77a (S77a x y (IntKind.i64.wrap (i + 1)))))
      else
        (none))
    else
      (none))
  else
    (H P77b (S77b x y 0)) := by kernel_rfl
theorem h5b (Γ : Orc) (H : Hd) (x y : VState) (i : Int) (p q : VClient) (j : Int) : hed Tryz.prog cfg Γ 5 H [] P5b (S5b x y i p q j) =
  bif decide (j < zN p.Prog.length) then
    (bif bif decide (0 ≤ j) then decide (j < zN p.Prog.length) else false then
      (bif bif decide (0 ≤ j) then decide (j < zN q.Prog.length) else false then
        (Option.bind (Γ 11 [slCall (p.Prog.getD j.toNat zCall), slCall (q.Prog.getD j.toNat zCall)] []) fun r3 =>
        bif !asB r3.fst then
          (some (AV.B false, []))
        else
          (H P5b (S5b x y i p q (IntKind.i64.wrap (j + 1)))))
      else
        (none))
    else
      (none))
  else
    (H P5a (S5a x y (IntKind.i64.wrap (i + 1)))) := by kernel_rfl
theorem e51 (Γ : Orc) (H : Hd) (q : Bool) : ent Tryz.prog cfg Γ 51 H [.B q] [] =
  bif q then
    (some (nI 1, []))
  else
    (some (nI 0, [])) := by kernel_rfl
theorem e89 (Γ : Orc) (H : Hd) (n : Int) : ent Tryz.prog cfg Γ 89 H [nI n] [] =
  bif decide (n < 0) then
    (bif decide (-10 < n) then
      (Option.bind (Γ 89 [nI (IntKind.i64.wrap (0 - n))] []) fun r2 =>
      bif decide (1 + (asS r2.fst).size ≤ 4294967296) then
        (some (AV.S ((bs [45]) ++ asS r2.fst), []))
      else
        (none))
    else
      (bif decide (n < 0) then
        (Option.bind (Γ 89 [nI (IntKind.i64.wrap (n.tdiv 10))] []) fun r3 =>
        Option.bind (Γ 89 [nI (IntKind.i64.wrap (0 - n.tmod 10))] []) fun r4 =>
        bif decide ((asS r3.fst).size + (asS r4.fst).size ≤ 4294967296) then
          (some (AV.S (asS r3.fst ++ asS r4.fst), []))
        else
          (none))
      else
        (bif decide (n < 10) then
          (some (AV.S (Utf8.encode (IntKind.i32.wrap (IntKind.i64.wrap (48 + n)))), []))
        else
          (Option.bind (Γ 89 [nI (IntKind.i64.wrap (n.tdiv 10))] []) fun r4 =>
          bif decide ((asS r4.fst).size + (Utf8.encode (IntKind.i32.wrap (IntKind.i64.wrap (48 + n.tmod 10)))).size ≤ 4294967296) then
            (some (AV.S (asS r4.fst ++ Utf8.encode (IntKind.i32.wrap (IntKind.i64.wrap (48 + n.tmod 10)))), []))
          else
            (none)))))
  else
    (bif decide (n < 0) then
      (Option.bind (Γ 89 [nI (IntKind.i64.wrap (n.tdiv 10))] []) fun r2 =>
      Option.bind (Γ 89 [nI (IntKind.i64.wrap (0 - n.tmod 10))] []) fun r3 =>
      bif decide ((asS r2.fst).size + (asS r3.fst).size ≤ 4294967296) then
        (some (AV.S (asS r2.fst ++ asS r3.fst), []))
      else
        (none))
    else
      (bif decide (n < 10) then
        (some (AV.S (Utf8.encode (IntKind.i32.wrap (IntKind.i64.wrap (48 + n)))), []))
      else
        (Option.bind (Γ 89 [nI (IntKind.i64.wrap (n.tdiv 10))] []) fun r3 =>
        bif decide ((asS r3.fst).size + (Utf8.encode (IntKind.i32.wrap (IntKind.i64.wrap (48 + n.tmod 10)))).size ≤ 4294967296) then
          (some (AV.S (asS r3.fst ++ Utf8.encode (IntKind.i32.wrap (IntKind.i64.wrap (48 + n.tmod 10)))), []))
        else
          (none)))) := by kernel_rfl
theorem e50 (Γ : Orc) (H : Hd) (xs : List Int) (w : ByteArray) : ent Tryz.prog cfg Γ 50 H [.pb 0 0, slIntS xs] [.nbx 1 (lstG [owBy w])] =
  Option.bind (Γ 89 [nI (zN xs.length)] []) fun r0 =>
  bif decide (w.size + (asS r0.fst).size ≤ 4294967296) && true && true && true && true then
    (H [true, false, true] (hdS [(0, AV.pb 0 0), (17, slIntS xs), (18, nI (zN xs.length)), (19, nI 0)] [(4096000, ⟨w.size + (asS r0.fst).size, 1, fun i => lstG [AV.I IntKind.u8 (bif decide (i < w.size) then byN w i else byN (asS r0.fst) (i - w.size))]⟩)] [(0, 1, [AV.rf 4096000])]))
  else
    (none) := by kernel_rfl
end Go.Fw
