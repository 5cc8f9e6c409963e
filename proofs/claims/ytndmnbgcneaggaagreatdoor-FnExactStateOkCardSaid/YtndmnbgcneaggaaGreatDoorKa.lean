/- Trees of the functions' bodies, as printed by the framework's evaluation. -/
import Derived.Test.YtndmnbgcneaggaaGreatDoorProg
import Derived.Test.YtndmnbgcneaggaaGreatDoorFyB
import Derived.KernelRfl
import Derived.Test.YtndmnbgcneaggaaGreatDoorK
set_option linter.unusedVariables false
set_option maxRecDepth 100000
namespace Go.Fw
open Go.Proofs
theorem e109 (Γ : Orc) (H : Hd) (x : (List Bool)) (a : Int) : ent Tryz.prog cfg Γ 109 H [slBoolS x, nI a] [] =
  bif decide (IntKind.i64.wrap (a - zN x.length) < 0) then
    (some (nI (-1), []))
  else
    (some (nI (IntKind.i64.wrap (a - zN x.length)), [])) := by kernel_rfl
theorem e191 (Γ : Orc) (H : Hd) (x : VCall) (a : Int) : ent Tryz.prog cfg Γ 191 H [slCall x, nI a] [] =
  bif decide (IntKind.i64.wrap (a - zN x.Name.size) < 0) then
    (some (nI (-1), []))
  else
    (Option.bind (Γ 187 [slMsg x.Msg, nI (IntKind.i64.wrap (a - zN x.Name.size))] []) fun r1 =>
    bif decide (asI r1.fst < 0) then
      (some (nI (-1), []))
    else
      (Option.bind (Γ 247 [slTermS x.Filter, nI (asI r1.fst)] []) fun r3 =>
      bif decide (asI r3.fst < 0) then
        (some (nI (-1), []))
      else
        (some (nI (asI r3.fst), [])))) := by kernel_rfl
theorem e118 (Γ : Orc) (H : Hd) (x : (List VCall)) (a : Int) : ent Tryz.prog cfg Γ 118 H [slCallS x, nI a] [] =
  bif decide (IntKind.i64.wrap (a - zN x.length) < 0) then
    (some (nI (-1), []))
  else
    (H P118 (S118 x (IntKind.i64.wrap (a - zN x.length)) 0)) := by kernel_rfl
theorem h118 (Γ : Orc) (H : Hd) (x : (List VCall)) (a i : Int) : hed Tryz.prog cfg Γ 118 H [] P118 (S118 x a i) =
  bif decide (i < zN x.length) then
    (bif bif decide (0 ≤ i) then decide (i < zN x.length) else false then
      (Option.bind (Γ 191 [slCall (x.getD i.toNat zCall), nI a] []) fun r2 =>
      bif decide (asI r2.fst < 0) then
        (some (nI (-1), []))
      else
        (H P118 (S118 x (asI r2.fst) (IntKind.i64.wrap (i + 1)))))
    else
      (none))
  else
    (some (nI a, [])) := by kernel_rfl
theorem e114 (Γ : Orc) (H : Hd) (x : VCell) (a : Int) : ent Tryz.prog cfg Γ 114 H [slCell x, nI a] [] =
  Option.bind (Γ 187 [slMsg x.Val, nI a] []) fun r0 =>
  bif decide (asI r0.fst < 0) then
    (some (nI (-1), []))
  else
    (Option.bind (Γ 108 [slIntS x.Line, nI (asI r0.fst)] []) fun r2 =>
    bif decide (asI r2.fst < 0) then
      (some (nI (-1), []))
    else
      (Option.bind (Γ 108 [slIntS x.Grants, nI (asI r2.fst)] []) fun r4 =>
      bif decide (asI r4.fst < 0) then
        (some (nI (-1), []))
      else
        (some (nI (asI r4.fst), [])))) := by kernel_rfl
theorem e39 (Γ : Orc) (H : Hd) (x : (List VCell)) (a : Int) : ent Tryz.prog cfg Γ 39 H [slCellS x, nI a] [] =
  bif decide (IntKind.i64.wrap (a - zN x.length) < 0) then
    (some (nI (-1), []))
  else
    (H P39 (S39 x (IntKind.i64.wrap (a - zN x.length)) 0)) := by kernel_rfl
theorem h39 (Γ : Orc) (H : Hd) (x : (List VCell)) (a i : Int) : hed Tryz.prog cfg Γ 39 H [] P39 (S39 x a i) =
  bif decide (i < zN x.length) then
    (bif bif decide (0 ≤ i) then decide (i < zN x.length) else false then
      (Option.bind (Γ 114 [slCell (x.getD i.toNat zCell), nI a] []) fun r2 =>
      bif decide (asI r2.fst < 0) then
        (some (nI (-1), []))
      else
        (H P39 (S39 x (asI r2.fst) (IntKind.i64.wrap (i + 1)))))
    else
      (none))
  else
    (some (nI a, [])) := by kernel_rfl
theorem e43 (Γ : Orc) (H : Hd) (x : VClient) (a : Int) : ent Tryz.prog cfg Γ 43 H [slClient x, nI a] [] =
  Option.bind (Γ 118 [slCallS x.Prog, nI a] []) fun r0 =>
  bif decide (asI r0.fst < 0) then
    (some (nI (-1), []))
  else
    (some (nI (asI r0.fst), [])) := by kernel_rfl
theorem e20 (Γ : Orc) (H : Hd) (x : (List VClient)) (a : Int) : ent Tryz.prog cfg Γ 20 H [slClientS x, nI a] [] =
  bif decide (IntKind.i64.wrap (a - zN x.length) < 0) then
    (some (nI (-1), []))
  else
    (H P20 (S20 x (IntKind.i64.wrap (a - zN x.length)) 0)) := by kernel_rfl
theorem h20 (Γ : Orc) (H : Hd) (x : (List VClient)) (a i : Int) : hed Tryz.prog cfg Γ 20 H [] P20 (S20 x a i) =
  bif decide (i < zN x.length) then
    (bif bif decide (0 ≤ i) then decide (i < zN x.length) else false then
      (Option.bind (Γ 43 [slClient (x.getD i.toNat zClient), nI a] []) fun r2 =>
      bif decide (asI r2.fst < 0) then
        (some (nI (-1), []))
      else
        (H P20 (S20 x (asI r2.fst) (IntKind.i64.wrap (i + 1)))))
    else
      (none))
  else
    (some (nI a, [])) := by kernel_rfl
theorem e35 (Γ : Orc) (H : Hd) (x : VClock) (a : Int) : ent Tryz.prog cfg Γ 35 H [slClock x, nI a] [] =
  Option.bind (Γ 110 [slTimerS x.Timers, nI a] []) fun r0 =>
  bif decide (asI r0.fst < 0) then
    (some (nI (-1), []))
  else
    (some (nI (asI r0.fst), [])) := by kernel_rfl
theorem e112 (Γ : Orc) (H : Hd) (x : VEvent) (a : Int) : ent Tryz.prog cfg Γ 112 H [slEvent x, nI a] [] =
  Option.bind (Γ 108 [slIntS x.Line, nI a] []) fun r0 =>
  bif decide (asI r0.fst < 0) then
    (some (nI (-1), []))
  else
    (Option.bind (Γ 108 [slIntS x.Grants, nI (asI r0.fst)] []) fun r2 =>
    bif decide (asI r2.fst < 0) then
      (some (nI (-1), []))
    else
      (some (nI (asI r2.fst), []))) := by kernel_rfl
theorem e37 (Γ : Orc) (H : Hd) (x : (List VEvent)) (a : Int) : ent Tryz.prog cfg Γ 37 H [slEventS x, nI a] [] =
  bif decide (IntKind.i64.wrap (a - zN x.length) < 0) then
    (some (nI (-1), []))
  else
    (H P37 (S37 x (IntKind.i64.wrap (a - zN x.length)) 0)) := by kernel_rfl
theorem h37 (Γ : Orc) (H : Hd) (x : (List VEvent)) (a i : Int) : hed Tryz.prog cfg Γ 37 H [] P37 (S37 x a i) =
  bif decide (i < zN x.length) then
    (bif bif decide (0 ≤ i) then decide (i < zN x.length) else false then
      (Option.bind (Γ 112 [slEvent (x.getD i.toNat zEvent), nI a] []) fun r2 =>
      bif decide (asI r2.fst < 0) then
        (some (nI (-1), []))
      else
        (H P37 (S37 x (asI r2.fst) (IntKind.i64.wrap (i + 1)))))
    else
      (none))
  else
    (some (nI a, [])) := by kernel_rfl
theorem e186 (Γ : Orc) (H : Hd) (x : (List VGrant)) (a : Int) : ent Tryz.prog cfg Γ 186 H [slGrantS x, nI a] [] =
  bif decide (IntKind.i64.wrap (a - zN x.length) < 0) then
    (some (nI (-1), []))
  else
    (some (nI (IntKind.i64.wrap (a - zN x.length)), [])) := by kernel_rfl
theorem e190 (Γ : Orc) (H : Hd) (x : (List VHit)) (a : Int) : ent Tryz.prog cfg Γ 190 H [slHitS x, nI a] [] =
  bif decide (IntKind.i64.wrap (a - zN x.length) < 0) then
    (some (nI (-1), []))
  else
    (some (nI (IntKind.i64.wrap (a - zN x.length)), [])) := by kernel_rfl
theorem e19 (Γ : Orc) (H : Hd) (x : VHub) (a : Int) : ent Tryz.prog cfg Γ 19 H [slHub x, nI a] [] =
  Option.bind (Γ 34 [slTokens x.Tokens, nI a] []) fun r0 =>
  bif decide (asI r0.fst < 0) then
    (some (nI (-1), []))
  else
    (Option.bind (Γ 35 [slClock x.Clock, nI (asI r0.fst)] []) fun r2 =>
    bif decide (asI r2.fst < 0) then
      (some (nI (-1), []))
    else
      (Option.bind (Γ 36 [slNotifyS x.Notes, nI (asI r2.fst)] []) fun r4 =>
      bif decide (asI r4.fst < 0) then
        (some (nI (-1), []))
      else
        (Option.bind (Γ 37 [slEventS x.Events, nI (asI r4.fst)] []) fun r6 =>
        bif decide (asI r6.fst < 0) then
          (some (nI (-1), []))
        else
          (Option.bind (Γ 38 [slLatchS x.Latches, nI (asI r6.fst)] []) fun r8 =>
          bif decide (asI r8.fst < 0) then
            (some (nI (-1), []))
          else
            (Option.bind (Γ 39 [slCellS x.Cells, nI (asI r8.fst)] []) fun r10 =>
            bif decide (asI r10.fst < 0) then
              (some (nI (-1), []))
            else
              (Option.bind (Γ 40 [slTopicS x.Topics, nI (asI r10.fst)] []) fun r12 =>
              bif decide (asI r12.fst < 0) then
                (some (nI (-1), []))
              else
                (Option.bind (Γ 41 [slMergeS x.Merges, nI (asI r12.fst)] []) fun r14 =>
                bif decide (asI r14.fst < 0) then
                  (some (nI (-1), []))
                else
                  (Option.bind (Γ 42 [slUserS x.Users, nI (asI r14.fst)] []) fun r16 =>
                  bif decide (asI r16.fst < 0) then
                    (some (nI (-1), []))
                  else
                    (some (nI (asI r16.fst), [])))))))))) := by kernel_rfl
theorem e108 (Γ : Orc) (H : Hd) (x : (List Int)) (a : Int) : ent Tryz.prog cfg Γ 108 H [slIntS x, nI a] [] =
  bif decide (IntKind.i64.wrap (a - zN x.length) < 0) then
    (some (nI (-1), []))
  else
    (some (nI (IntKind.i64.wrap (a - zN x.length)), [])) := by kernel_rfl
theorem e113 (Γ : Orc) (H : Hd) (x : VLatch) (a : Int) : ent Tryz.prog cfg Γ 113 H [slLatch x, nI a] [] =
  Option.bind (Γ 108 [slIntS x.Line, nI a] []) fun r0 =>
  bif decide (asI r0.fst < 0) then
    (some (nI (-1), []))
  else
    (Option.bind (Γ 108 [slIntS x.Grants, nI (asI r0.fst)] []) fun r2 =>
    bif decide (asI r2.fst < 0) then
      (some (nI (-1), []))
    else
      (some (nI (asI r2.fst), []))) := by kernel_rfl
theorem e38 (Γ : Orc) (H : Hd) (x : (List VLatch)) (a : Int) : ent Tryz.prog cfg Γ 38 H [slLatchS x, nI a] [] =
  bif decide (IntKind.i64.wrap (a - zN x.length) < 0) then
    (some (nI (-1), []))
  else
    (H P38 (S38 x (IntKind.i64.wrap (a - zN x.length)) 0)) := by kernel_rfl
theorem h38 (Γ : Orc) (H : Hd) (x : (List VLatch)) (a i : Int) : hed Tryz.prog cfg Γ 38 H [] P38 (S38 x a i) =
  bif decide (i < zN x.length) then
    (bif bif decide (0 ≤ i) then decide (i < zN x.length) else false then
      (Option.bind (Γ 113 [slLatch (x.getD i.toNat zLatch), nI a] []) fun r2 =>
      bif decide (asI r2.fst < 0) then
        (some (nI (-1), []))
      else
        (H P38 (S38 x (asI r2.fst) (IntKind.i64.wrap (i + 1)))))
    else
      (none))
  else
    (some (nI a, [])) := by kernel_rfl
theorem e189 (Γ : Orc) (H : Hd) (x : (List VLeg)) (a : Int) : ent Tryz.prog cfg Γ 189 H [slLegS x, nI a] [] =
  bif decide (IntKind.i64.wrap (a - zN x.length) < 0) then
    (some (nI (-1), []))
  else
    (some (nI (IntKind.i64.wrap (a - zN x.length)), [])) := by kernel_rfl
theorem e116 (Γ : Orc) (H : Hd) (x : VMerge) (a : Int) : ent Tryz.prog cfg Γ 116 H [slMerge x, nI a] [] =
  Option.bind (Γ 189 [slLegS x.Legs, nI a] []) fun r0 =>
  bif decide (asI r0.fst < 0) then
    (some (nI (-1), []))
  else
    (some (nI (asI r0.fst), [])) := by kernel_rfl
theorem e41 (Γ : Orc) (H : Hd) (x : (List VMerge)) (a : Int) : ent Tryz.prog cfg Γ 41 H [slMergeS x, nI a] [] =
  bif decide (IntKind.i64.wrap (a - zN x.length) < 0) then
    (some (nI (-1), []))
  else
    (H P41 (S41 x (IntKind.i64.wrap (a - zN x.length)) 0)) := by kernel_rfl
theorem h41 (Γ : Orc) (H : Hd) (x : (List VMerge)) (a i : Int) : hed Tryz.prog cfg Γ 41 H [] P41 (S41 x a i) =
  bif decide (i < zN x.length) then
    (bif bif decide (0 ≤ i) then decide (i < zN x.length) else false then
      (Option.bind (Γ 116 [slMerge (x.getD i.toNat zMerge), nI a] []) fun r2 =>
      bif decide (asI r2.fst < 0) then
        (some (nI (-1), []))
      else
        (H P41 (S41 x (asI r2.fst) (IntKind.i64.wrap (i + 1)))))
    else
      (none))
  else
    (some (nI a, [])) := by kernel_rfl
theorem e187 (Γ : Orc) (H : Hd) (x : VMsg) (a : Int) : ent Tryz.prog cfg Γ 187 H [slMsg x, nI a] [] =
  bif decide (IntKind.i64.wrap (a - zN x.Text.size) < 0) then
    (some (nI (-1), []))
  else
    (some (nI (IntKind.i64.wrap (a - zN x.Text.size)), [])) := by kernel_rfl
theorem e245 (Γ : Orc) (H : Hd) (x : (List VMsg)) (a : Int) : ent Tryz.prog cfg Γ 245 H [slMsgS x, nI a] [] =
  bif decide (IntKind.i64.wrap (a - zN x.length) < 0) then
    (some (nI (-1), []))
  else
    (H P245 (S245 x (IntKind.i64.wrap (a - zN x.length)) 0)) := by kernel_rfl
theorem h245 (Γ : Orc) (H : Hd) (x : (List VMsg)) (a i : Int) : hed Tryz.prog cfg Γ 245 H [] P245 (S245 x a i) =
  bif decide (i < zN x.length) then
    (bif bif decide (0 ≤ i) then decide (i < zN x.length) else false then
      (Option.bind (Γ 187 [slMsg (x.getD i.toNat zMsg), nI a] []) fun r2 =>
      bif decide (asI r2.fst < 0) then
        (some (nI (-1), []))
      else
        (H P245 (S245 x (asI r2.fst) (IntKind.i64.wrap (i + 1)))))
    else
      (none))
  else
    (some (nI a, [])) := by kernel_rfl
theorem e111 (Γ : Orc) (H : Hd) (x : VNotify) (a : Int) : ent Tryz.prog cfg Γ 111 H [slNotify x, nI a] [] =
  Option.bind (Γ 108 [slIntS x.Line, nI a] []) fun r0 =>
  bif decide (asI r0.fst < 0) then
    (some (nI (-1), []))
  else
    (Option.bind (Γ 186 [slGrantS x.Grants, nI (asI r0.fst)] []) fun r2 =>
    bif decide (asI r2.fst < 0) then
      (some (nI (-1), []))
    else
      (some (nI (asI r2.fst), []))) := by kernel_rfl
theorem e36 (Γ : Orc) (H : Hd) (x : (List VNotify)) (a : Int) : ent Tryz.prog cfg Γ 36 H [slNotifyS x, nI a] [] =
  bif decide (IntKind.i64.wrap (a - zN x.length) < 0) then
    (some (nI (-1), []))
  else
    (H P36 (S36 x (IntKind.i64.wrap (a - zN x.length)) 0)) := by kernel_rfl
theorem h36 (Γ : Orc) (H : Hd) (x : (List VNotify)) (a i : Int) : hed Tryz.prog cfg Γ 36 H [] P36 (S36 x a i) =
  bif decide (i < zN x.length) then
    (bif bif decide (0 ≤ i) then decide (i < zN x.length) else false then
      (Option.bind (Γ 111 [slNotify (x.getD i.toNat zNotify), nI a] []) fun r2 =>
      bif decide (asI r2.fst < 0) then
        (some (nI (-1), []))
      else
        (H P36 (S36 x (asI r2.fst) (IntKind.i64.wrap (i + 1)))))
    else
      (none))
  else
    (some (nI a, [])) := by kernel_rfl
theorem e188 (Γ : Orc) (H : Hd) (x : VRing) (a : Int) : ent Tryz.prog cfg Γ 188 H [slRing x, nI a] [] =
  Option.bind (Γ 245 [slMsgS x.Items, nI a] []) fun r0 =>
  bif decide (asI r0.fst < 0) then
    (some (nI (-1), []))
  else
    (Option.bind (Γ 246 [slSubS x.Subs, nI (asI r0.fst)] []) fun r2 =>
    bif decide (asI r2.fst < 0) then
      (some (nI (-1), []))
    else
      (Option.bind (Γ 108 [slIntS x.Line, nI (asI r2.fst)] []) fun r4 =>
      bif decide (asI r4.fst < 0) then
        (some (nI (-1), []))
      else
        (Option.bind (Γ 108 [slIntS x.Grants, nI (asI r4.fst)] []) fun r6 =>
        bif decide (asI r6.fst < 0) then
          (some (nI (-1), []))
        else
          (some (nI (asI r6.fst), []))))) := by kernel_rfl
theorem e6 (Γ : Orc) (H : Hd) (x : VState) (a : Int) : ent Tryz.prog cfg Γ 6 H [slState x, nI a] [] =
  Option.bind (Γ 19 [slHub x.Hub, nI a] []) fun r0 =>
  bif decide (asI r0.fst < 0) then
    (some (nI (-1), []))
  else
    (Option.bind (Γ 20 [slClientS x.Clients, nI (asI r0.fst)] []) fun r2 =>
    bif decide (asI r2.fst < 0) then
      (some (nI (-1), []))
    else
      (some (nI (asI r2.fst), []))) := by kernel_rfl
theorem e270 (Γ : Orc) (H : Hd) (x : VSub) (a : Int) : ent Tryz.prog cfg Γ 270 H [slSub x, nI a] [] =
  Option.bind (Γ 247 [slTermS x.Filter, nI a] []) fun r0 =>
  bif decide (asI r0.fst < 0) then
    (some (nI (-1), []))
  else
    (some (nI (asI r0.fst), [])) := by kernel_rfl
theorem e246 (Γ : Orc) (H : Hd) (x : (List VSub)) (a : Int) : ent Tryz.prog cfg Γ 246 H [slSubS x, nI a] [] =
  bif decide (IntKind.i64.wrap (a - zN x.length) < 0) then
    (some (nI (-1), []))
  else
    (H P246 (S246 x (IntKind.i64.wrap (a - zN x.length)) 0)) := by kernel_rfl
theorem h246 (Γ : Orc) (H : Hd) (x : (List VSub)) (a i : Int) : hed Tryz.prog cfg Γ 246 H [] P246 (S246 x a i) =
  bif decide (i < zN x.length) then
    (bif bif decide (0 ≤ i) then decide (i < zN x.length) else false then
      (Option.bind (Γ 270 [slSub (x.getD i.toNat zSub), nI a] []) fun r2 =>
      bif decide (asI r2.fst < 0) then
        (some (nI (-1), []))
      else
        (H P246 (S246 x (asI r2.fst) (IntKind.i64.wrap (i + 1)))))
    else
      (none))
  else
    (some (nI a, [])) := by kernel_rfl
theorem e271 (Γ : Orc) (H : Hd) (x : VTerm) (a : Int) : ent Tryz.prog cfg Γ 271 H [slTerm x, nI a] [] =
  bif decide (IntKind.i64.wrap (a - zN x.Text.size) < 0) then
    (some (nI (-1), []))
  else
    (some (nI (IntKind.i64.wrap (a - zN x.Text.size)), [])) := by kernel_rfl
theorem e247 (Γ : Orc) (H : Hd) (x : (List VTerm)) (a : Int) : ent Tryz.prog cfg Γ 247 H [slTermS x, nI a] [] =
  bif decide (IntKind.i64.wrap (a - zN x.length) < 0) then
    (some (nI (-1), []))
  else
    (H P247 (S247 x (IntKind.i64.wrap (a - zN x.length)) 0)) := by kernel_rfl
theorem h247 (Γ : Orc) (H : Hd) (x : (List VTerm)) (a i : Int) : hed Tryz.prog cfg Γ 247 H [] P247 (S247 x a i) =
  bif decide (i < zN x.length) then
    (bif bif decide (0 ≤ i) then decide (i < zN x.length) else false then
      (Option.bind (Γ 271 [slTerm (x.getD i.toNat zTerm), nI a] []) fun r2 =>
      bif decide (asI r2.fst < 0) then
        (some (nI (-1), []))
      else
        (H P247 (S247 x (asI r2.fst) (IntKind.i64.wrap (i + 1)))))
    else
      (none))
  else
    (some (nI a, [])) := by kernel_rfl
theorem e110 (Γ : Orc) (H : Hd) (x : (List VTimer)) (a : Int) : ent Tryz.prog cfg Γ 110 H [slTimerS x, nI a] [] =
  bif decide (IntKind.i64.wrap (a - zN x.length) < 0) then
    (some (nI (-1), []))
  else
    (some (nI (IntKind.i64.wrap (a - zN x.length)), [])) := by kernel_rfl
theorem e34 (Γ : Orc) (H : Hd) (x : VTokens) (a : Int) : ent Tryz.prog cfg Γ 34 H [slTokens x, nI a] [] =
  Option.bind (Γ 108 [slIntS x.Parents, nI a] []) fun r0 =>
  bif decide (asI r0.fst < 0) then
    (some (nI (-1), []))
  else
    (Option.bind (Γ 109 [slBoolS x.Off, nI (asI r0.fst)] []) fun r2 =>
    bif decide (asI r2.fst < 0) then
      (some (nI (-1), []))
    else
      (some (nI (asI r2.fst), []))) := by kernel_rfl
theorem e115 (Γ : Orc) (H : Hd) (x : VTopic) (a : Int) : ent Tryz.prog cfg Γ 115 H [slTopic x, nI a] [] =
  bif decide (IntKind.i64.wrap (a - zN x.Name.size) < 0) then
    (some (nI (-1), []))
  else
    (Option.bind (Γ 188 [slRing x.Ring, nI (IntKind.i64.wrap (a - zN x.Name.size))] []) fun r1 =>
    bif decide (asI r1.fst < 0) then
      (some (nI (-1), []))
    else
      (some (nI (asI r1.fst), []))) := by kernel_rfl
theorem e40 (Γ : Orc) (H : Hd) (x : (List VTopic)) (a : Int) : ent Tryz.prog cfg Γ 40 H [slTopicS x, nI a] [] =
  bif decide (IntKind.i64.wrap (a - zN x.length) < 0) then
    (some (nI (-1), []))
  else
    (H P40 (S40 x (IntKind.i64.wrap (a - zN x.length)) 0)) := by kernel_rfl
theorem h40 (Γ : Orc) (H : Hd) (x : (List VTopic)) (a i : Int) : hed Tryz.prog cfg Γ 40 H [] P40 (S40 x a i) =
  bif decide (i < zN x.length) then
    (bif bif decide (0 ≤ i) then decide (i < zN x.length) else false then
      (Option.bind (Γ 115 [slTopic (x.getD i.toNat zTopic), nI a] []) fun r2 =>
      bif decide (asI r2.fst < 0) then
        (some (nI (-1), []))
      else
        (H P40 (S40 x (asI r2.fst) (IntKind.i64.wrap (i + 1)))))
    else
      (none))
  else
    (some (nI a, [])) := by kernel_rfl
theorem e117 (Γ : Orc) (H : Hd) (x : VUser) (a : Int) : ent Tryz.prog cfg Γ 117 H [slUser x, nI a] [] =
  Option.bind (Γ 190 [slHitS x.Subs, nI a] []) fun r0 =>
  bif decide (asI r0.fst < 0) then
    (some (nI (-1), []))
  else
    (Option.bind (Γ 108 [slIntS x.Seen, nI (asI r0.fst)] []) fun r2 =>
    bif decide (asI r2.fst < 0) then
      (some (nI (-1), []))
    else
      (some (nI (asI r2.fst), []))) := by kernel_rfl
theorem e42 (Γ : Orc) (H : Hd) (x : (List VUser)) (a : Int) : ent Tryz.prog cfg Γ 42 H [slUserS x, nI a] [] =
  bif decide (IntKind.i64.wrap (a - zN x.length) < 0) then
    (some (nI (-1), []))
  else
    (H P42 (S42 x (IntKind.i64.wrap (a - zN x.length)) 0)) := by kernel_rfl
theorem h42 (Γ : Orc) (H : Hd) (x : (List VUser)) (a i : Int) : hed Tryz.prog cfg Γ 42 H [] P42 (S42 x a i) =
  bif decide (i < zN x.length) then
    (bif bif decide (0 ≤ i) then decide (i < zN x.length) else false then
      (Option.bind (Γ 117 [slUser (x.getD i.toNat zUser), nI a] []) fun r2 =>
      bif decide (asI r2.fst < 0) then
        (some (nI (-1), []))
      else
        (H P42 (S42 x (asI r2.fst) (IntKind.i64.wrap (i + 1)))))
    else
      (none))
  else
    (some (nI a, [])) := by kernel_rfl
theorem e130 (Γ : Orc) (H : Hd) (x : (List Bool)) : ent Tryz.prog cfg Γ 130 H [slBoolS x] [] =
  bif decide (zN x.length ≤ 4294967296) && decide (zN x.length ≤ zN x.length) && true && true && true then
    (H [true, true, false, true] (hdS [(0, slBoolS x), (3, AV.rf 290816), (4, nI 0)] [(290816, ⟨(zN x.length).toNat, 1, fun i => lstG [AV.B false]⟩)] []))
  else
    (none) := by kernel_rfl
theorem h130 (Γ : Orc) (H : Hd) (x : (List Bool)) (os : (List Bool)) (i : Int) : hed Tryz.prog cfg Γ 130 H [] P130 (S130 x os i) =
  bif decide (i < zN x.length) then
    (bif bif decide (0 ≤ i) then decide (i < zN x.length) else false then
      (bif bif decide (0 ≤ i) then decide (i < zN os.length) else false then
        (H [true, true, false, true] (hdS [(0, slBoolS x), (3, AV.rf 290816), (4, nI (IntKind.i64.wrap (i + 1)))] [(290816, ⟨os.length, 1, fun i_1 => lstG [AV.B (bif decide (i_1 = i.toNat) then x.getD i.toNat false else os.getD i_1 false)]⟩)] []))
      else
        (none))
    else
      (none))
  else
    (bif okT then
      (some (owBoolS os, []))
    else
      (none)) := by kernel_rfl
theorem e210 (Γ : Orc) (H : Hd) (x : VCall) : ent Tryz.prog cfg Γ 210 H [slCall x] [] =
  Option.bind (Γ 206 [slMsg x.Msg] []) fun r0 =>
  Option.bind (Γ 253 [slTermS x.Filter] []) fun r1 =>
  bif bif okT then true else false then
    (some (AV.ag 9 (lstG [nI x.Op, nI x.A, nI x.B, nI x.Tok, AV.S x.Name, nI (asI (asA r0.fst 0)), nI (asI (asA r0.fst 1)), AV.S (asS (asA r0.fst 2)), vowMsgS r1.fst]), []))
  else
    (none) := by kernel_rfl
theorem e139 (Γ : Orc) (H : Hd) (x : (List VCall)) : ent Tryz.prog cfg Γ 139 H [slCallS x] [] =
  bif decide (zN x.length ≤ 4294967296) && decide (zN x.length ≤ zN x.length) && true && true && true then
    (H [true, true, false, true] (hdS [(0, slCallS x), (3, AV.rf 290816), (4, nI 0)] [(290816, ⟨(zN x.length).toNat, 9, fun i => lstG [nI 0, nI 0, nI 0, nI 0, AV.S ByteArray.empty, nI 0, nI 0, AV.S ByteArray.empty, AV.own 0 3 fun i => lstG [nI 0, nI 0, AV.S ByteArray.empty]]⟩)] []))
  else
    (none) := by kernel_rfl
theorem h139 (Γ : Orc) (H : Hd) (x : (List VCall)) (os : (List VCall)) (i : Int) : hed Tryz.prog cfg Γ 139 H [] P139 (S139 x os i) =
  bif decide (i < zN x.length) then
    (bif bif decide (0 ≤ i) then decide (i < zN x.length) else false then
      (Option.bind (Γ 210 [slCall (x.getD i.toNat zCall)] []) fun r2 =>
      bif bif decide (0 ≤ i) then decide (i < zN os.length) else false then
        (H [true, true, false, true] (hdS [(0, slCallS x), (3, AV.rf 290816), (4, nI (IntKind.i64.wrap (i + 1)))] [(290816, ⟨os.length, 9, fun i_1 => lstG [nI (bif decide (i_1 = i.toNat) then asI (asA r2.fst 0) else (os.getD i_1 zCall).Op), nI (bif decide (i_1 = i.toNat) then asI (asA r2.fst 1) else (os.getD i_1 zCall).A), nI (bif decide (i_1 = i.toNat) then asI (asA r2.fst 2) else (os.getD i_1 zCall).B), nI (bif decide (i_1 = i.toNat) then asI (asA r2.fst 3) else (os.getD i_1 zCall).Tok), AV.S (bif decide (i_1 = i.toNat) then asS (asA r2.fst 4) else (os.getD i_1 zCall).Name), nI (bif decide (i_1 = i.toNat) then asI (asA r2.fst 5) else (os.getD i_1 zCall).Msg.Kind), nI (bif decide (i_1 = i.toNat) then asI (asA r2.fst 6) else (os.getD i_1 zCall).Msg.Num), AV.S (bif decide (i_1 = i.toNat) then asS (asA r2.fst 7) else (os.getD i_1 zCall).Msg.Text), AV.own (bif decide (i_1 = i.toNat) then asN (asA r2.fst 8) else (os.getD i_1 zCall).Filter.length) 3 fun i_2 => lstG [nI (bif decide (i_1 = i.toNat) then asI (asG (asA r2.fst 8) i_2 0) else ((os.getD i_1 zCall).Filter.getD i_2 zTerm).Op), nI (bif decide (i_1 = i.toNat) then asI (asG (asA r2.fst 8) i_2 1) else ((os.getD i_1 zCall).Filter.getD i_2 zTerm).Num), AV.S (bif decide (i_1 = i.toNat) then asS (asG (asA r2.fst 8) i_2 2) else ((os.getD i_1 zCall).Filter.getD i_2 zTerm).Text)]]⟩)] []))
      else
        (none))
    else
      (none))
  else
    (bif okU then
      (some (owCallS os, []))
    else
      (none)) := by kernel_rfl
theorem e135 (Γ : Orc) (H : Hd) (x : VCell) : ent Tryz.prog cfg Γ 135 H [slCell x] [] =
  Option.bind (Γ 206 [slMsg x.Val] []) fun r0 =>
  Option.bind (Γ 129 [slIntS x.Line] []) fun r1 =>
  Option.bind (Γ 129 [slIntS x.Grants] []) fun r2 =>
  bif bif okT then bif okT then true else false else false then
    (some (AV.ag 7 (lstG [nI (asI (asA r0.fst 0)), nI (asI (asA r0.fst 1)), AV.S (asS (asA r0.fst 2)), nI x.Version, AV.B x.Closed, vowIntS r1.fst, vowIntS r2.fst]), []))
  else
    (none) := by kernel_rfl
theorem e57 (Γ : Orc) (H : Hd) (x : (List VCell)) : ent Tryz.prog cfg Γ 57 H [slCellS x] [] =
  bif decide (zN x.length ≤ 4294967296) && decide (zN x.length ≤ zN x.length) && true && true && true then
    (H [true, true, false, true] (hdS [(0, slCellS x), (3, AV.rf 290816), (4, nI 0)] [(290816, ⟨(zN x.length).toNat, 7, fun i => lstG [nI 0, nI 0, AV.S ByteArray.empty, nI 0, AV.B false, AV.own 0 1 fun i => lstG [nI 0], AV.own 0 1 fun i => lstG [nI 0]]⟩)] []))
  else
    (none) := by kernel_rfl
theorem h57 (Γ : Orc) (H : Hd) (x : (List VCell)) (os : (List VCell)) (i : Int) : hed Tryz.prog cfg Γ 57 H [] P57 (S57 x os i) =
  bif decide (i < zN x.length) then
    (bif bif decide (0 ≤ i) then decide (i < zN x.length) else false then
      (Option.bind (Γ 135 [slCell (x.getD i.toNat zCell)] []) fun r2 =>
      bif bif decide (0 ≤ i) then decide (i < zN os.length) else false then
        (H [true, true, false, true] (hdS [(0, slCellS x), (3, AV.rf 290816), (4, nI (IntKind.i64.wrap (i + 1)))] [(290816, ⟨os.length, 7, fun i_1 => lstG [nI (bif decide (i_1 = i.toNat) then asI (asA r2.fst 0) else (os.getD i_1 zCell).Val.Kind), nI (bif decide (i_1 = i.toNat) then asI (asA r2.fst 1) else (os.getD i_1 zCell).Val.Num), AV.S (bif decide (i_1 = i.toNat) then asS (asA r2.fst 2) else (os.getD i_1 zCell).Val.Text), nI (bif decide (i_1 = i.toNat) then asI (asA r2.fst 3) else (os.getD i_1 zCell).Version), AV.B (bif decide (i_1 = i.toNat) then asB (asA r2.fst 4) else (os.getD i_1 zCell).Closed), AV.own (bif decide (i_1 = i.toNat) then asN (asA r2.fst 5) else (os.getD i_1 zCell).Line.length) 1 fun i_2 => lstG [nI (bif decide (i_1 = i.toNat) then asI (asG (asA r2.fst 5) i_2 0) else (os.getD i_1 zCell).Line.getD i_2 0)], AV.own (bif decide (i_1 = i.toNat) then asN (asA r2.fst 6) else (os.getD i_1 zCell).Grants.length) 1 fun i_2 => lstG [nI (bif decide (i_1 = i.toNat) then asI (asG (asA r2.fst 6) i_2 0) else (os.getD i_1 zCell).Grants.getD i_2 0)]]⟩)] []))
      else
        (none))
    else
      (none))
  else
    (bif okD (bif okT then bif okT then true else false else false) then
      (some (AV.own os.length 7 fun i => lstG [nI (os.getD i zCell).Val.Kind, nI (os.getD i zCell).Val.Num, AV.S (os.getD i zCell).Val.Text, nI (os.getD i zCell).Version, AV.B (os.getD i zCell).Closed, AV.own (os.getD i zCell).Line.length 1 (gI (os.getD i zCell).Line), AV.own (os.getD i zCell).Grants.length 1 (gI (os.getD i zCell).Grants)], []))
    else
      (none)) := by kernel_rfl
theorem e61 (Γ : Orc) (H : Hd) (x : VClient) : ent Tryz.prog cfg Γ 61 H [slClient x] [] =
  Option.bind (Γ 139 [slCallS x.Prog] []) fun r0 =>
  bif bif okU then true else false then
    (some (AV.ag 3 (lstG [AV.own (asN r0.fst) 9 fun i => lstG [nI (asI (asG r0.fst i 0)), nI (asI (asG r0.fst i 1)), nI (asI (asG r0.fst i 2)), nI (asI (asG r0.fst i 3)), AV.S (asS (asG r0.fst i 4)), nI (asI (asG r0.fst i 5)), nI (asI (asG r0.fst i 6)), AV.S (asS (asG r0.fst i 7)), vowMsgS (asG r0.fst i 8)], nI x.At, AV.B x.Waiting]), []))
  else
    (none) := by kernel_rfl
theorem e26 (Γ : Orc) (H : Hd) (x : (List VClient)) : ent Tryz.prog cfg Γ 26 H [slClientS x] [] =
  bif decide (zN x.length ≤ 4294967296) && decide (zN x.length ≤ zN x.length) && true && true && true then
    (H [true, true, false, true] (hdS [(0, slClientS x), (3, AV.rf 290816), (4, nI 0)] [(290816, ⟨(zN x.length).toNat, 3, fun i => lstG [AV.own 0 9 fun i => lstG [nI 0, nI 0, nI 0, nI 0, AV.S ByteArray.empty, nI 0, nI 0, AV.S ByteArray.empty, AV.own 0 3 fun i => lstG [nI 0, nI 0, AV.S ByteArray.empty]], nI 0, AV.B false]⟩)] []))
  else
    (none) := by kernel_rfl
theorem h26 (Γ : Orc) (H : Hd) (x : (List VClient)) (os : (List VClient)) (i : Int) : hed Tryz.prog cfg Γ 26 H [] P26 (S26 x os i) =
  bif decide (i < zN x.length) then
    (bif bif decide (0 ≤ i) then decide (i < zN x.length) else false then
      (Option.bind (Γ 61 [slClient (x.getD i.toNat zClient)] []) fun r2 =>
      bif bif decide (0 ≤ i) then decide (i < zN os.length) else false then
        (H [true, true, false, true] (hdS [(0, slClientS x), (3, AV.rf 290816), (4, nI (IntKind.i64.wrap (i + 1)))] [(290816, ⟨os.length, 3, fun i_1 => lstG [AV.own (bif decide (i_1 = i.toNat) then asN (asA r2.fst 0) else (os.getD i_1 zClient).Prog.length) 9 fun i_2 => lstG [nI (bif decide (i_1 = i.toNat) then asI (asG (asA r2.fst 0) i_2 0) else ((os.getD i_1 zClient).Prog.getD i_2 zCall).Op), nI (bif decide (i_1 = i.toNat) then asI (asG (asA r2.fst 0) i_2 1) else ((os.getD i_1 zClient).Prog.getD i_2 zCall).A), nI (bif decide (i_1 = i.toNat) then asI (asG (asA r2.fst 0) i_2 2) else ((os.getD i_1 zClient).Prog.getD i_2 zCall).B), nI (bif decide (i_1 = i.toNat) then asI (asG (asA r2.fst 0) i_2 3) else ((os.getD i_1 zClient).Prog.getD i_2 zCall).Tok), AV.S (bif decide (i_1 = i.toNat) then asS (asG (asA r2.fst 0) i_2 4) else ((os.getD i_1 zClient).Prog.getD i_2 zCall).Name), nI (bif decide (i_1 = i.toNat) then asI (asG (asA r2.fst 0) i_2 5) else ((os.getD i_1 zClient).Prog.getD i_2 zCall).Msg.Kind), nI (bif decide (i_1 = i.toNat) then asI (asG (asA r2.fst 0) i_2 6) else ((os.getD i_1 zClient).Prog.getD i_2 zCall).Msg.Num), AV.S (bif decide (i_1 = i.toNat) then asS (asG (asA r2.fst 0) i_2 7) else ((os.getD i_1 zClient).Prog.getD i_2 zCall).Msg.Text), AV.own (bif decide (i_1 = i.toNat) then asN (asG (asA r2.fst 0) i_2 8) else ((os.getD i_1 zClient).Prog.getD i_2 zCall).Filter.length) 3 fun i_3 => lstG [nI (bif decide (i_1 = i.toNat) then asI (asG (asG (asA r2.fst 0) i_2 8) i_3 0) else (((os.getD i_1 zClient).Prog.getD i_2 zCall).Filter.getD i_3 zTerm).Op), nI (bif decide (i_1 = i.toNat) then asI (asG (asG (asA r2.fst 0) i_2 8) i_3 1) else (((os.getD i_1 zClient).Prog.getD i_2 zCall).Filter.getD i_3 zTerm).Num), AV.S (bif decide (i_1 = i.toNat) then asS (asG (asG (asA r2.fst 0) i_2 8) i_3 2) else (((os.getD i_1 zClient).Prog.getD i_2 zCall).Filter.getD i_3 zTerm).Text)]], nI (bif decide (i_1 = i.toNat) then asI (asA r2.fst 1) else (os.getD i_1 zClient).At), AV.B (bif decide (i_1 = i.toNat) then asB (asA r2.fst 2) else (os.getD i_1 zClient).Waiting)]⟩)] []))
      else
        (none))
    else
      (none))
  else
    (bif okV then
      (some (owClientS os, []))
    else
      (none)) := by kernel_rfl
theorem e53 (Γ : Orc) (H : Hd) (x : VClock) : ent Tryz.prog cfg Γ 53 H [slClock x] [] =
  Option.bind (Γ 131 [slTimerS x.Timers] []) fun r0 =>
  bif bif okT then true else false then
    (some (AV.ag 2 (lstG [nI x.Now, vowTimerS r0.fst]), []))
  else
    (none) := by kernel_rfl
theorem e133 (Γ : Orc) (H : Hd) (x : VEvent) : ent Tryz.prog cfg Γ 133 H [slEvent x] [] =
  Option.bind (Γ 129 [slIntS x.Line] []) fun r0 =>
  Option.bind (Γ 129 [slIntS x.Grants] []) fun r1 =>
  bif bif okT then bif okT then true else false else false then
    (some (AV.ag 7 (lstG [AV.B x.Auto, AV.B x.Up, vowIntS r0.fst, vowIntS r1.fst, nI x.Sets, nI x.Spilt, nI x.Taken]), []))
  else
    (none) := by kernel_rfl
theorem e55 (Γ : Orc) (H : Hd) (x : (List VEvent)) : ent Tryz.prog cfg Γ 55 H [slEventS x] [] =
  bif decide (zN x.length ≤ 4294967296) && decide (zN x.length ≤ zN x.length) && true && true && true then
    (H [true, true, false, true] (hdS [(0, slEventS x), (3, AV.rf 290816), (4, nI 0)] [(290816, ⟨(zN x.length).toNat, 7, fun i => lstG [AV.B false, AV.B false, AV.own 0 1 fun i => lstG [nI 0], AV.own 0 1 fun i => lstG [nI 0], nI 0, nI 0, nI 0]⟩)] []))
  else
    (none) := by kernel_rfl
theorem h55 (Γ : Orc) (H : Hd) (x : (List VEvent)) (os : (List VEvent)) (i : Int) : hed Tryz.prog cfg Γ 55 H [] P55 (S55 x os i) =
  bif decide (i < zN x.length) then
    (bif bif decide (0 ≤ i) then decide (i < zN x.length) else false then
      (Option.bind (Γ 133 [slEvent (x.getD i.toNat zEvent)] []) fun r2 =>
      bif bif decide (0 ≤ i) then decide (i < zN os.length) else false then
        (H [true, true, false, true] (hdS [(0, slEventS x), (3, AV.rf 290816), (4, nI (IntKind.i64.wrap (i + 1)))] [(290816, ⟨os.length, 7, fun i_1 => lstG [AV.B (bif decide (i_1 = i.toNat) then asB (asA r2.fst 0) else (os.getD i_1 zEvent).Auto), AV.B (bif decide (i_1 = i.toNat) then asB (asA r2.fst 1) else (os.getD i_1 zEvent).Up), AV.own (bif decide (i_1 = i.toNat) then asN (asA r2.fst 2) else (os.getD i_1 zEvent).Line.length) 1 fun i_2 => lstG [nI (bif decide (i_1 = i.toNat) then asI (asG (asA r2.fst 2) i_2 0) else (os.getD i_1 zEvent).Line.getD i_2 0)], AV.own (bif decide (i_1 = i.toNat) then asN (asA r2.fst 3) else (os.getD i_1 zEvent).Grants.length) 1 fun i_2 => lstG [nI (bif decide (i_1 = i.toNat) then asI (asG (asA r2.fst 3) i_2 0) else (os.getD i_1 zEvent).Grants.getD i_2 0)], nI (bif decide (i_1 = i.toNat) then asI (asA r2.fst 4) else (os.getD i_1 zEvent).Sets), nI (bif decide (i_1 = i.toNat) then asI (asA r2.fst 5) else (os.getD i_1 zEvent).Spilt), nI (bif decide (i_1 = i.toNat) then asI (asA r2.fst 6) else (os.getD i_1 zEvent).Taken)]⟩)] []))
      else
        (none))
    else
      (none))
  else
    (bif okD (bif okT then bif okT then true else false else false) then
      (some (AV.own os.length 7 fun i => lstG [AV.B (os.getD i zEvent).Auto, AV.B (os.getD i zEvent).Up, AV.own (os.getD i zEvent).Line.length 1 (gI (os.getD i zEvent).Line), AV.own (os.getD i zEvent).Grants.length 1 (gI (os.getD i zEvent).Grants), nI (os.getD i zEvent).Sets, nI (os.getD i zEvent).Spilt, nI (os.getD i zEvent).Taken], []))
    else
      (none)) := by kernel_rfl
theorem e248 (Γ : Orc) (H : Hd) (x : VGrant) : ent Tryz.prog cfg Γ 248 H [slGrant x] [] =
  some (slGrant x, []) := by kernel_rfl
theorem e205 (Γ : Orc) (H : Hd) (x : (List VGrant)) : ent Tryz.prog cfg Γ 205 H [slGrantS x] [] =
  bif decide (zN x.length ≤ 4294967296) && decide (zN x.length ≤ zN x.length) && true && true && true then
    (H [true, true, false, true] (hdS [(0, slGrantS x), (3, AV.rf 290816), (4, nI 0)] [(290816, ⟨(zN x.length).toNat, 2, fun i => lstG [nI 0, AV.B false]⟩)] []))
  else
    (none) := by kernel_rfl
theorem h205 (Γ : Orc) (H : Hd) (x : (List VGrant)) (os : (List VGrant)) (i : Int) : hed Tryz.prog cfg Γ 205 H [] P205 (S205 x os i) =
  bif decide (i < zN x.length) then
    (bif bif decide (0 ≤ i) then decide (i < zN x.length) else false then
      (Option.bind (Γ 248 [slGrant (x.getD i.toNat zGrant)] []) fun r2 =>
      bif bif decide (0 ≤ i) then decide (i < zN os.length) else false then
        (H [true, true, false, true] (hdS [(0, slGrantS x), (3, AV.rf 290816), (4, nI (IntKind.i64.wrap (i + 1)))] [(290816, ⟨os.length, 2, fun i_1 => lstG [nI (bif decide (i_1 = i.toNat) then asI (asA r2.fst 0) else (os.getD i_1 zGrant).Who), AV.B (bif decide (i_1 = i.toNat) then asB (asA r2.fst 1) else (os.getD i_1 zGrant).One)]⟩)] []))
      else
        (none))
    else
      (none))
  else
    (bif okT then
      (some (owGrantS os, []))
    else
      (none)) := by kernel_rfl
theorem e252 (Γ : Orc) (H : Hd) (x : VHit) : ent Tryz.prog cfg Γ 252 H [slHit x] [] =
  some (slHit x, []) := by kernel_rfl
theorem e209 (Γ : Orc) (H : Hd) (x : (List VHit)) : ent Tryz.prog cfg Γ 209 H [slHitS x] [] =
  bif decide (zN x.length ≤ 4294967296) && decide (zN x.length ≤ zN x.length) && true && true && true then
    (H [true, true, false, true] (hdS [(0, slHitS x), (3, AV.rf 290816), (4, nI 0)] [(290816, ⟨(zN x.length).toNat, 2, fun i => lstG [nI 0, nI 0]⟩)] []))
  else
    (none) := by kernel_rfl
theorem h209 (Γ : Orc) (H : Hd) (x : (List VHit)) (os : (List VHit)) (i : Int) : hed Tryz.prog cfg Γ 209 H [] P209 (S209 x os i) =
  bif decide (i < zN x.length) then
    (bif bif decide (0 ≤ i) then decide (i < zN x.length) else false then
      (Option.bind (Γ 252 [slHit (x.getD i.toNat zHit)] []) fun r2 =>
      bif bif decide (0 ≤ i) then decide (i < zN os.length) else false then
        (H [true, true, false, true] (hdS [(0, slHitS x), (3, AV.rf 290816), (4, nI (IntKind.i64.wrap (i + 1)))] [(290816, ⟨os.length, 2, fun i_1 => lstG [nI (bif decide (i_1 = i.toNat) then asI (asA r2.fst 0) else (os.getD i_1 zHit).Topic), nI (bif decide (i_1 = i.toNat) then asI (asA r2.fst 1) else (os.getD i_1 zHit).Id)]⟩)] []))
      else
        (none))
    else
      (none))
  else
    (bif okT then
      (some (owHitS os, []))
    else
      (none)) := by kernel_rfl
theorem e25 (Γ : Orc) (H : Hd) (x : VHub) : ent Tryz.prog cfg Γ 25 H [slHub x] [] =
  Option.bind (Γ 52 [slTokens x.Tokens] []) fun r0 =>
  Option.bind (Γ 53 [slClock x.Clock] []) fun r1 =>
  Option.bind (Γ 54 [slNotifyS x.Notes] []) fun r2 =>
  Option.bind (Γ 55 [slEventS x.Events] []) fun r3 =>
  Option.bind (Γ 56 [slLatchS x.Latches] []) fun r4 =>
  Option.bind (Γ 57 [slCellS x.Cells] []) fun r5 =>
  Option.bind (Γ 58 [slTopicS x.Topics] []) fun r6 =>
  Option.bind (Γ 59 [slMergeS x.Merges] []) fun r7 =>
  Option.bind (Γ 60 [slUserS x.Users] []) fun r8 =>
  bif bif okT then bif okT then bif okT then bif okD (bif okT then bif okT then true else false else false) then bif okD (bif okT then bif okT then true else false else false) then bif okD (bif okT then bif okT then true else false else false) then bif okD (bif okT then bif okT then true else false else false) then bif okD (bif okT then bif okU then bif okT then bif okT then true else false else false else false else false) then bif okU then bif okD (bif okT then bif okT then true else false else false) then true else false else false else false else false else false else false else false else false else false else false then
    (some (AV.ag 11 (lstG [vowIntS (asA r0.fst 0), vowBoolS (asA r0.fst 1), nI (asI (asA r1.fst 0)), vowTimerS (asA r1.fst 1), vowNotifyS r2.fst, vowEventS r3.fst, vowLatchS r4.fst, vowCellS r5.fst, AV.own (asN r6.fst) 9 fun i => lstG [AV.S (asS (asG r6.fst i 0)), nI (asI (asG r6.fst i 1)), nI (asI (asG r6.fst i 2)), vowMsgS (asG r6.fst i 3), nI (asI (asG r6.fst i 4)), AV.own (asN (asG r6.fst i 5)) 7 fun i_1 => lstG [nI (asI (asG (asG r6.fst i 5) i_1 0)), nI (asI (asG (asG r6.fst i 5) i_1 1)), nI (asI (asG (asG r6.fst i 5) i_1 2)), nI (asI (asG (asG r6.fst i 5) i_1 3)), nI (asI (asG (asG r6.fst i 5) i_1 4)), nI (asI (asG (asG r6.fst i 5) i_1 5)), vowMsgS (asG (asG r6.fst i 5) i_1 6)], vowIntS (asG r6.fst i 6), vowIntS (asG r6.fst i 7), AV.B (asB (asG r6.fst i 8))], vowMergeS r7.fst, AV.own (asN r8.fst) 2 fun i => lstG [vowTimerS (asG r8.fst i 0), vowIntS (asG r8.fst i 1)]]), []))
  else
    (none) := by kernel_rfl
theorem e129 (Γ : Orc) (H : Hd) (x : (List Int)) : ent Tryz.prog cfg Γ 129 H [slIntS x] [] =
  bif decide (zN x.length ≤ 4294967296) && decide (zN x.length ≤ zN x.length) && true && true && true then
    (H [true, true, false, true] (hdS [(0, slIntS x), (3, AV.rf 290816), (4, nI 0)] [(290816, ⟨(zN x.length).toNat, 1, fun i => lstG [nI 0]⟩)] []))
  else
    (none) := by kernel_rfl
theorem h129 (Γ : Orc) (H : Hd) (x : (List Int)) (os : (List Int)) (i : Int) : hed Tryz.prog cfg Γ 129 H [] P129 (S129 x os i) =
  bif decide (i < zN x.length) then
    (bif bif decide (0 ≤ i) then decide (i < zN x.length) else false then
      (bif bif decide (0 ≤ i) then decide (i < zN os.length) else false then
        (H [true, true, false, true] (hdS [(0, slIntS x), (3, AV.rf 290816), (4, nI (IntKind.i64.wrap (i + 1)))] [(290816, ⟨os.length, 1, fun i_1 => lstG [nI (bif decide (i_1 = i.toNat) then x.getD i.toNat 0 else os.getD i_1 0)]⟩)] []))
      else
        (none))
    else
      (none))
  else
    (bif okT then
      (some (AV.own os.length 1 (gI os), []))
    else
      (none)) := by kernel_rfl
theorem e134 (Γ : Orc) (H : Hd) (x : VLatch) : ent Tryz.prog cfg Γ 134 H [slLatch x] [] =
  Option.bind (Γ 129 [slIntS x.Line] []) fun r0 =>
  Option.bind (Γ 129 [slIntS x.Grants] []) fun r1 =>
  bif bif okT then bif okT then true else false else false then
    (some (AV.ag 3 (lstG [nI x.Count, vowIntS r0.fst, vowIntS r1.fst]), []))
  else
    (none) := by kernel_rfl
theorem e56 (Γ : Orc) (H : Hd) (x : (List VLatch)) : ent Tryz.prog cfg Γ 56 H [slLatchS x] [] =
  bif decide (zN x.length ≤ 4294967296) && decide (zN x.length ≤ zN x.length) && true && true && true then
    (H [true, true, false, true] (hdS [(0, slLatchS x), (3, AV.rf 290816), (4, nI 0)] [(290816, ⟨(zN x.length).toNat, 3, fun i => lstG [nI 0, AV.own 0 1 fun i => lstG [nI 0], AV.own 0 1 fun i => lstG [nI 0]]⟩)] []))
  else
    (none) := by kernel_rfl
theorem h56 (Γ : Orc) (H : Hd) (x : (List VLatch)) (os : (List VLatch)) (i : Int) : hed Tryz.prog cfg Γ 56 H [] P56 (S56 x os i) =
  bif decide (i < zN x.length) then
    (bif bif decide (0 ≤ i) then decide (i < zN x.length) else false then
      (Option.bind (Γ 134 [slLatch (x.getD i.toNat zLatch)] []) fun r2 =>
      bif bif decide (0 ≤ i) then decide (i < zN os.length) else false then
        (H [true, true, false, true] (hdS [(0, slLatchS x), (3, AV.rf 290816), (4, nI (IntKind.i64.wrap (i + 1)))] [(290816, ⟨os.length, 3, fun i_1 => lstG [nI (bif decide (i_1 = i.toNat) then asI (asA r2.fst 0) else (os.getD i_1 zLatch).Count), AV.own (bif decide (i_1 = i.toNat) then asN (asA r2.fst 1) else (os.getD i_1 zLatch).Line.length) 1 fun i_2 => lstG [nI (bif decide (i_1 = i.toNat) then asI (asG (asA r2.fst 1) i_2 0) else (os.getD i_1 zLatch).Line.getD i_2 0)], AV.own (bif decide (i_1 = i.toNat) then asN (asA r2.fst 2) else (os.getD i_1 zLatch).Grants.length) 1 fun i_2 => lstG [nI (bif decide (i_1 = i.toNat) then asI (asG (asA r2.fst 2) i_2 0) else (os.getD i_1 zLatch).Grants.getD i_2 0)]]⟩)] []))
      else
        (none))
    else
      (none))
  else
    (bif okD (bif okT then bif okT then true else false else false) then
      (some (AV.own os.length 3 fun i => lstG [nI (os.getD i zLatch).Count, AV.own (os.getD i zLatch).Line.length 1 (gI (os.getD i zLatch).Line), AV.own (os.getD i zLatch).Grants.length 1 (gI (os.getD i zLatch).Grants)], []))
    else
      (none)) := by kernel_rfl
theorem e251 (Γ : Orc) (H : Hd) (x : VLeg) : ent Tryz.prog cfg Γ 251 H [slLeg x] [] =
  some (slLeg x, []) := by kernel_rfl
theorem e208 (Γ : Orc) (H : Hd) (x : (List VLeg)) : ent Tryz.prog cfg Γ 208 H [slLegS x] [] =
  bif decide (zN x.length ≤ 4294967296) && decide (zN x.length ≤ zN x.length) && true && true && true then
    (H [true, true, false, true] (hdS [(0, slLegS x), (3, AV.rf 290816), (4, nI 0)] [(290816, ⟨(zN x.length).toNat, 4, fun i => lstG [nI 0, nI 0, nI 0, AV.B false]⟩)] []))
  else
    (none) := by kernel_rfl
theorem h208 (Γ : Orc) (H : Hd) (x : (List VLeg)) (os : (List VLeg)) (i : Int) : hed Tryz.prog cfg Γ 208 H [] P208 (S208 x os i) =
  bif decide (i < zN x.length) then
    (bif bif decide (0 ≤ i) then decide (i < zN x.length) else false then
      (Option.bind (Γ 251 [slLeg (x.getD i.toNat zLeg)] []) fun r2 =>
      bif bif decide (0 ≤ i) then decide (i < zN os.length) else false then
        (H [true, true, false, true] (hdS [(0, slLegS x), (3, AV.rf 290816), (4, nI (IntKind.i64.wrap (i + 1)))] [(290816, ⟨os.length, 4, fun i_1 => lstG [nI (bif decide (i_1 = i.toNat) then asI (asA r2.fst 0) else (os.getD i_1 zLeg).Topic), nI (bif decide (i_1 = i.toNat) then asI (asA r2.fst 1) else (os.getD i_1 zLeg).Id), nI (bif decide (i_1 = i.toNat) then asI (asA r2.fst 2) else (os.getD i_1 zLeg).Lost), AV.B (bif decide (i_1 = i.toNat) then asB (asA r2.fst 3) else (os.getD i_1 zLeg).Over)]⟩)] []))
      else
        (none))
    else
      (none))
  else
    (bif okT then
      (some (owLegS os, []))
    else
      (none)) := by kernel_rfl
theorem e137 (Γ : Orc) (H : Hd) (x : VMerge) : ent Tryz.prog cfg Γ 137 H [slMerge x] [] =
  Option.bind (Γ 208 [slLegS x.Legs] []) fun r0 =>
  bif bif okT then true else false then
    (some (AV.ag 3 (lstG [vowLegS r0.fst, nI x.Into, nI x.Moved]), []))
  else
    (none) := by kernel_rfl
theorem e59 (Γ : Orc) (H : Hd) (x : (List VMerge)) : ent Tryz.prog cfg Γ 59 H [slMergeS x] [] =
  bif decide (zN x.length ≤ 4294967296) && decide (zN x.length ≤ zN x.length) && true && true && true then
    (H [true, true, false, true] (hdS [(0, slMergeS x), (3, AV.rf 290816), (4, nI 0)] [(290816, ⟨(zN x.length).toNat, 3, fun i => lstG [AV.own 0 4 fun i => lstG [nI 0, nI 0, nI 0, AV.B false], nI 0, nI 0]⟩)] []))
  else
    (none) := by kernel_rfl
theorem h59 (Γ : Orc) (H : Hd) (x : (List VMerge)) (os : (List VMerge)) (i : Int) : hed Tryz.prog cfg Γ 59 H [] P59 (S59 x os i) =
  bif decide (i < zN x.length) then
    (bif bif decide (0 ≤ i) then decide (i < zN x.length) else false then
      (Option.bind (Γ 137 [slMerge (x.getD i.toNat zMerge)] []) fun r2 =>
      bif bif decide (0 ≤ i) then decide (i < zN os.length) else false then
        (H [true, true, false, true] (hdS [(0, slMergeS x), (3, AV.rf 290816), (4, nI (IntKind.i64.wrap (i + 1)))] [(290816, ⟨os.length, 3, fun i_1 => lstG [AV.own (bif decide (i_1 = i.toNat) then asN (asA r2.fst 0) else (os.getD i_1 zMerge).Legs.length) 4 fun i_2 => lstG [nI (bif decide (i_1 = i.toNat) then asI (asG (asA r2.fst 0) i_2 0) else ((os.getD i_1 zMerge).Legs.getD i_2 zLeg).Topic), nI (bif decide (i_1 = i.toNat) then asI (asG (asA r2.fst 0) i_2 1) else ((os.getD i_1 zMerge).Legs.getD i_2 zLeg).Id), nI (bif decide (i_1 = i.toNat) then asI (asG (asA r2.fst 0) i_2 2) else ((os.getD i_1 zMerge).Legs.getD i_2 zLeg).Lost), AV.B (bif decide (i_1 = i.toNat) then asB (asG (asA r2.fst 0) i_2 3) else ((os.getD i_1 zMerge).Legs.getD i_2 zLeg).Over)], nI (bif decide (i_1 = i.toNat) then asI (asA r2.fst 1) else (os.getD i_1 zMerge).Into), nI (bif decide (i_1 = i.toNat) then asI (asA r2.fst 2) else (os.getD i_1 zMerge).Moved)]⟩)] []))
      else
        (none))
    else
      (none))
  else
    (bif okU then
      (some (owMergeS os, []))
    else
      (none)) := by kernel_rfl
theorem e206 (Γ : Orc) (H : Hd) (x : VMsg) : ent Tryz.prog cfg Γ 206 H [slMsg x] [] =
  some (slMsg x, []) := by kernel_rfl
theorem e249 (Γ : Orc) (H : Hd) (x : (List VMsg)) : ent Tryz.prog cfg Γ 249 H [slMsgS x] [] =
  bif decide (zN x.length ≤ 4294967296) && decide (zN x.length ≤ zN x.length) && true && true && true then
    (H [true, true, false, true] (hdS [(0, slMsgS x), (3, AV.rf 290816), (4, nI 0)] [(290816, ⟨(zN x.length).toNat, 3, fun i => lstG [nI 0, nI 0, AV.S ByteArray.empty]⟩)] []))
  else
    (none) := by kernel_rfl
theorem h249 (Γ : Orc) (H : Hd) (x : (List VMsg)) (os : (List VMsg)) (i : Int) : hed Tryz.prog cfg Γ 249 H [] P249 (S249 x os i) =
  bif decide (i < zN x.length) then
    (bif bif decide (0 ≤ i) then decide (i < zN x.length) else false then
      (Option.bind (Γ 206 [slMsg (x.getD i.toNat zMsg)] []) fun r2 =>
      bif bif decide (0 ≤ i) then decide (i < zN os.length) else false then
        (H [true, true, false, true] (hdS [(0, slMsgS x), (3, AV.rf 290816), (4, nI (IntKind.i64.wrap (i + 1)))] [(290816, ⟨os.length, 3, fun i_1 => lstG [nI (bif decide (i_1 = i.toNat) then asI (asA r2.fst 0) else (os.getD i_1 zMsg).Kind), nI (bif decide (i_1 = i.toNat) then asI (asA r2.fst 1) else (os.getD i_1 zMsg).Num), AV.S (bif decide (i_1 = i.toNat) then asS (asA r2.fst 2) else (os.getD i_1 zMsg).Text)]⟩)] []))
      else
        (none))
    else
      (none))
  else
    (bif okT then
      (some (owMsgS os, []))
    else
      (none)) := by kernel_rfl
theorem e132 (Γ : Orc) (H : Hd) (x : VNotify) : ent Tryz.prog cfg Γ 132 H [slNotify x] [] =
  Option.bind (Γ 129 [slIntS x.Line] []) fun r0 =>
  Option.bind (Γ 205 [slGrantS x.Grants] []) fun r1 =>
  bif bif okT then bif okT then true else false else false then
    (some (AV.ag 6 (lstG [AV.B x.Permit, vowIntS r0.fst, vowGrantS r1.fst, nI x.Ones, nI x.Spilt, nI x.Taken]), []))
  else
    (none) := by kernel_rfl
theorem e54 (Γ : Orc) (H : Hd) (x : (List VNotify)) : ent Tryz.prog cfg Γ 54 H [slNotifyS x] [] =
  bif decide (zN x.length ≤ 4294967296) && decide (zN x.length ≤ zN x.length) && true && true && true then
    (H [true, true, false, true] (hdS [(0, slNotifyS x), (3, AV.rf 290816), (4, nI 0)] [(290816, ⟨(zN x.length).toNat, 6, fun i => lstG [AV.B false, AV.own 0 1 fun i => lstG [nI 0], AV.own 0 2 fun i => lstG [nI 0, AV.B false], nI 0, nI 0, nI 0]⟩)] []))
  else
    (none) := by kernel_rfl
theorem h54 (Γ : Orc) (H : Hd) (x : (List VNotify)) (os : (List VNotify)) (i : Int) : hed Tryz.prog cfg Γ 54 H [] P54 (S54 x os i) =
  bif decide (i < zN x.length) then
    (bif bif decide (0 ≤ i) then decide (i < zN x.length) else false then
      (Option.bind (Γ 132 [slNotify (x.getD i.toNat zNotify)] []) fun r2 =>
      bif bif decide (0 ≤ i) then decide (i < zN os.length) else false then
        (H [true, true, false, true] (hdS [(0, slNotifyS x), (3, AV.rf 290816), (4, nI (IntKind.i64.wrap (i + 1)))] [(290816, ⟨os.length, 6, fun i_1 => lstG [AV.B (bif decide (i_1 = i.toNat) then asB (asA r2.fst 0) else (os.getD i_1 zNotify).Permit), AV.own (bif decide (i_1 = i.toNat) then asN (asA r2.fst 1) else (os.getD i_1 zNotify).Line.length) 1 fun i_2 => lstG [nI (bif decide (i_1 = i.toNat) then asI (asG (asA r2.fst 1) i_2 0) else (os.getD i_1 zNotify).Line.getD i_2 0)], AV.own (bif decide (i_1 = i.toNat) then asN (asA r2.fst 2) else (os.getD i_1 zNotify).Grants.length) 2 fun i_2 => lstG [nI (bif decide (i_1 = i.toNat) then asI (asG (asA r2.fst 2) i_2 0) else ((os.getD i_1 zNotify).Grants.getD i_2 zGrant).Who), AV.B (bif decide (i_1 = i.toNat) then asB (asG (asA r2.fst 2) i_2 1) else ((os.getD i_1 zNotify).Grants.getD i_2 zGrant).One)], nI (bif decide (i_1 = i.toNat) then asI (asA r2.fst 3) else (os.getD i_1 zNotify).Ones), nI (bif decide (i_1 = i.toNat) then asI (asA r2.fst 4) else (os.getD i_1 zNotify).Spilt), nI (bif decide (i_1 = i.toNat) then asI (asA r2.fst 5) else (os.getD i_1 zNotify).Taken)]⟩)] []))
      else
        (none))
    else
      (none))
  else
    (bif okD (bif okT then bif okT then true else false else false) then
      (some (AV.own os.length 6 fun i => lstG [AV.B (os.getD i zNotify).Permit, AV.own (os.getD i zNotify).Line.length 1 (gI (os.getD i zNotify).Line), owGrantS (os.getD i zNotify).Grants, nI (os.getD i zNotify).Ones, nI (os.getD i zNotify).Spilt, nI (os.getD i zNotify).Taken], []))
    else
      (none)) := by kernel_rfl
theorem e207 (Γ : Orc) (H : Hd) (x : VRing) : ent Tryz.prog cfg Γ 207 H [slRing x] [] =
  Option.bind (Γ 249 [slMsgS x.Items] []) fun r0 =>
  Option.bind (Γ 250 [slSubS x.Subs] []) fun r1 =>
  Option.bind (Γ 129 [slIntS x.Line] []) fun r2 =>
  Option.bind (Γ 129 [slIntS x.Grants] []) fun r3 =>
  bif bif okT then bif okU then bif okT then bif okT then true else false else false else false else false then
    (some (AV.ag 8 (lstG [nI x.Cap, nI x.Sent, vowMsgS r0.fst, nI x.Next, AV.own (asN r1.fst) 7 fun i => lstG [nI (asI (asG r1.fst i 0)), nI (asI (asG r1.fst i 1)), nI (asI (asG r1.fst i 2)), nI (asI (asG r1.fst i 3)), nI (asI (asG r1.fst i 4)), nI (asI (asG r1.fst i 5)), vowMsgS (asG r1.fst i 6)], vowIntS r2.fst, vowIntS r3.fst, AV.B x.Closed]), []))
  else
    (none) := by kernel_rfl
theorem e8 (Γ : Orc) (H : Hd) (x : VState) : ent Tryz.prog cfg Γ 8 H [slState x] [] =
  Option.bind (Γ 25 [slHub x.Hub] []) fun r0 =>
  Option.bind (Γ 26 [slClientS x.Clients] []) fun r1 =>
  bif bif okT then bif okT then bif okT then bif okD (bif okT then bif okT then true else false else false) then bif okD (bif okT then bif okT then true else false else false) then bif okD (bif okT then bif okT then true else false else false) then bif okD (bif okT then bif okT then true else false else false) then bif okD (bif okT then bif okU then bif okT then bif okT then true else false else false else false else false) then bif okU then bif okD (bif okT then bif okT then true else false else false) then bif okV then true else false else false else false else false else false else false else false else false else false else false else false then
    (some (AV.ag 12 (lstG [vowIntS (asA r0.fst 0), vowBoolS (asA r0.fst 1), nI (asI (asA r0.fst 2)), vowTimerS (asA r0.fst 3), vowNotifyS (asA r0.fst 4), vowEventS (asA r0.fst 5), vowLatchS (asA r0.fst 6), vowCellS (asA r0.fst 7), AV.own (asN (asA r0.fst 8)) 9 fun i => lstG [AV.S (asS (asG (asA r0.fst 8) i 0)), nI (asI (asG (asA r0.fst 8) i 1)), nI (asI (asG (asA r0.fst 8) i 2)), vowMsgS (asG (asA r0.fst 8) i 3), nI (asI (asG (asA r0.fst 8) i 4)), AV.own (asN (asG (asA r0.fst 8) i 5)) 7 fun i_1 => lstG [nI (asI (asG (asG (asA r0.fst 8) i 5) i_1 0)), nI (asI (asG (asG (asA r0.fst 8) i 5) i_1 1)), nI (asI (asG (asG (asA r0.fst 8) i 5) i_1 2)), nI (asI (asG (asG (asA r0.fst 8) i 5) i_1 3)), nI (asI (asG (asG (asA r0.fst 8) i 5) i_1 4)), nI (asI (asG (asG (asA r0.fst 8) i 5) i_1 5)), vowMsgS (asG (asG (asA r0.fst 8) i 5) i_1 6)], vowIntS (asG (asA r0.fst 8) i 6), vowIntS (asG (asA r0.fst 8) i 7), AV.B (asB (asG (asA r0.fst 8) i 8))], vowMergeS (asA r0.fst 9), AV.own (asN (asA r0.fst 10)) 2 fun i => lstG [vowTimerS (asG (asA r0.fst 10) i 0), vowIntS (asG (asA r0.fst 10) i 1)], AV.own (asN r1.fst) 3 fun i => lstG [AV.own (asN (asG r1.fst i 0)) 9 fun i_1 => lstG [nI (asI (asG (asG r1.fst i 0) i_1 0)), nI (asI (asG (asG r1.fst i 0) i_1 1)), nI (asI (asG (asG r1.fst i 0) i_1 2)), nI (asI (asG (asG r1.fst i 0) i_1 3)), AV.S (asS (asG (asG r1.fst i 0) i_1 4)), nI (asI (asG (asG r1.fst i 0) i_1 5)), nI (asI (asG (asG r1.fst i 0) i_1 6)), AV.S (asS (asG (asG r1.fst i 0) i_1 7)), vowMsgS (asG (asG r1.fst i 0) i_1 8)], nI (asI (asG r1.fst i 1)), AV.B (asB (asG r1.fst i 2))]]), []))
  else
    (none) := by kernel_rfl
theorem e272 (Γ : Orc) (H : Hd) (x : VSub) : ent Tryz.prog cfg Γ 272 H [slSub x] [] =
  Option.bind (Γ 253 [slTermS x.Filter] []) fun r0 =>
  bif bif okT then true else false then
    (some (AV.ag 7 (lstG [nI x.Id, nI x.Start, nI x.Cursor, nI x.Got, nI x.Lost, nI x.Passed, vowMsgS r0.fst]), []))
  else
    (none) := by kernel_rfl
theorem e250 (Γ : Orc) (H : Hd) (x : (List VSub)) : ent Tryz.prog cfg Γ 250 H [slSubS x] [] =
  bif decide (zN x.length ≤ 4294967296) && decide (zN x.length ≤ zN x.length) && true && true && true then
    (H [true, true, false, true] (hdS [(0, slSubS x), (3, AV.rf 290816), (4, nI 0)] [(290816, ⟨(zN x.length).toNat, 7, fun i => lstG [nI 0, nI 0, nI 0, nI 0, nI 0, nI 0, AV.own 0 3 fun i => lstG [nI 0, nI 0, AV.S ByteArray.empty]]⟩)] []))
  else
    (none) := by kernel_rfl
theorem h250 (Γ : Orc) (H : Hd) (x : (List VSub)) (os : (List VSub)) (i : Int) : hed Tryz.prog cfg Γ 250 H [] P250 (S250 x os i) =
  bif decide (i < zN x.length) then
    (bif bif decide (0 ≤ i) then decide (i < zN x.length) else false then
      (Option.bind (Γ 272 [slSub (x.getD i.toNat zSub)] []) fun r2 =>
      bif bif decide (0 ≤ i) then decide (i < zN os.length) else false then
        (H [true, true, false, true] (hdS [(0, slSubS x), (3, AV.rf 290816), (4, nI (IntKind.i64.wrap (i + 1)))] [(290816, ⟨os.length, 7, fun i_1 => lstG [nI (bif decide (i_1 = i.toNat) then asI (asA r2.fst 0) else (os.getD i_1 zSub).Id), nI (bif decide (i_1 = i.toNat) then asI (asA r2.fst 1) else (os.getD i_1 zSub).Start), nI (bif decide (i_1 = i.toNat) then asI (asA r2.fst 2) else (os.getD i_1 zSub).Cursor), nI (bif decide (i_1 = i.toNat) then asI (asA r2.fst 3) else (os.getD i_1 zSub).Got), nI (bif decide (i_1 = i.toNat) then asI (asA r2.fst 4) else (os.getD i_1 zSub).Lost), nI (bif decide (i_1 = i.toNat) then asI (asA r2.fst 5) else (os.getD i_1 zSub).Passed), AV.own (bif decide (i_1 = i.toNat) then asN (asA r2.fst 6) else (os.getD i_1 zSub).Filter.length) 3 fun i_2 => lstG [nI (bif decide (i_1 = i.toNat) then asI (asG (asA r2.fst 6) i_2 0) else ((os.getD i_1 zSub).Filter.getD i_2 zTerm).Op), nI (bif decide (i_1 = i.toNat) then asI (asG (asA r2.fst 6) i_2 1) else ((os.getD i_1 zSub).Filter.getD i_2 zTerm).Num), AV.S (bif decide (i_1 = i.toNat) then asS (asG (asA r2.fst 6) i_2 2) else ((os.getD i_1 zSub).Filter.getD i_2 zTerm).Text)]]⟩)] []))
      else
        (none))
    else
      (none))
  else
    (bif okU then
      (some (owSubS os, []))
    else
      (none)) := by kernel_rfl
theorem e273 (Γ : Orc) (H : Hd) (x : VTerm) : ent Tryz.prog cfg Γ 273 H [slTerm x] [] =
  some (slTerm x, []) := by kernel_rfl
theorem e253 (Γ : Orc) (H : Hd) (x : (List VTerm)) : ent Tryz.prog cfg Γ 253 H [slTermS x] [] =
  bif decide (zN x.length ≤ 4294967296) && decide (zN x.length ≤ zN x.length) && true && true && true then
    (H [true, true, false, true] (hdS [(0, slTermS x), (3, AV.rf 290816), (4, nI 0)] [(290816, ⟨(zN x.length).toNat, 3, fun i => lstG [nI 0, nI 0, AV.S ByteArray.empty]⟩)] []))
  else
    (none) := by kernel_rfl
theorem h253 (Γ : Orc) (H : Hd) (x : (List VTerm)) (os : (List VTerm)) (i : Int) : hed Tryz.prog cfg Γ 253 H [] P253 (S253 x os i) =
  bif decide (i < zN x.length) then
    (bif bif decide (0 ≤ i) then decide (i < zN x.length) else false then
      (Option.bind (Γ 273 [slTerm (x.getD i.toNat zTerm)] []) fun r2 =>
      bif bif decide (0 ≤ i) then decide (i < zN os.length) else false then
        (H [true, true, false, true] (hdS [(0, slTermS x), (3, AV.rf 290816), (4, nI (IntKind.i64.wrap (i + 1)))] [(290816, ⟨os.length, 3, fun i_1 => lstG [nI (bif decide (i_1 = i.toNat) then asI (asA r2.fst 0) else (os.getD i_1 zTerm).Op), nI (bif decide (i_1 = i.toNat) then asI (asA r2.fst 1) else (os.getD i_1 zTerm).Num), AV.S (bif decide (i_1 = i.toNat) then asS (asA r2.fst 2) else (os.getD i_1 zTerm).Text)]⟩)] []))
      else
        (none))
    else
      (none))
  else
    (bif okT then
      (some (owTermS os, []))
    else
      (none)) := by kernel_rfl
theorem e204 (Γ : Orc) (H : Hd) (x : VTimer) : ent Tryz.prog cfg Γ 204 H [slTimer x] [] =
  some (slTimer x, []) := by kernel_rfl
theorem e131 (Γ : Orc) (H : Hd) (x : (List VTimer)) : ent Tryz.prog cfg Γ 131 H [slTimerS x] [] =
  bif decide (zN x.length ≤ 4294967296) && decide (zN x.length ≤ zN x.length) && true && true && true then
    (H [true, true, false, true] (hdS [(0, slTimerS x), (3, AV.rf 290816), (4, nI 0)] [(290816, ⟨(zN x.length).toNat, 2, fun i => lstG [nI 0, nI 0]⟩)] []))
  else
    (none) := by kernel_rfl
theorem h131 (Γ : Orc) (H : Hd) (x : (List VTimer)) (os : (List VTimer)) (i : Int) : hed Tryz.prog cfg Γ 131 H [] P131 (S131 x os i) =
  bif decide (i < zN x.length) then
    (bif bif decide (0 ≤ i) then decide (i < zN x.length) else false then
      (Option.bind (Γ 204 [slTimer (x.getD i.toNat zTimer)] []) fun r2 =>
      bif bif decide (0 ≤ i) then decide (i < zN os.length) else false then
        (H [true, true, false, true] (hdS [(0, slTimerS x), (3, AV.rf 290816), (4, nI (IntKind.i64.wrap (i + 1)))] [(290816, ⟨os.length, 2, fun i_1 => lstG [nI (bif decide (i_1 = i.toNat) then asI (asA r2.fst 0) else (os.getD i_1 zTimer).At), nI (bif decide (i_1 = i.toNat) then asI (asA r2.fst 1) else (os.getD i_1 zTimer).Token)]⟩)] []))
      else
        (none))
    else
      (none))
  else
    (bif okT then
      (some (owTimerS os, []))
    else
      (none)) := by kernel_rfl
theorem e52 (Γ : Orc) (H : Hd) (x : VTokens) : ent Tryz.prog cfg Γ 52 H [slTokens x] [] =
  Option.bind (Γ 129 [slIntS x.Parents] []) fun r0 =>
  Option.bind (Γ 130 [slBoolS x.Off] []) fun r1 =>
  bif bif okT then bif okT then true else false else false then
    (some (AV.ag 2 (lstG [vowIntS r0.fst, vowBoolS r1.fst]), []))
  else
    (none) := by kernel_rfl
theorem e136 (Γ : Orc) (H : Hd) (x : VTopic) : ent Tryz.prog cfg Γ 136 H [slTopic x] [] =
  Option.bind (Γ 207 [slRing x.Ring] []) fun r0 =>
  bif bif okT then bif okU then bif okT then bif okT then true else false else false else false else false then
    (some (AV.ag 9 (lstG [AV.S x.Name, nI (asI (asA r0.fst 0)), nI (asI (asA r0.fst 1)), vowMsgS (asA r0.fst 2), nI (asI (asA r0.fst 3)), AV.own (asN (asA r0.fst 4)) 7 fun i => lstG [nI (asI (asG (asA r0.fst 4) i 0)), nI (asI (asG (asA r0.fst 4) i 1)), nI (asI (asG (asA r0.fst 4) i 2)), nI (asI (asG (asA r0.fst 4) i 3)), nI (asI (asG (asA r0.fst 4) i 4)), nI (asI (asG (asA r0.fst 4) i 5)), vowMsgS (asG (asA r0.fst 4) i 6)], vowIntS (asA r0.fst 5), vowIntS (asA r0.fst 6), AV.B (asB (asA r0.fst 7))]), []))
  else
    (none) := by kernel_rfl
theorem e58 (Γ : Orc) (H : Hd) (x : (List VTopic)) : ent Tryz.prog cfg Γ 58 H [slTopicS x] [] =
  bif decide (zN x.length ≤ 4294967296) && decide (zN x.length ≤ zN x.length) && true && true && true then
    (H [true, true, false, true] (hdS [(0, slTopicS x), (3, AV.rf 290816), (4, nI 0)] [(290816, ⟨(zN x.length).toNat, 9, fun i => lstG [AV.S ByteArray.empty, nI 0, nI 0, AV.own 0 3 fun i => lstG [nI 0, nI 0, AV.S ByteArray.empty], nI 0, AV.own 0 7 fun i => lstG [nI 0, nI 0, nI 0, nI 0, nI 0, nI 0, AV.own 0 3 fun i => lstG [nI 0, nI 0, AV.S ByteArray.empty]], AV.own 0 1 fun i => lstG [nI 0], AV.own 0 1 fun i => lstG [nI 0], AV.B false]⟩)] []))
  else
    (none) := by kernel_rfl
theorem h58 (Γ : Orc) (H : Hd) (x : (List VTopic)) (os : (List VTopic)) (i : Int) : hed Tryz.prog cfg Γ 58 H [] P58 (S58 x os i) =
  bif decide (i < zN x.length) then
    (bif bif decide (0 ≤ i) then decide (i < zN x.length) else false then
      (Option.bind (Γ 136 [slTopic (x.getD i.toNat zTopic)] []) fun r2 =>
      bif bif decide (0 ≤ i) then decide (i < zN os.length) else false then
        (H [true, true, false, true] (hdS [(0, slTopicS x), (3, AV.rf 290816), (4, nI (IntKind.i64.wrap (i + 1)))] [(290816, ⟨os.length, 9, fun i_1 => lstG [AV.S (bif decide (i_1 = i.toNat) then asS (asA r2.fst 0) else (os.getD i_1 zTopic).Name), nI (bif decide (i_1 = i.toNat) then asI (asA r2.fst 1) else (os.getD i_1 zTopic).Ring.Cap), nI (bif decide (i_1 = i.toNat) then asI (asA r2.fst 2) else (os.getD i_1 zTopic).Ring.Sent), AV.own (bif decide (i_1 = i.toNat) then asN (asA r2.fst 3) else (os.getD i_1 zTopic).Ring.Items.length) 3 fun i_2 => lstG [nI (bif decide (i_1 = i.toNat) then asI (asG (asA r2.fst 3) i_2 0) else ((os.getD i_1 zTopic).Ring.Items.getD i_2 zMsg).Kind), nI (bif decide (i_1 = i.toNat) then asI (asG (asA r2.fst 3) i_2 1) else ((os.getD i_1 zTopic).Ring.Items.getD i_2 zMsg).Num), AV.S (bif decide (i_1 = i.toNat) then asS (asG (asA r2.fst 3) i_2 2) else ((os.getD i_1 zTopic).Ring.Items.getD i_2 zMsg).Text)], nI (bif decide (i_1 = i.toNat) then asI (asA r2.fst 4) else (os.getD i_1 zTopic).Ring.Next), AV.own (bif decide (i_1 = i.toNat) then asN (asA r2.fst 5) else (os.getD i_1 zTopic).Ring.Subs.length) 7 fun i_2 => lstG [nI (bif decide (i_1 = i.toNat) then asI (asG (asA r2.fst 5) i_2 0) else ((os.getD i_1 zTopic).Ring.Subs.getD i_2 zSub).Id), nI (bif decide (i_1 = i.toNat) then asI (asG (asA r2.fst 5) i_2 1) else ((os.getD i_1 zTopic).Ring.Subs.getD i_2 zSub).Start), nI (bif decide (i_1 = i.toNat) then asI (asG (asA r2.fst 5) i_2 2) else ((os.getD i_1 zTopic).Ring.Subs.getD i_2 zSub).Cursor), nI (bif decide (i_1 = i.toNat) then asI (asG (asA r2.fst 5) i_2 3) else ((os.getD i_1 zTopic).Ring.Subs.getD i_2 zSub).Got), nI (bif decide (i_1 = i.toNat) then asI (asG (asA r2.fst 5) i_2 4) else ((os.getD i_1 zTopic).Ring.Subs.getD i_2 zSub).Lost), nI (bif decide (i_1 = i.toNat) then asI (asG (asA r2.fst 5) i_2 5) else ((os.getD i_1 zTopic).Ring.Subs.getD i_2 zSub).Passed), AV.own (bif decide (i_1 = i.toNat) then asN (asG (asA r2.fst 5) i_2 6) else ((os.getD i_1 zTopic).Ring.Subs.getD i_2 zSub).Filter.length) 3 fun i_3 => lstG [nI (bif decide (i_1 = i.toNat) then asI (asG (asG (asA r2.fst 5) i_2 6) i_3 0) else (((os.getD i_1 zTopic).Ring.Subs.getD i_2 zSub).Filter.getD i_3 zTerm).Op), nI (bif decide (i_1 = i.toNat) then asI (asG (asG (asA r2.fst 5) i_2 6) i_3 1) else (((os.getD i_1 zTopic).Ring.Subs.getD i_2 zSub).Filter.getD i_3 zTerm).Num), AV.S (bif decide (i_1 = i.toNat) then asS (asG (asG (asA r2.fst 5) i_2 6) i_3 2) else (((os.getD i_1 zTopic).Ring.Subs.getD i_2 zSub).Filter.getD i_3 zTerm).Text)]], AV.own (bif decide (i_1 = i.toNat) then asN (asA r2.fst 6) else (os.getD i_1 zTopic).Ring.Line.length) 1 fun i_2 => lstG [nI (bif decide (i_1 = i.toNat) then asI (asG (asA r2.fst 6) i_2 0) else (os.getD i_1 zTopic).Ring.Line.getD i_2 0)], AV.own (bif decide (i_1 = i.toNat) then asN (asA r2.fst 7) else (os.getD i_1 zTopic).Ring.Grants.length) 1 fun i_2 => lstG [nI (bif decide (i_1 = i.toNat) then asI (asG (asA r2.fst 7) i_2 0) else (os.getD i_1 zTopic).Ring.Grants.getD i_2 0)], AV.B (bif decide (i_1 = i.toNat) then asB (asA r2.fst 8) else (os.getD i_1 zTopic).Ring.Closed)]⟩)] []))
      else
        (none))
    else
      (none))
  else
    (bif okD (bif okT then bif okU then bif okT then bif okT then true else false else false else false else false) then
      (some (AV.own os.length 9 fun i => lstG [AV.S (os.getD i zTopic).Name, nI (os.getD i zTopic).Ring.Cap, nI (os.getD i zTopic).Ring.Sent, owMsgS (os.getD i zTopic).Ring.Items, nI (os.getD i zTopic).Ring.Next, owSubS (os.getD i zTopic).Ring.Subs, AV.own (os.getD i zTopic).Ring.Line.length 1 (gI (os.getD i zTopic).Ring.Line), AV.own (os.getD i zTopic).Ring.Grants.length 1 (gI (os.getD i zTopic).Ring.Grants), AV.B (os.getD i zTopic).Ring.Closed], []))
    else
      (none)) := by kernel_rfl
theorem e138 (Γ : Orc) (H : Hd) (x : VUser) : ent Tryz.prog cfg Γ 138 H [slUser x] [] =
  Option.bind (Γ 209 [slHitS x.Subs] []) fun r0 =>
  Option.bind (Γ 129 [slIntS x.Seen] []) fun r1 =>
  bif bif okT then bif okT then true else false else false then
    (some (AV.ag 2 (lstG [vowTimerS r0.fst, vowIntS r1.fst]), []))
  else
    (none) := by kernel_rfl
theorem e60 (Γ : Orc) (H : Hd) (x : (List VUser)) : ent Tryz.prog cfg Γ 60 H [slUserS x] [] =
  bif decide (zN x.length ≤ 4294967296) && decide (zN x.length ≤ zN x.length) && true && true && true then
    (H [true, true, false, true] (hdS [(0, slUserS x), (3, AV.rf 290816), (4, nI 0)] [(290816, ⟨(zN x.length).toNat, 2, fun i => lstG [AV.own 0 2 fun i => lstG [nI 0, nI 0], AV.own 0 1 fun i => lstG [nI 0]]⟩)] []))
  else
    (none) := by kernel_rfl
theorem h60 (Γ : Orc) (H : Hd) (x : (List VUser)) (os : (List VUser)) (i : Int) : hed Tryz.prog cfg Γ 60 H [] P60 (S60 x os i) =
  bif decide (i < zN x.length) then
    (bif bif decide (0 ≤ i) then decide (i < zN x.length) else false then
      (Option.bind (Γ 138 [slUser (x.getD i.toNat zUser)] []) fun r2 =>
      bif bif decide (0 ≤ i) then decide (i < zN os.length) else false then
        (H [true, true, false, true] (hdS [(0, slUserS x), (3, AV.rf 290816), (4, nI (IntKind.i64.wrap (i + 1)))] [(290816, ⟨os.length, 2, fun i_1 => lstG [AV.own (bif decide (i_1 = i.toNat) then asN (asA r2.fst 0) else (os.getD i_1 zUser).Subs.length) 2 fun i_2 => lstG [nI (bif decide (i_1 = i.toNat) then asI (asG (asA r2.fst 0) i_2 0) else ((os.getD i_1 zUser).Subs.getD i_2 zHit).Topic), nI (bif decide (i_1 = i.toNat) then asI (asG (asA r2.fst 0) i_2 1) else ((os.getD i_1 zUser).Subs.getD i_2 zHit).Id)], AV.own (bif decide (i_1 = i.toNat) then asN (asA r2.fst 1) else (os.getD i_1 zUser).Seen.length) 1 fun i_2 => lstG [nI (bif decide (i_1 = i.toNat) then asI (asG (asA r2.fst 1) i_2 0) else (os.getD i_1 zUser).Seen.getD i_2 0)]]⟩)] []))
      else
        (none))
    else
      (none))
  else
    (bif okD (bif okT then bif okT then true else false else false) then
      (some (AV.own os.length 2 fun i => lstG [owHitS (os.getD i zUser).Subs, AV.own (os.getD i zUser).Seen.length 1 (gI (os.getD i zUser).Seen)], []))
    else
      (none)) := by kernel_rfl
theorem e167 (Γ : Orc) (H : Hd) (x y : (List Bool)) : ent Tryz.prog cfg Γ 167 H [slBoolS x, slBoolS y] [] =
  bif !decide (zN x.length = zN y.length) then
    (some (AV.B false, []))
  else
    (H P167 (S167 x y 0)) := by kernel_rfl
theorem h167 (Γ : Orc) (H : Hd) (x y : (List Bool)) (i : Int) : hed Tryz.prog cfg Γ 167 H [] P167 (S167 x y i) =
  bif decide (i < zN x.length) then
    (bif bif decide (0 ≤ i) then decide (i < zN x.length) else false then
      (bif bif decide (0 ≤ i) then decide (i < zN y.length) else false then
        (bif !x.getD i.toNat false == y.getD i.toNat false then
          (some (AV.B false, []))
        else
          (H P167 (S167 x y (IntKind.i64.wrap (i + 1)))))
      else
        (none))
    else
      (none))
  else
    (some (AV.B true, [])) := by kernel_rfl
theorem e244 (Γ : Orc) (H : Hd) (x y : VCall) : ent Tryz.prog cfg Γ 244 H [slCall x, slCall y] [] =
  bif !decide (x.Op = y.Op) then
    (some (AV.B false, []))
  else
    (bif !decide (x.A = y.A) then
      (some (AV.B false, []))
    else
      (bif !decide (x.B = y.B) then
        (some (AV.B false, []))
      else
        (bif !decide (x.Tok = y.Tok) then
          (some (AV.B false, []))
        else
          (bif !x.Name.toList == y.Name.toList then
            (some (AV.B false, []))
          else
            (Option.bind (Γ 240 [slMsg x.Msg, slMsg y.Msg] []) fun r5 =>
            bif !asB r5.fst then
              (some (AV.B false, []))
            else
              (Option.bind (Γ 269 [slTermS x.Filter, slTermS y.Filter] []) fun r7 =>
              bif !asB r7.fst then
                (some (AV.B false, []))
              else
                (some (AV.B true, [])))))))) := by kernel_rfl
theorem e176 (Γ : Orc) (H : Hd) (x y : (List VCall)) : ent Tryz.prog cfg Γ 176 H [slCallS x, slCallS y] [] =
  bif !decide (zN x.length = zN y.length) then
    (some (AV.B false, []))
  else
    (H P176 (S176 x y 0)) := by kernel_rfl
theorem h176 (Γ : Orc) (H : Hd) (x y : (List VCall)) (i : Int) : hed Tryz.prog cfg Γ 176 H [] P176 (S176 x y i) =
  bif decide (i < zN x.length) then
    (bif bif decide (0 ≤ i) then decide (i < zN x.length) else false then
      (bif bif decide (0 ≤ i) then decide (i < zN y.length) else false then
        (Option.bind (Γ 244 [slCall (x.getD i.toNat zCall), slCall (y.getD i.toNat zCall)] []) fun r3 =>
        bif !asB r3.fst then
          (some (AV.B false, []))
        else
          (H P176 (S176 x y (IntKind.i64.wrap (i + 1)))))
      else
        (none))
    else
      (none))
  else
    (some (AV.B true, [])) := by kernel_rfl
theorem e172 (Γ : Orc) (H : Hd) (x y : VCell) : ent Tryz.prog cfg Γ 172 H [slCell x, slCell y] [] =
  Option.bind (Γ 240 [slMsg x.Val, slMsg y.Val] []) fun r0 =>
  bif !asB r0.fst then
    (some (AV.B false, []))
  else
    (bif !decide (x.Version = y.Version) then
      (some (AV.B false, []))
    else
      (bif !x.Closed == y.Closed then
        (some (AV.B false, []))
      else
        (Option.bind (Γ 13 [slIntS x.Line, slIntS y.Line] []) fun r4 =>
        bif !asB r4.fst then
          (some (AV.B false, []))
        else
          (Option.bind (Γ 13 [slIntS x.Grants, slIntS y.Grants] []) fun r6 =>
          bif !asB r6.fst then
            (some (AV.B false, []))
          else
            (some (AV.B true, [])))))) := by kernel_rfl
theorem e93 (Γ : Orc) (H : Hd) (x y : (List VCell)) : ent Tryz.prog cfg Γ 93 H [slCellS x, slCellS y] [] =
  bif !decide (zN x.length = zN y.length) then
    (some (AV.B false, []))
  else
    (H P93 (S93 x y 0)) := by kernel_rfl
theorem h93 (Γ : Orc) (H : Hd) (x y : (List VCell)) (i : Int) : hed Tryz.prog cfg Γ 93 H [] P93 (S93 x y i) =
  bif decide (i < zN x.length) then
    (bif bif decide (0 ≤ i) then decide (i < zN x.length) else false then
      (bif bif decide (0 ≤ i) then decide (i < zN y.length) else false then
        (Option.bind (Γ 172 [slCell (x.getD i.toNat zCell), slCell (y.getD i.toNat zCell)] []) fun r3 =>
        bif !asB r3.fst then
          (some (AV.B false, []))
        else
          (H P93 (S93 x y (IntKind.i64.wrap (i + 1)))))
      else
        (none))
    else
      (none))
  else
    (some (AV.B true, [])) := by kernel_rfl
theorem e97 (Γ : Orc) (H : Hd) (x y : VClient) : ent Tryz.prog cfg Γ 97 H [slClient x, slClient y] [] =
  Option.bind (Γ 176 [slCallS x.Prog, slCallS y.Prog] []) fun r0 =>
  bif !asB r0.fst then
    (some (AV.B false, []))
  else
    (bif !decide (x.At = y.At) then
      (some (AV.B false, []))
    else
      (bif !x.Waiting == y.Waiting then
        (some (AV.B false, []))
      else
        (some (AV.B true, [])))) := by kernel_rfl
theorem e31 (Γ : Orc) (H : Hd) (x y : (List VClient)) : ent Tryz.prog cfg Γ 31 H [slClientS x, slClientS y] [] =
  bif !decide (zN x.length = zN y.length) then
    (some (AV.B false, []))
  else
    (H P31 (S31 x y 0)) := by kernel_rfl
theorem h31 (Γ : Orc) (H : Hd) (x y : (List VClient)) (i : Int) : hed Tryz.prog cfg Γ 31 H [] P31 (S31 x y i) =
  bif decide (i < zN x.length) then
    (bif bif decide (0 ≤ i) then decide (i < zN x.length) else false then
      (bif bif decide (0 ≤ i) then decide (i < zN y.length) else false then
        (Option.bind (Γ 97 [slClient (x.getD i.toNat zClient), slClient (y.getD i.toNat zClient)] []) fun r3 =>
        bif !asB r3.fst then
          (some (AV.B false, []))
        else
          (H P31 (S31 x y (IntKind.i64.wrap (i + 1)))))
      else
        (none))
    else
      (none))
  else
    (some (AV.B true, [])) := by kernel_rfl
theorem e89 (Γ : Orc) (H : Hd) (x y : VClock) : ent Tryz.prog cfg Γ 89 H [slClock x, slClock y] [] =
  bif !decide (x.Now = y.Now) then
    (some (AV.B false, []))
  else
    (Option.bind (Γ 168 [slTimerS x.Timers, slTimerS y.Timers] []) fun r1 =>
    bif !asB r1.fst then
      (some (AV.B false, []))
    else
      (some (AV.B true, []))) := by kernel_rfl
theorem e170 (Γ : Orc) (H : Hd) (x y : VEvent) : ent Tryz.prog cfg Γ 170 H [slEvent x, slEvent y] [] =
  bif !x.Auto == y.Auto then
    (some (AV.B false, []))
  else
    (bif !x.Up == y.Up then
      (some (AV.B false, []))
    else
      (Option.bind (Γ 13 [slIntS x.Line, slIntS y.Line] []) fun r2 =>
      bif !asB r2.fst then
        (some (AV.B false, []))
      else
        (Option.bind (Γ 13 [slIntS x.Grants, slIntS y.Grants] []) fun r4 =>
        bif !asB r4.fst then
          (some (AV.B false, []))
        else
          (bif !decide (x.Sets = y.Sets) then
            (some (AV.B false, []))
          else
            (bif !decide (x.Spilt = y.Spilt) then
              (some (AV.B false, []))
            else
              (bif !decide (x.Taken = y.Taken) then
                (some (AV.B false, []))
              else
                (some (AV.B true, [])))))))) := by kernel_rfl
theorem e91 (Γ : Orc) (H : Hd) (x y : (List VEvent)) : ent Tryz.prog cfg Γ 91 H [slEventS x, slEventS y] [] =
  bif !decide (zN x.length = zN y.length) then
    (some (AV.B false, []))
  else
    (H P91 (S91 x y 0)) := by kernel_rfl
theorem h91 (Γ : Orc) (H : Hd) (x y : (List VEvent)) (i : Int) : hed Tryz.prog cfg Γ 91 H [] P91 (S91 x y i) =
  bif decide (i < zN x.length) then
    (bif bif decide (0 ≤ i) then decide (i < zN x.length) else false then
      (bif bif decide (0 ≤ i) then decide (i < zN y.length) else false then
        (Option.bind (Γ 170 [slEvent (x.getD i.toNat zEvent), slEvent (y.getD i.toNat zEvent)] []) fun r3 =>
        bif !asB r3.fst then
          (some (AV.B false, []))
        else
          (H P91 (S91 x y (IntKind.i64.wrap (i + 1)))))
      else
        (none))
    else
      (none))
  else
    (some (AV.B true, [])) := by kernel_rfl
theorem e264 (Γ : Orc) (H : Hd) (x y : VGrant) : ent Tryz.prog cfg Γ 264 H [slGrant x, slGrant y] [] =
  bif !decide (x.Who = y.Who) then
    (some (AV.B false, []))
  else
    (bif !x.One == y.One then
      (some (AV.B false, []))
    else
      (some (AV.B true, []))) := by kernel_rfl
theorem e239 (Γ : Orc) (H : Hd) (x y : (List VGrant)) : ent Tryz.prog cfg Γ 239 H [slGrantS x, slGrantS y] [] =
  bif !decide (zN x.length = zN y.length) then
    (some (AV.B false, []))
  else
    (H P239 (S239 x y 0)) := by kernel_rfl
theorem h239 (Γ : Orc) (H : Hd) (x y : (List VGrant)) (i : Int) : hed Tryz.prog cfg Γ 239 H [] P239 (S239 x y i) =
  bif decide (i < zN x.length) then
    (bif bif decide (0 ≤ i) then decide (i < zN x.length) else false then
      (bif bif decide (0 ≤ i) then decide (i < zN y.length) else false then
        (Option.bind (Γ 264 [slGrant (x.getD i.toNat zGrant), slGrant (y.getD i.toNat zGrant)] []) fun r3 =>
        bif !asB r3.fst then
          (some (AV.B false, []))
        else
          (H P239 (S239 x y (IntKind.i64.wrap (i + 1)))))
      else
        (none))
    else
      (none))
  else
    (some (AV.B true, [])) := by kernel_rfl
theorem e268 (Γ : Orc) (H : Hd) (x y : VHit) : ent Tryz.prog cfg Γ 268 H [slHit x, slHit y] [] =
  bif !decide (x.Topic = y.Topic) then
    (some (AV.B false, []))
  else
    (bif !decide (x.Id = y.Id) then
      (some (AV.B false, []))
    else
      (some (AV.B true, []))) := by kernel_rfl
theorem e243 (Γ : Orc) (H : Hd) (x y : (List VHit)) : ent Tryz.prog cfg Γ 243 H [slHitS x, slHitS y] [] =
  bif !decide (zN x.length = zN y.length) then
    (some (AV.B false, []))
  else
    (H P243 (S243 x y 0)) := by kernel_rfl
theorem h243 (Γ : Orc) (H : Hd) (x y : (List VHit)) (i : Int) : hed Tryz.prog cfg Γ 243 H [] P243 (S243 x y i) =
  bif decide (i < zN x.length) then
    (bif bif decide (0 ≤ i) then decide (i < zN x.length) else false then
      (bif bif decide (0 ≤ i) then decide (i < zN y.length) else false then
        (Option.bind (Γ 268 [slHit (x.getD i.toNat zHit), slHit (y.getD i.toNat zHit)] []) fun r3 =>
        bif !asB r3.fst then
          (some (AV.B false, []))
        else
          (H P243 (S243 x y (IntKind.i64.wrap (i + 1)))))
      else
        (none))
    else
      (none))
  else
    (some (AV.B true, [])) := by kernel_rfl
theorem e30 (Γ : Orc) (H : Hd) (x y : VHub) : ent Tryz.prog cfg Γ 30 H [slHub x, slHub y] [] =
  Option.bind (Γ 88 [slTokens x.Tokens, slTokens y.Tokens] []) fun r0 =>
  bif !asB r0.fst then
    (some (AV.B false, []))
  else
    (Option.bind (Γ 89 [slClock x.Clock, slClock y.Clock] []) fun r2 =>
    bif !asB r2.fst then
      (some (AV.B false, []))
    else
      (Option.bind (Γ 90 [slNotifyS x.Notes, slNotifyS y.Notes] []) fun r4 =>
      bif !asB r4.fst then
        (some (AV.B false, []))
      else
        (Option.bind (Γ 91 [slEventS x.Events, slEventS y.Events] []) fun r6 =>
        bif !asB r6.fst then
          (some (AV.B false, []))
        else
          (Option.bind (Γ 92 [slLatchS x.Latches, slLatchS y.Latches] []) fun r8 =>
          bif !asB r8.fst then
            (some (AV.B false, []))
          else
            (Option.bind (Γ 93 [slCellS x.Cells, slCellS y.Cells] []) fun r10 =>
            bif !asB r10.fst then
              (some (AV.B false, []))
            else
              (Option.bind (Γ 94 [slTopicS x.Topics, slTopicS y.Topics] []) fun r12 =>
              bif !asB r12.fst then
                (some (AV.B false, []))
              else
                (Option.bind (Γ 95 [slMergeS x.Merges, slMergeS y.Merges] []) fun r14 =>
                bif !asB r14.fst then
                  (some (AV.B false, []))
                else
                  (Option.bind (Γ 96 [slUserS x.Users, slUserS y.Users] []) fun r16 =>
                  bif !asB r16.fst then
                    (some (AV.B false, []))
                  else
                    (some (AV.B true, [])))))))))) := by kernel_rfl
theorem e13 (Γ : Orc) (H : Hd) (x y : (List Int)) : ent Tryz.prog cfg Γ 13 H [slIntS x, slIntS y] [] =
  bif !decide (zN x.length = zN y.length) then
    (some (AV.B false, []))
  else
    (H P13 (S13 x y 0)) := by kernel_rfl
theorem h13 (Γ : Orc) (H : Hd) (x y : (List Int)) (i : Int) : hed Tryz.prog cfg Γ 13 H [] P13 (S13 x y i) =
  bif decide (i < zN x.length) then
    (bif bif decide (0 ≤ i) then decide (i < zN x.length) else false then
      (bif bif decide (0 ≤ i) then decide (i < zN y.length) else false then
        (bif !decide (x.getD i.toNat 0 = y.getD i.toNat 0) then
          (some (AV.B false, []))
        else
          (H P13 (S13 x y (IntKind.i64.wrap (i + 1)))))
      else
        (none))
    else
      (none))
  else
    (some (AV.B true, [])) := by kernel_rfl
theorem e171 (Γ : Orc) (H : Hd) (x y : VLatch) : ent Tryz.prog cfg Γ 171 H [slLatch x, slLatch y] [] =
  bif !decide (x.Count = y.Count) then
    (some (AV.B false, []))
  else
    (Option.bind (Γ 13 [slIntS x.Line, slIntS y.Line] []) fun r1 =>
    bif !asB r1.fst then
      (some (AV.B false, []))
    else
      (Option.bind (Γ 13 [slIntS x.Grants, slIntS y.Grants] []) fun r3 =>
      bif !asB r3.fst then
        (some (AV.B false, []))
      else
        (some (AV.B true, [])))) := by kernel_rfl
theorem e92 (Γ : Orc) (H : Hd) (x y : (List VLatch)) : ent Tryz.prog cfg Γ 92 H [slLatchS x, slLatchS y] [] =
  bif !decide (zN x.length = zN y.length) then
    (some (AV.B false, []))
  else
    (H P92 (S92 x y 0)) := by kernel_rfl
theorem h92 (Γ : Orc) (H : Hd) (x y : (List VLatch)) (i : Int) : hed Tryz.prog cfg Γ 92 H [] P92 (S92 x y i) =
  bif decide (i < zN x.length) then
    (bif bif decide (0 ≤ i) then decide (i < zN x.length) else false then
      (bif bif decide (0 ≤ i) then decide (i < zN y.length) else false then
        (Option.bind (Γ 171 [slLatch (x.getD i.toNat zLatch), slLatch (y.getD i.toNat zLatch)] []) fun r3 =>
        bif !asB r3.fst then
          (some (AV.B false, []))
        else
          (H P92 (S92 x y (IntKind.i64.wrap (i + 1)))))
      else
        (none))
    else
      (none))
  else
    (some (AV.B true, [])) := by kernel_rfl
theorem e267 (Γ : Orc) (H : Hd) (x y : VLeg) : ent Tryz.prog cfg Γ 267 H [slLeg x, slLeg y] [] =
  bif !decide (x.Topic = y.Topic) then
    (some (AV.B false, []))
  else
    (bif !decide (x.Id = y.Id) then
      (some (AV.B false, []))
    else
      (bif !decide (x.Lost = y.Lost) then
        (some (AV.B false, []))
      else
        (bif !x.Over == y.Over then
          (some (AV.B false, []))
        else
          (some (AV.B true, []))))) := by kernel_rfl
theorem e242 (Γ : Orc) (H : Hd) (x y : (List VLeg)) : ent Tryz.prog cfg Γ 242 H [slLegS x, slLegS y] [] =
  bif !decide (zN x.length = zN y.length) then
    (some (AV.B false, []))
  else
    (H P242 (S242 x y 0)) := by kernel_rfl
theorem h242 (Γ : Orc) (H : Hd) (x y : (List VLeg)) (i : Int) : hed Tryz.prog cfg Γ 242 H [] P242 (S242 x y i) =
  bif decide (i < zN x.length) then
    (bif bif decide (0 ≤ i) then decide (i < zN x.length) else false then
      (bif bif decide (0 ≤ i) then decide (i < zN y.length) else false then
        (Option.bind (Γ 267 [slLeg (x.getD i.toNat zLeg), slLeg (y.getD i.toNat zLeg)] []) fun r3 =>
        bif !asB r3.fst then
          (some (AV.B false, []))
        else
          (H P242 (S242 x y (IntKind.i64.wrap (i + 1)))))
      else
        (none))
    else
      (none))
  else
    (some (AV.B true, [])) := by kernel_rfl
theorem e174 (Γ : Orc) (H : Hd) (x y : VMerge) : ent Tryz.prog cfg Γ 174 H [slMerge x, slMerge y] [] =
  Option.bind (Γ 242 [slLegS x.Legs, slLegS y.Legs] []) fun r0 =>
  bif !asB r0.fst then
    (some (AV.B false, []))
  else
    (bif !decide (x.Into = y.Into) then
      (some (AV.B false, []))
    else
      (bif !decide (x.Moved = y.Moved) then
        (some (AV.B false, []))
      else
        (some (AV.B true, [])))) := by kernel_rfl
theorem e95 (Γ : Orc) (H : Hd) (x y : (List VMerge)) : ent Tryz.prog cfg Γ 95 H [slMergeS x, slMergeS y] [] =
  bif !decide (zN x.length = zN y.length) then
    (some (AV.B false, []))
  else
    (H P95 (S95 x y 0)) := by kernel_rfl
theorem h95 (Γ : Orc) (H : Hd) (x y : (List VMerge)) (i : Int) : hed Tryz.prog cfg Γ 95 H [] P95 (S95 x y i) =
  bif decide (i < zN x.length) then
    (bif bif decide (0 ≤ i) then decide (i < zN x.length) else false then
      (bif bif decide (0 ≤ i) then decide (i < zN y.length) else false then
        (Option.bind (Γ 174 [slMerge (x.getD i.toNat zMerge), slMerge (y.getD i.toNat zMerge)] []) fun r3 =>
        bif !asB r3.fst then
          (some (AV.B false, []))
        else
          (H P95 (S95 x y (IntKind.i64.wrap (i + 1)))))
      else
        (none))
    else
      (none))
  else
    (some (AV.B true, [])) := by kernel_rfl
theorem e240 (Γ : Orc) (H : Hd) (x y : VMsg) : ent Tryz.prog cfg Γ 240 H [slMsg x, slMsg y] [] =
  bif !decide (x.Kind = y.Kind) then
    (some (AV.B false, []))
  else
    (bif !decide (x.Num = y.Num) then
      (some (AV.B false, []))
    else
      (bif !x.Text.toList == y.Text.toList then
        (some (AV.B false, []))
      else
        (some (AV.B true, [])))) := by kernel_rfl
theorem e265 (Γ : Orc) (H : Hd) (x y : (List VMsg)) : ent Tryz.prog cfg Γ 265 H [slMsgS x, slMsgS y] [] =
  bif !decide (zN x.length = zN y.length) then
    (some (AV.B false, []))
  else
    (H P265 (S265 x y 0)) := by kernel_rfl
theorem h265 (Γ : Orc) (H : Hd) (x y : (List VMsg)) (i : Int) : hed Tryz.prog cfg Γ 265 H [] P265 (S265 x y i) =
  bif decide (i < zN x.length) then
    (bif bif decide (0 ≤ i) then decide (i < zN x.length) else false then
      (bif bif decide (0 ≤ i) then decide (i < zN y.length) else false then
        (Option.bind (Γ 240 [slMsg (x.getD i.toNat zMsg), slMsg (y.getD i.toNat zMsg)] []) fun r3 =>
        bif !asB r3.fst then
          (some (AV.B false, []))
        else
          (H P265 (S265 x y (IntKind.i64.wrap (i + 1)))))
      else
        (none))
    else
      (none))
  else
    (some (AV.B true, [])) := by kernel_rfl
theorem e169 (Γ : Orc) (H : Hd) (x y : VNotify) : ent Tryz.prog cfg Γ 169 H [slNotify x, slNotify y] [] =
  bif !x.Permit == y.Permit then
    (some (AV.B false, []))
  else
    (Option.bind (Γ 13 [slIntS x.Line, slIntS y.Line] []) fun r1 =>
    bif !asB r1.fst then
      (some (AV.B false, []))
    else
      (Option.bind (Γ 239 [slGrantS x.Grants, slGrantS y.Grants] []) fun r3 =>
      bif !asB r3.fst then
        (some (AV.B false, []))
      else
        (bif !decide (x.Ones = y.Ones) then
          (some (AV.B false, []))
        else
          (bif !decide (x.Spilt = y.Spilt) then
            (some (AV.B false, []))
          else
            (bif !decide (x.Taken = y.Taken) then
              (some (AV.B false, []))
            else
              (some (AV.B true, []))))))) := by kernel_rfl
theorem e90 (Γ : Orc) (H : Hd) (x y : (List VNotify)) : ent Tryz.prog cfg Γ 90 H [slNotifyS x, slNotifyS y] [] =
  bif !decide (zN x.length = zN y.length) then
    (some (AV.B false, []))
  else
    (H P90 (S90 x y 0)) := by kernel_rfl
theorem h90 (Γ : Orc) (H : Hd) (x y : (List VNotify)) (i : Int) : hed Tryz.prog cfg Γ 90 H [] P90 (S90 x y i) =
  bif decide (i < zN x.length) then
    (bif bif decide (0 ≤ i) then decide (i < zN x.length) else false then
      (bif bif decide (0 ≤ i) then decide (i < zN y.length) else false then
        (Option.bind (Γ 169 [slNotify (x.getD i.toNat zNotify), slNotify (y.getD i.toNat zNotify)] []) fun r3 =>
        bif !asB r3.fst then
          (some (AV.B false, []))
        else
          (H P90 (S90 x y (IntKind.i64.wrap (i + 1)))))
      else
        (none))
    else
      (none))
  else
    (some (AV.B true, [])) := by kernel_rfl
theorem e241 (Γ : Orc) (H : Hd) (x y : VRing) : ent Tryz.prog cfg Γ 241 H [slRing x, slRing y] [] =
  bif !decide (x.Cap = y.Cap) then
    (some (AV.B false, []))
  else
    (bif !decide (x.Sent = y.Sent) then
      (some (AV.B false, []))
    else
      (Option.bind (Γ 265 [slMsgS x.Items, slMsgS y.Items] []) fun r2 =>
      bif !asB r2.fst then
        (some (AV.B false, []))
      else
        (bif !decide (x.Next = y.Next) then
          (some (AV.B false, []))
        else
          (Option.bind (Γ 266 [slSubS x.Subs, slSubS y.Subs] []) fun r5 =>
          bif !asB r5.fst then
            (some (AV.B false, []))
          else
            (Option.bind (Γ 13 [slIntS x.Line, slIntS y.Line] []) fun r7 =>
            bif !asB r7.fst then
              (some (AV.B false, []))
            else
              (Option.bind (Γ 13 [slIntS x.Grants, slIntS y.Grants] []) fun r9 =>
              bif !asB r9.fst then
                (some (AV.B false, []))
              else
                (bif !x.Closed == y.Closed then
                  (some (AV.B false, []))
                else
                  (some (AV.B true, []))))))))) := by kernel_rfl
theorem e10 (Γ : Orc) (H : Hd) (x y : VState) : ent Tryz.prog cfg Γ 10 H [slState x, slState y] [] =
  Option.bind (Γ 30 [slHub x.Hub, slHub y.Hub] []) fun r0 =>
  bif !asB r0.fst then
    (some (AV.B false, []))
  else
    (Option.bind (Γ 31 [slClientS x.Clients, slClientS y.Clients] []) fun r2 =>
    bif !asB r2.fst then
      (some (AV.B false, []))
    else
      (some (AV.B true, []))) := by kernel_rfl
theorem e278 (Γ : Orc) (H : Hd) (x y : VSub) : ent Tryz.prog cfg Γ 278 H [slSub x, slSub y] [] =
  bif !decide (x.Id = y.Id) then
    (some (AV.B false, []))
  else
    (bif !decide (x.Start = y.Start) then
      (some (AV.B false, []))
    else
      (bif !decide (x.Cursor = y.Cursor) then
        (some (AV.B false, []))
      else
        (bif !decide (x.Got = y.Got) then
          (some (AV.B false, []))
        else
          (bif !decide (x.Lost = y.Lost) then
            (some (AV.B false, []))
          else
            (bif !decide (x.Passed = y.Passed) then
              (some (AV.B false, []))
            else
              (Option.bind (Γ 269 [slTermS x.Filter, slTermS y.Filter] []) fun r6 =>
              bif !asB r6.fst then
                (some (AV.B false, []))
              else
                (some (AV.B true, [])))))))) := by kernel_rfl
theorem e266 (Γ : Orc) (H : Hd) (x y : (List VSub)) : ent Tryz.prog cfg Γ 266 H [slSubS x, slSubS y] [] =
  bif !decide (zN x.length = zN y.length) then
    (some (AV.B false, []))
  else
    (H P266 (S266 x y 0)) := by kernel_rfl
theorem h266 (Γ : Orc) (H : Hd) (x y : (List VSub)) (i : Int) : hed Tryz.prog cfg Γ 266 H [] P266 (S266 x y i) =
  bif decide (i < zN x.length) then
    (bif bif decide (0 ≤ i) then decide (i < zN x.length) else false then
      (bif bif decide (0 ≤ i) then decide (i < zN y.length) else false then
        (Option.bind (Γ 278 [slSub (x.getD i.toNat zSub), slSub (y.getD i.toNat zSub)] []) fun r3 =>
        bif !asB r3.fst then
          (some (AV.B false, []))
        else
          (H P266 (S266 x y (IntKind.i64.wrap (i + 1)))))
      else
        (none))
    else
      (none))
  else
    (some (AV.B true, [])) := by kernel_rfl
theorem e279 (Γ : Orc) (H : Hd) (x y : VTerm) : ent Tryz.prog cfg Γ 279 H [slTerm x, slTerm y] [] =
  bif !decide (x.Op = y.Op) then
    (some (AV.B false, []))
  else
    (bif !decide (x.Num = y.Num) then
      (some (AV.B false, []))
    else
      (bif !x.Text.toList == y.Text.toList then
        (some (AV.B false, []))
      else
        (some (AV.B true, [])))) := by kernel_rfl
theorem e269 (Γ : Orc) (H : Hd) (x y : (List VTerm)) : ent Tryz.prog cfg Γ 269 H [slTermS x, slTermS y] [] =
  bif !decide (zN x.length = zN y.length) then
    (some (AV.B false, []))
  else
    (H P269 (S269 x y 0)) := by kernel_rfl
theorem h269 (Γ : Orc) (H : Hd) (x y : (List VTerm)) (i : Int) : hed Tryz.prog cfg Γ 269 H [] P269 (S269 x y i) =
  bif decide (i < zN x.length) then
    (bif bif decide (0 ≤ i) then decide (i < zN x.length) else false then
      (bif bif decide (0 ≤ i) then decide (i < zN y.length) else false then
        (Option.bind (Γ 279 [slTerm (x.getD i.toNat zTerm), slTerm (y.getD i.toNat zTerm)] []) fun r3 =>
        bif !asB r3.fst then
          (some (AV.B false, []))
        else
          (H P269 (S269 x y (IntKind.i64.wrap (i + 1)))))
      else
        (none))
    else
      (none))
  else
    (some (AV.B true, [])) := by kernel_rfl
theorem e238 (Γ : Orc) (H : Hd) (x y : VTimer) : ent Tryz.prog cfg Γ 238 H [slTimer x, slTimer y] [] =
  bif !decide (x.At = y.At) then
    (some (AV.B false, []))
  else
    (bif !decide (x.Token = y.Token) then
      (some (AV.B false, []))
    else
      (some (AV.B true, []))) := by kernel_rfl
theorem e168 (Γ : Orc) (H : Hd) (x y : (List VTimer)) : ent Tryz.prog cfg Γ 168 H [slTimerS x, slTimerS y] [] =
  bif !decide (zN x.length = zN y.length) then
    (some (AV.B false, []))
  else
    (H P168 (S168 x y 0)) := by kernel_rfl
theorem h168 (Γ : Orc) (H : Hd) (x y : (List VTimer)) (i : Int) : hed Tryz.prog cfg Γ 168 H [] P168 (S168 x y i) =
  bif decide (i < zN x.length) then
    (bif bif decide (0 ≤ i) then decide (i < zN x.length) else false then
      (bif bif decide (0 ≤ i) then decide (i < zN y.length) else false then
        (Option.bind (Γ 238 [slTimer (x.getD i.toNat zTimer), slTimer (y.getD i.toNat zTimer)] []) fun r3 =>
        bif !asB r3.fst then
          (some (AV.B false, []))
        else
          (H P168 (S168 x y (IntKind.i64.wrap (i + 1)))))
      else
        (none))
    else
      (none))
  else
    (some (AV.B true, [])) := by kernel_rfl
theorem e88 (Γ : Orc) (H : Hd) (x y : VTokens) : ent Tryz.prog cfg Γ 88 H [slTokens x, slTokens y] [] =
  Option.bind (Γ 13 [slIntS x.Parents, slIntS y.Parents] []) fun r0 =>
  bif !asB r0.fst then
    (some (AV.B false, []))
  else
    (Option.bind (Γ 167 [slBoolS x.Off, slBoolS y.Off] []) fun r2 =>
    bif !asB r2.fst then
      (some (AV.B false, []))
    else
      (some (AV.B true, []))) := by kernel_rfl
theorem e173 (Γ : Orc) (H : Hd) (x y : VTopic) : ent Tryz.prog cfg Γ 173 H [slTopic x, slTopic y] [] =
  bif !x.Name.toList == y.Name.toList then
    (some (AV.B false, []))
  else
    (Option.bind (Γ 241 [slRing x.Ring, slRing y.Ring] []) fun r1 =>
    bif !asB r1.fst then
      (some (AV.B false, []))
    else
      (some (AV.B true, []))) := by kernel_rfl
theorem e94 (Γ : Orc) (H : Hd) (x y : (List VTopic)) : ent Tryz.prog cfg Γ 94 H [slTopicS x, slTopicS y] [] =
  bif !decide (zN x.length = zN y.length) then
    (some (AV.B false, []))
  else
    (H P94 (S94 x y 0)) := by kernel_rfl
theorem h94 (Γ : Orc) (H : Hd) (x y : (List VTopic)) (i : Int) : hed Tryz.prog cfg Γ 94 H [] P94 (S94 x y i) =
  bif decide (i < zN x.length) then
    (bif bif decide (0 ≤ i) then decide (i < zN x.length) else false then
      (bif bif decide (0 ≤ i) then decide (i < zN y.length) else false then
        (Option.bind (Γ 173 [slTopic (x.getD i.toNat zTopic), slTopic (y.getD i.toNat zTopic)] []) fun r3 =>
        bif !asB r3.fst then
          (some (AV.B false, []))
        else
          (H P94 (S94 x y (IntKind.i64.wrap (i + 1)))))
      else
        (none))
    else
      (none))
  else
    (some (AV.B true, [])) := by kernel_rfl
theorem e175 (Γ : Orc) (H : Hd) (x y : VUser) : ent Tryz.prog cfg Γ 175 H [slUser x, slUser y] [] =
  Option.bind (Γ 243 [slHitS x.Subs, slHitS y.Subs] []) fun r0 =>
  bif !asB r0.fst then
    (some (AV.B false, []))
  else
    (Option.bind (Γ 13 [slIntS x.Seen, slIntS y.Seen] []) fun r2 =>
    bif !asB r2.fst then
      (some (AV.B false, []))
    else
      (some (AV.B true, []))) := by kernel_rfl
theorem e96 (Γ : Orc) (H : Hd) (x y : (List VUser)) : ent Tryz.prog cfg Γ 96 H [slUserS x, slUserS y] [] =
  bif !decide (zN x.length = zN y.length) then
    (some (AV.B false, []))
  else
    (H P96 (S96 x y 0)) := by kernel_rfl
theorem h96 (Γ : Orc) (H : Hd) (x y : (List VUser)) (i : Int) : hed Tryz.prog cfg Γ 96 H [] P96 (S96 x y i) =
  bif decide (i < zN x.length) then
    (bif bif decide (0 ≤ i) then decide (i < zN x.length) else false then
      (bif bif decide (0 ≤ i) then decide (i < zN y.length) else false then
        (Option.bind (Γ 175 [slUser (x.getD i.toNat zUser), slUser (y.getD i.toNat zUser)] []) fun r3 =>
        bif !asB r3.fst then
          (some (AV.B false, []))
        else
          (H P96 (S96 x y (IntKind.i64.wrap (i + 1)))))
      else
        (none))
    else
      (none))
  else
    (some (AV.B true, [])) := by kernel_rfl
end Go.Fw
