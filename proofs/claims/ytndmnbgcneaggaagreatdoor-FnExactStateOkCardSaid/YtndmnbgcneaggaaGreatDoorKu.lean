/- Trees of the functions' bodies, as printed by the framework's evaluation. -/
import Derived.Test.YtndmnbgcneaggaaGreatDoorProg
import Derived.Test.YtndmnbgcneaggaaGreatDoorFyB
import Derived.KernelRfl
import Derived.Test.YtndmnbgcneaggaaGreatDoorK
set_option linter.unusedVariables false
set_option maxRecDepth 100000
namespace Go.Fw
open Go.Proofs
theorem h45 (Γ : Orc) (H : Hd) (x : VClock) (i : Int) : hed Tryz.prog cfg Γ 45 H [] P45 (S45 x i) =
  bif decide (i < zN x.Timers.length) then
    (bif bif decide (0 ≤ i) then decide (i < zN x.Timers.length) else false then
      (bif decide ((x.Timers.getD i.toNat zTimer).At ≤ x.Now) then
        (and2
        (and2
          (some (AV.B false, []))
          (some (AV.B false, [])))
        (and2
          (some (AV.B false, []))
          (and2
            (some (AV.B false, []))
            (some (AV.B false, [])))))
      else
        (bif decide (1000000000 < (x.Timers.getD i.toNat zTimer).At) then
          (and2
          (and2
            (some (AV.B false, []))
            (some (AV.B false, [])))
          (and2
            (some (AV.B false, []))
            (and2
              (some (AV.B false, []))
              (some (AV.B false, [])))))
        else
          (Option.bind (Γ 22 [nI (x.Timers.getD i.toNat zTimer).Token, nI 0, nI 23] []) fun r4 =>
          bif !asB r4.fst then
            (and2
            (and2
              (some (AV.B false, []))
              (some (AV.B false, [])))
            (and2
              (some (AV.B false, []))
              (and2
                (some (AV.B false, []))
                (some (AV.B false, [])))))
          else
            (bif decide (0 < i) then
              (bif bif decide (0 ≤ IntKind.i64.wrap (i - 1)) then decide (IntKind.i64.wrap (i - 1) < zN x.Timers.length) else false then
                (bif decide ((x.Timers.getD i.toNat zTimer).At < (x.Timers.getD (IntKind.i64.wrap (i - 1)).toNat zTimer).At) then
                  (some (AV.B false, []))
                else
                  (H P45 (S45 x (IntKind.i64.wrap (i + 1)))))
              else
                (none))
            else
              (and2
              (and2
                (H P45 (S45 x (IntKind.i64.wrap (i + 1))))
                (H P45 (S45 x (IntKind.i64.wrap (i + 1)))))
              (and2
                (H P45 (S45 x (IntKind.i64.wrap (i + 1))))
                (and2
                  (H P45 (S45 x (IntKind.i64.wrap (i + 1))))
                  (H P45 (S45 x (IntKind.i64.wrap (i + 1)))))))))))
    else
      (none))
  else
    (some (AV.B true, [])) := by kernel_rfl
theorem h67 (Γ : Orc) (H : Hd) (x : VClock) (xs : List VTimer) (m i : Int) : hed Tryz.prog cfg Γ 67 H [] P67 (S67 x xs m i) =
  bif decide (i < m) then
    (bif bif decide (0 ≤ i) then decide (i < zN xs.length) else false then
      (bif decide ((xs.getD i.toNat zTimer).At ≤ x.Now) then
        (and2
        (and2
          (some (AV.B false, []))
          (some (AV.B false, [])))
        (and2
          (some (AV.B false, []))
          (and2
            (some (AV.B false, []))
            (some (AV.B false, [])))))
      else
        (bif decide (1000000000 < (xs.getD i.toNat zTimer).At) then
          (and2
          (and2
            (some (AV.B false, []))
            (some (AV.B false, [])))
          (and2
            (some (AV.B false, []))
            (and2
              (some (AV.B false, []))
              (some (AV.B false, [])))))
        else
          (Option.bind (Γ 86 [nI (xs.getD i.toNat zTimer).Token, nI 0, nI 23] []) fun r4 =>
          bif !asB r4.fst then
            (and2
            (and2
              (some (AV.B false, []))
              (some (AV.B false, [])))
            (and2
              (some (AV.B false, []))
              (and2
                (some (AV.B false, []))
                (some (AV.B false, [])))))
          else
            (bif decide (0 < i) then
              (bif bif decide (0 ≤ IntKind.i64.wrap (i - 1)) then decide (IntKind.i64.wrap (i - 1) < zN x.Timers.length) else false then
                (bif decide ((xs.getD i.toNat zTimer).At < (x.Timers.getD (IntKind.i64.wrap (i - 1)).toNat zTimer).At) then
                  (some (AV.B false, []))
                else
                  (H P67 (S67 x xs m (IntKind.i64.wrap (i + 1)))))
              else
                (none))
            else
              (and2
              (and2
                (H P67 (S67 x xs m (IntKind.i64.wrap (i + 1))))
                (H P67 (S67 x xs m (IntKind.i64.wrap (i + 1)))))
              (and2
                (H P67 (S67 x xs m (IntKind.i64.wrap (i + 1))))
                (and2
                  (H P67 (S67 x xs m (IntKind.i64.wrap (i + 1))))
                  (H P67 (S67 x xs m (IntKind.i64.wrap (i + 1)))))))))))
    else
      (none))
  else
    (Option.bind (Γ 86 [nI x.Now, nI 0, nI 1000000000] []) fun r1 =>
    bif asB r1.fst then
      (some (AV.B (decide (zN x.Timers.length ≤ 40)), []))
    else
      (some (AV.B false, []))) := by kernel_rfl
theorem e46 (Γ : Orc) (H : Hd) (xs : List VTopic) : ent Tryz.prog cfg Γ 46 H [slTopicS xs] [] =
  bif decide (12 < zN xs.length) then
    (some (AV.B false, []))
  else
    (H P46a (S46a xs 0)) := by kernel_rfl
theorem e68 (Γ : Orc) (H : Hd) (xs : List VTopic) : ent Tryz.prog cfg Γ 68 H [slTopicS xs] [] =
  H P68 (S68 xs xs (zN xs.length) 0) := by kernel_rfl
theorem h46a (Γ : Orc) (H : Hd) (xs : List VTopic) (i : Int) : hed Tryz.prog cfg Γ 46 H [] P46a (S46a xs i) =
  bif decide (i < zN xs.length) then
    (bif bif decide (0 ≤ i) then decide (i < zN xs.length) else false then
      (Option.bind (Γ 119 [AV.S (xs.getD i.toNat zTopic).Name] []) fun r2 =>
      bif !asB r2.fst then
        (some (AV.B false, []))
      else
        (bif bif decide (0 ≤ i) then decide (i < zN xs.length) else false then
          (Option.bind (Γ 120 [slRing (xs.getD i.toNat zTopic).Ring] []) fun r5 =>
          bif !asB r5.fst then
            (some (AV.B false, []))
          else
            (H P46b (S46b xs i 0)))
        else
          (none)))
    else
      (none))
  else
    (some (AV.B true, [])) := by kernel_rfl
theorem h46b (Γ : Orc) (H : Hd) (xs : List VTopic) (i k : Int) : hed Tryz.prog cfg Γ 46 H [] P46b (S46b xs i k) =
  bif decide (k < i) then
    (bif bif decide (0 ≤ k) then decide (k < zN xs.length) else false then
      (bif bif decide (0 ≤ i) then decide (i < zN xs.length) else false then
        (bif (xs.getD k.toNat zTopic).Name.toList == (xs.getD i.toNat zTopic).Name.toList then
          (some (AV.B false, []))
        else
          (H P46b (S46b xs i (IntKind.i64.wrap (k + 1)))))
      else
        (none))
    else
      (none))
  else
    (H P46a (S46a xs (IntKind.i64.wrap (i + 1)))) := by kernel_rfl
theorem h68 (Γ : Orc) (H : Hd) (xs ys : List VTopic) (m i : Int) : hed Tryz.prog cfg Γ 68 H [] P68 (S68 xs ys m i) =
  bif decide (i < m) then
    (bif bif decide (0 ≤ i) then decide (i < zN ys.length) else false then
      (Option.bind (Γ 142 [AV.S (ys.getD i.toNat zTopic).Name] []) fun r2 =>
      bif !asB r2.fst then
        (some (AV.B false, []))
      else
        (Option.bind (Γ 143 [slTopicS xs, AV.S (ys.getD i.toNat zTopic).Name] []) fun r4 =>
        bif !decide (asI r4.fst = i) then
          (some (AV.B false, []))
        else
          (Option.bind (Γ 144 [slRing (ys.getD i.toNat zTopic).Ring] []) fun r6 =>
          bif !asB r6.fst then
            (some (AV.B false, []))
          else
            (H P68 (S68 xs ys m (IntKind.i64.wrap (i + 1)))))))
    else
      (none))
  else
    (some (AV.B (decide (zN xs.length ≤ 12)), [])) := by kernel_rfl
theorem e143 (Γ : Orc) (H : Hd) (xs : List VTopic) (s : ByteArray) : ent Tryz.prog cfg Γ 143 H [slTopicS xs, .S s] [] =
  Option.bind (Γ 216 [slTopicS xs, AV.clo 217 1 (lstG [AV.sp 1 (lstG [AV.S s])])] []) fun r0 =>
  some (nI (asI r0.fst), []) := by kernel_rfl
theorem e65 (Γ : Orc) (H : Hd) (xs : List VTopic) (n : Int) : ent Tryz.prog cfg Γ 65 H [slTopicS xs, nI n] [] =
  Option.bind (Γ 86 [nI n, nI 0, nI (IntKind.i64.wrap (zN xs.length - 1))] []) fun r0 =>
  some (AV.B (asB r0.fst), []) := by kernel_rfl
theorem e158 (Γ : Orc) (H : Hd) (xs : List VTopic) (g : VLeg) : ent Tryz.prog cfg Γ 158 H [slTopicS xs, slLeg g] [] =
  bif bif decide (0 ≤ g.Topic) then decide (g.Topic < zN xs.length) else false then
    (Option.bind (Γ 233 [slRing (xs.getD g.Topic.toNat zTopic).Ring, nI g.Id] []) fun r1 =>
    bif decide (0 ≤ asI r1.fst) then
      (Option.bind (Γ 228 [slIntS (xs.getD g.Topic.toNat zTopic).Ring.Line, nI g.Id] []) fun r3 =>
      bif !asB r3.fst then
        (Option.bind (Γ 228 [slIntS (xs.getD g.Topic.toNat zTopic).Ring.Grants, nI g.Id] []) fun r5 =>
        some (AV.B !asB r5.fst, []))
      else
        (some (AV.B false, [])))
    else
      (some (AV.B false, [])))
  else
    (none) := by kernel_rfl
theorem e48 (Γ : Orc) (H : Hd) (xs : List VTopic) (x : VMerge) : ent Tryz.prog cfg Γ 48 H [slTopicS xs, slMerge x] [] =
  Option.bind (Γ 46 [slTopicS xs] []) fun r0 =>
  bif !asB r0.fst then
    (some (AV.B false, []))
  else
    (Option.bind (Γ 22 [nI (zN x.Legs.length), nI 1, nI 6] []) fun r2 =>
    bif !asB r2.fst then
      (some (AV.B false, []))
    else
      (Option.bind (Γ 22 [nI x.Into, nI 0, nI (IntKind.i64.wrap (zN xs.length - 1))] []) fun r4 =>
      bif !asB r4.fst then
        (some (AV.B false, []))
      else
        (Option.bind (Γ 22 [nI x.Moved, nI 0, nI 1000000000] []) fun r6 =>
        bif !asB r6.fst then
          (some (AV.B false, []))
        else
          (H P48 (S48 xs x 0))))) := by kernel_rfl
theorem e79 (Γ : Orc) (H : Hd) (xs : List VTopic) (x : VMerge) : ent Tryz.prog cfg Γ 79 H [slTopicS xs, slMerge x] [] =
  Option.bind (Γ 86 [nI (zN x.Legs.length), nI 1, nI 6] []) fun r0 =>
  bif !asB r0.fst then
    (some (AV.B false, []))
  else
    (Option.bind (Γ 65 [slTopicS xs, nI x.Into] []) fun r2 =>
    bif !asB r2.fst then
      (some (AV.B false, []))
    else
      (Option.bind (Γ 86 [nI x.Moved, nI 0, nI 1000000000] []) fun r4 =>
      bif !asB r4.fst then
        (some (AV.B false, []))
      else
        (H P79 (S79 xs x x.Legs (zN x.Legs.length) 0)))) := by kernel_rfl
theorem h48 (Γ : Orc) (H : Hd) (xs : List VTopic) (x : VMerge) (i : Int) : hed Tryz.prog cfg Γ 48 H [] P48 (S48 xs x i) =
  bif decide (i < zN x.Legs.length) then
    (Option.bind (Γ 125 [slTopicS xs, slMerge x, nI i] []) fun r1 =>
    bif !asB r1.fst then
      (some (AV.B false, []))
    else
      (H P48 (S48 xs x (IntKind.i64.wrap (i + 1)))))
  else
    (some (AV.B true, [])) := by kernel_rfl
theorem h79 (Γ : Orc) (H : Hd) (xs : List VTopic) (x : VMerge) (gs : List VLeg) (m i : Int) : hed Tryz.prog cfg Γ 79 H [] P79 (S79 xs x gs m i) =
  bif decide (i < m) then
    (bif bif decide (0 ≤ i) then decide (i < zN gs.length) else false then
      (Option.bind (Γ 65 [slTopicS xs, nI (gs.getD i.toNat zLeg).Topic] []) fun r2 =>
      bif !asB r2.fst then
        (some (AV.B false, []))
      else
        (bif decide ((gs.getD i.toNat zLeg).Topic = x.Into) then
          (some (AV.B false, []))
        else
          (Option.bind (Γ 86 [nI (gs.getD i.toNat zLeg).Lost, nI 0, nI 1000000000] []) fun r5 =>
          bif !asB r5.fst then
            (some (AV.B false, []))
          else
            (bif !(gs.getD i.toNat zLeg).Over then
              (Option.bind (Γ 158 [slTopicS xs, slLeg (gs.getD i.toNat zLeg)] []) fun r8 =>
              bif !asB r8.fst then
                (some (AV.B false, []))
              else
                (bif decide (0 ≤ i) && decide (i ≤ zN x.Legs.length) then
                  (Option.bind (Γ 159 [AV.sl (i.toNat - 0) 4 fun i_1 j => mrg (decide (i_1 < i.toNat - 0)) (gsLegS x.Legs (0 + i_1) j) (gsLegS x.Legs x.Legs.length j), AV.clo 160 1 (lstG [AV.sp 4 (lstG (clLeg (gs.getD i.toNat zLeg)))])] []) fun r11 =>
                  bif asB r11.fst then
                    (some (AV.B false, []))
                  else
                    (H P79 (S79 xs x gs m (IntKind.i64.wrap (i + 1)))))
                else
                  (none)))
            else
              (bif decide (0 ≤ i) && decide (i ≤ zN x.Legs.length) then
                (Option.bind (Γ 159 [AV.sl (i.toNat - 0) 4 fun i_1 j => mrg (decide (i_1 < i.toNat - 0)) (gsLegS x.Legs (0 + i_1) j) (gsLegS x.Legs x.Legs.length j), AV.clo 160 1 (lstG [AV.sp 4 (lstG (clLeg (gs.getD i.toNat zLeg)))])] []) fun r9 =>
                bif asB r9.fst then
                  (some (AV.B false, []))
                else
                  (H P79 (S79 xs x gs m (IntKind.i64.wrap (i + 1)))))
              else
                (none))))))
    else
      (none))
  else
    (some (AV.B true, [])) := by kernel_rfl
theorem e125 (Γ : Orc) (H : Hd) (xs : List VTopic) (x : VMerge) (n : Int) : ent Tryz.prog cfg Γ 125 H [slTopicS xs, slMerge x, nI n] [] =
  bif bif decide (0 ≤ n) then decide (n < zN x.Legs.length) else false then
    (Option.bind (Γ 22 [nI (x.Legs.getD n.toNat zLeg).Topic, nI 0, nI (IntKind.i64.wrap (zN xs.length - 1))] []) fun r1 =>
    bif !asB r1.fst then
      (some (AV.B false, []))
    else
      (bif decide ((x.Legs.getD n.toNat zLeg).Topic = x.Into) then
        (some (AV.B false, []))
      else
        (Option.bind (Γ 22 [nI (x.Legs.getD n.toNat zLeg).Lost, nI 0, nI 1000000000] []) fun r4 =>
        bif !asB r4.fst then
          (some (AV.B false, []))
        else
          (H P125 (S125 xs x (x.Legs.getD n.toNat zLeg) n 0)))))
  else
    (none) := by kernel_rfl
theorem h125 (Γ : Orc) (H : Hd) (xs : List VTopic) (x : VMerge) (g : VLeg) (n i : Int) : hed Tryz.prog cfg Γ 125 H [] P125 (S125 xs x g n i) =
  bif decide (i < n) then
    (bif bif decide (0 ≤ i) then decide (i < zN x.Legs.length) else false then
      (bif decide ((x.Legs.getD i.toNat zLeg).Topic = g.Topic) then
        (some (AV.B false, []))
      else
        (H P125 (S125 xs x g n (IntKind.i64.wrap (i + 1)))))
    else
      (none))
  else
    (bif bif decide (0 ≤ g.Topic) then decide (g.Topic < zN xs.length) else false then
      (bif g.Over then
        (some (AV.B true, []))
      else
        (Option.bind (Γ 195 [slRing (xs.getD g.Topic.toNat zTopic).Ring, nI g.Id] []) fun r3 =>
        bif decide (0 ≤ asI r3.fst) then
          (Option.bind (Γ 196 [slIntS (xs.getD g.Topic.toNat zTopic).Ring.Line, nI g.Id] []) fun r5 =>
          bif !asB r5.fst then
            (Option.bind (Γ 196 [slIntS (xs.getD g.Topic.toNat zTopic).Ring.Grants, nI g.Id] []) fun r7 =>
            some (AV.B !asB r7.fst, []))
          else
            (some (AV.B false, [])))
        else
          (some (AV.B false, []))))
    else
      (none)) := by kernel_rfl
theorem e195 (Γ : Orc) (H : Hd) (x : VRing) (a : Int) : ent Tryz.prog cfg Γ 195 H [slRing x, nI a] [] =
  H P195 (S195 x a 0) := by kernel_rfl
theorem e233 (Γ : Orc) (H : Hd) (x : VRing) (a : Int) : ent Tryz.prog cfg Γ 233 H [slRing x, nI a] [] =
  Option.bind (Γ 261 [slSubS x.Subs, AV.clo 262 1 (lstG [AV.sp 1 (lstG [nI a])])] []) fun r0 =>
  some (nI (asI r0.fst), []) := by kernel_rfl
theorem h195 (Γ : Orc) (H : Hd) (x : VRing) (a i : Int) : hed Tryz.prog cfg Γ 195 H [] P195 (S195 x a i) =
  bif decide (i < zN x.Subs.length) then
    (bif bif decide (0 ≤ i) then decide (i < zN x.Subs.length) else false then
      (bif decide ((x.Subs.getD i.toNat zSub).Id = a) then
        (some (nI i, []))
      else
        (H P195 (S195 x a (IntKind.i64.wrap (i + 1)))))
    else
      (none))
  else
    (some (nI (-1), [])) := by kernel_rfl
theorem e193 (Γ : Orc) (H : Hd) (x : VRing) : ent Tryz.prog cfg Γ 193 H [slRing x] [] =
  H P193 (S193 x x.Sent 0) := by kernel_rfl
theorem e221 (Γ : Orc) (H : Hd) (x : VRing) : ent Tryz.prog cfg Γ 221 H [slRing x] [] =
  H P221 (S221 x x.Subs x.Sent (zN x.Subs.length) 0) := by kernel_rfl
theorem e222 (Γ : Orc) (H : Hd) (x : VRing) : ent Tryz.prog cfg Γ 222 H [slRing x] [] =
  Option.bind (Γ 257 [AV.sl 2 1 fun i => lstG [(mrg (decide (i = 0)) (slIntS x.Line) (mrg (decide (i - 1 = 0)) (slIntS x.Grants) (AV.own 0 1 fun x => lstG [nI 0]))).sh]] []) fun r0 =>
  H [true, true, false, true] (hdS [(1, AV.pb 65 0), (3, AV.rf 311296), (13, AV.rf 311296), (14, nI (zN (asN r0.fst))), (15, nI 0)] [(311296, ⟨asN r0.fst, 1, fun i => lstG [nI (asI (asG r0.fst i 0))]⟩)] [(65, 8, (clRing x))]) := by kernel_rfl
theorem h193 (Γ : Orc) (H : Hd) (x : VRing) (l i : Int) : hed Tryz.prog cfg Γ 193 H [] P193 (S193 x l i) =
  bif decide (i < zN x.Subs.length) then
    (bif bif decide (0 ≤ i) then decide (i < zN x.Subs.length) else false then
      (bif decide ((x.Subs.getD i.toNat zSub).Cursor < l) then
        (bif bif decide (0 ≤ i) then decide (i < zN x.Subs.length) else false then
          (H P193 (S193 x (x.Subs.getD i.toNat zSub).Cursor (IntKind.i64.wrap (i + 1))))
        else
          (none))
      else
        (H P193 (S193 x l (IntKind.i64.wrap (i + 1)))))
    else
      (none))
  else
    (bif decide (l < IntKind.i64.wrap (x.Sent - x.Cap)) then
      (bif decide (IntKind.i64.wrap (x.Sent - x.Cap) < 0) then
        (some (nI 0, []))
      else
        (some (nI (IntKind.i64.wrap (x.Sent - x.Cap)), [])))
    else
      (bif decide (l < 0) then
        (some (nI 0, []))
      else
        (some (nI l, [])))) := by kernel_rfl
theorem h221 (Γ : Orc) (H : Hd) (x : VRing) (ys : List VSub) (l m i : Int) : hed Tryz.prog cfg Γ 221 H [] P221 (S221 x ys l m i) =
  bif decide (i < m) then
    (bif bif decide (0 ≤ i) then decide (i < zN ys.length) else false then
      (H P221 (S221 x ys (bif decide ((ys.getD i.toNat zSub).Cursor < l) then (ys.getD i.toNat zSub).Cursor else l) m (IntKind.i64.wrap (i + 1))))
    else
      (none))
  else
    (some (nI (bif decide ((bif decide (IntKind.i64.wrap (x.Sent - x.Cap) < 0) then 0 else IntKind.i64.wrap (x.Sent - x.Cap)) < l) then l else bif decide (IntKind.i64.wrap (x.Sent - x.Cap) < 0) then 0 else IntKind.i64.wrap (x.Sent - x.Cap)), [])) := by kernel_rfl
theorem e192 (Γ : Orc) (H : Hd) (x : VRing) (s : VSub) : ent Tryz.prog cfg Γ 192 H [slRing x, slSub s] [] =
  Option.bind (Γ 22 [nI s.Id, nI 0, nI (IntKind.i64.wrap (x.Next - 1))] []) fun r0 =>
  bif !asB r0.fst then
    (some (AV.B false, []))
  else
    (bif decide (s.Start < 0) then
      (some (AV.B false, []))
    else
      (bif decide (s.Cursor < s.Start) then
        (some (AV.B false, []))
      else
        (bif decide (x.Sent < s.Cursor) then
          (some (AV.B false, []))
        else
          (bif decide (s.Got < 0) then
            (some (AV.B false, []))
          else
            (bif decide (s.Lost < 0) then
              (some (AV.B false, []))
            else
              (bif decide (s.Passed < 0) then
                (some (AV.B false, []))
              else
                (bif decide (s.Got ≤ IntKind.i64.wrap (s.Cursor - s.Start)) then
                  (bif decide (s.Lost ≤ IntKind.i64.wrap (s.Cursor - s.Start)) then
                    (bif decide (s.Passed ≤ IntKind.i64.wrap (s.Cursor - s.Start)) then
                      (bif decide (IntKind.i64.wrap (IntKind.i64.wrap (s.Got + s.Lost) + s.Passed) = IntKind.i64.wrap (s.Cursor - s.Start)) then
                        (Option.bind (Γ 51 [slTermS s.Filter] []) fun r12 =>
                        some (AV.B (asB r12.fst), []))
                      else
                        (some (AV.B false, [])))
                    else
                      (some (AV.B false, [])))
                  else
                    (some (AV.B false, [])))
                else
                  (some (AV.B false, []))))))))) := by kernel_rfl
theorem e218 (Γ : Orc) (H : Hd) (x : VRing) (s : VSub) : ent Tryz.prog cfg Γ 218 H [slRing x, slSub s] [] =
  bif decide (s.Start < 0) then
    (some (AV.B false, []))
  else
    (bif decide (s.Cursor < s.Start) then
      (some (AV.B false, []))
    else
      (bif decide (x.Sent < s.Cursor) then
        (some (AV.B false, []))
      else
        (Option.bind (Γ 165 [slTermS s.Filter] []) fun r3 =>
        bif !asB r3.fst then
          (some (AV.B false, []))
        else
          (Option.bind (Γ 86 [nI s.Got, nI 0, nI (IntKind.i64.wrap (s.Cursor - s.Start))] []) fun r5 =>
          bif asB r5.fst then
            (Option.bind (Γ 86 [nI s.Lost, nI 0, nI (IntKind.i64.wrap (s.Cursor - s.Start))] []) fun r7 =>
            bif asB r7.fst then
              (Option.bind (Γ 86 [nI s.Passed, nI 0, nI (IntKind.i64.wrap (s.Cursor - s.Start))] []) fun r9 =>
              bif asB r9.fst then
                (some (AV.B (decide (IntKind.i64.wrap (IntKind.i64.wrap (s.Got + s.Lost) + s.Passed) = IntKind.i64.wrap (s.Cursor - s.Start))), []))
              else
                (some (AV.B false, [])))
            else
              (some (AV.B false, [])))
          else
            (some (AV.B false, [])))))) := by kernel_rfl
theorem h120a (Γ : Orc) (H : Hd) (x : VRing) (i : Int) : hed Tryz.prog cfg Γ 120 H [] P120a (S120a x i) =
  bif decide (i < zN x.Subs.length) then
    (bif bif decide (0 ≤ i) then decide (i < zN x.Subs.length) else false then
      (Option.bind (Γ 192 [slRing x, slSub (x.Subs.getD i.toNat zSub)] []) fun r2 =>
      bif !asB r2.fst then
        (and2
        (and2
          (some (AV.B false, []))
          (and2
            (some (AV.B false, []))
            (some (AV.B false, []))))
        (and2
          (some (AV.B false, []))
          (and2
            (and2
              (some (AV.B false, []))
              (some (AV.B false, [])))
            (and2
              (some (AV.B false, []))
              (and2
                (some (AV.B false, []))
                (some (AV.B false, [])))))))
      else
        (bif decide (0 < i) then
          (bif bif decide (0 ≤ IntKind.i64.wrap (i - 1)) then decide (IntKind.i64.wrap (i - 1) < zN x.Subs.length) else false then
            (bif bif decide (0 ≤ i) then decide (i < zN x.Subs.length) else false then
              (bif decide ((x.Subs.getD i.toNat zSub).Id ≤ (x.Subs.getD (IntKind.i64.wrap (i - 1)).toNat zSub).Id) then
                (some (AV.B false, []))
              else
                (H P120a (S120a x (IntKind.i64.wrap (i + 1)))))
            else
              (none))
          else
            (none))
        else
          (and2
          (and2
            (H P120a (S120a x (IntKind.i64.wrap (i + 1))))
            (and2
              (H P120a (S120a x (IntKind.i64.wrap (i + 1))))
              (H P120a (S120a x (IntKind.i64.wrap (i + 1))))))
          (and2
            (H P120a (S120a x (IntKind.i64.wrap (i + 1))))
            (and2
              (and2
                (H P120a (S120a x (IntKind.i64.wrap (i + 1))))
                (H P120a (S120a x (IntKind.i64.wrap (i + 1)))))
              (and2
                (H P120a (S120a x (IntKind.i64.wrap (i + 1))))
                (and2
                  (H P120a (S120a x (IntKind.i64.wrap (i + 1))))
                  (H P120a (S120a x (IntKind.i64.wrap (i + 1)))))))))))
    else
      (none))
  else
    (and2
    (and2
      (Option.bind (Γ 193 [slRing x] []) fun r3 =>
        bif !decide (zN x.Items.length = IntKind.i64.wrap (x.Sent - asI r3.fst)) then
          (some (AV.B false, []))
        else
          (bif decide (12 < IntKind.i64.wrap (zN x.Line.length + zN x.Grants.length)) then
            (some (AV.B false, []))
          else
            (bif x.Closed then
              (bif decide (0 < zN x.Line.length) then
                (some (AV.B false, []))
              else
                (H P120b (S120b x 0)))
            else
              (H P120b (S120b x 0)))))
      (Option.bind (Γ 193 [slRing x] []) fun r3 =>
        bif !decide (zN x.Items.length = IntKind.i64.wrap (x.Sent - asI r3.fst)) then
          (some (AV.B false, []))
        else
          (bif decide (12 < IntKind.i64.wrap (zN x.Line.length + zN x.Grants.length)) then
            (some (AV.B false, []))
          else
            (bif x.Closed then
              (bif decide (0 < zN x.Line.length) then
                (some (AV.B false, []))
              else
                (H P120b (S120b x 0)))
            else
              (H P120b (S120b x 0))))))
    (and2
      (and2
        (Option.bind (Γ 193 [slRing x] []) fun r4 =>
          bif !decide (zN x.Items.length = IntKind.i64.wrap (x.Sent - asI r4.fst)) then
            (some (AV.B false, []))
          else
            (bif decide (12 < IntKind.i64.wrap (zN x.Line.length + zN x.Grants.length)) then
              (some (AV.B false, []))
            else
              (bif x.Closed then
                (bif decide (0 < zN x.Line.length) then
                  (some (AV.B false, []))
                else
                  (H P120b (S120b x 0)))
              else
                (H P120b (S120b x 0)))))
        (Option.bind (Γ 193 [slRing x] []) fun r4 =>
          bif !decide (zN x.Items.length = IntKind.i64.wrap (x.Sent - asI r4.fst)) then
            (some (AV.B false, []))
          else
            (bif decide (12 < IntKind.i64.wrap (zN x.Line.length + zN x.Grants.length)) then
              (some (AV.B false, []))
            else
              (bif x.Closed then
                (bif decide (0 < zN x.Line.length) then
                  (some (AV.B false, []))
                else
                  (H P120b (S120b x 0)))
              else
                (H P120b (S120b x 0))))))
      (Option.bind (Γ 193 [slRing x] []) fun r3 =>
        bif !decide (zN x.Items.length = IntKind.i64.wrap (x.Sent - asI r3.fst)) then
          (some (AV.B false, []))
        else
          (bif decide (12 < IntKind.i64.wrap (zN x.Line.length + zN x.Grants.length)) then
            (some (AV.B false, []))
          else
            (bif x.Closed then
              (bif decide (0 < zN x.Line.length) then
                (some (AV.B false, []))
              else
                (H P120b (S120b x 0)))
            else
              (H P120b (S120b x 0))))))) := by kernel_rfl
theorem h120b (Γ : Orc) (H : Hd) (x : VRing) (i : Int) : hed Tryz.prog cfg Γ 120 H [] P120b (S120b x i) =
  bif decide (i < zN x.Items.length) then
    (bif bif decide (0 ≤ i) then decide (i < zN x.Items.length) else false then
      (Option.bind (Γ 49 [slMsg (x.Items.getD i.toNat zMsg)] []) fun r2 =>
      bif !asB r2.fst then
        (some (AV.B false, []))
      else
        (H P120b (S120b x (IntKind.i64.wrap (i + 1)))))
    else
      (none))
  else
    (and2
    (Option.bind (Γ 194 [slIntS x.Line] []) fun r2 =>
      bif decide (asN r2.fst + x.Grants.length ≤ 4294967296) && true && true && true && true then
        (H [true, true, true, true, true, true, false, true] (hdS [(1, AV.pb 65 0), (5, AV.rf 749568), (6, nI 0)] [(749568, ⟨asN r2.fst + x.Grants.length, 1, fun i => lstG [nI (bif decide (i < asN r2.fst) then asI (asG r2.fst i 0) else x.Grants.getD (i - asN r2.fst) 0)]⟩)] [(65, 8, (clRing x))]))
      else
        (none))
    (Option.bind (Γ 194 [slIntS x.Line] []) fun r2 =>
      bif decide (asN r2.fst + x.Grants.length ≤ 4294967296) && true && true && true && true then
        (H [true, true, true, true, true, true, false, true] (hdS [(1, AV.pb 65 0), (5, AV.rf 749568), (6, nI 0)] [(749568, ⟨asN r2.fst + x.Grants.length, 1, fun i => lstG [nI (bif decide (i < asN r2.fst) then asI (asG r2.fst i 0) else x.Grants.getD (i - asN r2.fst) 0)]⟩)] [(65, 8, (clRing x))]))
      else
        (none))) := by kernel_rfl
theorem h120c (Γ : Orc) (H : Hd) (x : VRing) (os : List Int) (i : Int) : hed Tryz.prog cfg Γ 120 H [] P120c (S120c x os i) =
  bif decide (i < zN os.length) then
    (bif bif decide (0 ≤ i) then decide (i < zN os.length) else false then
      (Option.bind (Γ 195 [slRing x, nI (os.getD i.toNat 0)] []) fun r2 =>
      bif decide (asI r2.fst < 0) then
        (some (AV.B false, []))
      else
        (bif decide (0 ≤ i) && decide (i ≤ zN os.length) then
          (bif bif decide (0 ≤ i) then decide (i < zN os.length) else false then
            (Option.bind (Γ 196 [AV.sl (i.toNat - 0) 1 fun i_1 => lstG [nI (bif decide (i_1 < i.toNat - 0) then os.getD (0 + i_1) 0 else os.getD os.length 0)], nI (os.getD i.toNat 0)] []) fun r6 =>
            bif asB r6.fst then
              (some (AV.B false, []))
            else
              (bif decide (i < zN x.Line.length) then
                (bif bif decide (0 ≤ asI r2.fst) then decide (asI r2.fst < zN x.Subs.length) else false then
                  (bif !decide ((x.Subs.getD (asI r2.fst).toNat zSub).Cursor = x.Sent) then
                    (some (AV.B false, []))
                  else
                    (H [true, true, true, true, true, true, false, true] (hdS [(1, AV.pb 65 0), (5, AV.rf 749568), (6, nI (IntKind.i64.wrap (i + 1)))] [(749568, ⟨os.length, 1, gI os⟩)] [(65, 8, (clRing x))])))
                else
                  (none))
              else
                (H [true, true, true, true, true, true, false, true] (hdS [(1, AV.pb 65 0), (5, AV.rf 749568), (6, nI (IntKind.i64.wrap (i + 1)))] [(749568, ⟨os.length, 1, gI os⟩)] [(65, 8, (clRing x))]))))
          else
            (none))
        else
          (none)))
    else
      (none))
  else
    (some (AV.B true, [])) := by kernel_rfl
theorem h144 (Γ : Orc) (H : Hd) (x : VRing) (ys : List VSub) (m i : Int) : hed Tryz.prog cfg Γ 144 H [] P144 (S144 x ys m i) =
  bif decide (i < m) then
    (bif bif decide (0 ≤ i) then decide (i < zN ys.length) else false then
      (Option.bind (Γ 86 [nI (ys.getD i.toNat zSub).Id, nI 0, nI (IntKind.i64.wrap (x.Next - 1))] []) fun r2 =>
      bif !asB r2.fst then
        (and2
        (and2
          (some (AV.B false, []))
          (some (AV.B false, [])))
        (and2
          (some (AV.B false, []))
          (and2
            (some (AV.B false, []))
            (some (AV.B false, [])))))
      else
        (bif decide (0 < i) then
          (bif bif decide (0 ≤ IntKind.i64.wrap (i - 1)) then decide (IntKind.i64.wrap (i - 1) < zN x.Subs.length) else false then
            (bif decide ((ys.getD i.toNat zSub).Id ≤ (x.Subs.getD (IntKind.i64.wrap (i - 1)).toNat zSub).Id) then
              (some (AV.B false, []))
            else
              (Option.bind (Γ 218 [slRing x, slSub (ys.getD i.toNat zSub)] []) fun r7 =>
              bif !asB r7.fst then
                (some (AV.B false, []))
              else
                (H P144 (S144 x ys m (IntKind.i64.wrap (i + 1))))))
          else
            (none))
        else
          (and2
          (and2
            (Option.bind (Γ 218 [slRing x, slSub (ys.getD i.toNat zSub)] []) fun r7 =>
              bif !asB r7.fst then
                (some (AV.B false, []))
              else
                (H P144 (S144 x ys m (IntKind.i64.wrap (i + 1)))))
            (Option.bind (Γ 218 [slRing x, slSub (ys.getD i.toNat zSub)] []) fun r7 =>
              bif !asB r7.fst then
                (some (AV.B false, []))
              else
                (H P144 (S144 x ys m (IntKind.i64.wrap (i + 1))))))
          (and2
            (Option.bind (Γ 218 [slRing x, slSub (ys.getD i.toNat zSub)] []) fun r7 =>
              bif !asB r7.fst then
                (some (AV.B false, []))
              else
                (H P144 (S144 x ys m (IntKind.i64.wrap (i + 1)))))
            (and2
              (Option.bind (Γ 218 [slRing x, slSub (ys.getD i.toNat zSub)] []) fun r8 =>
                bif !asB r8.fst then
                  (some (AV.B false, []))
                else
                  (H P144 (S144 x ys m (IntKind.i64.wrap (i + 1)))))
              (Option.bind (Γ 218 [slRing x, slSub (ys.getD i.toNat zSub)] []) fun r8 =>
                bif !asB r8.fst then
                  (some (AV.B false, []))
                else
                  (H P144 (S144 x ys m (IntKind.i64.wrap (i + 1))))))))))
    else
      (none))
  else
    (Option.bind (Γ 219 [slMsgS x.Items, AV.clo 220 0 (lstG [])] []) fun r1 =>
    bif asB r1.fst then
      (some (AV.B false, []))
    else
      (and2
      (and2
        (Option.bind (Γ 221 [slRing x] []) fun r5 =>
          bif decide (zN x.Items.length = IntKind.i64.wrap (x.Sent - asI r5.fst)) then
            (Option.bind (Γ 222 [slRing x] []) fun r7 =>
            some (AV.B (asB r7.fst), []))
          else
            (some (AV.B false, [])))
        (Option.bind (Γ 221 [slRing x] []) fun r5 =>
          bif decide (zN x.Items.length = IntKind.i64.wrap (x.Sent - asI r5.fst)) then
            (Option.bind (Γ 222 [slRing x] []) fun r7 =>
            some (AV.B (asB r7.fst), []))
          else
            (some (AV.B false, []))))
      (and2
        (and2
          (Option.bind (Γ 221 [slRing x] []) fun r6 =>
            bif decide (zN x.Items.length = IntKind.i64.wrap (x.Sent - asI r6.fst)) then
              (Option.bind (Γ 222 [slRing x] []) fun r8 =>
              some (AV.B (asB r8.fst), []))
            else
              (some (AV.B false, [])))
          (Option.bind (Γ 221 [slRing x] []) fun r6 =>
            bif decide (zN x.Items.length = IntKind.i64.wrap (x.Sent - asI r6.fst)) then
              (Option.bind (Γ 222 [slRing x] []) fun r8 =>
              some (AV.B (asB r8.fst), []))
            else
              (some (AV.B false, []))))
        (Option.bind (Γ 221 [slRing x] []) fun r5 =>
          bif decide (zN x.Items.length = IntKind.i64.wrap (x.Sent - asI r5.fst)) then
            (Option.bind (Γ 222 [slRing x] []) fun r7 =>
            some (AV.B (asB r7.fst), []))
          else
            (some (AV.B false, [])))))) := by kernel_rfl
theorem h222 (Γ : Orc) (H : Hd) (x : VRing) (os : List Int) (m i : Int) : hed Tryz.prog cfg Γ 222 H [] P222 (S222 x os m i) =
  bif decide (i < m) then
    (bif bif decide (0 ≤ i) then decide (i < zN os.length) else false then
      (Option.bind (Γ 233 [slRing x, nI (os.getD i.toNat 0)] []) fun r2 =>
      bif decide (asI r2.fst < 0) then
        (some (AV.B false, []))
      else
        (bif decide (0 ≤ i) && decide (i ≤ zN os.length) then
          (Option.bind (Γ 228 [AV.sl (i.toNat - 0) 1 fun i_1 => lstG [nI (bif decide (i_1 < i.toNat - 0) then os.getD (0 + i_1) 0 else os.getD os.length 0)], nI (os.getD i.toNat 0)] []) fun r5 =>
          bif asB r5.fst then
            (some (AV.B false, []))
          else
            (bif decide (i < zN x.Line.length) then
              (bif bif decide (0 ≤ asI r2.fst) then decide (asI r2.fst < zN x.Subs.length) else false then
                (bif !decide ((x.Subs.getD (asI r2.fst).toNat zSub).Cursor = x.Sent) then
                  (some (AV.B false, []))
                else
                  (H [true, true, false, true] (hdS [(1, AV.pb 65 0), (3, AV.rf 311296), (13, AV.rf 311296), (14, nI m), (15, nI (IntKind.i64.wrap (i + 1)))] [(311296, ⟨os.length, 1, gI os⟩)] [(65, 8, (clRing x))])))
              else
                (none))
            else
              (H [true, true, false, true] (hdS [(1, AV.pb 65 0), (3, AV.rf 311296), (13, AV.rf 311296), (14, nI m), (15, nI (IntKind.i64.wrap (i + 1)))] [(311296, ⟨os.length, 1, gI os⟩)] [(65, 8, (clRing x))]))))
        else
          (none)))
    else
      (none))
  else
    (bif x.Closed then
      (some (AV.B !decide (0 < zN x.Line.length), []))
    else
      (some (AV.B true, []))) := by kernel_rfl
theorem e257 (Γ : Orc) (H : Hd) (xs ys : List Int) : ent Tryz.prog cfg Γ 257 H [.sl 2 1 (fun i => lstG [(mrg (decide (i = 0)) (slIntS xs) (mrg (decide (i - 1 = 0)) (slIntS ys) (.own 0 1 fun x => lstG [nI 0]))).sh])] [] =
  H [true, true, false, true] (hdS [(0, AV.sl 2 1 fun i => lstG [(mrg (decide (i = 0)) (slIntS xs) (mrg (decide (i - 1 = 0)) (slIntS ys) (AV.own 0 1 fun x => lstG [nI 0]))).sh]), (3, nI 0), (9, AV.sl 2 1 fun i => lstG [(mrg (decide (i = 0)) (slIntS xs) (mrg (decide (i - 1 = 0)) (slIntS ys) (AV.own 0 1 fun x => lstG [nI 0]))).sh]), (10, nI (zN 2)), (11, nI 0)] [] []) := by kernel_rfl
theorem h257a0 (Γ : Orc) (H : Hd) (xs ys : List Int) (s : Int) : hed Tryz.prog cfg Γ 257 H [] P257a0 (S257a0 xs ys s) =
  bif decide (IntKind.i64.wrap (s + zN xs.length) < 0) then
    (none)
  else
    (H [true, true, false, true] (hdS [(0, AV.sl 2 1 fun i => lstG [(mrg (decide (i = 0)) (slIntS xs) (mrg (decide (i - 1 = 0)) (slIntS ys) (AV.own 0 1 fun x => lstG [nI 0]))).sh]), (3, nI (IntKind.i64.wrap (s + zN xs.length))), (9, AV.sl 2 1 fun i => lstG [(mrg (decide (i = 0)) (slIntS xs) (mrg (decide (i - 1 = 0)) (slIntS ys) (AV.own 0 1 fun x => lstG [nI 0]))).sh]), (10, nI 2), (11, nI 1)] [] [])) := by kernel_rfl
theorem h257a1 (Γ : Orc) (H : Hd) (xs ys : List Int) (s : Int) : hed Tryz.prog cfg Γ 257 H [] P257a1 (S257a1 xs ys s) =
  bif decide (IntKind.i64.wrap (s + zN ys.length) < 0) then
    (none)
  else
    (H [true, true, false, true] (hdS [(0, AV.sl 2 1 fun i => lstG [(mrg (decide (i = 0)) (slIntS xs) (mrg (decide (i - 1 = 0)) (slIntS ys) (AV.own 0 1 fun x => lstG [nI 0]))).sh]), (3, nI (IntKind.i64.wrap (s + zN ys.length))), (9, AV.sl 2 1 fun i => lstG [(mrg (decide (i = 0)) (slIntS xs) (mrg (decide (i - 1 = 0)) (slIntS ys) (AV.own 0 1 fun x => lstG [nI 0]))).sh]), (10, nI 2), (11, nI 2)] [] [])) := by kernel_rfl
theorem h257a2 (Γ : Orc) (H : Hd) (xs ys : List Int) (s : Int) : hed Tryz.prog cfg Γ 257 H [] P257a2 (S257a2 xs ys s) =
  Option.bind (Γ 277 [AV.nsl 1 (zg Tryz.prog 3), nI s] []) fun r0 =>
  H [true, true, true, true, false, true] (hdS [(6, AV.rf 397312), (25, AV.sl 2 1 fun i => lstG [(mrg (decide (i = 0)) (slIntS xs) (mrg (decide (i - 1 = 0)) (slIntS ys) (AV.own 0 1 fun x => lstG [nI 0]))).sh]), (26, nI (zN 2)), (27, nI 0)] [(397312, ⟨asN r0.fst, 1, fun i => lstG [nI (asI (asG r0.fst i 0))]⟩)] []) := by kernel_rfl
theorem h257b0 (Γ : Orc) (H : Hd) (xs ys os : List Int) : hed Tryz.prog cfg Γ 257 H [] P257b0 (S257b0 xs ys os) =
  bif decide (os.length + xs.length ≤ 4294967296) && true && true && true && true then
    (H [true, true, true, true, false, true] (hdS [(6, AV.rf 397312), (25, AV.sl 2 1 fun i => lstG [(mrg (decide (i = 0)) (slIntS xs) (mrg (decide (i - 1 = 0)) (slIntS ys) (AV.own 0 1 fun x => lstG [nI 0]))).sh]), (26, nI 2), (27, nI 1)] [(397312, ⟨os.length + xs.length, 1, fun i => lstG [nI (bif decide (i < os.length) then os.getD i 0 else xs.getD (i - os.length) 0)]⟩)] []))
  else
    (none) := by kernel_rfl
theorem h257b1 (Γ : Orc) (H : Hd) (xs ys os : List Int) : hed Tryz.prog cfg Γ 257 H [] P257b1 (S257b1 xs ys os) =
  bif decide (os.length + ys.length ≤ 4294967296) && true && true && true && true then
    (H [true, true, true, true, false, true] (hdS [(6, AV.rf 397312), (25, AV.sl 2 1 fun i => lstG [(mrg (decide (i = 0)) (slIntS xs) (mrg (decide (i - 1 = 0)) (slIntS ys) (AV.own 0 1 fun x => lstG [nI 0]))).sh]), (26, nI 2), (27, nI 2)] [(397312, ⟨os.length + ys.length, 1, fun i => lstG [nI (bif decide (i < os.length) then os.getD i 0 else ys.getD (i - os.length) 0)]⟩)] []))
  else
    (none) := by kernel_rfl
theorem h257b2 (Γ : Orc) (H : Hd) (xs ys os : List Int) : hed Tryz.prog cfg Γ 257 H [] P257b2 (S257b2 xs ys os) =
  bif okT then
    (some (AV.own os.length 1 (gI os), []))
  else
    (none) := by kernel_rfl
theorem e47 (Γ : Orc) (H : Hd) (x : VHub) : ent Tryz.prog cfg Γ 47 H [slHub x] [] =
  bif decide (8 < zN x.Notes.length) then
    (some (AV.B false, []))
  else
    (bif decide (8 < zN x.Events.length) then
      (some (AV.B false, []))
    else
      (bif decide (8 < zN x.Latches.length) then
        (some (AV.B false, []))
      else
        (bif decide (8 < zN x.Cells.length) then
          (some (AV.B false, []))
        else
          (H P47a (S47a x 0))))) := by kernel_rfl
theorem h47a (Γ : Orc) (H : Hd) (x : VHub) (i : Int) : hed Tryz.prog cfg Γ 47 H [] P47a (S47a x i) =
  bif decide (i < zN x.Notes.length) then
    (bif bif decide (0 ≤ i) then decide (i < zN x.Notes.length) else false then
      (Option.bind (Γ 121 [slNotify (x.Notes.getD i.toNat zNotify)] []) fun r2 =>
      bif !asB r2.fst then
        (some (AV.B false, []))
      else
        (H P47a (S47a x (IntKind.i64.wrap (i + 1)))))
    else
      (none))
  else
    (H P47b (S47b x 0)) := by kernel_rfl
theorem h47b (Γ : Orc) (H : Hd) (x : VHub) (i : Int) : hed Tryz.prog cfg Γ 47 H [] P47b (S47b x i) =
  bif decide (i < zN x.Events.length) then
    (bif bif decide (0 ≤ i) then decide (i < zN x.Events.length) else false then
      (Option.bind (Γ 122 [slEvent (x.Events.getD i.toNat zEvent)] []) fun r2 =>
      bif !asB r2.fst then
        (some (AV.B false, []))
      else
        (H P47b (S47b x (IntKind.i64.wrap (i + 1)))))
    else
      (none))
  else
    (H P47c (S47c x 0)) := by kernel_rfl
theorem h47c (Γ : Orc) (H : Hd) (x : VHub) (i : Int) : hed Tryz.prog cfg Γ 47 H [] P47c (S47c x i) =
  bif decide (i < zN x.Latches.length) then
    (bif bif decide (0 ≤ i) then decide (i < zN x.Latches.length) else false then
      (Option.bind (Γ 123 [slLatch (x.Latches.getD i.toNat zLatch)] []) fun r2 =>
      bif !asB r2.fst then
        (some (AV.B false, []))
      else
        (H P47c (S47c x (IntKind.i64.wrap (i + 1)))))
    else
      (none))
  else
    (H P47d (S47d x 0)) := by kernel_rfl
theorem h47d (Γ : Orc) (H : Hd) (x : VHub) (i : Int) : hed Tryz.prog cfg Γ 47 H [] P47d (S47d x i) =
  bif decide (i < zN x.Cells.length) then
    (bif bif decide (0 ≤ i) then decide (i < zN x.Cells.length) else false then
      (Option.bind (Γ 124 [slCell (x.Cells.getD i.toNat zCell)] []) fun r2 =>
      bif !asB r2.fst then
        (some (AV.B false, []))
      else
        (H P47d (S47d x (IntKind.i64.wrap (i + 1)))))
    else
      (none))
  else
    (some (AV.B true, [])) := by kernel_rfl
theorem h21a (Γ : Orc) (H : Hd) (x : VHub) (i : Int) : hed Tryz.prog cfg Γ 21 H [] P21a (S21a x i) =
  bif decide (i < zN x.Merges.length) then
    (bif bif decide (0 ≤ i) then decide (i < zN x.Merges.length) else false then
      (Option.bind (Γ 48 [slTopicS x.Topics, slMerge (x.Merges.getD i.toNat zMerge)] []) fun r2 =>
      bif !asB r2.fst then
        (some (AV.B false, []))
      else
        (H P21a (S21a x (IntKind.i64.wrap (i + 1)))))
    else
      (none))
  else
    (H P21b (S21b x 0)) := by kernel_rfl
theorem h21b (Γ : Orc) (H : Hd) (x : VHub) (i : Int) : hed Tryz.prog cfg Γ 21 H [] P21b (S21b x i) =
  bif decide (i < zN x.Users.length) then
    (bif bif decide (0 ≤ i) then decide (i < zN x.Users.length) else false then
      (bif decide (12 < zN (x.Users.getD i.toNat zUser).Subs.length) then
        (some (AV.B false, []))
      else
        (bif !decide (zN (x.Users.getD i.toNat zUser).Seen.length = zN x.Cells.length) then
          (some (AV.B false, []))
        else
          (H P21c (S21c x (x.Users.getD i.toNat zUser) i 0))))
    else
      (none))
  else
    (some (AV.B true, [])) := by kernel_rfl
theorem h21c (Γ : Orc) (H : Hd) (x : VHub) (u : VUser) (i k : Int) : hed Tryz.prog cfg Γ 21 H [] P21c (S21c x u i k) =
  bif decide (k < zN u.Subs.length) then
    (bif bif decide (0 ≤ k) then decide (k < zN u.Subs.length) else false then
      (Option.bind (Γ 22 [nI (u.Subs.getD k.toNat zHit).Topic, nI 0, nI (IntKind.i64.wrap (zN x.Topics.length - 1))] []) fun r2 =>
      bif !asB r2.fst then
        (some (AV.B false, []))
      else
        (H P21c (S21c x u i (IntKind.i64.wrap (k + 1)))))
    else
      (none))
  else
    (H P21b (S21b x (IntKind.i64.wrap (i + 1)))) := by kernel_rfl
theorem h7a (Γ : Orc) (H : Hd) (x : VState) (i : Int) : hed Tryz.prog cfg Γ 7 H [] P7a (S7a x i) =
  bif decide (i < zN x.Clients.length) then
    (bif bif decide (0 ≤ i) then decide (i < zN x.Clients.length) else false then
      (bif decide (30 < zN (x.Clients.getD i.toNat zClient).Prog.length) then
        (some (AV.B false, []))
      else
        (Option.bind (Γ 22 [nI (x.Clients.getD i.toNat zClient).At, nI 0, nI (zN (x.Clients.getD i.toNat zClient).Prog.length)] []) fun r3 =>
        bif !asB r3.fst then
          (some (AV.B false, []))
        else
          (H P7b (S7b x (x.Clients.getD i.toNat zClient) i 0))))
    else
      (none))
  else
    (some (AV.B true, [])) := by kernel_rfl
theorem h7b (Γ : Orc) (H : Hd) (x : VState) (c : VClient) (i k : Int) : hed Tryz.prog cfg Γ 7 H [] P7b (S7b x c i k) =
  bif decide (k < zN c.Prog.length) then
    (bif bif decide (0 ≤ k) then decide (k < zN c.Prog.length) else false then
      (Option.bind (Γ 23 [slCall (c.Prog.getD k.toNat zCall)] []) fun r2 =>
      bif !asB r2.fst then
        (some (AV.B false, []))
      else
        (H P7b (S7b x c i (IntKind.i64.wrap (k + 1)))))
    else
      (none))
  else
    (bif c.Waiting then
      (bif decide (zN c.Prog.length ≤ c.At) then
        (some (AV.B false, []))
      else
        (bif bif decide (0 ≤ c.At) then decide (c.At < zN c.Prog.length) else false then
          (Option.bind (Γ 24 [nI (c.Prog.getD c.At.toNat zCall).Op] []) fun r4 =>
          bif !asB r4.fst then
            (some (AV.B false, []))
          else
            (H P7a (S7a x (IntKind.i64.wrap (i + 1)))))
        else
          (none)))
    else
      (H P7a (S7a x (IntKind.i64.wrap (i + 1))))) := by kernel_rfl
theorem e29 (Γ : Orc) (H : Hd) (x : VClient) : ent Tryz.prog cfg Γ 29 H [slClient x] [] =
  bif decide (30 < zN x.Prog.length) then
    (some (AV.B false, []))
  else
    (Option.bind (Γ 83 [slCallS x.Prog, AV.clo 84 0 (lstG [])] []) fun r1 =>
    bif asB r1.fst then
      (some (AV.B false, []))
    else
      (Option.bind (Γ 86 [nI x.At, nI 0, nI (zN x.Prog.length)] []) fun r3 =>
      bif !asB r3.fst then
        (some (AV.B false, []))
      else
        (bif !x.Waiting then
          (some (AV.B true, []))
        else
          (bif decide (x.At < zN x.Prog.length) then
            (bif bif decide (0 ≤ x.At) then decide (x.At < zN x.Prog.length) else false then
              (Option.bind (Γ 87 [nI (x.Prog.getD x.At.toNat zCall).Op] []) fun r8 =>
              some (AV.B (asB r8.fst), []))
            else
              (none))
          else
            (some (AV.B false, [])))))) := by kernel_rfl
theorem e11 (Γ : Orc) (H : Hd) (x : VState) : ent Tryz.prog cfg Γ 11 H [slState x] [] =
  Option.bind (Γ 7 [slState x] []) fun r0 =>
  bif !asB r0.fst then
    (bif okT then
      (some (AV.own 0 1 fun i => lstG [nI 0], []))
    else
      (none))
  else
    (H [true, true, true, false, true] (hdS [(1, AV.pb 65 0), (3, AV.rf 380928), (4, nI 0)] [(380928, ⟨0, 1, fun i => lstG [nI 0]⟩)] [(65, 12, (clState x))])) := by kernel_rfl
theorem e12 (Γ : Orc) (H : Hd) (x : VState) : ent Tryz.prog cfg Γ 12 H [slState x] [] =
  Option.bind (Γ 9 [slState x] []) fun r0 =>
  bif !asB r0.fst then
    (bif okT then
      (some (AV.own 0 1 fun i => lstG [nI 0], []))
    else
      (none))
  else
    (H [true, true, true, false, true] (hdS [(3, AV.rf 364544), (13, slTopicS x.Hub.Topics), (14, nI (zN x.Hub.Topics.length)), (15, nI 0)] [(364544, ⟨0, 1, fun i => lstG [nI 0]⟩)] [])) := by kernel_rfl
theorem e17 (Γ : Orc) (H : Hd) (x : VState) : ent Tryz.prog cfg Γ 17 H [slState x] [] =
  Option.bind (Γ 7 [slState x] []) fun r0 =>
  bif !asB r0.fst then
    (bif okT then
      (some (AV.own 0 1 fun i => lstG [nI 0], []))
    else
      (none))
  else
    (H [true, true, true, false, true] (hdS [(1, AV.pb 65 0), (3, AV.rf 368640), (4, nI 0)] [(368640, ⟨0, 1, fun i => lstG [nI 0]⟩)] [(65, 12, (clState x))])) := by kernel_rfl
theorem e18 (Γ : Orc) (H : Hd) (x : VState) : ent Tryz.prog cfg Γ 18 H [slState x] [] =
  Option.bind (Γ 9 [slState x] []) fun r0 =>
  bif !asB r0.fst then
    (bif okT then
      (some (AV.own 0 1 fun i => lstG [nI 0], []))
    else
      (none))
  else
    (H [true, true, true, false, true] (hdS [(3, AV.rf 360448), (12, slClientS x.Clients), (13, nI (zN x.Clients.length)), (14, nI 0)] [(360448, ⟨0, 1, fun i => lstG [nI 0]⟩)] [])) := by kernel_rfl
theorem h11 (Γ : Orc) (H : Hd) (x : VState) (os : List Int) (i : Int) : hed Tryz.prog cfg Γ 11 H [] P11 (S11 x os i) =
  bif decide (i < zN x.Hub.Topics.length) then
    (bif bif decide (0 ≤ i) then decide (i < zN x.Hub.Topics.length) else false then
      (bif decide (os.length + 1 ≤ 4294967296) && true && true && true && true then
        (H [true, true, true, false, true] (hdS [(1, AV.pb 65 0), (3, AV.rf 380928), (4, nI (IntKind.i64.wrap (i + 1)))] [(380928, ⟨os.length + 1, 1, fun i_1 => lstG [nI (bif decide (i_1 < os.length) then os.getD i_1 0 else bif decide (i_1 - os.length = 0) then zN (x.Hub.Topics.getD i.toNat zTopic).Ring.Items.length else 0)]⟩)] [(65, 12, (clState x))]))
      else
        (none))
    else
      (none))
  else
    (bif okT then
      (some (AV.own os.length 1 (gI os), []))
    else
      (none)) := by kernel_rfl
theorem h12 (Γ : Orc) (H : Hd) (ys : List VTopic) (os : List Int) (m i : Int) : hed Tryz.prog cfg Γ 12 H [] P12 (S12 ys os m i) =
  bif decide (i < m) then
    (bif bif decide (0 ≤ i) then decide (i < zN ys.length) else false then
      (bif decide (os.length + 1 ≤ 4294967296) && true && true && true && true then
        (H [true, true, true, false, true] (hdS [(3, AV.rf 364544), (13, slTopicS ys), (14, nI m), (15, nI (IntKind.i64.wrap (i + 1)))] [(364544, ⟨os.length + 1, 1, fun i_1 => lstG [nI (bif decide (i_1 < os.length) then os.getD i_1 0 else bif decide (i_1 - os.length = 0) then zN (ys.getD i.toNat zTopic).Ring.Items.length else 0)]⟩)] []))
      else
        (none))
    else
      (none))
  else
    (bif okT then
      (some (AV.own os.length 1 (gI os), []))
    else
      (none)) := by kernel_rfl
theorem h17 (Γ : Orc) (H : Hd) (x : VState) (os : List Int) (i : Int) : hed Tryz.prog cfg Γ 17 H [] P17 (S17 x os i) =
  bif decide (i < zN x.Clients.length) then
    (bif bif decide (0 ≤ i) then decide (i < zN x.Clients.length) else false then
      (bif (x.Clients.getD i.toNat zClient).Waiting then
        (bif decide (os.length + 1 ≤ 4294967296) && true && true && true && true then
          (H [true, true, true, false, true] (hdS [(1, AV.pb 65 0), (3, AV.rf 368640), (4, nI (IntKind.i64.wrap (i + 1)))] [(368640, ⟨os.length + 1, 1, fun i_1 => lstG [nI (bif decide (i_1 < os.length) then os.getD i_1 0 else bif decide (i_1 - os.length = 0) then i else 0)]⟩)] [(65, 12, (clState x))]))
        else
          (none))
      else
        (H [true, true, true, false, true] (hdS [(1, AV.pb 65 0), (3, AV.rf 368640), (4, nI (IntKind.i64.wrap (i + 1)))] [(368640, ⟨os.length, 1, gI os⟩)] [(65, 12, (clState x))])))
    else
      (none))
  else
    (bif okT then
      (some (AV.own os.length 1 (gI os), []))
    else
      (none)) := by kernel_rfl
theorem h18 (Γ : Orc) (H : Hd) (ys : List VClient) (os : List Int) (m i : Int) : hed Tryz.prog cfg Γ 18 H [] P18 (S18 ys os m i) =
  bif decide (i < m) then
    (bif bif decide (0 ≤ i) then decide (i < zN ys.length) else false then
      (bif (ys.getD i.toNat zClient).Waiting then
        (bif decide (os.length + 1 ≤ 4294967296) && true && true && true && true then
          (H [true, true, true, false, true] (hdS [(3, AV.rf 360448), (12, slClientS ys), (13, nI m), (14, nI (IntKind.i64.wrap (i + 1)))] [(360448, ⟨os.length + 1, 1, fun i_1 => lstG [nI (bif decide (i_1 < os.length) then os.getD i_1 0 else bif decide (i_1 - os.length = 0) then i else 0)]⟩)] []))
        else
          (none))
      else
        (H [true, true, true, false, true] (hdS [(3, AV.rf 360448), (12, slClientS ys), (13, nI m), (14, nI (IntKind.i64.wrap (i + 1)))] [(360448, ⟨os.length, 1, gI os⟩)] [])))
    else
      (none))
  else
    (bif okT then
      (some (AV.own os.length 1 (gI os), []))
    else
      (none)) := by kernel_rfl
end Go.Fw
