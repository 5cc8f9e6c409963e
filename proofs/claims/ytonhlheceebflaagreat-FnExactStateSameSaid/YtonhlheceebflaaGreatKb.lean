/- Trees of the functions' bodies, as printed by the framework's evaluation. -/
import Derived.Test.YtonhlheceebflaaGreatProg
import Derived.Test.YtonhlheceebflaaGreatFyB
import Derived.KernelRfl
import Derived.Test.YtonhlheceebflaaGreatK
set_option linter.unusedVariables false
set_option maxRecDepth 100000
namespace Go.Fw
open Go.Proofs
theorem e52 (Γ : Orc) (H : Hd) (s w : ByteArray) : ent Tryz.prog cfg Γ 52 H [.pb 0 0, .S s] [.nbx 1 (lstG [owBy w])] =
  Option.bind (Γ 50 [AV.pb 0 0, AV.sl 1 1 fun i => lstG [nI (bif decide (i = 0) then zN s.size else 0)]] [AV.nbx 1 (lstG [AV.own w.size 1 fun i => lstG [AV.I IntKind.u8 (byN w i)]])]) fun r0 =>
  bif decide (asN (asA (r0.snd.headD AV.bad) 0) + s.size ≤ 4294967296) && true && true && true && true then
    (bif bif okT then true else false then
      (some (AV.tup 0 (lstG []), [AV.nbx 1 (lstG [AV.own (asN (asA (r0.snd.headD AV.bad) 0) + s.size) 1 fun i => lstG [AV.I IntKind.u8 (bif decide (i < asN (asA (r0.snd.headD AV.bad) 0)) then asI (asG (asA (r0.snd.headD AV.bad) 0) i 0) else byN s (i - asN (asA (r0.snd.headD AV.bad) 0)))]])]))
    else
      (none))
  else
    (none) := by kernel_rfl
theorem e53 (Γ : Orc) (H : Hd) (m : VMsg) (w : ByteArray) : ent Tryz.prog cfg Γ 53 H [.pb 0 0, slMsg m] [.nbx 1 (lstG [owBy w])] =
  Option.bind (Γ 50 [AV.pb 0 0, AV.sl 2 1 fun i => lstG [nI (bif decide (i = 0) then m.Kind else bif decide (i - 1 = 0) then m.Num else 0)]] [AV.nbx 1 (lstG [AV.own w.size 1 fun i => lstG [AV.I IntKind.u8 (byN w i)]])]) fun r0 =>
  Option.bind (Γ 52 [AV.pb 0 0, AV.S m.Text] [AV.nbx 1 (lstG [AV.own (asN (asA (r0.snd.headD AV.bad) 0)) 1 fun i => lstG [AV.I IntKind.u8 (asI (asG (asA (r0.snd.headD AV.bad) 0) i 0))]])]) fun r1 =>
  bif bif okT then true else false then
    (some (AV.tup 0 (lstG []), [AV.nbx 1 (lstG [AV.own (asN (asA (r1.snd.headD AV.bad) 0)) 1 fun i => lstG [AV.I IntKind.u8 (asI (asG (asA (r1.snd.headD AV.bad) 0) i 0))]])]))
  else
    (none) := by kernel_rfl
theorem e54 (Γ : Orc) (H : Hd) (ts : List VTerm) (w : ByteArray) : ent Tryz.prog cfg Γ 54 H [.pb 0 0, slTermS ts] [.nbx 1 (lstG [owBy w])] =
  Option.bind (Γ 50 [AV.pb 0 0, AV.sl 1 1 fun i => lstG [nI (bif decide (i = 0) then zN ts.length else 0)]] [AV.nbx 1 (lstG [AV.own w.size 1 fun i => lstG [AV.I IntKind.u8 (byN w i)]])]) fun r0 =>
  H [true, true] (hdS [(0, AV.pb 0 0), (11, slTermS ts), (12, nI (zN ts.length)), (13, nI 0)] [(4096000, ⟨asN (asA (r0.snd.headD AV.bad) 0), 1, fun i => lstG [AV.I IntKind.u8 (asI (asG (asA (r0.snd.headD AV.bad) 0) i 0))]⟩)] [(0, 1, [AV.rf 4096000])]) := by kernel_rfl
theorem e48 (Γ : Orc) (H : Hd) (h : VHub) (w : ByteArray) : ent Tryz.prog cfg Γ 48 H [.pb 0 0, slHub h] [.nbx 1 (lstG [owBy w])] =
  Option.bind (Γ 50 [AV.pb 0 0, slIntS h.Tokens.Parents] [AV.nbx 1 (lstG [AV.own w.size 1 fun i => lstG [AV.I IntKind.u8 (byN w i)]])]) fun r0 =>
  Option.bind (Γ 50 [AV.pb 0 0, AV.sl 1 1 fun i => lstG [nI (bif decide (i = 0) then zN h.Tokens.Off.length else 0)]] [AV.nbx 1 (lstG [AV.own (asN (asA (r0.snd.headD AV.bad) 0)) 1 fun i => lstG [AV.I IntKind.u8 (asI (asG (asA (r0.snd.headD AV.bad) 0) i 0))]])]) fun r1 =>
  H [true, true, true, false, true] (hdS [(0, AV.pb 0 0), (3, AV.pb 67 0), (32, slBoolS h.Tokens.Off), (33, nI (zN h.Tokens.Off.length)), (34, nI 0)] [(4096000, ⟨asN (asA (r1.snd.headD AV.bad) 0), 1, fun i => lstG [AV.I IntKind.u8 (asI (asG (asA (r1.snd.headD AV.bad) 0) i 0))]⟩)] [(0, 1, [AV.rf 4096000]), (67, 11, (clHub h))]) := by kernel_rfl
theorem e49 (Γ : Orc) (H : Hd) (h : VHub) (w : ByteArray) : ent Tryz.prog cfg Γ 49 H [.pb 0 0, slHub h] [.nbx 1 (lstG [owBy w])] =
  Option.bind (Γ 50 [AV.pb 0 0, AV.sl 2 1 fun i => lstG [nI (bif decide (i = 0) then zN h.Topics.length else bif decide (i - 1 = 0) then zN h.Merges.length else 0)]] [AV.nbx 1 (lstG [AV.own w.size 1 fun i => lstG [AV.I IntKind.u8 (byN w i)]])]) fun r0 =>
  H [true, true, false, true] (hdS [(0, AV.pb 0 0), (3, AV.pb 67 0), (25, slTopicS h.Topics), (26, nI (zN h.Topics.length)), (27, nI 0)] [(4096000, ⟨asN (asA (r0.snd.headD AV.bad) 0), 1, fun i => lstG [AV.I IntKind.u8 (asI (asG (asA (r0.snd.headD AV.bad) 0) i 0))]⟩)] [(0, 1, [AV.rf 4096000]), (67, 11, (clHub h))]) := by kernel_rfl
theorem e15 (Γ : Orc) (H : Hd) (s : VState) : ent Tryz.prog cfg Γ 15 H [slState s] [] =
  Option.bind (Γ 48 [AV.pb 0 0, slHub s.Hub] [AV.nbx 1 (lstG [AV.own 0 1 fun x => lstG [AV.I IntKind.u8 0]])]) fun r0 =>
  Option.bind (Γ 49 [AV.pb 0 0, slHub s.Hub] [AV.nbx 1 (lstG [AV.own (asN (asA (r0.snd.headD AV.bad) 0)) 1 fun i => lstG [AV.I IntKind.u8 (asI (asG (asA (r0.snd.headD AV.bad) 0) i 0))]])]) fun r1 =>
  Option.bind (Γ 50 [AV.pb 0 0, AV.sl 2 1 fun i => lstG [nI (bif decide (i = 0) then zN s.Hub.Users.length else bif decide (i - 1 = 0) then zN s.Clients.length else 0)]] [AV.nbx 1 (lstG [AV.own (asN (asA (r1.snd.headD AV.bad) 0)) 1 fun i => lstG [AV.I IntKind.u8 (asI (asG (asA (r1.snd.headD AV.bad) 0) i 0))]])]) fun r2 =>
  H [true, true, true, true, true, false, true] (hdS [(1, AV.pb 65 0), (3, AV.pb 77 0), (34, slUserS s.Hub.Users), (35, nI (zN s.Hub.Users.length)), (36, nI 0)] [(4096000, ⟨asN (asA (r2.snd.headD AV.bad) 0), 1, fun i => lstG [AV.I IntKind.u8 (asI (asG (asA (r2.snd.headD AV.bad) 0) i 0))]⟩)] [(65, 12, (clState s)), (77, 1, [AV.rf 4096000])]) := by kernel_rfl
theorem e7 (Γ : Orc) (H : Hd) (x y : VState) : ent Tryz.prog cfg Γ 7 H [slState x, slState y] [] =
  and2
  (Option.bind (Γ 15 [slState x] []) fun r1 =>
    Option.bind (Γ 15 [slState y] []) fun r2 =>
    some (AV.B ((asS r1.fst).toList == (asS r2.fst).toList), []))
  (Option.bind (Γ 15 [slState x] []) fun r1 =>
    Option.bind (Γ 15 [slState y] []) fun r2 =>
    some (AV.B ((asS r1.fst).toList == (asS r2.fst).toList), [])) := by kernel_rfl
theorem h50 (Γ : Orc) (H : Hd) (xs : List Int) (m i : Int) (w w0 : ByteArray) : hed Tryz.prog cfg Γ 50 H [.nbx 1 (lstG [owBy w0])] P50 (S50 xs m i w w0) =
  bif decide (i < m) then
    (bif bif decide (0 ≤ i) then decide (i < zN xs.length) else false then
      (bif decide (w.size + 1 ≤ 4294967296) && true && true && true && true then
        (Option.bind (Γ 89 [nI (xs.getD i.toNat 0)] []) fun r3 =>
        bif decide (w.size + 1 + (asS r3.fst).size ≤ 4294967296) && true && true && true && true then
          (H [true, false, true] (hdS [(0, AV.pb 0 0), (17, slIntS xs), (18, nI m), (19, nI (IntKind.i64.wrap (i + 1)))] [(4096000, ⟨w.size + 1 + (asS r3.fst).size, 1, fun i => lstG [AV.I IntKind.u8 (bif decide (i < w.size + 1) then bif decide (i < w.size) then byN w i else bif decide (i - w.size = 0) then 32 else 0 else byN (asS r3.fst) (i - (w.size + 1)))]⟩)] [(0, 1, [AV.rf 4096000])]))
        else
          (none))
      else
        (none))
    else
      (none))
  else
    (bif decide (w.size + 1 ≤ 4294967296) && true && true && true && true then
      (bif bif okT then true else false then
        (some (AV.tup 0 (lstG []), [AV.nbx 1 (lstG [AV.own (w.size + 1) 1 fun i => lstG [AV.I IntKind.u8 (bif decide (i < w.size) then byN w i else bif decide (i - w.size = 0) then 59 else 0)]])]))
      else
        (none))
    else
      (none)) := by kernel_rfl
theorem h54 (Γ : Orc) (H : Hd) (xs : List VTerm) (m i : Int) (w w0 : ByteArray) : hed Tryz.prog cfg Γ 54 H [.nbx 1 (lstG [owBy w0])] P54 (S54 xs m i w w0) =
  bif decide (i < m) then
    (bif bif decide (0 ≤ i) then decide (i < zN xs.length) else false then
      (Option.bind (Γ 50 [AV.pb 0 0, AV.sl 2 1 fun i_1 => lstG [nI (bif decide (i_1 = 0) then (xs.getD i.toNat zTerm).Op else bif decide (i_1 - 1 = 0) then (xs.getD i.toNat zTerm).Num else 0)]] [AV.nbx 1 (lstG [AV.own w.size 1 fun i => lstG [AV.I IntKind.u8 (byN w i)]])]) fun r2 =>
      Option.bind (Γ 52 [AV.pb 0 0, AV.S (xs.getD i.toNat zTerm).Text] [AV.nbx 1 (lstG [AV.own (asN (asA (r2.snd.headD AV.bad) 0)) 1 fun i => lstG [AV.I IntKind.u8 (asI (asG (asA (r2.snd.headD AV.bad) 0) i 0))]])]) fun r3 =>
      H [true, true] (hdS [(0, AV.pb 0 0), (11, slTermS xs), (12, nI m), (13, nI (IntKind.i64.wrap (i + 1)))] [(4096000, ⟨asN (asA (r3.snd.headD AV.bad) 0), 1, fun i => lstG [AV.I IntKind.u8 (asI (asG (asA (r3.snd.headD AV.bad) 0) i 0))]⟩)] [(0, 1, [AV.rf 4096000])]))
    else
      (none))
  else
    (bif bif okT then true else false then
      (some (AV.tup 0 (lstG []), [AV.nbx 1 (lstG [AV.own w.size 1 fun i => lstG [AV.I IntKind.u8 (byN w i)]])]))
    else
      (none)) := by kernel_rfl
theorem h48a (Γ : Orc) (H : Hd) (h : VHub) (xs : List Bool) (m i : Int) (w w0 : ByteArray) : hed Tryz.prog cfg Γ 48 H [.nbx 1 (lstG [owBy w0])] P48a (S48a h xs m i w w0) =
  bif decide (i < m) then
    (bif bif decide (0 ≤ i) then decide (i < zN xs.length) else false then
      (Option.bind (Γ 51 [AV.B (xs.getD i.toNat false)] []) fun r2 =>
      Option.bind (Γ 50 [AV.pb 0 0, AV.sl 1 1 fun i => lstG [nI (bif decide (i = 0) then asI r2.fst else 0)]] [AV.nbx 1 (lstG [AV.own w.size 1 fun i => lstG [AV.I IntKind.u8 (byN w i)]])]) fun r3 =>
      H [true, true, true, false, true] (hdS [(0, AV.pb 0 0), (3, AV.pb 67 0), (32, slBoolS xs), (33, nI m), (34, nI (IntKind.i64.wrap (i + 1)))] [(4096000, ⟨asN (asA (r3.snd.headD AV.bad) 0), 1, fun i => lstG [AV.I IntKind.u8 (asI (asG (asA (r3.snd.headD AV.bad) 0) i 0))]⟩)] [(0, 1, [AV.rf 4096000]), (67, 11, (clHub h))]))
    else
      (none))
  else
    (Option.bind (Γ 50 [AV.pb 0 0, AV.sl 6 1 fun i => lstG [nI (bif decide (i = 0) then h.Clock.Now else bif decide (i - 1 = 0) then zN h.Clock.Timers.length else bif decide (i - 1 - 1 = 0) then zN h.Notes.length else bif decide (i - 1 - 1 - 1 = 0) then zN h.Events.length else bif decide (i - 1 - 1 - 1 - 1 = 0) then zN h.Latches.length else bif decide (i - 1 - 1 - 1 - 1 - 1 = 0) then zN h.Cells.length else 0)]] [AV.nbx 1 (lstG [AV.own w.size 1 fun i => lstG [AV.I IntKind.u8 (byN w i)]])]) fun r1 =>
    H [true, true, true, true, true, false, true] (hdS [(0, AV.pb 0 0), (3, AV.pb 67 0), (68, slTimerS h.Clock.Timers), (69, nI (zN h.Clock.Timers.length)), (70, nI 0)] [(4096000, ⟨asN (asA (r1.snd.headD AV.bad) 0), 1, fun i => lstG [AV.I IntKind.u8 (asI (asG (asA (r1.snd.headD AV.bad) 0) i 0))]⟩)] [(0, 1, [AV.rf 4096000]), (67, 11, (clHub h))])) := by kernel_rfl
theorem h48b (Γ : Orc) (H : Hd) (h : VHub) (xs : List VTimer) (m i : Int) (w w0 : ByteArray) : hed Tryz.prog cfg Γ 48 H [.nbx 1 (lstG [owBy w0])] P48b (S48b h xs m i w w0) =
  bif decide (i < m) then
    (bif bif decide (0 ≤ i) then decide (i < zN xs.length) else false then
      (Option.bind (Γ 50 [AV.pb 0 0, AV.sl 2 1 fun i_1 => lstG [nI (bif decide (i_1 = 0) then (xs.getD i.toNat zTimer).At else bif decide (i_1 - 1 = 0) then (xs.getD i.toNat zTimer).Token else 0)]] [AV.nbx 1 (lstG [AV.own w.size 1 fun i => lstG [AV.I IntKind.u8 (byN w i)]])]) fun r2 =>
      H [true, true, true, true, true, false, true] (hdS [(0, AV.pb 0 0), (3, AV.pb 67 0), (68, slTimerS xs), (69, nI m), (70, nI (IntKind.i64.wrap (i + 1)))] [(4096000, ⟨asN (asA (r2.snd.headD AV.bad) 0), 1, fun i => lstG [AV.I IntKind.u8 (asI (asG (asA (r2.snd.headD AV.bad) 0) i 0))]⟩)] [(0, 1, [AV.rf 4096000]), (67, 11, (clHub h))]))
    else
      (none))
  else
    (H [true, true, true, true, true, true, false, true] (hdS [(0, AV.pb 0 0), (3, AV.pb 67 0), (83, slNotifyS h.Notes), (84, nI (zN h.Notes.length)), (85, nI 0)] [(4096000, ⟨w.size, 1, fun i => lstG [AV.I IntKind.u8 (byN w i)]⟩)] [(0, 1, [AV.rf 4096000]), (67, 11, (clHub h))])) := by kernel_rfl
theorem h48c (Γ : Orc) (H : Hd) (h : VHub) (xs : List VNotify) (m i : Int) (w w0 : ByteArray) : hed Tryz.prog cfg Γ 48 H [.nbx 1 (lstG [owBy w0])] P48c (S48c h xs m i w w0) =
  bif decide (i < m) then
    (bif bif decide (0 ≤ i) then decide (i < zN xs.length) else false then
      (Option.bind (Γ 51 [AV.B (xs.getD i.toNat zNotify).Permit] []) fun r2 =>
      Option.bind (Γ 50 [AV.pb 0 0, AV.sl 5 1 fun i_1 => lstG [nI (bif decide (i_1 = 0) then asI r2.fst else bif decide (i_1 - 1 = 0) then (xs.getD i.toNat zNotify).Ones else bif decide (i_1 - 1 - 1 = 0) then (xs.getD i.toNat zNotify).Spilt else bif decide (i_1 - 1 - 1 - 1 = 0) then (xs.getD i.toNat zNotify).Taken else bif decide (i_1 - 1 - 1 - 1 - 1 = 0) then zN (xs.getD i.toNat zNotify).Grants.length else 0)]] [AV.nbx 1 (lstG [AV.own w.size 1 fun i => lstG [AV.I IntKind.u8 (byN w i)]])]) fun r3 =>
      Option.bind (Γ 50 [AV.pb 0 0, slIntS (xs.getD i.toNat zNotify).Line] [AV.nbx 1 (lstG [AV.own (asN (asA (r3.snd.headD AV.bad) 0)) 1 fun i => lstG [AV.I IntKind.u8 (asI (asG (asA (r3.snd.headD AV.bad) 0) i 0))]])]) fun r4 =>
      H [true, true, true, true, true, true, false, true, true, true, true, false, true, true, true, true] (hdS [(0, AV.pb 0 0), (3, AV.pb 67 0), (83, slNotifyS xs), (84, nI m), (85, nI i), (109, slGrantS (xs.getD i.toNat zNotify).Grants), (110, nI (zN (xs.getD i.toNat zNotify).Grants.length)), (111, nI 0)] [(4096000, ⟨asN (asA (r4.snd.headD AV.bad) 0), 1, fun i => lstG [AV.I IntKind.u8 (asI (asG (asA (r4.snd.headD AV.bad) 0) i 0))]⟩)] [(0, 1, [AV.rf 4096000]), (67, 11, (clHub h))]))
    else
      (none))
  else
    (H [true, true, true, true, true, true, true, false, true] (hdS [(0, AV.pb 0 0), (3, AV.pb 67 0), (126, slEventS h.Events), (127, nI (zN h.Events.length)), (128, nI 0)] [(4096000, ⟨w.size, 1, fun i => lstG [AV.I IntKind.u8 (byN w i)]⟩)] [(0, 1, [AV.rf 4096000]), (67, 11, (clHub h))])) := by kernel_rfl
theorem h48d (Γ : Orc) (H : Hd) (h : VHub) (xs : List VNotify) (m i : Int) (ys : List VGrant) (n j : Int) (w w0 : ByteArray) : hed Tryz.prog cfg Γ 48 H [.nbx 1 (lstG [owBy w0])] P48d (S48d h xs m i ys n j w w0) =
  bif decide (j < n) then
    (bif bif decide (0 ≤ j) then decide (j < zN ys.length) else false then
      (Option.bind (Γ 51 [AV.B (ys.getD j.toNat zGrant).One] []) fun r2 =>
      Option.bind (Γ 50 [AV.pb 0 0, AV.sl 2 1 fun i => lstG [nI (bif decide (i = 0) then (ys.getD j.toNat zGrant).Who else bif decide (i - 1 = 0) then asI r2.fst else 0)]] [AV.nbx 1 (lstG [AV.own w.size 1 fun i => lstG [AV.I IntKind.u8 (byN w i)]])]) fun r3 =>
      H [true, true, true, true, true, true, false, true, true, true, true, false, true, true, true, true] (hdS [(0, AV.pb 0 0), (3, AV.pb 67 0), (83, slNotifyS xs), (84, nI m), (85, nI i), (109, slGrantS ys), (110, nI n), (111, nI (IntKind.i64.wrap (j + 1)))] [(4096000, ⟨asN (asA (r3.snd.headD AV.bad) 0), 1, fun i => lstG [AV.I IntKind.u8 (asI (asG (asA (r3.snd.headD AV.bad) 0) i 0))]⟩)] [(0, 1, [AV.rf 4096000]), (67, 11, (clHub h))]))
    else
      (none))
  else
    (H [true, true, true, true, true, true, false, true] (hdS [(0, AV.pb 0 0), (3, AV.pb 67 0), (83, slNotifyS xs), (84, nI m), (85, nI (IntKind.i64.wrap (i + 1)))] [(4096000, ⟨w.size, 1, fun i => lstG [AV.I IntKind.u8 (byN w i)]⟩)] [(0, 1, [AV.rf 4096000]), (67, 11, (clHub h))])) := by kernel_rfl
theorem h48e (Γ : Orc) (H : Hd) (h : VHub) (xs : List VEvent) (m i : Int) (w w0 : ByteArray) : hed Tryz.prog cfg Γ 48 H [.nbx 1 (lstG [owBy w0])] P48e (S48e h xs m i w w0) =
  bif decide (i < m) then
    (bif bif decide (0 ≤ i) then decide (i < zN xs.length) else false then
      (Option.bind (Γ 51 [AV.B (xs.getD i.toNat zEvent).Auto] []) fun r2 =>
      Option.bind (Γ 51 [AV.B (xs.getD i.toNat zEvent).Up] []) fun r3 =>
      Option.bind (Γ 50 [AV.pb 0 0, AV.sl 5 1 fun i_1 => lstG [nI (bif decide (i_1 = 0) then asI r2.fst else bif decide (i_1 - 1 = 0) then asI r3.fst else bif decide (i_1 - 1 - 1 = 0) then (xs.getD i.toNat zEvent).Sets else bif decide (i_1 - 1 - 1 - 1 = 0) then (xs.getD i.toNat zEvent).Spilt else bif decide (i_1 - 1 - 1 - 1 - 1 = 0) then (xs.getD i.toNat zEvent).Taken else 0)]] [AV.nbx 1 (lstG [AV.own w.size 1 fun i => lstG [AV.I IntKind.u8 (byN w i)]])]) fun r4 =>
      Option.bind (Γ 50 [AV.pb 0 0, slIntS (xs.getD i.toNat zEvent).Line] [AV.nbx 1 (lstG [AV.own (asN (asA (r4.snd.headD AV.bad) 0)) 1 fun i => lstG [AV.I IntKind.u8 (asI (asG (asA (r4.snd.headD AV.bad) 0) i 0))]])]) fun r5 =>
      Option.bind (Γ 50 [AV.pb 0 0, slIntS (xs.getD i.toNat zEvent).Grants] [AV.nbx 1 (lstG [AV.own (asN (asA (r5.snd.headD AV.bad) 0)) 1 fun i => lstG [AV.I IntKind.u8 (asI (asG (asA (r5.snd.headD AV.bad) 0) i 0))]])]) fun r6 =>
      H [true, true, true, true, true, true, true, false, true] (hdS [(0, AV.pb 0 0), (3, AV.pb 67 0), (126, slEventS xs), (127, nI m), (128, nI (IntKind.i64.wrap (i + 1)))] [(4096000, ⟨asN (asA (r6.snd.headD AV.bad) 0), 1, fun i => lstG [AV.I IntKind.u8 (asI (asG (asA (r6.snd.headD AV.bad) 0) i 0))]⟩)] [(0, 1, [AV.rf 4096000]), (67, 11, (clHub h))]))
    else
      (none))
  else
    (H [true, true, true, true, true, true, true, true, false, true] (hdS [(0, AV.pb 0 0), (3, AV.pb 67 0), (157, slLatchS h.Latches), (158, nI (zN h.Latches.length)), (159, nI 0)] [(4096000, ⟨w.size, 1, fun i => lstG [AV.I IntKind.u8 (byN w i)]⟩)] [(0, 1, [AV.rf 4096000]), (67, 11, (clHub h))])) := by kernel_rfl
theorem h48f (Γ : Orc) (H : Hd) (h : VHub) (xs : List VLatch) (m i : Int) (w w0 : ByteArray) : hed Tryz.prog cfg Γ 48 H [.nbx 1 (lstG [owBy w0])] P48f (S48f h xs m i w w0) =
  bif decide (i < m) then
    (bif bif decide (0 ≤ i) then decide (i < zN xs.length) else false then
      (Option.bind (Γ 50 [AV.pb 0 0, AV.sl 1 1 fun i_1 => lstG [nI (bif decide (i_1 = 0) then (xs.getD i.toNat zLatch).Count else 0)]] [AV.nbx 1 (lstG [AV.own w.size 1 fun i => lstG [AV.I IntKind.u8 (byN w i)]])]) fun r2 =>
      Option.bind (Γ 50 [AV.pb 0 0, slIntS (xs.getD i.toNat zLatch).Line] [AV.nbx 1 (lstG [AV.own (asN (asA (r2.snd.headD AV.bad) 0)) 1 fun i => lstG [AV.I IntKind.u8 (asI (asG (asA (r2.snd.headD AV.bad) 0) i 0))]])]) fun r3 =>
      Option.bind (Γ 50 [AV.pb 0 0, slIntS (xs.getD i.toNat zLatch).Grants] [AV.nbx 1 (lstG [AV.own (asN (asA (r3.snd.headD AV.bad) 0)) 1 fun i => lstG [AV.I IntKind.u8 (asI (asG (asA (r3.snd.headD AV.bad) 0) i 0))]])]) fun r4 =>
      H [true, true, true, true, true, true, true, true, false, true] (hdS [(0, AV.pb 0 0), (3, AV.pb 67 0), (157, slLatchS xs), (158, nI m), (159, nI (IntKind.i64.wrap (i + 1)))] [(4096000, ⟨asN (asA (r4.snd.headD AV.bad) 0), 1, fun i => lstG [AV.I IntKind.u8 (asI (asG (asA (r4.snd.headD AV.bad) 0) i 0))]⟩)] [(0, 1, [AV.rf 4096000]), (67, 11, (clHub h))]))
    else
      (none))
  else
    (H [true, true, true, true, true, true, true, true, true, true] (hdS [(0, AV.pb 0 0), (178, slCellS h.Cells), (179, nI (zN h.Cells.length)), (180, nI 0)] [(4096000, ⟨w.size, 1, fun i => lstG [AV.I IntKind.u8 (byN w i)]⟩)] [(0, 1, [AV.rf 4096000])])) := by kernel_rfl
theorem h48g (Γ : Orc) (H : Hd) (xs : List VCell) (m i : Int) (w w0 : ByteArray) : hed Tryz.prog cfg Γ 48 H [.nbx 1 (lstG [owBy w0])] P48g (S48g xs m i w w0) =
  bif decide (i < m) then
    (bif bif decide (0 ≤ i) then decide (i < zN xs.length) else false then
      (Option.bind (Γ 53 [AV.pb 0 0, slMsg (xs.getD i.toNat zCell).Val] [AV.nbx 1 (lstG [AV.own w.size 1 fun i => lstG [AV.I IntKind.u8 (byN w i)]])]) fun r2 =>
      Option.bind (Γ 51 [AV.B (xs.getD i.toNat zCell).Closed] []) fun r3 =>
      Option.bind (Γ 50 [AV.pb 0 0, AV.sl 2 1 fun i_1 => lstG [nI (bif decide (i_1 = 0) then (xs.getD i.toNat zCell).Version else bif decide (i_1 - 1 = 0) then asI r3.fst else 0)]] [AV.nbx 1 (lstG [AV.own (asN (asA (r2.snd.headD AV.bad) 0)) 1 fun i => lstG [AV.I IntKind.u8 (asI (asG (asA (r2.snd.headD AV.bad) 0) i 0))]])]) fun r4 =>
      Option.bind (Γ 50 [AV.pb 0 0, slIntS (xs.getD i.toNat zCell).Line] [AV.nbx 1 (lstG [AV.own (asN (asA (r4.snd.headD AV.bad) 0)) 1 fun i => lstG [AV.I IntKind.u8 (asI (asG (asA (r4.snd.headD AV.bad) 0) i 0))]])]) fun r5 =>
      Option.bind (Γ 50 [AV.pb 0 0, slIntS (xs.getD i.toNat zCell).Grants] [AV.nbx 1 (lstG [AV.own (asN (asA (r5.snd.headD AV.bad) 0)) 1 fun i => lstG [AV.I IntKind.u8 (asI (asG (asA (r5.snd.headD AV.bad) 0) i 0))]])]) fun r6 =>
      H [true, true, true, true, true, true, true, true, true, true] (hdS [(0, AV.pb 0 0), (178, slCellS xs), (179, nI m), (180, nI (IntKind.i64.wrap (i + 1)))] [(4096000, ⟨asN (asA (r6.snd.headD AV.bad) 0), 1, fun i => lstG [AV.I IntKind.u8 (asI (asG (asA (r6.snd.headD AV.bad) 0) i 0))]⟩)] [(0, 1, [AV.rf 4096000])]))
    else
      (none))
  else
    (bif bif okT then true else false then
      (some (AV.tup 0 (lstG []), [AV.nbx 1 (lstG [AV.own w.size 1 fun i => lstG [AV.I IntKind.u8 (byN w i)]])]))
    else
      (none)) := by kernel_rfl
theorem h49a (Γ : Orc) (H : Hd) (h : VHub) (xs : List VTopic) (m i : Int) (w w0 : ByteArray) : hed Tryz.prog cfg Γ 49 H [.nbx 1 (lstG [owBy w0])] P49a (S49a h xs m i w w0) =
  bif decide (i < m) then
    (bif bif decide (0 ≤ i) then decide (i < zN xs.length) else false then
      (Option.bind (Γ 52 [AV.pb 0 0, AV.S (xs.getD i.toNat zTopic).Name] [AV.nbx 1 (lstG [AV.own w.size 1 fun i => lstG [AV.I IntKind.u8 (byN w i)]])]) fun r2 =>
      Option.bind (Γ 51 [AV.B (xs.getD i.toNat zTopic).Ring.Closed] []) fun r3 =>
      Option.bind (Γ 50 [AV.pb 0 0, AV.sl 6 1 fun i_1 => lstG [nI (bif decide (i_1 = 0) then (xs.getD i.toNat zTopic).Ring.Cap else bif decide (i_1 - 1 = 0) then (xs.getD i.toNat zTopic).Ring.Sent else bif decide (i_1 - 1 - 1 = 0) then (xs.getD i.toNat zTopic).Ring.Next else bif decide (i_1 - 1 - 1 - 1 = 0) then asI r3.fst else bif decide (i_1 - 1 - 1 - 1 - 1 = 0) then zN (xs.getD i.toNat zTopic).Ring.Items.length else bif decide (i_1 - 1 - 1 - 1 - 1 - 1 = 0) then zN (xs.getD i.toNat zTopic).Ring.Subs.length else 0)]] [AV.nbx 1 (lstG [AV.own (asN (asA (r2.snd.headD AV.bad) 0)) 1 fun i => lstG [AV.I IntKind.u8 (asI (asG (asA (r2.snd.headD AV.bad) 0) i 0))]])]) fun r4 =>
      H [true, true, false, true, true, true, true, false, true, true, true, true, false, true] (hdS [(0, AV.pb 0 0), (3, AV.pb 67 0), (6, AV.pb 70 0), (25, slTopicS xs), (26, nI m), (27, nI i), (56, slMsgS (xs.getD i.toNat zTopic).Ring.Items), (57, nI (zN (xs.getD i.toNat zTopic).Ring.Items.length)), (58, nI 0)] [(4096000, ⟨asN (asA (r4.snd.headD AV.bad) 0), 1, fun i => lstG [AV.I IntKind.u8 (asI (asG (asA (r4.snd.headD AV.bad) 0) i 0))]⟩)] [(0, 1, [AV.rf 4096000]), (67, 11, (clHub h)), (70, 8, (clRing (xs.getD i.toNat zTopic).Ring))]))
    else
      (none))
  else
    (H [true, true, true, true] (hdS [(0, AV.pb 0 0), (103, slMergeS h.Merges), (104, nI (zN h.Merges.length)), (105, nI 0)] [(4096000, ⟨w.size, 1, fun i => lstG [AV.I IntKind.u8 (byN w i)]⟩)] [(0, 1, [AV.rf 4096000])])) := by kernel_rfl
theorem h49b (Γ : Orc) (H : Hd) (h : VHub) (r : VRing) (xs : List VTopic) (m i : Int) (ys : List VMsg) (n j : Int) (w w0 : ByteArray) : hed Tryz.prog cfg Γ 49 H [.nbx 1 (lstG [owBy w0])] P49b (S49b h r xs m i ys n j w w0) =
  bif decide (j < n) then
    (bif bif decide (0 ≤ j) then decide (j < zN ys.length) else false then
      (Option.bind (Γ 53 [AV.pb 0 0, slMsg (ys.getD j.toNat zMsg)] [AV.nbx 1 (lstG [AV.own w.size 1 fun i => lstG [AV.I IntKind.u8 (byN w i)]])]) fun r2 =>
      H [true, true, false, true, true, true, true, false, true, true, true, true, false, true] (hdS [(0, AV.pb 0 0), (3, AV.pb 67 0), (6, AV.pb 70 0), (25, slTopicS xs), (26, nI m), (27, nI i), (56, slMsgS ys), (57, nI n), (58, nI (IntKind.i64.wrap (j + 1)))] [(4096000, ⟨asN (asA (r2.snd.headD AV.bad) 0), 1, fun i => lstG [AV.I IntKind.u8 (asI (asG (asA (r2.snd.headD AV.bad) 0) i 0))]⟩)] [(0, 1, [AV.rf 4096000]), (67, 11, (clHub h)), (70, 8, (clRing r))]))
    else
      (none))
  else
    (H [true, true, false, true, true, true, true, false, true, true, true, true, true, false, true] (hdS [(0, AV.pb 0 0), (3, AV.pb 67 0), (6, AV.pb 70 0), (25, slTopicS xs), (26, nI m), (27, nI i), (67, slSubS r.Subs), (68, nI (zN r.Subs.length)), (69, nI 0)] [(4096000, ⟨w.size, 1, fun i => lstG [AV.I IntKind.u8 (byN w i)]⟩)] [(0, 1, [AV.rf 4096000]), (67, 11, (clHub h)), (70, 8, (clRing r))])) := by kernel_rfl
theorem h49c (Γ : Orc) (H : Hd) (h : VHub) (r : VRing) (xs : List VTopic) (m i : Int) (ys : List VSub) (n j : Int) (w w0 : ByteArray) : hed Tryz.prog cfg Γ 49 H [.nbx 1 (lstG [owBy w0])] P49c (S49c h r xs m i ys n j w w0) =
  bif decide (j < n) then
    (bif bif decide (0 ≤ j) then decide (j < zN ys.length) else false then
      (Option.bind (Γ 50 [AV.pb 0 0, AV.sl 6 1 fun i => lstG [nI (bif decide (i = 0) then (ys.getD j.toNat zSub).Id else bif decide (i - 1 = 0) then (ys.getD j.toNat zSub).Start else bif decide (i - 1 - 1 = 0) then (ys.getD j.toNat zSub).Cursor else bif decide (i - 1 - 1 - 1 = 0) then (ys.getD j.toNat zSub).Got else bif decide (i - 1 - 1 - 1 - 1 = 0) then (ys.getD j.toNat zSub).Lost else bif decide (i - 1 - 1 - 1 - 1 - 1 = 0) then (ys.getD j.toNat zSub).Passed else 0)]] [AV.nbx 1 (lstG [AV.own w.size 1 fun i => lstG [AV.I IntKind.u8 (byN w i)]])]) fun r2 =>
      Option.bind (Γ 54 [AV.pb 0 0, slTermS (ys.getD j.toNat zSub).Filter] [AV.nbx 1 (lstG [AV.own (asN (asA (r2.snd.headD AV.bad) 0)) 1 fun i => lstG [AV.I IntKind.u8 (asI (asG (asA (r2.snd.headD AV.bad) 0) i 0))]])]) fun r3 =>
      H [true, true, false, true, true, true, true, false, true, true, true, true, true, false, true] (hdS [(0, AV.pb 0 0), (3, AV.pb 67 0), (6, AV.pb 70 0), (25, slTopicS xs), (26, nI m), (27, nI i), (67, slSubS ys), (68, nI n), (69, nI (IntKind.i64.wrap (j + 1)))] [(4096000, ⟨asN (asA (r3.snd.headD AV.bad) 0), 1, fun i => lstG [AV.I IntKind.u8 (asI (asG (asA (r3.snd.headD AV.bad) 0) i 0))]⟩)] [(0, 1, [AV.rf 4096000]), (67, 11, (clHub h)), (70, 8, (clRing r))]))
    else
      (none))
  else
    (Option.bind (Γ 50 [AV.pb 0 0, slIntS r.Line] [AV.nbx 1 (lstG [AV.own w.size 1 fun i => lstG [AV.I IntKind.u8 (byN w i)]])]) fun r1 =>
    Option.bind (Γ 50 [AV.pb 0 0, slIntS r.Grants] [AV.nbx 1 (lstG [AV.own (asN (asA (r1.snd.headD AV.bad) 0)) 1 fun i => lstG [AV.I IntKind.u8 (asI (asG (asA (r1.snd.headD AV.bad) 0) i 0))]])]) fun r2 =>
    H [true, true, false, true] (hdS [(0, AV.pb 0 0), (3, AV.pb 67 0), (25, slTopicS xs), (26, nI m), (27, nI (IntKind.i64.wrap (i + 1)))] [(4096000, ⟨asN (asA (r2.snd.headD AV.bad) 0), 1, fun i => lstG [AV.I IntKind.u8 (asI (asG (asA (r2.snd.headD AV.bad) 0) i 0))]⟩)] [(0, 1, [AV.rf 4096000]), (67, 11, (clHub h))])) := by kernel_rfl
theorem h49d (Γ : Orc) (H : Hd) (xs : List VMerge) (m i : Int) (w w0 : ByteArray) : hed Tryz.prog cfg Γ 49 H [.nbx 1 (lstG [owBy w0])] P49d (S49d xs m i w w0) =
  bif decide (i < m) then
    (bif bif decide (0 ≤ i) then decide (i < zN xs.length) else false then
      (Option.bind (Γ 50 [AV.pb 0 0, AV.sl 3 1 fun i_1 => lstG [nI (bif decide (i_1 = 0) then (xs.getD i.toNat zMerge).Into else bif decide (i_1 - 1 = 0) then (xs.getD i.toNat zMerge).Moved else bif decide (i_1 - 1 - 1 = 0) then zN (xs.getD i.toNat zMerge).Legs.length else 0)]] [AV.nbx 1 (lstG [AV.own w.size 1 fun i => lstG [AV.I IntKind.u8 (byN w i)]])]) fun r2 =>
      H [true, true, true, true, true, true, true, false, true, true, true] (hdS [(0, AV.pb 0 0), (103, slMergeS xs), (104, nI m), (105, nI i), (120, slLegS (xs.getD i.toNat zMerge).Legs), (121, nI (zN (xs.getD i.toNat zMerge).Legs.length)), (122, nI 0)] [(4096000, ⟨asN (asA (r2.snd.headD AV.bad) 0), 1, fun i => lstG [AV.I IntKind.u8 (asI (asG (asA (r2.snd.headD AV.bad) 0) i 0))]⟩)] [(0, 1, [AV.rf 4096000])]))
    else
      (none))
  else
    (bif bif okT then true else false then
      (some (AV.tup 0 (lstG []), [AV.nbx 1 (lstG [AV.own w.size 1 fun i => lstG [AV.I IntKind.u8 (byN w i)]])]))
    else
      (none)) := by kernel_rfl
theorem h49e (Γ : Orc) (H : Hd) (xs : List VMerge) (m i : Int) (ys : List VLeg) (n j : Int) (w w0 : ByteArray) : hed Tryz.prog cfg Γ 49 H [.nbx 1 (lstG [owBy w0])] P49e (S49e xs m i ys n j w w0) =
  bif decide (j < n) then
    (bif bif decide (0 ≤ j) then decide (j < zN ys.length) else false then
      (Option.bind (Γ 51 [AV.B (ys.getD j.toNat zLeg).Over] []) fun r2 =>
      Option.bind (Γ 50 [AV.pb 0 0, AV.sl 4 1 fun i => lstG [nI (bif decide (i = 0) then (ys.getD j.toNat zLeg).Topic else bif decide (i - 1 = 0) then (ys.getD j.toNat zLeg).Id else bif decide (i - 1 - 1 = 0) then (ys.getD j.toNat zLeg).Lost else bif decide (i - 1 - 1 - 1 = 0) then asI r2.fst else 0)]] [AV.nbx 1 (lstG [AV.own w.size 1 fun i => lstG [AV.I IntKind.u8 (byN w i)]])]) fun r3 =>
      H [true, true, true, true, true, true, true, false, true, true, true] (hdS [(0, AV.pb 0 0), (103, slMergeS xs), (104, nI m), (105, nI i), (120, slLegS ys), (121, nI n), (122, nI (IntKind.i64.wrap (j + 1)))] [(4096000, ⟨asN (asA (r3.snd.headD AV.bad) 0), 1, fun i => lstG [AV.I IntKind.u8 (asI (asG (asA (r3.snd.headD AV.bad) 0) i 0))]⟩)] [(0, 1, [AV.rf 4096000])]))
    else
      (none))
  else
    (H [true, true, true, true] (hdS [(0, AV.pb 0 0), (103, slMergeS xs), (104, nI m), (105, nI (IntKind.i64.wrap (i + 1)))] [(4096000, ⟨w.size, 1, fun i => lstG [AV.I IntKind.u8 (byN w i)]⟩)] [(0, 1, [AV.rf 4096000])])) := by kernel_rfl
theorem h15a (Γ : Orc) (H : Hd) (s : VState) (xs : List VUser) (m i : Int) (w : ByteArray) : hed Tryz.prog cfg Γ 15 H [] P15a (S15a s xs m i w) =
  bif decide (i < m) then
    (bif bif decide (0 ≤ i) then decide (i < zN xs.length) else false then
      (Option.bind (Γ 50 [AV.pb 0 0, AV.sl 1 1 fun i_1 => lstG [nI (bif decide (i_1 = 0) then zN (xs.getD i.toNat zUser).Subs.length else 0)]] [AV.nbx 1 (lstG [AV.own w.size 1 fun i => lstG [AV.I IntKind.u8 (byN w i)]])]) fun r2 =>
      H [true, true, true, true, true, false, true, true, true, true, false, true, true, false, true] (hdS [(1, AV.pb 65 0), (3, AV.pb 77 0), (5, AV.pb 69 0), (34, slUserS xs), (35, nI m), (36, nI i), (47, slHitS (xs.getD i.toNat zUser).Subs), (48, nI (zN (xs.getD i.toNat zUser).Subs.length)), (49, nI 0)] [(4096000, ⟨asN (asA (r2.snd.headD AV.bad) 0), 1, fun i => lstG [AV.I IntKind.u8 (asI (asG (asA (r2.snd.headD AV.bad) 0) i 0))]⟩)] [(65, 12, (clState s)), (69, 2, (clUser (xs.getD i.toNat zUser))), (77, 1, [AV.rf 4096000])]))
    else
      (none))
  else
    (H [true, true, true, true, true, true, false, true] (hdS [(3, AV.pb 77 0), (67, slClientS s.Clients), (68, nI (zN s.Clients.length)), (69, nI 0)] [(4096000, ⟨w.size, 1, fun i => lstG [AV.I IntKind.u8 (byN w i)]⟩)] [(77, 1, [AV.rf 4096000])])) := by kernel_rfl
theorem h15b (Γ : Orc) (H : Hd) (s : VState) (u : VUser) (xs : List VUser) (m i : Int) (ys : List VHit) (n j : Int) (w : ByteArray) : hed Tryz.prog cfg Γ 15 H [] P15b (S15b s u xs m i ys n j w) =
  bif decide (j < n) then
    (bif bif decide (0 ≤ j) then decide (j < zN ys.length) else false then
      (Option.bind (Γ 50 [AV.pb 0 0, AV.sl 2 1 fun i => lstG [nI (bif decide (i = 0) then (ys.getD j.toNat zHit).Topic else bif decide (i - 1 = 0) then (ys.getD j.toNat zHit).Id else 0)]] [AV.nbx 1 (lstG [AV.own w.size 1 fun i => lstG [AV.I IntKind.u8 (byN w i)]])]) fun r2 =>
      H [true, true, true, true, true, false, true, true, true, true, false, true, true, false, true] (hdS [(1, AV.pb 65 0), (3, AV.pb 77 0), (5, AV.pb 69 0), (34, slUserS xs), (35, nI m), (36, nI i), (47, slHitS ys), (48, nI n), (49, nI (IntKind.i64.wrap (j + 1)))] [(4096000, ⟨asN (asA (r2.snd.headD AV.bad) 0), 1, fun i => lstG [AV.I IntKind.u8 (asI (asG (asA (r2.snd.headD AV.bad) 0) i 0))]⟩)] [(65, 12, (clState s)), (69, 2, (clUser u)), (77, 1, [AV.rf 4096000])]))
    else
      (none))
  else
    (Option.bind (Γ 50 [AV.pb 0 0, slIntS u.Seen] [AV.nbx 1 (lstG [AV.own w.size 1 fun i => lstG [AV.I IntKind.u8 (byN w i)]])]) fun r1 =>
    H [true, true, true, true, true, false, true] (hdS [(1, AV.pb 65 0), (3, AV.pb 77 0), (34, slUserS xs), (35, nI m), (36, nI (IntKind.i64.wrap (i + 1)))] [(4096000, ⟨asN (asA (r1.snd.headD AV.bad) 0), 1, fun i => lstG [AV.I IntKind.u8 (asI (asG (asA (r1.snd.headD AV.bad) 0) i 0))]⟩)] [(65, 12, (clState s)), (77, 1, [AV.rf 4096000])])) := by kernel_rfl
theorem h15c (Γ : Orc) (H : Hd) (xs : List VClient) (m i : Int) (w : ByteArray) : hed Tryz.prog cfg Γ 15 H [] P15c (S15c xs m i w) =
  bif decide (i < m) then
    (bif bif decide (0 ≤ i) then decide (i < zN xs.length) else false then
      (Option.bind (Γ 51 [AV.B (xs.getD i.toNat zClient).Waiting] []) fun r2 =>
      Option.bind (Γ 50 [AV.pb 0 0, AV.sl 3 1 fun i_1 => lstG [nI (bif decide (i_1 = 0) then (xs.getD i.toNat zClient).At else bif decide (i_1 - 1 = 0) then asI r2.fst else bif decide (i_1 - 1 - 1 = 0) then zN (xs.getD i.toNat zClient).Prog.length else 0)]] [AV.nbx 1 (lstG [AV.own w.size 1 fun i => lstG [AV.I IntKind.u8 (byN w i)]])]) fun r3 =>
      H [true, true, true, true, true, true, false, true, true, true, true, false, true, true, true] (hdS [(3, AV.pb 77 0), (67, slClientS xs), (68, nI m), (69, nI i), (85, slCallS (xs.getD i.toNat zClient).Prog), (86, nI (zN (xs.getD i.toNat zClient).Prog.length)), (87, nI 0)] [(4096000, ⟨asN (asA (r3.snd.headD AV.bad) 0), 1, fun i => lstG [AV.I IntKind.u8 (asI (asG (asA (r3.snd.headD AV.bad) 0) i 0))]⟩)] [(77, 1, [AV.rf 4096000])]))
    else
      (none))
  else
    (bif (List.range w.size).all fun i => true then
      (some (AV.S (byS w.size fun i => lstG [AV.I IntKind.u8 (byN w i)]), []))
    else
      (none)) := by kernel_rfl
theorem h15d (Γ : Orc) (H : Hd) (xs : List VClient) (m i : Int) (ys : List VCall) (n j : Int) (w : ByteArray) : hed Tryz.prog cfg Γ 15 H [] P15d (S15d xs m i ys n j w) =
  bif decide (j < n) then
    (bif bif decide (0 ≤ j) then decide (j < zN ys.length) else false then
      (Option.bind (Γ 50 [AV.pb 0 0, AV.sl 4 1 fun i => lstG [nI (bif decide (i = 0) then (ys.getD j.toNat zCall).Op else bif decide (i - 1 = 0) then (ys.getD j.toNat zCall).A else bif decide (i - 1 - 1 = 0) then (ys.getD j.toNat zCall).B else bif decide (i - 1 - 1 - 1 = 0) then (ys.getD j.toNat zCall).Tok else 0)]] [AV.nbx 1 (lstG [AV.own w.size 1 fun i => lstG [AV.I IntKind.u8 (byN w i)]])]) fun r2 =>
      Option.bind (Γ 52 [AV.pb 0 0, AV.S (ys.getD j.toNat zCall).Name] [AV.nbx 1 (lstG [AV.own (asN (asA (r2.snd.headD AV.bad) 0)) 1 fun i => lstG [AV.I IntKind.u8 (asI (asG (asA (r2.snd.headD AV.bad) 0) i 0))]])]) fun r3 =>
      Option.bind (Γ 53 [AV.pb 0 0, slMsg (ys.getD j.toNat zCall).Msg] [AV.nbx 1 (lstG [AV.own (asN (asA (r3.snd.headD AV.bad) 0)) 1 fun i => lstG [AV.I IntKind.u8 (asI (asG (asA (r3.snd.headD AV.bad) 0) i 0))]])]) fun r4 =>
      Option.bind (Γ 54 [AV.pb 0 0, slTermS (ys.getD j.toNat zCall).Filter] [AV.nbx 1 (lstG [AV.own (asN (asA (r4.snd.headD AV.bad) 0)) 1 fun i => lstG [AV.I IntKind.u8 (asI (asG (asA (r4.snd.headD AV.bad) 0) i 0))]])]) fun r5 =>
      H [true, true, true, true, true, true, false, true, true, true, true, false, true, true, true] (hdS [(3, AV.pb 77 0), (67, slClientS xs), (68, nI m), (69, nI i), (85, slCallS ys), (86, nI n), (87, nI (IntKind.i64.wrap (j + 1)))] [(4096000, ⟨asN (asA (r5.snd.headD AV.bad) 0), 1, fun i => lstG [AV.I IntKind.u8 (asI (asG (asA (r5.snd.headD AV.bad) 0) i 0))]⟩)] [(77, 1, [AV.rf 4096000])]))
    else
      (none))
  else
    (H [true, true, true, true, true, true, false, true] (hdS [(3, AV.pb 77 0), (67, slClientS xs), (68, nI m), (69, nI (IntKind.i64.wrap (i + 1)))] [(4096000, ⟨w.size, 1, fun i => lstG [AV.I IntKind.u8 (byN w i)]⟩)] [(77, 1, [AV.rf 4096000])])) := by kernel_rfl
end Go.Fw
