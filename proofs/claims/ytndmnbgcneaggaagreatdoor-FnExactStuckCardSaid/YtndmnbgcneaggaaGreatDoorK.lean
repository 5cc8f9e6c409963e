/- The program's values by type, and the settings of the framework's evaluation. -/
import Derived.Test.YtndmnbgcneaggaaGreatDoorProg
import Derived.Test.YtndmnbgcneaggaaGreatDoorFyB
import Derived.KernelRfl
import Derived.Lib.SplitLaws
import Derived.Lib.Split
import Derived.Lib.IndexMore
set_option linter.unusedVariables false
set_option maxRecDepth 100000
namespace Go.Fw
open Go.Proofs
abbrev gsIntS (xs : List Int) : Nat → Nat → AV := gI xs
abbrev goIntS (xs : List Int) : Nat → Nat → AV := gI xs
abbrev slIntS (xs : List Int) : AV := .sl xs.length 1 (gsIntS xs)
abbrev owIntS (xs : List Int) : AV := .own xs.length 1 (goIntS xs)
def gsBoolS (xs : List Bool) : Nat → Nat → AV := fun i => lstG [.B (xs.getD i false)]
abbrev goBoolS (xs : List Bool) : Nat → Nat → AV := gsBoolS xs
abbrev slBoolS (xs : List Bool) : AV := .sl xs.length 1 (gsBoolS xs)
abbrev owBoolS (xs : List Bool) : AV := .own xs.length 1 (goBoolS xs)
def gsStrS (xs : List ByteArray) : Nat → Nat → AV := fun i => lstG [.S (xs.getD i ByteArray.empty)]
abbrev goStrS (xs : List ByteArray) : Nat → Nat → AV := gsStrS xs
abbrev slStrS (xs : List ByteArray) : AV := .sl xs.length 1 (gsStrS xs)
abbrev owStrS (xs : List ByteArray) : AV := .own xs.length 1 (goStrS xs)
structure VTokens where
 Parents : (List Int)
 Off : (List Bool)
abbrev clTokens (x : VTokens) : List AV := [slIntS x.Parents, slBoolS x.Off]
abbrev coTokens (x : VTokens) : List AV := [owIntS x.Parents, owBoolS x.Off]
abbrev slTokens (x : VTokens) : AV := .ag 2 (lstG (clTokens x))
abbrev owTokens (x : VTokens) : AV := .ag 2 (lstG (coTokens x))
structure VTimer where
 At : Int
 Token : Int
abbrev zTimer : VTimer := ⟨0, 0⟩
abbrev clTimer (x : VTimer) : List AV := [nI x.At, nI x.Token]
abbrev coTimer (x : VTimer) : List AV := clTimer x
abbrev slTimer (x : VTimer) : AV := .ag 2 (lstG (clTimer x))
abbrev owTimer (x : VTimer) : AV := .ag 2 (lstG (coTimer x))
def gsTimerS (xs : List VTimer) : Nat → Nat → AV := fun i => lstG (clTimer (xs.getD i zTimer))
abbrev goTimerS (xs : List VTimer) : Nat → Nat → AV := gsTimerS xs
abbrev slTimerS (xs : List VTimer) : AV := .sl xs.length 2 (gsTimerS xs)
abbrev owTimerS (xs : List VTimer) : AV := .own xs.length 2 (goTimerS xs)
structure VClock where
 Now : Int
 Timers : (List VTimer)
abbrev clClock (x : VClock) : List AV := [nI x.Now, slTimerS x.Timers]
abbrev coClock (x : VClock) : List AV := [nI x.Now, owTimerS x.Timers]
abbrev slClock (x : VClock) : AV := .ag 2 (lstG (clClock x))
abbrev owClock (x : VClock) : AV := .ag 2 (lstG (coClock x))
structure VGrant where
 Who : Int
 One : Bool
abbrev zGrant : VGrant := ⟨0, false⟩
abbrev clGrant (x : VGrant) : List AV := [nI x.Who, .B x.One]
abbrev coGrant (x : VGrant) : List AV := clGrant x
abbrev slGrant (x : VGrant) : AV := .ag 2 (lstG (clGrant x))
abbrev owGrant (x : VGrant) : AV := .ag 2 (lstG (coGrant x))
def gsGrantS (xs : List VGrant) : Nat → Nat → AV := fun i => lstG (clGrant (xs.getD i zGrant))
abbrev goGrantS (xs : List VGrant) : Nat → Nat → AV := gsGrantS xs
abbrev slGrantS (xs : List VGrant) : AV := .sl xs.length 2 (gsGrantS xs)
abbrev owGrantS (xs : List VGrant) : AV := .own xs.length 2 (goGrantS xs)
structure VNotify where
 Permit : Bool
 Line : (List Int)
 Grants : (List VGrant)
 Ones : Int
 Spilt : Int
 Taken : Int
abbrev zNotify : VNotify := ⟨false, [], [], 0, 0, 0⟩
abbrev clNotify (x : VNotify) : List AV := [.B x.Permit, slIntS x.Line, slGrantS x.Grants, nI x.Ones, nI x.Spilt, nI x.Taken]
abbrev coNotify (x : VNotify) : List AV := [.B x.Permit, owIntS x.Line, owGrantS x.Grants, nI x.Ones, nI x.Spilt, nI x.Taken]
abbrev slNotify (x : VNotify) : AV := .ag 6 (lstG (clNotify x))
abbrev owNotify (x : VNotify) : AV := .ag 6 (lstG (coNotify x))
def gsNotifyS (xs : List VNotify) : Nat → Nat → AV := fun i => lstG (clNotify (xs.getD i zNotify))
def goNotifyS (xs : List VNotify) : Nat → Nat → AV := fun i => lstG (coNotify (xs.getD i zNotify))
abbrev slNotifyS (xs : List VNotify) : AV := .sl xs.length 6 (gsNotifyS xs)
abbrev owNotifyS (xs : List VNotify) : AV := .own xs.length 6 (goNotifyS xs)
structure VEvent where
 Auto : Bool
 Up : Bool
 Line : (List Int)
 Grants : (List Int)
 Sets : Int
 Spilt : Int
 Taken : Int
abbrev zEvent : VEvent := ⟨false, false, [], [], 0, 0, 0⟩
abbrev clEvent (x : VEvent) : List AV := [.B x.Auto, .B x.Up, slIntS x.Line, slIntS x.Grants, nI x.Sets, nI x.Spilt, nI x.Taken]
abbrev coEvent (x : VEvent) : List AV := [.B x.Auto, .B x.Up, owIntS x.Line, owIntS x.Grants, nI x.Sets, nI x.Spilt, nI x.Taken]
abbrev slEvent (x : VEvent) : AV := .ag 7 (lstG (clEvent x))
abbrev owEvent (x : VEvent) : AV := .ag 7 (lstG (coEvent x))
def gsEventS (xs : List VEvent) : Nat → Nat → AV := fun i => lstG (clEvent (xs.getD i zEvent))
def goEventS (xs : List VEvent) : Nat → Nat → AV := fun i => lstG (coEvent (xs.getD i zEvent))
abbrev slEventS (xs : List VEvent) : AV := .sl xs.length 7 (gsEventS xs)
abbrev owEventS (xs : List VEvent) : AV := .own xs.length 7 (goEventS xs)
structure VLatch where
 Count : Int
 Line : (List Int)
 Grants : (List Int)
abbrev zLatch : VLatch := ⟨0, [], []⟩
abbrev clLatch (x : VLatch) : List AV := [nI x.Count, slIntS x.Line, slIntS x.Grants]
abbrev coLatch (x : VLatch) : List AV := [nI x.Count, owIntS x.Line, owIntS x.Grants]
abbrev slLatch (x : VLatch) : AV := .ag 3 (lstG (clLatch x))
abbrev owLatch (x : VLatch) : AV := .ag 3 (lstG (coLatch x))
def gsLatchS (xs : List VLatch) : Nat → Nat → AV := fun i => lstG (clLatch (xs.getD i zLatch))
def goLatchS (xs : List VLatch) : Nat → Nat → AV := fun i => lstG (coLatch (xs.getD i zLatch))
abbrev slLatchS (xs : List VLatch) : AV := .sl xs.length 3 (gsLatchS xs)
abbrev owLatchS (xs : List VLatch) : AV := .own xs.length 3 (goLatchS xs)
structure VMsg where
 Kind : Int
 Num : Int
 Text : ByteArray
abbrev zMsg : VMsg := ⟨0, 0, ByteArray.empty⟩
abbrev clMsg (x : VMsg) : List AV := [nI x.Kind, nI x.Num, .S x.Text]
abbrev coMsg (x : VMsg) : List AV := clMsg x
abbrev slMsg (x : VMsg) : AV := .ag 3 (lstG (clMsg x))
abbrev owMsg (x : VMsg) : AV := .ag 3 (lstG (coMsg x))
def gsMsgS (xs : List VMsg) : Nat → Nat → AV := fun i => lstG (clMsg (xs.getD i zMsg))
abbrev goMsgS (xs : List VMsg) : Nat → Nat → AV := gsMsgS xs
abbrev slMsgS (xs : List VMsg) : AV := .sl xs.length 3 (gsMsgS xs)
abbrev owMsgS (xs : List VMsg) : AV := .own xs.length 3 (goMsgS xs)
structure VCell where
 Val : VMsg
 Version : Int
 Closed : Bool
 Line : (List Int)
 Grants : (List Int)
abbrev zCell : VCell := ⟨zMsg, 0, false, [], []⟩
abbrev clCell (x : VCell) : List AV := [nI x.Val.Kind, nI x.Val.Num, .S x.Val.Text, nI x.Version, .B x.Closed, slIntS x.Line, slIntS x.Grants]
abbrev coCell (x : VCell) : List AV := [nI x.Val.Kind, nI x.Val.Num, .S x.Val.Text, nI x.Version, .B x.Closed, owIntS x.Line, owIntS x.Grants]
abbrev slCell (x : VCell) : AV := .ag 7 (lstG (clCell x))
abbrev owCell (x : VCell) : AV := .ag 7 (lstG (coCell x))
def gsCellS (xs : List VCell) : Nat → Nat → AV := fun i => lstG (clCell (xs.getD i zCell))
def goCellS (xs : List VCell) : Nat → Nat → AV := fun i => lstG (coCell (xs.getD i zCell))
abbrev slCellS (xs : List VCell) : AV := .sl xs.length 7 (gsCellS xs)
abbrev owCellS (xs : List VCell) : AV := .own xs.length 7 (goCellS xs)
structure VTerm where
 Op : Int
 Num : Int
 Text : ByteArray
abbrev zTerm : VTerm := ⟨0, 0, ByteArray.empty⟩
abbrev clTerm (x : VTerm) : List AV := [nI x.Op, nI x.Num, .S x.Text]
abbrev coTerm (x : VTerm) : List AV := clTerm x
abbrev slTerm (x : VTerm) : AV := .ag 3 (lstG (clTerm x))
abbrev owTerm (x : VTerm) : AV := .ag 3 (lstG (coTerm x))
def gsTermS (xs : List VTerm) : Nat → Nat → AV := fun i => lstG (clTerm (xs.getD i zTerm))
abbrev goTermS (xs : List VTerm) : Nat → Nat → AV := gsTermS xs
abbrev slTermS (xs : List VTerm) : AV := .sl xs.length 3 (gsTermS xs)
abbrev owTermS (xs : List VTerm) : AV := .own xs.length 3 (goTermS xs)
structure VSub where
 Id : Int
 Start : Int
 Cursor : Int
 Got : Int
 Lost : Int
 Passed : Int
 Filter : (List VTerm)
abbrev zSub : VSub := ⟨0, 0, 0, 0, 0, 0, []⟩
abbrev clSub (x : VSub) : List AV := [nI x.Id, nI x.Start, nI x.Cursor, nI x.Got, nI x.Lost, nI x.Passed, slTermS x.Filter]
abbrev coSub (x : VSub) : List AV := [nI x.Id, nI x.Start, nI x.Cursor, nI x.Got, nI x.Lost, nI x.Passed, owTermS x.Filter]
abbrev slSub (x : VSub) : AV := .ag 7 (lstG (clSub x))
abbrev owSub (x : VSub) : AV := .ag 7 (lstG (coSub x))
def gsSubS (xs : List VSub) : Nat → Nat → AV := fun i => lstG (clSub (xs.getD i zSub))
def goSubS (xs : List VSub) : Nat → Nat → AV := fun i => lstG (coSub (xs.getD i zSub))
abbrev slSubS (xs : List VSub) : AV := .sl xs.length 7 (gsSubS xs)
abbrev owSubS (xs : List VSub) : AV := .own xs.length 7 (goSubS xs)
structure VRing where
 Cap : Int
 Sent : Int
 Items : (List VMsg)
 Next : Int
 Subs : (List VSub)
 Line : (List Int)
 Grants : (List Int)
 Closed : Bool
abbrev zRing : VRing := ⟨0, 0, [], 0, [], [], [], false⟩
abbrev clRing (x : VRing) : List AV := [nI x.Cap, nI x.Sent, slMsgS x.Items, nI x.Next, slSubS x.Subs, slIntS x.Line, slIntS x.Grants, .B x.Closed]
abbrev coRing (x : VRing) : List AV := [nI x.Cap, nI x.Sent, owMsgS x.Items, nI x.Next, owSubS x.Subs, owIntS x.Line, owIntS x.Grants, .B x.Closed]
abbrev slRing (x : VRing) : AV := .ag 8 (lstG (clRing x))
abbrev owRing (x : VRing) : AV := .ag 8 (lstG (coRing x))
structure VTopic where
 Name : ByteArray
 Ring : VRing
abbrev zTopic : VTopic := ⟨ByteArray.empty, zRing⟩
abbrev clTopic (x : VTopic) : List AV := [.S x.Name, nI x.Ring.Cap, nI x.Ring.Sent, slMsgS x.Ring.Items, nI x.Ring.Next, slSubS x.Ring.Subs, slIntS x.Ring.Line, slIntS x.Ring.Grants, .B x.Ring.Closed]
abbrev coTopic (x : VTopic) : List AV := [.S x.Name, nI x.Ring.Cap, nI x.Ring.Sent, owMsgS x.Ring.Items, nI x.Ring.Next, owSubS x.Ring.Subs, owIntS x.Ring.Line, owIntS x.Ring.Grants, .B x.Ring.Closed]
abbrev slTopic (x : VTopic) : AV := .ag 9 (lstG (clTopic x))
abbrev owTopic (x : VTopic) : AV := .ag 9 (lstG (coTopic x))
def gsTopicS (xs : List VTopic) : Nat → Nat → AV := fun i => lstG (clTopic (xs.getD i zTopic))
def goTopicS (xs : List VTopic) : Nat → Nat → AV := fun i => lstG (coTopic (xs.getD i zTopic))
abbrev slTopicS (xs : List VTopic) : AV := .sl xs.length 9 (gsTopicS xs)
abbrev owTopicS (xs : List VTopic) : AV := .own xs.length 9 (goTopicS xs)
structure VLeg where
 Topic : Int
 Id : Int
 Lost : Int
 Over : Bool
abbrev zLeg : VLeg := ⟨0, 0, 0, false⟩
abbrev clLeg (x : VLeg) : List AV := [nI x.Topic, nI x.Id, nI x.Lost, .B x.Over]
abbrev coLeg (x : VLeg) : List AV := clLeg x
abbrev slLeg (x : VLeg) : AV := .ag 4 (lstG (clLeg x))
abbrev owLeg (x : VLeg) : AV := .ag 4 (lstG (coLeg x))
def gsLegS (xs : List VLeg) : Nat → Nat → AV := fun i => lstG (clLeg (xs.getD i zLeg))
abbrev goLegS (xs : List VLeg) : Nat → Nat → AV := gsLegS xs
abbrev slLegS (xs : List VLeg) : AV := .sl xs.length 4 (gsLegS xs)
abbrev owLegS (xs : List VLeg) : AV := .own xs.length 4 (goLegS xs)
structure VMerge where
 Legs : (List VLeg)
 Into : Int
 Moved : Int
abbrev zMerge : VMerge := ⟨[], 0, 0⟩
abbrev clMerge (x : VMerge) : List AV := [slLegS x.Legs, nI x.Into, nI x.Moved]
abbrev coMerge (x : VMerge) : List AV := [owLegS x.Legs, nI x.Into, nI x.Moved]
abbrev slMerge (x : VMerge) : AV := .ag 3 (lstG (clMerge x))
abbrev owMerge (x : VMerge) : AV := .ag 3 (lstG (coMerge x))
def gsMergeS (xs : List VMerge) : Nat → Nat → AV := fun i => lstG (clMerge (xs.getD i zMerge))
def goMergeS (xs : List VMerge) : Nat → Nat → AV := fun i => lstG (coMerge (xs.getD i zMerge))
abbrev slMergeS (xs : List VMerge) : AV := .sl xs.length 3 (gsMergeS xs)
abbrev owMergeS (xs : List VMerge) : AV := .own xs.length 3 (goMergeS xs)
structure VHit where
 Topic : Int
 Id : Int
abbrev zHit : VHit := ⟨0, 0⟩
abbrev clHit (x : VHit) : List AV := [nI x.Topic, nI x.Id]
abbrev coHit (x : VHit) : List AV := clHit x
abbrev slHit (x : VHit) : AV := .ag 2 (lstG (clHit x))
abbrev owHit (x : VHit) : AV := .ag 2 (lstG (coHit x))
def gsHitS (xs : List VHit) : Nat → Nat → AV := fun i => lstG (clHit (xs.getD i zHit))
abbrev goHitS (xs : List VHit) : Nat → Nat → AV := gsHitS xs
abbrev slHitS (xs : List VHit) : AV := .sl xs.length 2 (gsHitS xs)
abbrev owHitS (xs : List VHit) : AV := .own xs.length 2 (goHitS xs)
structure VUser where
 Subs : (List VHit)
 Seen : (List Int)
abbrev zUser : VUser := ⟨[], []⟩
abbrev clUser (x : VUser) : List AV := [slHitS x.Subs, slIntS x.Seen]
abbrev coUser (x : VUser) : List AV := [owHitS x.Subs, owIntS x.Seen]
abbrev slUser (x : VUser) : AV := .ag 2 (lstG (clUser x))
abbrev owUser (x : VUser) : AV := .ag 2 (lstG (coUser x))
def gsUserS (xs : List VUser) : Nat → Nat → AV := fun i => lstG (clUser (xs.getD i zUser))
def goUserS (xs : List VUser) : Nat → Nat → AV := fun i => lstG (coUser (xs.getD i zUser))
abbrev slUserS (xs : List VUser) : AV := .sl xs.length 2 (gsUserS xs)
abbrev owUserS (xs : List VUser) : AV := .own xs.length 2 (goUserS xs)
structure VHub where
 Tokens : VTokens
 Clock : VClock
 Notes : (List VNotify)
 Events : (List VEvent)
 Latches : (List VLatch)
 Cells : (List VCell)
 Topics : (List VTopic)
 Merges : (List VMerge)
 Users : (List VUser)
abbrev clHub (x : VHub) : List AV := [slIntS x.Tokens.Parents, slBoolS x.Tokens.Off, nI x.Clock.Now, slTimerS x.Clock.Timers, slNotifyS x.Notes, slEventS x.Events, slLatchS x.Latches, slCellS x.Cells, slTopicS x.Topics, slMergeS x.Merges, slUserS x.Users]
abbrev coHub (x : VHub) : List AV := [owIntS x.Tokens.Parents, owBoolS x.Tokens.Off, nI x.Clock.Now, owTimerS x.Clock.Timers, owNotifyS x.Notes, owEventS x.Events, owLatchS x.Latches, owCellS x.Cells, owTopicS x.Topics, owMergeS x.Merges, owUserS x.Users]
abbrev slHub (x : VHub) : AV := .ag 11 (lstG (clHub x))
abbrev owHub (x : VHub) : AV := .ag 11 (lstG (coHub x))
structure VCall where
 Op : Int
 A : Int
 B : Int
 Tok : Int
 Name : ByteArray
 Msg : VMsg
 Filter : (List VTerm)
abbrev zCall : VCall := ⟨0, 0, 0, 0, ByteArray.empty, zMsg, []⟩
abbrev clCall (x : VCall) : List AV := [nI x.Op, nI x.A, nI x.B, nI x.Tok, .S x.Name, nI x.Msg.Kind, nI x.Msg.Num, .S x.Msg.Text, slTermS x.Filter]
abbrev coCall (x : VCall) : List AV := [nI x.Op, nI x.A, nI x.B, nI x.Tok, .S x.Name, nI x.Msg.Kind, nI x.Msg.Num, .S x.Msg.Text, owTermS x.Filter]
abbrev slCall (x : VCall) : AV := .ag 9 (lstG (clCall x))
abbrev owCall (x : VCall) : AV := .ag 9 (lstG (coCall x))
def gsCallS (xs : List VCall) : Nat → Nat → AV := fun i => lstG (clCall (xs.getD i zCall))
def goCallS (xs : List VCall) : Nat → Nat → AV := fun i => lstG (coCall (xs.getD i zCall))
abbrev slCallS (xs : List VCall) : AV := .sl xs.length 9 (gsCallS xs)
abbrev owCallS (xs : List VCall) : AV := .own xs.length 9 (goCallS xs)
structure VClient where
 Prog : (List VCall)
 At : Int
 Waiting : Bool
abbrev zClient : VClient := ⟨[], 0, false⟩
abbrev clClient (x : VClient) : List AV := [slCallS x.Prog, nI x.At, .B x.Waiting]
abbrev coClient (x : VClient) : List AV := [owCallS x.Prog, nI x.At, .B x.Waiting]
abbrev slClient (x : VClient) : AV := .ag 3 (lstG (clClient x))
abbrev owClient (x : VClient) : AV := .ag 3 (lstG (coClient x))
def gsClientS (xs : List VClient) : Nat → Nat → AV := fun i => lstG (clClient (xs.getD i zClient))
def goClientS (xs : List VClient) : Nat → Nat → AV := fun i => lstG (coClient (xs.getD i zClient))
abbrev slClientS (xs : List VClient) : AV := .sl xs.length 3 (gsClientS xs)
abbrev owClientS (xs : List VClient) : AV := .own xs.length 3 (goClientS xs)
structure VState where
 Hub : VHub
 Clients : (List VClient)
abbrev clState (x : VState) : List AV := [slIntS x.Hub.Tokens.Parents, slBoolS x.Hub.Tokens.Off, nI x.Hub.Clock.Now, slTimerS x.Hub.Clock.Timers, slNotifyS x.Hub.Notes, slEventS x.Hub.Events, slLatchS x.Hub.Latches, slCellS x.Hub.Cells, slTopicS x.Hub.Topics, slMergeS x.Hub.Merges, slUserS x.Hub.Users, slClientS x.Clients]
abbrev coState (x : VState) : List AV := [owIntS x.Hub.Tokens.Parents, owBoolS x.Hub.Tokens.Off, nI x.Hub.Clock.Now, owTimerS x.Hub.Clock.Timers, owNotifyS x.Hub.Notes, owEventS x.Hub.Events, owLatchS x.Hub.Latches, owCellS x.Hub.Cells, owTopicS x.Hub.Topics, owMergeS x.Hub.Merges, owUserS x.Hub.Users, owClientS x.Clients]
abbrev slState (x : VState) : AV := .ag 12 (lstG (clState x))
abbrev owState (x : VState) : AV := .ag 12 (lstG (coState x))
def outO (f : Nat) (args exts : List AV) : Option (AV × List AV) :=
 match args, exts with
 | [.S s, .S p], [] =>
  bif Nat.beq f 213 then (bif decide (s.size < 4294967281) && Nat.ble 1 p.size then some (owStrS (Lib.splitB p 0 (Lib.countB s p) s), []) else none)
  else none
 | [.nsl 1 g, .I .i64 n], [] =>
  bif Nat.beq f 277 then (bif decide (0 ≤ n) && decide (n ≤ 4294967296) then some (owIntS [], []) else none)
  else none
 | _, _ => none
def outF (f : Nat) : Bool := Nat.beq f 213 || Nat.beq f 277
def focT (f r : Nat) : Foc :=
 bif Nat.beq f 23 && Nat.beq r 27 then ⟨[1, 3, 99], [], [65, 67], [], []⟩ else
 bif Nat.beq f 23 && Nat.beq r 4 then ⟨[1, 3, 21], [], [65, 67], [], []⟩ else
 bif Nat.beq f 118 then ⟨[0, 1, 5], [], [], [], []⟩ else
 bif Nat.beq f 39 then ⟨[0, 1, 5], [], [], [], []⟩ else
 bif Nat.beq f 20 then ⟨[0, 1, 5], [], [], [], []⟩ else
 bif Nat.beq f 37 then ⟨[0, 1, 5], [], [], [], []⟩ else
 bif Nat.beq f 38 then ⟨[0, 1, 5], [], [], [], []⟩ else
 bif Nat.beq f 41 then ⟨[0, 1, 5], [], [], [], []⟩ else
 bif Nat.beq f 245 then ⟨[0, 1, 5], [], [], [], []⟩ else
 bif Nat.beq f 36 then ⟨[0, 1, 5], [], [], [], []⟩ else
 bif Nat.beq f 246 then ⟨[0, 1, 5], [], [], [], []⟩ else
 bif Nat.beq f 247 then ⟨[0, 1, 5], [], [], [], []⟩ else
 bif Nat.beq f 40 then ⟨[0, 1, 5], [], [], [], []⟩ else
 bif Nat.beq f 42 then ⟨[0, 1, 5], [], [], [], []⟩ else
 bif Nat.beq f 130 then ⟨[0, 3, 4], [], [], [], [290816]⟩ else
 bif Nat.beq f 139 then ⟨[0, 3, 4], [], [], [], [290816]⟩ else
 bif Nat.beq f 57 then ⟨[0, 3, 4], [], [], [], [290816]⟩ else
 bif Nat.beq f 26 then ⟨[0, 3, 4], [], [], [], [290816]⟩ else
 bif Nat.beq f 55 then ⟨[0, 3, 4], [], [], [], [290816]⟩ else
 bif Nat.beq f 205 then ⟨[0, 3, 4], [], [], [], [290816]⟩ else
 bif Nat.beq f 209 then ⟨[0, 3, 4], [], [], [], [290816]⟩ else
 bif Nat.beq f 129 then ⟨[0, 3, 4], [], [], [], [290816]⟩ else
 bif Nat.beq f 56 then ⟨[0, 3, 4], [], [], [], [290816]⟩ else
 bif Nat.beq f 208 then ⟨[0, 3, 4], [], [], [], [290816]⟩ else
 bif Nat.beq f 59 then ⟨[0, 3, 4], [], [], [], [290816]⟩ else
 bif Nat.beq f 249 then ⟨[0, 3, 4], [], [], [], [290816]⟩ else
 bif Nat.beq f 54 then ⟨[0, 3, 4], [], [], [], [290816]⟩ else
 bif Nat.beq f 250 then ⟨[0, 3, 4], [], [], [], [290816]⟩ else
 bif Nat.beq f 253 then ⟨[0, 3, 4], [], [], [], [290816]⟩ else
 bif Nat.beq f 131 then ⟨[0, 3, 4], [], [], [], [290816]⟩ else
 bif Nat.beq f 58 then ⟨[0, 3, 4], [], [], [], [290816]⟩ else
 bif Nat.beq f 60 then ⟨[0, 3, 4], [], [], [], [290816]⟩ else
 bif Nat.beq f 167 then ⟨[0, 1, 5], [], [], [], []⟩ else
 bif Nat.beq f 176 then ⟨[0, 1, 5], [], [], [], []⟩ else
 bif Nat.beq f 93 then ⟨[0, 1, 5], [], [], [], []⟩ else
 bif Nat.beq f 31 then ⟨[0, 1, 5], [], [], [], []⟩ else
 bif Nat.beq f 91 then ⟨[0, 1, 5], [], [], [], []⟩ else
 bif Nat.beq f 239 then ⟨[0, 1, 5], [], [], [], []⟩ else
 bif Nat.beq f 243 then ⟨[0, 1, 5], [], [], [], []⟩ else
 bif Nat.beq f 13 then ⟨[0, 1, 5], [], [], [], []⟩ else
 bif Nat.beq f 92 then ⟨[0, 1, 5], [], [], [], []⟩ else
 bif Nat.beq f 242 then ⟨[0, 1, 5], [], [], [], []⟩ else
 bif Nat.beq f 95 then ⟨[0, 1, 5], [], [], [], []⟩ else
 bif Nat.beq f 265 then ⟨[0, 1, 5], [], [], [], []⟩ else
 bif Nat.beq f 90 then ⟨[0, 1, 5], [], [], [], []⟩ else
 bif Nat.beq f 266 then ⟨[0, 1, 5], [], [], [], []⟩ else
 bif Nat.beq f 269 then ⟨[0, 1, 5], [], [], [], []⟩ else
 bif Nat.beq f 168 then ⟨[0, 1, 5], [], [], [], []⟩ else
 bif Nat.beq f 94 then ⟨[0, 1, 5], [], [], [], []⟩ else
 bif Nat.beq f 96 then ⟨[0, 1, 5], [], [], [], []⟩ else
 bif Nat.beq f 177 then ⟨[0, 1, 5], [], [], [], [0]⟩ else
 bif Nat.beq f 107 then ⟨[0, 1, 5], [], [], [], [0]⟩ else
 bif Nat.beq f 103 then ⟨[0, 1, 5], [], [], [], [0]⟩ else
 bif Nat.beq f 33 then ⟨[0, 1, 5], [], [], [], [0]⟩ else
 bif Nat.beq f 101 then ⟨[0, 1, 5], [], [], [], [0]⟩ else
 bif Nat.beq f 179 then ⟨[0, 1, 5], [], [], [], [0]⟩ else
 bif Nat.beq f 184 then ⟨[0, 1, 5], [], [], [], [0]⟩ else
 bif Nat.beq f 15 then ⟨[0, 1, 5], [], [], [], [0]⟩ else
 bif Nat.beq f 102 then ⟨[0, 1, 5], [], [], [], [0]⟩ else
 bif Nat.beq f 183 then ⟨[0, 1, 5], [], [], [], [0]⟩ else
 bif Nat.beq f 105 then ⟨[0, 1, 5], [], [], [], [0]⟩ else
 bif Nat.beq f 181 then ⟨[0, 1, 5], [], [], [], [0]⟩ else
 bif Nat.beq f 100 then ⟨[0, 1, 5], [], [], [], [0]⟩ else
 bif Nat.beq f 182 then ⟨[0, 1, 5], [], [], [], [0]⟩ else
 bif Nat.beq f 185 then ⟨[0, 1, 5], [], [], [], [0]⟩ else
 bif Nat.beq f 178 then ⟨[0, 1, 5], [], [], [], [0]⟩ else
 bif Nat.beq f 104 then ⟨[0, 1, 5], [], [], [], [0]⟩ else
 bif Nat.beq f 106 then ⟨[0, 1, 5], [], [], [], [0]⟩ else
 bif Nat.beq f 16 then ⟨[0, 1, 5], [], [], [], []⟩ else
 bif Nat.beq f 201 then ⟨[0, 3, 4, 5], [(3, 380928)], [], [], [380928]⟩ else
 bif Nat.beq f 127 then ⟨[1, 5, 6], [], [], [], [315392]⟩ else
 bif Nat.beq f 166 then ⟨[0, 3, 8, 9, 10], [], [], [], [290816]⟩ else
 bif Nat.beq f 51 then ⟨[0, 3, 4], [], [], [], []⟩ else
 bif Nat.beq f 165 then ⟨[0, 3, 6, 7, 8], [], [], [], []⟩ else
 bif Nat.beq f 155 then ⟨[1, 20, 21], [], [65], [], []⟩ else
 bif Nat.beq f 126 then ⟨[0, 3], [], [], [], []⟩ else
 bif Nat.beq f 202 then ⟨[0, 3], [], [], [], []⟩ else
 bif Nat.beq f 203 then ⟨[0, 3], [], [], [], []⟩ else
 bif Nat.beq f 215 then ⟨[0, 5, 6], [], [], [], []⟩ else
 bif Nat.beq f 263 then ⟨[0, 5, 6], [], [], [], []⟩ else
 bif Nat.beq f 196 then ⟨[0, 1, 5], [], [], [], []⟩ else
 bif Nat.beq f 260 then ⟨[0, 1, 7, 8], [], [], [], []⟩ else
 bif Nat.beq f 197 then ⟨[0, 3], [], [], [], []⟩ else
 bif Nat.beq f 225 then ⟨[0, 5, 6, 7], [], [], [], []⟩ else
 bif Nat.beq f 200 then ⟨[0, 1, 5], [], [], [], []⟩ else
 bif Nat.beq f 259 then ⟨[0, 1, 7, 8], [], [], [], []⟩ else
 bif Nat.beq f 254 then ⟨[0, 1, 7, 8], [], [], [], []⟩ else
 bif Nat.beq f 216 then ⟨[0, 1, 7, 8], [], [], [], []⟩ else
 bif Nat.beq f 261 then ⟨[0, 1, 7, 8], [], [], [], []⟩ else
 bif Nat.beq f 256 then ⟨[0, 1, 7, 8], [], [], [], []⟩ else
 bif Nat.beq f 234 then ⟨[0, 1, 7, 8], [], [], [], []⟩ else
 bif Nat.beq f 164 then ⟨[0, 1, 7, 8], [], [], [], []⟩ else
 bif Nat.beq f 163 then ⟨[0, 1, 7, 8], [], [], [], []⟩ else
 bif Nat.beq f 211 then ⟨[0, 1, 7, 8], [], [], [], []⟩ else
 bif Nat.beq f 223 then ⟨[0, 1, 7, 8], [], [], [], []⟩ else
 bif Nat.beq f 229 then ⟨[0, 1, 7, 8], [], [], [], []⟩ else
 bif Nat.beq f 230 then ⟨[0, 1, 7, 8], [], [], [], []⟩ else
 bif Nat.beq f 231 then ⟨[0, 1, 7, 8], [], [], [], []⟩ else
 bif Nat.beq f 232 then ⟨[0, 1, 7, 8], [], [], [], []⟩ else
 bif Nat.beq f 235 then ⟨[0, 1, 7, 8], [], [], [], []⟩ else
 bif Nat.beq f 199 then ⟨[0, 1, 5], [], [], [], []⟩ else
 bif Nat.beq f 121 then ⟨[1, 3, 4], [], [65], [], []⟩ else
 bif Nat.beq f 70 then ⟨[1, 3, 4, 14, 15, 16], [(3, 360448)], [65], [], [360448]⟩ else
 bif Nat.beq f 44 then ⟨[1, 3], [], [65], [], []⟩ else
 bif Nat.beq f 66 then ⟨[1, 19, 20, 21], [], [65], [], []⟩ else
 bif Nat.beq f 45 then ⟨[1, 3], [], [65], [], []⟩ else
 bif Nat.beq f 67 then ⟨[1, 6, 7, 8], [], [65], [], []⟩ else
 bif Nat.beq f 46 && Nat.beq r 4 then ⟨[0, 3], [], [], [], []⟩ else
 bif Nat.beq f 46 && Nat.beq r 9 then ⟨[0, 3, 4], [], [], [], []⟩ else
 bif Nat.beq f 68 then ⟨[0, 5, 6, 7], [], [], [], []⟩ else
 bif Nat.beq f 48 then ⟨[0, 3, 5], [], [67], [], []⟩ else
 bif Nat.beq f 79 then ⟨[0, 3, 26, 27, 28], [], [67], [], []⟩ else
 bif Nat.beq f 125 then ⟨[0, 2, 4, 7, 8], [], [68, 71], [], []⟩ else
 bif Nat.beq f 195 then ⟨[1, 2, 5], [], [66], [], []⟩ else
 bif Nat.beq f 193 then ⟨[1, 3, 4], [], [65], [], []⟩ else
 bif Nat.beq f 221 then ⟨[1, 3, 9, 10, 11], [], [65], [], []⟩ else
 bif Nat.beq f 120 && Nat.beq r 4 then ⟨[1, 3], [], [65], [], []⟩ else
 bif Nat.beq f 120 && Nat.beq r 11 then ⟨[1, 4], [], [65], [], []⟩ else
 bif Nat.beq f 120 && Nat.beq r 17 then ⟨[1, 5, 6], [(5, 749568)], [65], [], [749568]⟩ else
 bif Nat.beq f 144 then ⟨[1, 28, 29, 30], [], [65], [], []⟩ else
 bif Nat.beq f 222 then ⟨[1, 3, 13, 14, 15], [], [65], [], [311296]⟩ else
 bif Nat.beq f 257 && Nat.beq r 3 then ⟨[0, 3, 9, 10, 11], [], [], [], []⟩ else
 bif Nat.beq f 257 && Nat.beq r 11 then ⟨[6, 25, 26, 27], [(6, 397312)], [], [], [397312]⟩ else
 bif Nat.beq f 47 && Nat.beq r 4 then ⟨[1, 3], [], [65], [], []⟩ else
 bif Nat.beq f 47 && Nat.beq r 9 then ⟨[1, 4], [], [65], [], []⟩ else
 bif Nat.beq f 47 && Nat.beq r 14 then ⟨[1, 5], [], [65], [], []⟩ else
 bif Nat.beq f 47 && Nat.beq r 19 then ⟨[1, 6], [], [65], [], []⟩ else
 bif Nat.beq f 21 && Nat.beq r 4 then ⟨[1, 3], [], [65], [], []⟩ else
 bif Nat.beq f 21 && Nat.beq r 9 then ⟨[1, 4], [], [65], [], []⟩ else
 bif Nat.beq f 21 && Nat.beq r 15 then ⟨[1, 4, 5, 6], [], [65, 69], [], []⟩ else
 bif Nat.beq f 7 && Nat.beq r 4 then ⟨[1, 3], [], [65], [], []⟩ else
 bif Nat.beq f 7 && Nat.beq r 10 then ⟨[1, 3, 4, 5], [], [65, 68], [], []⟩ else
 bif Nat.beq f 11 then ⟨[1, 3, 4], [(3, 380928)], [65], [], [380928]⟩ else
 bif Nat.beq f 12 then ⟨[3, 13, 14, 15], [(3, 364544)], [], [], [364544]⟩ else
 bif Nat.beq f 17 then ⟨[1, 3, 4], [(3, 368640)], [65], [], [368640]⟩ else
 bif Nat.beq f 18 then ⟨[3, 12, 13, 14], [(3, 360448)], [], [], [360448]⟩ else
 bif Nat.beq f 180 then ⟨[0, 3], [], [], [], []⟩ else
 {}
def modeT (f : Nat) : List Bool :=
 bif Nat.beq f 14 then [true] else
 bif Nat.beq f 15 then [true] else
 bif Nat.beq f 32 then [true] else
 bif Nat.beq f 33 then [true] else
 bif Nat.beq f 98 then [true] else
 bif Nat.beq f 99 then [true] else
 bif Nat.beq f 100 then [true] else
 bif Nat.beq f 101 then [true] else
 bif Nat.beq f 102 then [true] else
 bif Nat.beq f 103 then [true] else
 bif Nat.beq f 104 then [true] else
 bif Nat.beq f 105 then [true] else
 bif Nat.beq f 106 then [true] else
 bif Nat.beq f 107 then [true] else
 bif Nat.beq f 177 then [true] else
 bif Nat.beq f 178 then [true] else
 bif Nat.beq f 179 then [true] else
 bif Nat.beq f 181 then [true] else
 bif Nat.beq f 182 then [true] else
 bif Nat.beq f 183 then [true] else
 bif Nat.beq f 184 then [true] else
 bif Nat.beq f 185 then [true] else
 bif Nat.beq f 277 then [true] else
 []
def nilT (f : Nat) : Bool := false
def giveT (f : Nat) : Bool := false
def cutT (f r : Nat) : Bool := (Nat.beq f 23 && Nat.beq r 4) || (Nat.beq f 23 && Nat.beq r 27)
def cfg : Cfg := ⟨modeT, focT, nilT, giveT, cutT, outF, outO⟩
open Classical in
noncomputable def okD (b : Bool) : Bool := decide (∀ _i : Nat, b = true)
theorem okD_true : okD true = true := by simp [okD]
open Classical in
noncomputable def okF (n : Nat) (A : Nat → AV) (B : Nat → Nat → AV) : Bool := decide (∀ i : Nat, ((List.range n).all fun j => (A j).fit (B i j)) = true)
abbrev bs (l : List UInt8) : ByteArray := ⟨⟨l⟩⟩
abbrev byN (s : ByteArray) (i : Nat) : Int := zN ((s[i]?).getD 0).toNat
open Classical in
noncomputable def okU : Bool := decide (∀ _i : Nat, (bif okT then true else false) = true)
theorem okU_eq : okU = true := by unfold okU; rw [okT_eq]; simp
open Classical in
noncomputable def okV : Bool := decide (∀ _i : Nat, (bif okU then true else false) = true)
theorem okV_eq : okV = true := by unfold okV; rw [okU_eq]; simp
open Classical in
noncomputable def okW : Bool := decide (∀ _i : Nat, (bif okV then true else false) = true)
theorem okW_eq : okW = true := by unfold okW; rw [okV_eq]; simp
abbrev vslIntS (x : AV) : AV := .sl (asN x) 1 fun i => lstG [nI (asI (asG x i 0))]
abbrev vowIntS (x : AV) : AV := .own (asN x) 1 fun i => lstG [nI (asI (asG x i 0))]
abbrev vslBoolS (x : AV) : AV := .sl (asN x) 1 fun i => lstG [.B (asB (asG x i 0))]
abbrev vowBoolS (x : AV) : AV := .own (asN x) 1 fun i => lstG [.B (asB (asG x i 0))]
abbrev vslStrS (x : AV) : AV := .sl (asN x) 1 fun i => lstG [.S (asS (asG x i 0))]
abbrev vslTimerS (x : AV) : AV := .sl (asN x) 2 fun i => lstG [nI (asI (asG x i 0)), nI (asI (asG x i 1))]
abbrev vowTimerS (x : AV) : AV := .own (asN x) 2 fun i => lstG [nI (asI (asG x i 0)), nI (asI (asG x i 1))]
abbrev vslGrantS (x : AV) : AV := .sl (asN x) 2 fun i => lstG [nI (asI (asG x i 0)), .B (asB (asG x i 1))]
abbrev vowGrantS (x : AV) : AV := .own (asN x) 2 fun i => lstG [nI (asI (asG x i 0)), .B (asB (asG x i 1))]
abbrev vslNotifyS (x : AV) : AV := .sl (asN x) 6 fun i => lstG [.B (asB (asG x i 0)), vslIntS (asG x i 1), vslGrantS (asG x i 2), nI (asI (asG x i 3)), nI (asI (asG x i 4)), nI (asI (asG x i 5))]
abbrev vowNotifyS (x : AV) : AV := .own (asN x) 6 fun i => lstG [.B (asB (asG x i 0)), vowIntS (asG x i 1), vowGrantS (asG x i 2), nI (asI (asG x i 3)), nI (asI (asG x i 4)), nI (asI (asG x i 5))]
abbrev vslEventS (x : AV) : AV := .sl (asN x) 7 fun i => lstG [.B (asB (asG x i 0)), .B (asB (asG x i 1)), vslIntS (asG x i 2), vslIntS (asG x i 3), nI (asI (asG x i 4)), nI (asI (asG x i 5)), nI (asI (asG x i 6))]
abbrev vowEventS (x : AV) : AV := .own (asN x) 7 fun i => lstG [.B (asB (asG x i 0)), .B (asB (asG x i 1)), vowIntS (asG x i 2), vowIntS (asG x i 3), nI (asI (asG x i 4)), nI (asI (asG x i 5)), nI (asI (asG x i 6))]
abbrev vslLatchS (x : AV) : AV := .sl (asN x) 3 fun i => lstG [nI (asI (asG x i 0)), vslIntS (asG x i 1), vslIntS (asG x i 2)]
abbrev vowLatchS (x : AV) : AV := .own (asN x) 3 fun i => lstG [nI (asI (asG x i 0)), vowIntS (asG x i 1), vowIntS (asG x i 2)]
abbrev vslMsgS (x : AV) : AV := .sl (asN x) 3 fun i => lstG [nI (asI (asG x i 0)), nI (asI (asG x i 1)), .S (asS (asG x i 2))]
abbrev vowMsgS (x : AV) : AV := .own (asN x) 3 fun i => lstG [nI (asI (asG x i 0)), nI (asI (asG x i 1)), .S (asS (asG x i 2))]
abbrev vslCellS (x : AV) : AV := .sl (asN x) 7 fun i => lstG [nI (asI (asG x i 0)), nI (asI (asG x i 1)), .S (asS (asG x i 2)), nI (asI (asG x i 3)), .B (asB (asG x i 4)), vslIntS (asG x i 5), vslIntS (asG x i 6)]
abbrev vowCellS (x : AV) : AV := .own (asN x) 7 fun i => lstG [nI (asI (asG x i 0)), nI (asI (asG x i 1)), .S (asS (asG x i 2)), nI (asI (asG x i 3)), .B (asB (asG x i 4)), vowIntS (asG x i 5), vowIntS (asG x i 6)]
abbrev vowTermS (x : AV) : AV := .own (asN x) 3 fun i => lstG [nI (asI (asG x i 0)), nI (asI (asG x i 1)), .S (asS (asG x i 2))]
abbrev vowSubS (x : AV) : AV := .own (asN x) 7 fun i => lstG [nI (asI (asG x i 0)), nI (asI (asG x i 1)), nI (asI (asG x i 2)), nI (asI (asG x i 3)), nI (asI (asG x i 4)), nI (asI (asG x i 5)), vowTermS (asG x i 6)]
abbrev vowTopicS (x : AV) : AV := .own (asN x) 9 fun i => lstG [.S (asS (asG x i 0)), nI (asI (asG x i 1)), nI (asI (asG x i 2)), vowMsgS (asG x i 3), nI (asI (asG x i 4)), vowSubS (asG x i 5), vowIntS (asG x i 6), vowIntS (asG x i 7), .B (asB (asG x i 8))]
abbrev vslLegS (x : AV) : AV := .sl (asN x) 4 fun i => lstG [nI (asI (asG x i 0)), nI (asI (asG x i 1)), nI (asI (asG x i 2)), .B (asB (asG x i 3))]
abbrev vowLegS (x : AV) : AV := .own (asN x) 4 fun i => lstG [nI (asI (asG x i 0)), nI (asI (asG x i 1)), nI (asI (asG x i 2)), .B (asB (asG x i 3))]
abbrev vslMergeS (x : AV) : AV := .sl (asN x) 3 fun i => lstG [vslLegS (asG x i 0), nI (asI (asG x i 1)), nI (asI (asG x i 2))]
abbrev vowMergeS (x : AV) : AV := .own (asN x) 3 fun i => lstG [vowLegS (asG x i 0), nI (asI (asG x i 1)), nI (asI (asG x i 2))]
abbrev vowHitS (x : AV) : AV := .own (asN x) 2 fun i => lstG [nI (asI (asG x i 0)), nI (asI (asG x i 1))]
abbrev vowUserS (x : AV) : AV := .own (asN x) 2 fun i => lstG [vowHitS (asG x i 0), vowIntS (asG x i 1)]
abbrev vowCallS (x : AV) : AV := .own (asN x) 9 fun i => lstG [nI (asI (asG x i 0)), nI (asI (asG x i 1)), nI (asI (asG x i 2)), nI (asI (asG x i 3)), .S (asS (asG x i 4)), nI (asI (asG x i 5)), nI (asI (asG x i 6)), .S (asS (asG x i 7)), vowTermS (asG x i 8)]
abbrev vowClientS (x : AV) : AV := .own (asN x) 3 fun i => lstG [vowCallS (asG x i 0), nI (asI (asG x i 1)), .B (asB (asG x i 2))]
abbrev P118 : List Bool := [true, true, true, false, true]
abbrev S118 (x : (List VCall)) (a i : Int) : St := hdS [(0, slCallS x), (1, nI a), (5, nI i)] [] []
abbrev P39 : List Bool := [true, true, true, false, true]
abbrev S39 (x : (List VCell)) (a i : Int) : St := hdS [(0, slCellS x), (1, nI a), (5, nI i)] [] []
abbrev P20 : List Bool := [true, true, true, false, true]
abbrev S20 (x : (List VClient)) (a i : Int) : St := hdS [(0, slClientS x), (1, nI a), (5, nI i)] [] []
abbrev P37 : List Bool := [true, true, true, false, true]
abbrev S37 (x : (List VEvent)) (a i : Int) : St := hdS [(0, slEventS x), (1, nI a), (5, nI i)] [] []
abbrev P38 : List Bool := [true, true, true, false, true]
abbrev S38 (x : (List VLatch)) (a i : Int) : St := hdS [(0, slLatchS x), (1, nI a), (5, nI i)] [] []
abbrev P41 : List Bool := [true, true, true, false, true]
abbrev S41 (x : (List VMerge)) (a i : Int) : St := hdS [(0, slMergeS x), (1, nI a), (5, nI i)] [] []
abbrev P245 : List Bool := [true, true, true, false, true]
abbrev S245 (x : (List VMsg)) (a i : Int) : St := hdS [(0, slMsgS x), (1, nI a), (5, nI i)] [] []
abbrev P36 : List Bool := [true, true, true, false, true]
abbrev S36 (x : (List VNotify)) (a i : Int) : St := hdS [(0, slNotifyS x), (1, nI a), (5, nI i)] [] []
abbrev P246 : List Bool := [true, true, true, false, true]
abbrev S246 (x : (List VSub)) (a i : Int) : St := hdS [(0, slSubS x), (1, nI a), (5, nI i)] [] []
abbrev P247 : List Bool := [true, true, true, false, true]
abbrev S247 (x : (List VTerm)) (a i : Int) : St := hdS [(0, slTermS x), (1, nI a), (5, nI i)] [] []
abbrev P40 : List Bool := [true, true, true, false, true]
abbrev S40 (x : (List VTopic)) (a i : Int) : St := hdS [(0, slTopicS x), (1, nI a), (5, nI i)] [] []
abbrev P42 : List Bool := [true, true, true, false, true]
abbrev S42 (x : (List VUser)) (a i : Int) : St := hdS [(0, slUserS x), (1, nI a), (5, nI i)] [] []
abbrev P130 : List Bool := [true, true, false, true]
abbrev S130 (x : (List Bool)) (os : (List Bool)) (i : Int) : St := hdS [(0, slBoolS x), (3, .rf 290816), (4, nI i)] [(290816, ⟨os.length, 1, goBoolS os⟩)] []
abbrev P139 : List Bool := [true, true, false, true]
abbrev S139 (x : (List VCall)) (os : (List VCall)) (i : Int) : St := hdS [(0, slCallS x), (3, .rf 290816), (4, nI i)] [(290816, ⟨os.length, 9, goCallS os⟩)] []
abbrev P57 : List Bool := [true, true, false, true]
abbrev S57 (x : (List VCell)) (os : (List VCell)) (i : Int) : St := hdS [(0, slCellS x), (3, .rf 290816), (4, nI i)] [(290816, ⟨os.length, 7, goCellS os⟩)] []
abbrev P26 : List Bool := [true, true, false, true]
abbrev S26 (x : (List VClient)) (os : (List VClient)) (i : Int) : St := hdS [(0, slClientS x), (3, .rf 290816), (4, nI i)] [(290816, ⟨os.length, 3, goClientS os⟩)] []
abbrev P55 : List Bool := [true, true, false, true]
abbrev S55 (x : (List VEvent)) (os : (List VEvent)) (i : Int) : St := hdS [(0, slEventS x), (3, .rf 290816), (4, nI i)] [(290816, ⟨os.length, 7, goEventS os⟩)] []
abbrev P205 : List Bool := [true, true, false, true]
abbrev S205 (x : (List VGrant)) (os : (List VGrant)) (i : Int) : St := hdS [(0, slGrantS x), (3, .rf 290816), (4, nI i)] [(290816, ⟨os.length, 2, goGrantS os⟩)] []
abbrev P209 : List Bool := [true, true, false, true]
abbrev S209 (x : (List VHit)) (os : (List VHit)) (i : Int) : St := hdS [(0, slHitS x), (3, .rf 290816), (4, nI i)] [(290816, ⟨os.length, 2, goHitS os⟩)] []
abbrev P129 : List Bool := [true, true, false, true]
abbrev S129 (x : (List Int)) (os : (List Int)) (i : Int) : St := hdS [(0, slIntS x), (3, .rf 290816), (4, nI i)] [(290816, ⟨os.length, 1, goIntS os⟩)] []
abbrev P56 : List Bool := [true, true, false, true]
abbrev S56 (x : (List VLatch)) (os : (List VLatch)) (i : Int) : St := hdS [(0, slLatchS x), (3, .rf 290816), (4, nI i)] [(290816, ⟨os.length, 3, goLatchS os⟩)] []
abbrev P208 : List Bool := [true, true, false, true]
abbrev S208 (x : (List VLeg)) (os : (List VLeg)) (i : Int) : St := hdS [(0, slLegS x), (3, .rf 290816), (4, nI i)] [(290816, ⟨os.length, 4, goLegS os⟩)] []
abbrev P59 : List Bool := [true, true, false, true]
abbrev S59 (x : (List VMerge)) (os : (List VMerge)) (i : Int) : St := hdS [(0, slMergeS x), (3, .rf 290816), (4, nI i)] [(290816, ⟨os.length, 3, goMergeS os⟩)] []
abbrev P249 : List Bool := [true, true, false, true]
abbrev S249 (x : (List VMsg)) (os : (List VMsg)) (i : Int) : St := hdS [(0, slMsgS x), (3, .rf 290816), (4, nI i)] [(290816, ⟨os.length, 3, goMsgS os⟩)] []
abbrev P54 : List Bool := [true, true, false, true]
abbrev S54 (x : (List VNotify)) (os : (List VNotify)) (i : Int) : St := hdS [(0, slNotifyS x), (3, .rf 290816), (4, nI i)] [(290816, ⟨os.length, 6, goNotifyS os⟩)] []
abbrev P250 : List Bool := [true, true, false, true]
abbrev S250 (x : (List VSub)) (os : (List VSub)) (i : Int) : St := hdS [(0, slSubS x), (3, .rf 290816), (4, nI i)] [(290816, ⟨os.length, 7, goSubS os⟩)] []
abbrev P253 : List Bool := [true, true, false, true]
abbrev S253 (x : (List VTerm)) (os : (List VTerm)) (i : Int) : St := hdS [(0, slTermS x), (3, .rf 290816), (4, nI i)] [(290816, ⟨os.length, 3, goTermS os⟩)] []
abbrev P131 : List Bool := [true, true, false, true]
abbrev S131 (x : (List VTimer)) (os : (List VTimer)) (i : Int) : St := hdS [(0, slTimerS x), (3, .rf 290816), (4, nI i)] [(290816, ⟨os.length, 2, goTimerS os⟩)] []
abbrev P58 : List Bool := [true, true, false, true]
abbrev S58 (x : (List VTopic)) (os : (List VTopic)) (i : Int) : St := hdS [(0, slTopicS x), (3, .rf 290816), (4, nI i)] [(290816, ⟨os.length, 9, goTopicS os⟩)] []
abbrev P60 : List Bool := [true, true, false, true]
abbrev S60 (x : (List VUser)) (os : (List VUser)) (i : Int) : St := hdS [(0, slUserS x), (3, .rf 290816), (4, nI i)] [(290816, ⟨os.length, 2, goUserS os⟩)] []
abbrev P167 : List Bool := [true, true, false, true]
abbrev S167 (x y : (List Bool)) (i : Int) : St := hdS [(0, slBoolS x), (1, slBoolS y), (5, nI i)] [] []
abbrev P176 : List Bool := [true, true, false, true]
abbrev S176 (x y : (List VCall)) (i : Int) : St := hdS [(0, slCallS x), (1, slCallS y), (5, nI i)] [] []
abbrev P93 : List Bool := [true, true, false, true]
abbrev S93 (x y : (List VCell)) (i : Int) : St := hdS [(0, slCellS x), (1, slCellS y), (5, nI i)] [] []
abbrev P31 : List Bool := [true, true, false, true]
abbrev S31 (x y : (List VClient)) (i : Int) : St := hdS [(0, slClientS x), (1, slClientS y), (5, nI i)] [] []
abbrev P91 : List Bool := [true, true, false, true]
abbrev S91 (x y : (List VEvent)) (i : Int) : St := hdS [(0, slEventS x), (1, slEventS y), (5, nI i)] [] []
abbrev P239 : List Bool := [true, true, false, true]
abbrev S239 (x y : (List VGrant)) (i : Int) : St := hdS [(0, slGrantS x), (1, slGrantS y), (5, nI i)] [] []
abbrev P243 : List Bool := [true, true, false, true]
abbrev S243 (x y : (List VHit)) (i : Int) : St := hdS [(0, slHitS x), (1, slHitS y), (5, nI i)] [] []
abbrev P13 : List Bool := [true, true, false, true]
abbrev S13 (x y : (List Int)) (i : Int) : St := hdS [(0, slIntS x), (1, slIntS y), (5, nI i)] [] []
abbrev P92 : List Bool := [true, true, false, true]
abbrev S92 (x y : (List VLatch)) (i : Int) : St := hdS [(0, slLatchS x), (1, slLatchS y), (5, nI i)] [] []
abbrev P242 : List Bool := [true, true, false, true]
abbrev S242 (x y : (List VLeg)) (i : Int) : St := hdS [(0, slLegS x), (1, slLegS y), (5, nI i)] [] []
abbrev P95 : List Bool := [true, true, false, true]
abbrev S95 (x y : (List VMerge)) (i : Int) : St := hdS [(0, slMergeS x), (1, slMergeS y), (5, nI i)] [] []
abbrev P265 : List Bool := [true, true, false, true]
abbrev S265 (x y : (List VMsg)) (i : Int) : St := hdS [(0, slMsgS x), (1, slMsgS y), (5, nI i)] [] []
abbrev P90 : List Bool := [true, true, false, true]
abbrev S90 (x y : (List VNotify)) (i : Int) : St := hdS [(0, slNotifyS x), (1, slNotifyS y), (5, nI i)] [] []
abbrev P266 : List Bool := [true, true, false, true]
abbrev S266 (x y : (List VSub)) (i : Int) : St := hdS [(0, slSubS x), (1, slSubS y), (5, nI i)] [] []
abbrev P269 : List Bool := [true, true, false, true]
abbrev S269 (x y : (List VTerm)) (i : Int) : St := hdS [(0, slTermS x), (1, slTermS y), (5, nI i)] [] []
abbrev P168 : List Bool := [true, true, false, true]
abbrev S168 (x y : (List VTimer)) (i : Int) : St := hdS [(0, slTimerS x), (1, slTimerS y), (5, nI i)] [] []
abbrev P94 : List Bool := [true, true, false, true]
abbrev S94 (x y : (List VTopic)) (i : Int) : St := hdS [(0, slTopicS x), (1, slTopicS y), (5, nI i)] [] []
abbrev P96 : List Bool := [true, true, false, true]
abbrev S96 (x y : (List VUser)) (i : Int) : St := hdS [(0, slUserS x), (1, slUserS y), (5, nI i)] [] []
abbrev P177 : List Bool := [true, false, true]
abbrev S177 (x : (List Bool)) (y : (List Bool)) (k i : Int) : St := hdS [(0, .rf 0), (1, nI k), (5, nI i)] [(0, ⟨y.length, 1, goBoolS y⟩)] []
abbrev P107 : List Bool := [true, false, true]
abbrev S107 (x : (List VCall)) (y : (List VCall)) (k i : Int) : St := hdS [(0, .rf 0), (1, nI k), (5, nI i)] [(0, ⟨y.length, 9, goCallS y⟩)] []
abbrev P103 : List Bool := [true, false, true]
abbrev S103 (x : (List VCell)) (y : (List VCell)) (k i : Int) : St := hdS [(0, .rf 0), (1, nI k), (5, nI i)] [(0, ⟨y.length, 7, goCellS y⟩)] []
abbrev P33 : List Bool := [true, false, true]
abbrev S33 (x : (List VClient)) (y : (List VClient)) (k i : Int) : St := hdS [(0, .rf 0), (1, nI k), (5, nI i)] [(0, ⟨y.length, 3, goClientS y⟩)] []
abbrev P101 : List Bool := [true, false, true]
abbrev S101 (x : (List VEvent)) (y : (List VEvent)) (k i : Int) : St := hdS [(0, .rf 0), (1, nI k), (5, nI i)] [(0, ⟨y.length, 7, goEventS y⟩)] []
abbrev P179 : List Bool := [true, false, true]
abbrev S179 (x : (List VGrant)) (y : (List VGrant)) (k i : Int) : St := hdS [(0, .rf 0), (1, nI k), (5, nI i)] [(0, ⟨y.length, 2, goGrantS y⟩)] []
abbrev P184 : List Bool := [true, false, true]
abbrev S184 (x : (List VHit)) (y : (List VHit)) (k i : Int) : St := hdS [(0, .rf 0), (1, nI k), (5, nI i)] [(0, ⟨y.length, 2, goHitS y⟩)] []
abbrev P15 : List Bool := [true, false, true]
abbrev S15 (x : (List Int)) (y : (List Int)) (k i : Int) : St := hdS [(0, .rf 0), (1, nI k), (5, nI i)] [(0, ⟨y.length, 1, goIntS y⟩)] []
abbrev P102 : List Bool := [true, false, true]
abbrev S102 (x : (List VLatch)) (y : (List VLatch)) (k i : Int) : St := hdS [(0, .rf 0), (1, nI k), (5, nI i)] [(0, ⟨y.length, 3, goLatchS y⟩)] []
abbrev P183 : List Bool := [true, false, true]
abbrev S183 (x : (List VLeg)) (y : (List VLeg)) (k i : Int) : St := hdS [(0, .rf 0), (1, nI k), (5, nI i)] [(0, ⟨y.length, 4, goLegS y⟩)] []
abbrev P105 : List Bool := [true, false, true]
abbrev S105 (x : (List VMerge)) (y : (List VMerge)) (k i : Int) : St := hdS [(0, .rf 0), (1, nI k), (5, nI i)] [(0, ⟨y.length, 3, goMergeS y⟩)] []
abbrev P181 : List Bool := [true, false, true]
abbrev S181 (x : (List VMsg)) (y : (List VMsg)) (k i : Int) : St := hdS [(0, .rf 0), (1, nI k), (5, nI i)] [(0, ⟨y.length, 3, goMsgS y⟩)] []
abbrev P100 : List Bool := [true, false, true]
abbrev S100 (x : (List VNotify)) (y : (List VNotify)) (k i : Int) : St := hdS [(0, .rf 0), (1, nI k), (5, nI i)] [(0, ⟨y.length, 6, goNotifyS y⟩)] []
abbrev P182 : List Bool := [true, false, true]
abbrev S182 (x : (List VSub)) (y : (List VSub)) (k i : Int) : St := hdS [(0, .rf 0), (1, nI k), (5, nI i)] [(0, ⟨y.length, 7, goSubS y⟩)] []
abbrev P185 : List Bool := [true, false, true]
abbrev S185 (x : (List VTerm)) (y : (List VTerm)) (k i : Int) : St := hdS [(0, .rf 0), (1, nI k), (5, nI i)] [(0, ⟨y.length, 3, goTermS y⟩)] []
abbrev P178 : List Bool := [true, false, true]
abbrev S178 (x : (List VTimer)) (y : (List VTimer)) (k i : Int) : St := hdS [(0, .rf 0), (1, nI k), (5, nI i)] [(0, ⟨y.length, 2, goTimerS y⟩)] []
abbrev P104 : List Bool := [true, false, true]
abbrev S104 (x : (List VTopic)) (y : (List VTopic)) (k i : Int) : St := hdS [(0, .rf 0), (1, nI k), (5, nI i)] [(0, ⟨y.length, 9, goTopicS y⟩)] []
abbrev P106 : List Bool := [true, false, true]
abbrev S106 (x : (List VUser)) (y : (List VUser)) (k i : Int) : St := hdS [(0, .rf 0), (1, nI k), (5, nI i)] [(0, ⟨y.length, 2, goUserS y⟩)] []
abbrev P16 : List Bool := [true, false, true]
abbrev S16 (x : (List Int)) (k i : Int) : St := hdS [(0, slIntS x), (1, nI k), (5, nI i)] [] []
abbrev P196 : List Bool := [true, false, true]
abbrev S196 (m : Nat) (xs : List Int) (a i : Int) : St := hdS [(0, .sl m 1 (gsIntS xs)), (1, nI a), (5, nI i)] [] []
abbrev P260 : List Bool := [true, false, true]
abbrev S260 (m : Nat) (xs : List Int) (a k i : Int) : St := hdS [(0, .sl m 1 (gsIntS xs)), (1, nI a), (7, nI k), (8, nI i)] [] []
abbrev P197 : List Bool := [true, true, false, true]
abbrev S197 (xs : List Int) (i : Int) : St := hdS [(0, slIntS xs), (3, nI i)] [] []
abbrev P225 : List Bool := [true, false, true]
abbrev S225 (xs : List Int) (m i : Int) : St := hdS [(0, slIntS xs), (5, slIntS xs), (6, nI m), (7, nI i)] [] []
abbrev P200 : List Bool := [true, true, false, true]
abbrev S200 (xs ys : List Int) (i : Int) : St := hdS [(0, slIntS xs), (1, slIntS ys), (5, nI i)] [] []
abbrev P259 : List Bool := [true, false, true]
abbrev S259 (m : Nat) (xs : List Int) (ys : List Int) (k i : Int) : St := hdS [(0, .sl m 1 (gsIntS xs)), (1, .clo 227 1 (lstG [.sp 1 (lstG [slIntS ys])])), (7, nI k), (8, nI i)] [] []
abbrev P254 : List Bool := [true, false, true]
abbrev S254 (m : Nat) (xs : List ByteArray)  (k i : Int) : St := hdS [(0, .sl m 1 (gsStrS xs)), (1, .clo 214 0 (lstG [])), (7, nI k), (8, nI i)] [] []
abbrev P216 : List Bool := [true, false, true]
abbrev S216 (m : Nat) (xs : List VTopic) (s : ByteArray) (k i : Int) : St := hdS [(0, .sl m 9 (gsTopicS xs)), (1, .clo 217 1 (lstG [.sp 1 (lstG [.S s])])), (7, nI k), (8, nI i)] [] []
abbrev P261 : List Bool := [true, false, true]
abbrev S261 (m : Nat) (xs : List VSub) (a : Int) (k i : Int) : St := hdS [(0, .sl m 7 (gsSubS xs)), (1, .clo 262 1 (lstG [.sp 1 (lstG [nI a])])), (7, nI k), (8, nI i)] [] []
abbrev P256 : List Bool := [true, false, true]
abbrev S256 (m : Nat) (xs : List VMsg)  (k i : Int) : St := hdS [(0, .sl m 3 (gsMsgS xs)), (1, .clo 220 0 (lstG [])), (7, nI k), (8, nI i)] [] []
abbrev P234 : List Bool := [true, false, true]
abbrev S234 (m : Nat) (xs : List VLeg) (g : VLeg) (k i : Int) : St := hdS [(0, .sl m 4 (gsLegS xs)), (1, .clo 160 1 (lstG [.sp 4 (lstG (clLeg g))])), (7, nI k), (8, nI i)] [] []
abbrev P164 : List Bool := [true, false, true]
abbrev S164 (m : Nat) (xs : List VCall)  (k i : Int) : St := hdS [(0, .sl m 9 (gsCallS xs)), (1, .clo 84 0 (lstG [])), (7, nI k), (8, nI i)] [] []
abbrev P163 : List Bool := [true, false, true]
abbrev S163 (m : Nat) (xs : List VClient)  (k i : Int) : St := hdS [(0, .sl m 3 (gsClientS xs)), (1, .clo 82 1 (lstG [.sp 1 (lstG [.clo 29 0 (lstG [])])])), (7, nI k), (8, nI i)] [] []
abbrev P211 : List Bool := [true, false, true]
abbrev S211 (m : Nat) (xs : List VHit) (h : VHub) (k i : Int) : St := hdS [(0, .sl m 2 (gsHitS xs)), (1, .clo 141 1 (lstG [.sp 1 (lstG [.clo 64 1 (lstG [.sp 11 (lstG (clHub h))])])])), (7, nI k), (8, nI i)] [] []
abbrev P223 : List Bool := [true, false, true]
abbrev S223 (m : Nat) (xs : List VNotify)  (k i : Int) : St := hdS [(0, .sl m 6 (gsNotifyS xs)), (1, .clo 146 1 (lstG [.sp 1 (lstG [.clo 70 0 (lstG [])])])), (7, nI k), (8, nI i)] [] []
abbrev P229 : List Bool := [true, false, true]
abbrev S229 (m : Nat) (xs : List VEvent)  (k i : Int) : St := hdS [(0, .sl m 7 (gsEventS xs)), (1, .clo 150 1 (lstG [.sp 1 (lstG [.clo 72 0 (lstG [])])])), (7, nI k), (8, nI i)] [] []
abbrev P230 : List Bool := [true, false, true]
abbrev S230 (m : Nat) (xs : List VLatch)  (k i : Int) : St := hdS [(0, .sl m 3 (gsLatchS xs)), (1, .clo 152 1 (lstG [.sp 1 (lstG [.clo 74 0 (lstG [])])])), (7, nI k), (8, nI i)] [] []
abbrev P231 : List Bool := [true, false, true]
abbrev S231 (m : Nat) (xs : List VCell)  (k i : Int) : St := hdS [(0, .sl m 7 (gsCellS xs)), (1, .clo 154 1 (lstG [.sp 1 (lstG [.clo 76 0 (lstG [])])])), (7, nI k), (8, nI i)] [] []
abbrev P232 : List Bool := [true, false, true]
abbrev S232 (m : Nat) (xs : List VMerge) (h : VHub) (k i : Int) : St := hdS [(0, .sl m 3 (gsMergeS xs)), (1, .clo 157 1 (lstG [.sp 1 (lstG [.clo 78 1 (lstG [.sp 11 (lstG (clHub h))])])])), (7, nI k), (8, nI i)] [] []
abbrev P235 : List Bool := [true, false, true]
abbrev S235 (m : Nat) (xs : List VUser) (h : VHub) (k i : Int) : St := hdS [(0, .sl m 2 (gsUserS xs)), (1, .clo 162 1 (lstG [.sp 1 (lstG [.clo 62 1 (lstG [.sp 11 (lstG (clHub h))])])])), (7, nI k), (8, nI i)] [] []
abbrev P199 : List Bool := [true, false, true]
abbrev S199 (gs : List VGrant) (a i : Int) : St := hdS [(0, slGrantS gs), (1, nI a), (5, nI i)] [] []
abbrev P121 : List Bool := [true, true, true, true, true, false, true]
abbrev S121 (x : VNotify) (s i : Int) : St := hdS [(1, .pb 65 0), (3, nI s), (4, nI i)] [] [(65, 6, (clNotify x))]
abbrev P70 : List Bool := [true, true, true, false, true]
abbrev S70 (x : VNotify) (os : List Int) (gs : List VGrant) (s m i : Int) : St := hdS [(1, .pb 65 0), (3, .rf 360448), (4, nI s), (14, slGrantS gs), (15, nI m), (16, nI i)] [(360448, ⟨os.length, 1, gsIntS os⟩)] [(65, 6, (clNotify x))]
abbrev P44 : List Bool := [true, true, false, true]
abbrev S44 (x : VTokens) (i : Int) : St := hdS [(1, .pb 65 0), (3, nI i)] [] [(65, 2, (clTokens x))]
abbrev P66 : List Bool := [true, true, false, true]
abbrev S66 (x : VTokens) (xs : List Int) (m i : Int) : St := hdS [(1, .pb 65 0), (19, slIntS xs), (20, nI m), (21, nI i)] [] [(65, 2, (clTokens x))]
abbrev P45 : List Bool := [true, true, false, true]
abbrev S45 (x : VClock) (i : Int) : St := hdS [(1, .pb 65 0), (3, nI i)] [] [(65, 2, (clClock x))]
abbrev P67 : List Bool := [true, false, true]
abbrev S67 (x : VClock) (xs : List VTimer) (m i : Int) : St := hdS [(1, .pb 65 0), (6, slTimerS xs), (7, nI m), (8, nI i)] [] [(65, 2, (clClock x))]
abbrev P46a : List Bool := [true, true, false, true]
abbrev S46a (xs : List VTopic) (i : Int) : St := hdS [(0, slTopicS xs), (3, nI i)] [] []
abbrev P46b : List Bool := [true, true, false, true, true, true, false, true, true]
abbrev S46b (xs : List VTopic) (i k : Int) : St := hdS [(0, slTopicS xs), (3, nI i), (4, nI k)] [] []
abbrev P68 : List Bool := [true, false, true]
abbrev S68 (xs ys : List VTopic) (m i : Int) : St := hdS [(0, slTopicS xs), (5, slTopicS ys), (6, nI m), (7, nI i)] [] []
abbrev P48 : List Bool := [true, true, false, true]
abbrev S48 (xs : List VTopic) (x : VMerge) (i : Int) : St := hdS [(0, slTopicS xs), (3, .pb 67 0), (5, nI i)] [] [(67, 3, (clMerge x))]
abbrev P79 : List Bool := [true, true, false, true]
abbrev S79 (xs : List VTopic) (x : VMerge) (gs : List VLeg) (m i : Int) : St := hdS [(0, slTopicS xs), (3, .pb 67 0), (26, slLegS gs), (27, nI m), (28, nI i)] [] [(67, 3, (clMerge x))]
abbrev P125 : List Bool := [true, true, true, false, true]
abbrev S125 (xs : List VTopic) (x : VMerge) (g : VLeg) (n i : Int) : St := hdS [(0, slTopicS xs), (2, nI n), (4, .pb 68 0), (7, .pb 71 0), (8, nI i)] [] [(68, 3, (clMerge x)), (71, 4, (clLeg g))]
abbrev P195 : List Bool := [true, false, true]
abbrev S195 (x : VRing) (a i : Int) : St := hdS [(1, nI a), (2, .pb 66 0), (5, nI i)] [] [(66, 8, (clRing x))]
abbrev P193 : List Bool := [true, true, false, true]
abbrev S193 (x : VRing) (l i : Int) : St := hdS [(1, .pb 65 0), (3, nI l), (4, nI i)] [] [(65, 8, (clRing x))]
abbrev P221 : List Bool := [true, true, false, true]
abbrev S221 (x : VRing) (ys : List VSub) (l m i : Int) : St := hdS [(1, .pb 65 0), (3, nI l), (9, slSubS ys), (10, nI m), (11, nI i)] [] [(65, 8, (clRing x))]
abbrev P120a : List Bool := [true, true, false, true]
abbrev S120a (x : VRing) (i : Int) : St := hdS [(1, .pb 65 0), (3, nI i)] [] [(65, 8, (clRing x))]
abbrev P120b : List Bool := [true, true, true, true, false, true]
abbrev S120b (x : VRing) (i : Int) : St := hdS [(1, .pb 65 0), (4, nI i)] [] [(65, 8, (clRing x))]
abbrev P120c : List Bool := [true, true, true, true, true, true, false, true]
abbrev S120c (x : VRing) (os : List Int) (i : Int) : St := hdS [(1, .pb 65 0), (5, .rf 749568), (6, nI i)] [(749568, ⟨os.length, 1, gsIntS os⟩)] [(65, 8, (clRing x))]
abbrev P144 : List Bool := [true, true, false, true]
abbrev S144 (x : VRing) (ys : List VSub) (m i : Int) : St := hdS [(1, .pb 65 0), (28, slSubS ys), (29, nI m), (30, nI i)] [] [(65, 8, (clRing x))]
abbrev P222 : List Bool := [true, true, false, true]
abbrev S222 (x : VRing) (os : List Int) (m i : Int) : St := hdS [(1, .pb 65 0), (3, .rf 311296), (13, .rf 311296), (14, nI m), (15, nI i)] [(311296, ⟨os.length, 1, gsIntS os⟩)] [(65, 8, (clRing x))]
abbrev P257a0 : List Bool := [true, true, false, true]
abbrev S257a0 (xs ys : List Int) (s : Int) : St := hdS [(0, .sl 2 1 (fun i => lstG [(mrg (decide (i = 0)) (slIntS xs) (mrg (decide (i - 1 = 0)) (slIntS ys) (.own 0 1 fun x => lstG [nI 0]))).sh])), (3, nI s), (9, .sl 2 1 (fun i => lstG [(mrg (decide (i = 0)) (slIntS xs) (mrg (decide (i - 1 = 0)) (slIntS ys) (.own 0 1 fun x => lstG [nI 0]))).sh])), (10, nI 2), (11, nI 0)] [] []
abbrev P257a1 : List Bool := [true, true, false, true]
abbrev S257a1 (xs ys : List Int) (s : Int) : St := hdS [(0, .sl 2 1 (fun i => lstG [(mrg (decide (i = 0)) (slIntS xs) (mrg (decide (i - 1 = 0)) (slIntS ys) (.own 0 1 fun x => lstG [nI 0]))).sh])), (3, nI s), (9, .sl 2 1 (fun i => lstG [(mrg (decide (i = 0)) (slIntS xs) (mrg (decide (i - 1 = 0)) (slIntS ys) (.own 0 1 fun x => lstG [nI 0]))).sh])), (10, nI 2), (11, nI 1)] [] []
abbrev P257a2 : List Bool := [true, true, false, true]
abbrev S257a2 (xs ys : List Int) (s : Int) : St := hdS [(0, .sl 2 1 (fun i => lstG [(mrg (decide (i = 0)) (slIntS xs) (mrg (decide (i - 1 = 0)) (slIntS ys) (.own 0 1 fun x => lstG [nI 0]))).sh])), (3, nI s), (9, .sl 2 1 (fun i => lstG [(mrg (decide (i = 0)) (slIntS xs) (mrg (decide (i - 1 = 0)) (slIntS ys) (.own 0 1 fun x => lstG [nI 0]))).sh])), (10, nI 2), (11, nI 2)] [] []
abbrev P257b0 : List Bool := [true, true, true, true, false, true]
abbrev S257b0 (xs ys os : List Int) : St := hdS [(6, .rf 397312), (25, .sl 2 1 (fun i => lstG [(mrg (decide (i = 0)) (slIntS xs) (mrg (decide (i - 1 = 0)) (slIntS ys) (.own 0 1 fun x => lstG [nI 0]))).sh])), (26, nI 2), (27, nI 0)] [(397312, ⟨os.length, 1, gsIntS os⟩)] []
abbrev P257b1 : List Bool := [true, true, true, true, false, true]
abbrev S257b1 (xs ys os : List Int) : St := hdS [(6, .rf 397312), (25, .sl 2 1 (fun i => lstG [(mrg (decide (i = 0)) (slIntS xs) (mrg (decide (i - 1 = 0)) (slIntS ys) (.own 0 1 fun x => lstG [nI 0]))).sh])), (26, nI 2), (27, nI 1)] [(397312, ⟨os.length, 1, gsIntS os⟩)] []
abbrev P257b2 : List Bool := [true, true, true, true, false, true]
abbrev S257b2 (xs ys os : List Int) : St := hdS [(6, .rf 397312), (25, .sl 2 1 (fun i => lstG [(mrg (decide (i = 0)) (slIntS xs) (mrg (decide (i - 1 = 0)) (slIntS ys) (.own 0 1 fun x => lstG [nI 0]))).sh])), (26, nI 2), (27, nI 2)] [(397312, ⟨os.length, 1, gsIntS os⟩)] []
abbrev P47a : List Bool := [true, true, false, true]
abbrev S47a (x : VHub) (i : Int) : St := hdS [(1, .pb 65 0), (3, nI i)] [] [(65, 11, (clHub x))]
abbrev P47b : List Bool := [true, true, true, false, true]
abbrev S47b (x : VHub) (i : Int) : St := hdS [(1, .pb 65 0), (4, nI i)] [] [(65, 11, (clHub x))]
abbrev P47c : List Bool := [true, true, true, true, false, true]
abbrev S47c (x : VHub) (i : Int) : St := hdS [(1, .pb 65 0), (5, nI i)] [] [(65, 11, (clHub x))]
abbrev P47d : List Bool := [true, true, true, true, true, false, true]
abbrev S47d (x : VHub) (i : Int) : St := hdS [(1, .pb 65 0), (6, nI i)] [] [(65, 11, (clHub x))]
abbrev P21a : List Bool := [true, true, false, true]
abbrev S21a (x : VHub) (i : Int) : St := hdS [(1, .pb 65 0), (3, nI i)] [] [(65, 11, (clHub x))]
abbrev P21b : List Bool := [true, true, true, false, true]
abbrev S21b (x : VHub) (i : Int) : St := hdS [(1, .pb 65 0), (4, nI i)] [] [(65, 11, (clHub x))]
abbrev P21c : List Bool := [true, true, true, false, true, true, true, false, true, true, true]
abbrev S21c (x : VHub) (u : VUser) (i k : Int) : St := hdS [(1, .pb 65 0), (4, nI i), (5, .pb 69 0), (6, nI k)] [] [(65, 11, (clHub x)), (69, 2, (clUser u))]
abbrev P7a : List Bool := [true, true, false, true]
abbrev S7a (x : VState) (i : Int) : St := hdS [(1, .pb 65 0), (3, nI i)] [] [(65, 12, (clState x))]
abbrev P7b : List Bool := [true, true, false, true, true, true, false, true, true, false, true]
abbrev S7b (x : VState) (c : VClient) (i k : Int) : St := hdS [(1, .pb 65 0), (3, nI i), (4, .pb 68 0), (5, nI k)] [] [(65, 12, (clState x)), (68, 3, (clClient c))]
abbrev P17 : List Bool := [true, true, true, false, true]
abbrev S17 (x : VState) (os : List Int) (i : Int) : St := hdS [(1, .pb 65 0), (3, .rf 368640), (4, nI i)] [(368640, ⟨os.length, 1, gsIntS os⟩)] [(65, 12, (clState x))]
abbrev P18 : List Bool := [true, true, true, false, true]
abbrev S18 (ys : List VClient) (os : List Int) (m i : Int) : St := hdS [(3, .rf 360448), (12, slClientS ys), (13, nI m), (14, nI i)] [(360448, ⟨os.length, 1, gsIntS os⟩)] []
end Go.Fw
