/- The program's values by type, and the settings of the framework's evaluation. -/
import Derived.Test.YtonhlheceebflaaGreatProg
import Derived.Test.YtonhlheceebflaaGreatFyB
import Derived.KernelRfl
set_option linter.unusedVariables false
set_option maxRecDepth 100000
namespace Go.Fw
open Go.Proofs
abbrev gsIntS (xs : List Int) : Nat → Nat → AV := gI xs
abbrev goIntS (xs : List Int) : Nat → Nat → AV := gI xs
abbrev slIntS (xs : List Int) : AV := .sl xs.length 1 (gsIntS xs)
abbrev owIntS (xs : List Int) : AV := .own xs.length 1 (goIntS xs)
def gsBoolS (xs : List Bool) : Nat → Nat → AV := fun i => lstG [.B (xs.getD i false)]
abbrev goBoolS (xs : List Bool) : Nat → Nat → AV := gsBoolS xs
abbrev slBoolS (xs : List Bool) : AV := .sl xs.length 1 (gsBoolS xs)
abbrev owBoolS (xs : List Bool) : AV := .own xs.length 1 (goBoolS xs)
structure VTokens where
  Parents : (List Int)
  Off : (List Bool)
abbrev zTokens : VTokens := ⟨[], []⟩
abbrev clTokens (x : VTokens) : List AV := [slIntS x.Parents, slBoolS x.Off]
abbrev coTokens (x : VTokens) : List AV := [owIntS x.Parents, owBoolS x.Off]
abbrev slTokens (x : VTokens) : AV := .ag 2 (lstG (clTokens x))
abbrev owTokens (x : VTokens) : AV := .ag 2 (lstG (coTokens x))
structure VTimer where
  At : Int
  Token : Int
abbrev zTimer : VTimer := ⟨0, 0⟩
abbrev clTimer (x : VTimer) : List AV := [nI x.At, nI x.Token]
abbrev coTimer (x : VTimer) : List AV := clTimer x
abbrev slTimer (x : VTimer) : AV := .ag 2 (lstG (clTimer x))
abbrev owTimer (x : VTimer) : AV := .ag 2 (lstG (coTimer x))
def gsTimerS (xs : List VTimer) : Nat → Nat → AV := fun i => lstG (clTimer (xs.getD i zTimer))
abbrev goTimerS (xs : List VTimer) : Nat → Nat → AV := gsTimerS xs
abbrev slTimerS (xs : List VTimer) : AV := .sl xs.length 2 (gsTimerS xs)
abbrev owTimerS (xs : List VTimer) : AV := .own xs.length 2 (goTimerS xs)
structure VClock where
  Now : Int
  Timers : (List VTimer)
abbrev zClock : VClock := ⟨0, []⟩
abbrev clClock (x : VClock) : List AV := [nI x.Now, slTimerS x.Timers]
abbrev coClock (x : VClock) : List AV := [nI x.Now, owTimerS x.Timers]
abbrev slClock (x : VClock) : AV := .ag 2 (lstG (clClock x))
abbrev owClock (x : VClock) : AV := .ag 2 (lstG (coClock x))
structure VGrant where
  Who : Int
  One : Bool
abbrev zGrant : VGrant := ⟨0, false⟩
abbrev clGrant (x : VGrant) : List AV := [nI x.Who, .B x.One]
abbrev coGrant (x : VGrant) : List AV := clGrant x
abbrev slGrant (x : VGrant) : AV := .ag 2 (lstG (clGrant x))
abbrev owGrant (x : VGrant) : AV := .ag 2 (lstG (coGrant x))
def gsGrantS (xs : List VGrant) : Nat → Nat → AV := fun i => lstG (clGrant (xs.getD i zGrant))
abbrev goGrantS (xs : List VGrant) : Nat → Nat → AV := gsGrantS xs
abbrev slGrantS (xs : List VGrant) : AV := .sl xs.length 2 (gsGrantS xs)
abbrev owGrantS (xs : List VGrant) : AV := .own xs.length 2 (goGrantS xs)
structure VNotify where
  Permit : Bool
  Line : (List Int)
  Grants : (List VGrant)
  Ones : Int
  Spilt : Int
  Taken : Int
abbrev zNotify : VNotify := ⟨false, [], [], 0, 0, 0⟩
abbrev clNotify (x : VNotify) : List AV := [.B x.Permit, slIntS x.Line, slGrantS x.Grants, nI x.Ones, nI x.Spilt, nI x.Taken]
abbrev coNotify (x : VNotify) : List AV := [.B x.Permit, owIntS x.Line, owGrantS x.Grants, nI x.Ones, nI x.Spilt, nI x.Taken]
abbrev slNotify (x : VNotify) : AV := .ag 6 (lstG (clNotify x))
abbrev owNotify (x : VNotify) : AV := .ag 6 (lstG (coNotify x))
def gsNotifyS (xs : List VNotify) : Nat → Nat → AV := fun i => lstG (clNotify (xs.getD i zNotify))
def goNotifyS (xs : List VNotify) : Nat → Nat → AV := fun i => lstG (coNotify (xs.getD i zNotify))
abbrev slNotifyS (xs : List VNotify) : AV := .sl xs.length 6 (gsNotifyS xs)
abbrev owNotifyS (xs : List VNotify) : AV := .own xs.length 6 (goNotifyS xs)
structure VEvent where
  Auto : Bool
  Up : Bool
  Line : (List Int)
  Grants : (List Int)
  Sets : Int
  Spilt : Int
  Taken : Int
abbrev zEvent : VEvent := ⟨false, false, [], [], 0, 0, 0⟩
abbrev clEvent (x : VEvent) : List AV := [.B x.Auto, .B x.Up, slIntS x.Line, slIntS x.Grants, nI x.Sets, nI x.Spilt, nI x.Taken]
abbrev coEvent (x : VEvent) : List AV := [.B x.Auto, .B x.Up, owIntS x.Line, owIntS x.Grants, nI x.Sets, nI x.Spilt, nI x.Taken]
abbrev slEvent (x : VEvent) : AV := .ag 7 (lstG (clEvent x))
abbrev owEvent (x : VEvent) : AV := .ag 7 (lstG (coEvent x))
def gsEventS (xs : List VEvent) : Nat → Nat → AV := fun i => lstG (clEvent (xs.getD i zEvent))
def goEventS (xs : List VEvent) : Nat → Nat → AV := fun i => lstG (coEvent (xs.getD i zEvent))
abbrev slEventS (xs : List VEvent) : AV := .sl xs.length 7 (gsEventS xs)
abbrev owEventS (xs : List VEvent) : AV := .own xs.length 7 (goEventS xs)
structure VLatch where
  Count : Int
  Line : (List Int)
  Grants : (List Int)
abbrev zLatch : VLatch := ⟨0, [], []⟩
abbrev clLatch (x : VLatch) : List AV := [nI x.Count, slIntS x.Line, slIntS x.Grants]
abbrev coLatch (x : VLatch) : List AV := [nI x.Count, owIntS x.Line, owIntS x.Grants]
abbrev slLatch (x : VLatch) : AV := .ag 3 (lstG (clLatch x))
abbrev owLatch (x : VLatch) : AV := .ag 3 (lstG (coLatch x))
def gsLatchS (xs : List VLatch) : Nat → Nat → AV := fun i => lstG (clLatch (xs.getD i zLatch))
def goLatchS (xs : List VLatch) : Nat → Nat → AV := fun i => lstG (coLatch (xs.getD i zLatch))
abbrev slLatchS (xs : List VLatch) : AV := .sl xs.length 3 (gsLatchS xs)
abbrev owLatchS (xs : List VLatch) : AV := .own xs.length 3 (goLatchS xs)
structure VMsg where
  Kind : Int
  Num : Int
  Text : ByteArray
abbrev zMsg : VMsg := ⟨0, 0, ByteArray.empty⟩
abbrev clMsg (x : VMsg) : List AV := [nI x.Kind, nI x.Num, .S x.Text]
abbrev coMsg (x : VMsg) : List AV := clMsg x
abbrev slMsg (x : VMsg) : AV := .ag 3 (lstG (clMsg x))
abbrev owMsg (x : VMsg) : AV := .ag 3 (lstG (coMsg x))
def gsMsgS (xs : List VMsg) : Nat → Nat → AV := fun i => lstG (clMsg (xs.getD i zMsg))
abbrev goMsgS (xs : List VMsg) : Nat → Nat → AV := gsMsgS xs
abbrev slMsgS (xs : List VMsg) : AV := .sl xs.length 3 (gsMsgS xs)
abbrev owMsgS (xs : List VMsg) : AV := .own xs.length 3 (goMsgS xs)
structure VCell where
  Val : VMsg
  Version : Int
  Closed : Bool
  Line : (List Int)
  Grants : (List Int)
abbrev zCell : VCell := ⟨zMsg, 0, false, [], []⟩
abbrev clCell (x : VCell) : List AV := [nI x.Val.Kind, nI x.Val.Num, .S x.Val.Text, nI x.Version, .B x.Closed, slIntS x.Line, slIntS x.Grants]
abbrev coCell (x : VCell) : List AV := [nI x.Val.Kind, nI x.Val.Num, .S x.Val.Text, nI x.Version, .B x.Closed, owIntS x.Line, owIntS x.Grants]
abbrev slCell (x : VCell) : AV := .ag 7 (lstG (clCell x))
abbrev owCell (x : VCell) : AV := .ag 7 (lstG (coCell x))
def gsCellS (xs : List VCell) : Nat → Nat → AV := fun i => lstG (clCell (xs.getD i zCell))
def goCellS (xs : List VCell) : Nat → Nat → AV := fun i => lstG (coCell (xs.getD i zCell))
abbrev slCellS (xs : List VCell) : AV := .sl xs.length 7 (gsCellS xs)
abbrev owCellS (xs : List VCell) : AV := .own xs.length 7 (goCellS xs)
structure VTerm where
  Op : Int
  Num : Int
  Text : ByteArray
abbrev zTerm : VTerm := ⟨0, 0, ByteArray.empty⟩
abbrev clTerm (x : VTerm) : List AV := [nI x.Op, nI x.Num, .S x.Text]
abbrev coTerm (x : VTerm) : List AV := clTerm x
abbrev slTerm (x : VTerm) : AV := .ag 3 (lstG (clTerm x))
abbrev owTerm (x : VTerm) : AV := .ag 3 (lstG (coTerm x))
def gsTermS (xs : List VTerm) : Nat → Nat → AV := fun i => lstG (clTerm (xs.getD i zTerm))
abbrev goTermS (xs : List VTerm) : Nat → Nat → AV := gsTermS xs
abbrev slTermS (xs : List VTerm) : AV := .sl xs.length 3 (gsTermS xs)
abbrev owTermS (xs : List VTerm) : AV := .own xs.length 3 (goTermS xs)
structure VSub where
  Id : Int
  Start : Int
  Cursor : Int
  Got : Int
  Lost : Int
  Passed : Int
  Filter : (List VTerm)
abbrev zSub : VSub := ⟨0, 0, 0, 0, 0, 0, []⟩
abbrev clSub (x : VSub) : List AV := [nI x.Id, nI x.Start, nI x.Cursor, nI x.Got, nI x.Lost, nI x.Passed, slTermS x.Filter]
abbrev coSub (x : VSub) : List AV := [nI x.Id, nI x.Start, nI x.Cursor, nI x.Got, nI x.Lost, nI x.Passed, owTermS x.Filter]
abbrev slSub (x : VSub) : AV := .ag 7 (lstG (clSub x))
abbrev owSub (x : VSub) : AV := .ag 7 (lstG (coSub x))
def gsSubS (xs : List VSub) : Nat → Nat → AV := fun i => lstG (clSub (xs.getD i zSub))
def goSubS (xs : List VSub) : Nat → Nat → AV := fun i => lstG (coSub (xs.getD i zSub))
abbrev slSubS (xs : List VSub) : AV := .sl xs.length 7 (gsSubS xs)
abbrev owSubS (xs : List VSub) : AV := .own xs.length 7 (goSubS xs)
structure VRing where
  Cap : Int
  Sent : Int
  Items : (List VMsg)
  Next : Int
  Subs : (List VSub)
  Line : (List Int)
  Grants : (List Int)
  Closed : Bool
abbrev zRing : VRing := ⟨0, 0, [], 0, [], [], [], false⟩
abbrev clRing (x : VRing) : List AV := [nI x.Cap, nI x.Sent, slMsgS x.Items, nI x.Next, slSubS x.Subs, slIntS x.Line, slIntS x.Grants, .B x.Closed]
abbrev coRing (x : VRing) : List AV := [nI x.Cap, nI x.Sent, owMsgS x.Items, nI x.Next, owSubS x.Subs, owIntS x.Line, owIntS x.Grants, .B x.Closed]
abbrev slRing (x : VRing) : AV := .ag 8 (lstG (clRing x))
abbrev owRing (x : VRing) : AV := .ag 8 (lstG (coRing x))
structure VTopic where
  Name : ByteArray
  Ring : VRing
abbrev zTopic : VTopic := ⟨ByteArray.empty, zRing⟩
abbrev clTopic (x : VTopic) : List AV := [.S x.Name, nI x.Ring.Cap, nI x.Ring.Sent, slMsgS x.Ring.Items, nI x.Ring.Next, slSubS x.Ring.Subs, slIntS x.Ring.Line, slIntS x.Ring.Grants, .B x.Ring.Closed]
abbrev coTopic (x : VTopic) : List AV := [.S x.Name, nI x.Ring.Cap, nI x.Ring.Sent, owMsgS x.Ring.Items, nI x.Ring.Next, owSubS x.Ring.Subs, owIntS x.Ring.Line, owIntS x.Ring.Grants, .B x.Ring.Closed]
abbrev slTopic (x : VTopic) : AV := .ag 9 (lstG (clTopic x))
abbrev owTopic (x : VTopic) : AV := .ag 9 (lstG (coTopic x))
def gsTopicS (xs : List VTopic) : Nat → Nat → AV := fun i => lstG (clTopic (xs.getD i zTopic))
def goTopicS (xs : List VTopic) : Nat → Nat → AV := fun i => lstG (coTopic (xs.getD i zTopic))
abbrev slTopicS (xs : List VTopic) : AV := .sl xs.length 9 (gsTopicS xs)
abbrev owTopicS (xs : List VTopic) : AV := .own xs.length 9 (goTopicS xs)
structure VLeg where
  Topic : Int
  Id : Int
  Lost : Int
  Over : Bool
abbrev zLeg : VLeg := ⟨0, 0, 0, false⟩
abbrev clLeg (x : VLeg) : List AV := [nI x.Topic, nI x.Id, nI x.Lost, .B x.Over]
abbrev coLeg (x : VLeg) : List AV := clLeg x
abbrev slLeg (x : VLeg) : AV := .ag 4 (lstG (clLeg x))
abbrev owLeg (x : VLeg) : AV := .ag 4 (lstG (coLeg x))
def gsLegS (xs : List VLeg) : Nat → Nat → AV := fun i => lstG (clLeg (xs.getD i zLeg))
abbrev goLegS (xs : List VLeg) : Nat → Nat → AV := gsLegS xs
abbrev slLegS (xs : List VLeg) : AV := .sl xs.length 4 (gsLegS xs)
abbrev owLegS (xs : List VLeg) : AV := .own xs.length 4 (goLegS xs)
structure VMerge where
  Legs : (List VLeg)
  Into : Int
  Moved : Int
abbrev zMerge : VMerge := ⟨[], 0, 0⟩
abbrev clMerge (x : VMerge) : List AV := [slLegS x.Legs, nI x.Into, nI x.Moved]
abbrev coMerge (x : VMerge) : List AV := [owLegS x.Legs, nI x.Into, nI x.Moved]
abbrev slMerge (x : VMerge) : AV := .ag 3 (lstG (clMerge x))
abbrev owMerge (x : VMerge) : AV := .ag 3 (lstG (coMerge x))
def gsMergeS (xs : List VMerge) : Nat → Nat → AV := fun i => lstG (clMerge (xs.getD i zMerge))
def goMergeS (xs : List VMerge) : Nat → Nat → AV := fun i => lstG (coMerge (xs.getD i zMerge))
abbrev slMergeS (xs : List VMerge) : AV := .sl xs.length 3 (gsMergeS xs)
abbrev owMergeS (xs : List VMerge) : AV := .own xs.length 3 (goMergeS xs)
structure VHit where
  Topic : Int
  Id : Int
abbrev zHit : VHit := ⟨0, 0⟩
abbrev clHit (x : VHit) : List AV := [nI x.Topic, nI x.Id]
abbrev coHit (x : VHit) : List AV := clHit x
abbrev slHit (x : VHit) : AV := .ag 2 (lstG (clHit x))
abbrev owHit (x : VHit) : AV := .ag 2 (lstG (coHit x))
def gsHitS (xs : List VHit) : Nat → Nat → AV := fun i => lstG (clHit (xs.getD i zHit))
abbrev goHitS (xs : List VHit) : Nat → Nat → AV := gsHitS xs
abbrev slHitS (xs : List VHit) : AV := .sl xs.length 2 (gsHitS xs)
abbrev owHitS (xs : List VHit) : AV := .own xs.length 2 (goHitS xs)
structure VUser where
  Subs : (List VHit)
  Seen : (List Int)
abbrev zUser : VUser := ⟨[], []⟩
abbrev clUser (x : VUser) : List AV := [slHitS x.Subs, slIntS x.Seen]
abbrev coUser (x : VUser) : List AV := [owHitS x.Subs, owIntS x.Seen]
abbrev slUser (x : VUser) : AV := .ag 2 (lstG (clUser x))
abbrev owUser (x : VUser) : AV := .ag 2 (lstG (coUser x))
def gsUserS (xs : List VUser) : Nat → Nat → AV := fun i => lstG (clUser (xs.getD i zUser))
def goUserS (xs : List VUser) : Nat → Nat → AV := fun i => lstG (coUser (xs.getD i zUser))
abbrev slUserS (xs : List VUser) : AV := .sl xs.length 2 (gsUserS xs)
abbrev owUserS (xs : List VUser) : AV := .own xs.length 2 (goUserS xs)
structure VHub where
  Tokens : VTokens
  Clock : VClock
  Notes : (List VNotify)
  Events : (List VEvent)
  Latches : (List VLatch)
  Cells : (List VCell)
  Topics : (List VTopic)
  Merges : (List VMerge)
  Users : (List VUser)
abbrev zHub : VHub := ⟨zTokens, zClock, [], [], [], [], [], [], []⟩
abbrev clHub (x : VHub) : List AV := [slIntS x.Tokens.Parents, slBoolS x.Tokens.Off, nI x.Clock.Now, slTimerS x.Clock.Timers, slNotifyS x.Notes, slEventS x.Events, slLatchS x.Latches, slCellS x.Cells, slTopicS x.Topics, slMergeS x.Merges, slUserS x.Users]
abbrev coHub (x : VHub) : List AV := [owIntS x.Tokens.Parents, owBoolS x.Tokens.Off, nI x.Clock.Now, owTimerS x.Clock.Timers, owNotifyS x.Notes, owEventS x.Events, owLatchS x.Latches, owCellS x.Cells, owTopicS x.Topics, owMergeS x.Merges, owUserS x.Users]
abbrev slHub (x : VHub) : AV := .ag 11 (lstG (clHub x))
abbrev owHub (x : VHub) : AV := .ag 11 (lstG (coHub x))
structure VCall where
  Op : Int
  A : Int
  B : Int
  Tok : Int
  Name : ByteArray
  Msg : VMsg
  Filter : (List VTerm)
abbrev zCall : VCall := ⟨0, 0, 0, 0, ByteArray.empty, zMsg, []⟩
abbrev clCall (x : VCall) : List AV := [nI x.Op, nI x.A, nI x.B, nI x.Tok, .S x.Name, nI x.Msg.Kind, nI x.Msg.Num, .S x.Msg.Text, slTermS x.Filter]
abbrev coCall (x : VCall) : List AV := [nI x.Op, nI x.A, nI x.B, nI x.Tok, .S x.Name, nI x.Msg.Kind, nI x.Msg.Num, .S x.Msg.Text, owTermS x.Filter]
abbrev slCall (x : VCall) : AV := .ag 9 (lstG (clCall x))
abbrev owCall (x : VCall) : AV := .ag 9 (lstG (coCall x))
def gsCallS (xs : List VCall) : Nat → Nat → AV := fun i => lstG (clCall (xs.getD i zCall))
def goCallS (xs : List VCall) : Nat → Nat → AV := fun i => lstG (coCall (xs.getD i zCall))
abbrev slCallS (xs : List VCall) : AV := .sl xs.length 9 (gsCallS xs)
abbrev owCallS (xs : List VCall) : AV := .own xs.length 9 (goCallS xs)
structure VClient where
  Prog : (List VCall)
  At : Int
  Waiting : Bool
abbrev zClient : VClient := ⟨[], 0, false⟩
abbrev clClient (x : VClient) : List AV := [slCallS x.Prog, nI x.At, .B x.Waiting]
abbrev coClient (x : VClient) : List AV := [owCallS x.Prog, nI x.At, .B x.Waiting]
abbrev slClient (x : VClient) : AV := .ag 3 (lstG (clClient x))
abbrev owClient (x : VClient) : AV := .ag 3 (lstG (coClient x))
def gsClientS (xs : List VClient) : Nat → Nat → AV := fun i => lstG (clClient (xs.getD i zClient))
def goClientS (xs : List VClient) : Nat → Nat → AV := fun i => lstG (coClient (xs.getD i zClient))
abbrev slClientS (xs : List VClient) : AV := .sl xs.length 3 (gsClientS xs)
abbrev owClientS (xs : List VClient) : AV := .own xs.length 3 (goClientS xs)
structure VState where
  Hub : VHub
  Clients : (List VClient)
abbrev zState : VState := ⟨zHub, []⟩
abbrev clState (x : VState) : List AV := [slIntS x.Hub.Tokens.Parents, slBoolS x.Hub.Tokens.Off, nI x.Hub.Clock.Now, slTimerS x.Hub.Clock.Timers, slNotifyS x.Hub.Notes, slEventS x.Hub.Events, slLatchS x.Hub.Latches, slCellS x.Hub.Cells, slTopicS x.Hub.Topics, slMergeS x.Hub.Merges, slUserS x.Hub.Users, slClientS x.Clients]
abbrev coState (x : VState) : List AV := [owIntS x.Hub.Tokens.Parents, owBoolS x.Hub.Tokens.Off, nI x.Hub.Clock.Now, owTimerS x.Hub.Clock.Timers, owNotifyS x.Hub.Notes, owEventS x.Hub.Events, owLatchS x.Hub.Latches, owCellS x.Hub.Cells, owTopicS x.Hub.Topics, owMergeS x.Hub.Merges, owUserS x.Hub.Users, owClientS x.Clients]
abbrev slState (x : VState) : AV := .ag 12 (lstG (clState x))
abbrev owState (x : VState) : AV := .ag 12 (lstG (coState x))
abbrev owBy (w : ByteArray) : AV := .own w.size 1 (bytG w)
def focT (f r : Nat) : Foc :=
  bif Nat.beq f 75 then ⟨[0, 1, 5], [], [], [], []⟩ else
  bif Nat.beq f 23 then ⟨[0, 1, 5], [], [], [], []⟩ else
  bif Nat.beq f 10 then ⟨[0, 1, 5], [], [], [], []⟩ else
  bif Nat.beq f 21 then ⟨[0, 1, 5], [], [], [], []⟩ else
  bif Nat.beq f 22 then ⟨[0, 1, 5], [], [], [], []⟩ else
  bif Nat.beq f 25 then ⟨[0, 1, 5], [], [], [], []⟩ else
  bif Nat.beq f 121 then ⟨[0, 1, 5], [], [], [], []⟩ else
  bif Nat.beq f 20 then ⟨[0, 1, 5], [], [], [], []⟩ else
  bif Nat.beq f 122 then ⟨[0, 1, 5], [], [], [], []⟩ else
  bif Nat.beq f 123 then ⟨[0, 1, 5], [], [], [], []⟩ else
  bif Nat.beq f 24 then ⟨[0, 1, 5], [], [], [], []⟩ else
  bif Nat.beq f 26 then ⟨[0, 1, 5], [], [], [], []⟩ else
  bif Nat.beq f 79 then ⟨[0, 3, 4], [], [], [], [290816]⟩ else
  bif Nat.beq f 88 then ⟨[0, 3, 4], [], [], [], [290816]⟩ else
  bif Nat.beq f 43 then ⟨[0, 3, 4], [], [], [], [290816]⟩ else
  bif Nat.beq f 14 then ⟨[0, 3, 4], [], [], [], [290816]⟩ else
  bif Nat.beq f 41 then ⟨[0, 3, 4], [], [], [], [290816]⟩ else
  bif Nat.beq f 108 then ⟨[0, 3, 4], [], [], [], [290816]⟩ else
  bif Nat.beq f 112 then ⟨[0, 3, 4], [], [], [], [290816]⟩ else
  bif Nat.beq f 78 then ⟨[0, 3, 4], [], [], [], [290816]⟩ else
  bif Nat.beq f 42 then ⟨[0, 3, 4], [], [], [], [290816]⟩ else
  bif Nat.beq f 111 then ⟨[0, 3, 4], [], [], [], [290816]⟩ else
  bif Nat.beq f 45 then ⟨[0, 3, 4], [], [], [], [290816]⟩ else
  bif Nat.beq f 125 then ⟨[0, 3, 4], [], [], [], [290816]⟩ else
  bif Nat.beq f 40 then ⟨[0, 3, 4], [], [], [], [290816]⟩ else
  bif Nat.beq f 126 then ⟨[0, 3, 4], [], [], [], [290816]⟩ else
  bif Nat.beq f 129 then ⟨[0, 3, 4], [], [], [], [290816]⟩ else
  bif Nat.beq f 80 then ⟨[0, 3, 4], [], [], [], [290816]⟩ else
  bif Nat.beq f 44 then ⟨[0, 3, 4], [], [], [], [290816]⟩ else
  bif Nat.beq f 46 then ⟨[0, 3, 4], [], [], [], [290816]⟩ else
  bif Nat.beq f 91 then ⟨[0, 1, 5], [], [], [], []⟩ else
  bif Nat.beq f 100 then ⟨[0, 1, 5], [], [], [], []⟩ else
  bif Nat.beq f 60 then ⟨[0, 1, 5], [], [], [], []⟩ else
  bif Nat.beq f 17 then ⟨[0, 1, 5], [], [], [], []⟩ else
  bif Nat.beq f 58 then ⟨[0, 1, 5], [], [], [], []⟩ else
  bif Nat.beq f 115 then ⟨[0, 1, 5], [], [], [], []⟩ else
  bif Nat.beq f 119 then ⟨[0, 1, 5], [], [], [], []⟩ else
  bif Nat.beq f 90 then ⟨[0, 1, 5], [], [], [], []⟩ else
  bif Nat.beq f 59 then ⟨[0, 1, 5], [], [], [], []⟩ else
  bif Nat.beq f 118 then ⟨[0, 1, 5], [], [], [], []⟩ else
  bif Nat.beq f 62 then ⟨[0, 1, 5], [], [], [], []⟩ else
  bif Nat.beq f 131 then ⟨[0, 1, 5], [], [], [], []⟩ else
  bif Nat.beq f 57 then ⟨[0, 1, 5], [], [], [], []⟩ else
  bif Nat.beq f 132 then ⟨[0, 1, 5], [], [], [], []⟩ else
  bif Nat.beq f 135 then ⟨[0, 1, 5], [], [], [], []⟩ else
  bif Nat.beq f 92 then ⟨[0, 1, 5], [], [], [], []⟩ else
  bif Nat.beq f 61 then ⟨[0, 1, 5], [], [], [], []⟩ else
  bif Nat.beq f 63 then ⟨[0, 1, 5], [], [], [], []⟩ else
  bif Nat.beq f 76 then ⟨[0, 1, 5], [], [], [], []⟩ else
  bif Nat.beq f 28 then ⟨[0, 1, 5], [], [], [], []⟩ else
  bif Nat.beq f 32 then ⟨[0, 1, 5], [], [], [], []⟩ else
  bif Nat.beq f 33 then ⟨[0, 1, 5], [], [], [], []⟩ else
  bif Nat.beq f 34 then ⟨[0, 1, 5], [], [], [], []⟩ else
  bif Nat.beq f 35 then ⟨[0, 1, 5], [], [], [], []⟩ else
  bif Nat.beq f 31 && Nat.beq r 4 then ⟨[0, 1, 5], [], [], [], []⟩ else
  bif Nat.beq f 36 && Nat.beq r 4 then ⟨[0, 1, 5], [], [], [], []⟩ else
  bif Nat.beq f 37 && Nat.beq r 4 then ⟨[0, 1, 5], [], [], [], []⟩ else
  bif Nat.beq f 31 && Nat.beq r 10 then ⟨[0, 1, 5, 6, 7, 8], [], [70, 71], [], []⟩ else
  bif Nat.beq f 36 && Nat.beq r 9 then ⟨[0, 1, 5, 6], [], [], [], []⟩ else
  bif Nat.beq f 37 && Nat.beq r 9 then ⟨[0, 1, 5, 6], [], [], [], []⟩ else
  bif Nat.beq f 29 then ⟨[2, 3, 5], [], [66, 67], [], []⟩ else
  bif Nat.beq f 30 then ⟨[2, 3, 5], [], [66, 67], [], []⟩ else
  bif Nat.beq f 77 && Nat.beq r 4 then ⟨[2, 3, 5], [], [66, 67], [], []⟩ else
  bif Nat.beq f 77 && Nat.beq r 9 then ⟨[2, 3, 6], [], [66, 67], [], []⟩ else
  bif Nat.beq f 5 && Nat.beq r 4 then ⟨[2, 3, 5], [], [66, 67], [], []⟩ else
  bif Nat.beq f 5 && Nat.beq r 10 then ⟨[2, 3, 5, 6, 7, 8], [], [66, 67, 70, 71], [], []⟩ else
  bif Nat.beq f 5 && Nat.beq r 6 then ⟨[2, 3, 5, 6, 7], [], [66, 67, 70, 71], [], []⟩ else
  bif Nat.beq f 50 then ⟨[0, 17, 18, 19], [], [0], [(0, 0, 4096000)], [4096000]⟩ else
  bif Nat.beq f 54 then ⟨[0, 11, 12, 13], [], [0], [(0, 0, 4096000)], [4096000]⟩ else
  bif Nat.beq f 48 && Nat.beq r 4 then ⟨[0, 3, 32, 33, 34], [], [0, 67], [(0, 0, 4096000)], [4096000]⟩ else
  bif Nat.beq f 48 && Nat.beq r 10 then ⟨[0, 3, 68, 69, 70], [], [0, 67], [(0, 0, 4096000)], [4096000]⟩ else
  bif Nat.beq f 48 && Nat.beq r 15 then ⟨[0, 3, 83, 84, 85], [], [0, 67], [(0, 0, 4096000)], [4096000]⟩ else
  bif Nat.beq f 48 && Nat.beq r 20 then ⟨[0, 3, 83, 84, 85, 109, 110, 111], [], [0, 67], [(0, 0, 4096000)], [4096000]⟩ else
  bif Nat.beq f 48 && Nat.beq r 26 then ⟨[0, 3, 126, 127, 128], [], [0, 67], [(0, 0, 4096000)], [4096000]⟩ else
  bif Nat.beq f 48 && Nat.beq r 33 then ⟨[0, 3, 157, 158, 159], [], [0, 67], [(0, 0, 4096000)], [4096000]⟩ else
  bif Nat.beq f 48 && Nat.beq r 40 then ⟨[0, 178, 179, 180], [], [0], [(0, 0, 4096000)], [4096000]⟩ else
  bif Nat.beq f 49 && Nat.beq r 3 then ⟨[0, 3, 25, 26, 27], [], [0, 67], [(0, 0, 4096000)], [4096000]⟩ else
  bif Nat.beq f 49 && Nat.beq r 9 then ⟨[0, 3, 6, 25, 26, 27, 56, 57, 58], [], [0, 67, 70], [(0, 0, 4096000)], [4096000]⟩ else
  bif Nat.beq f 49 && Nat.beq r 14 then ⟨[0, 3, 6, 25, 26, 27, 67, 68, 69], [], [0, 67, 70], [(0, 0, 4096000)], [4096000]⟩ else
  bif Nat.beq f 49 && Nat.beq r 23 then ⟨[0, 103, 104, 105], [], [0], [(0, 0, 4096000)], [4096000]⟩ else
  bif Nat.beq f 49 && Nat.beq r 27 then ⟨[0, 103, 104, 105, 120, 121, 122], [], [0], [(0, 0, 4096000)], [4096000]⟩ else
  bif Nat.beq f 15 && Nat.beq r 6 then ⟨[1, 3, 34, 35, 36], [], [65, 77], [(77, 0, 4096000)], [4096000]⟩ else
  bif Nat.beq f 15 && Nat.beq r 10 then ⟨[1, 3, 5, 34, 35, 36, 47, 48, 49], [], [65, 69, 77], [(77, 0, 4096000)], [4096000]⟩ else
  bif Nat.beq f 15 && Nat.beq r 17 then ⟨[3, 67, 68, 69], [], [77], [(77, 0, 4096000)], [4096000]⟩ else
  bif Nat.beq f 15 && Nat.beq r 21 then ⟨[3, 67, 68, 69, 85, 86, 87], [], [77], [(77, 0, 4096000)], [4096000]⟩ else
  {}
def modeT (f : Nat) : List Bool :=
  []
def nilT (f : Nat) : Bool := false
def giveT (f : Nat) : Bool := false
def cutT (f r : Nat) : Bool := (Nat.beq f 5 && Nat.beq r 6)
def cfg : Cfg := ⟨modeT, focT, nilT, giveT, cutT, fun _ => false, fun _ _ _ => none⟩
open Classical in
noncomputable def okD (b : Bool) : Bool := decide (∀ _i : Nat, b = true)
theorem okD_true : okD true = true := by simp [okD]
abbrev bs (l : List UInt8) : ByteArray := ⟨⟨l⟩⟩
abbrev byN (s : ByteArray) (i : Nat) : Int := zN ((s[i]?).getD 0).toNat
open Classical in
noncomputable def okU : Bool := decide (∀ _i : Nat, (bif okT then true else false) = true)
theorem okU_eq : okU = true := by unfold okU; rw [okT_eq]; simp
open Classical in
noncomputable def okV : Bool := decide (∀ _i : Nat, (bif okU then true else false) = true)
theorem okV_eq : okV = true := by unfold okV; rw [okU_eq]; simp
open Classical in
noncomputable def okW : Bool := decide (∀ _i : Nat, (bif okV then true else false) = true)
theorem okW_eq : okW = true := by unfold okW; rw [okV_eq]; simp
abbrev vslIntS (x : AV) : AV := .sl (asN x) 1 fun i => lstG [nI (asI (asG x i 0))]
abbrev vowIntS (x : AV) : AV := .own (asN x) 1 fun i => lstG [nI (asI (asG x i 0))]
abbrev vslBoolS (x : AV) : AV := .sl (asN x) 1 fun i => lstG [.B (asB (asG x i 0))]
abbrev vowBoolS (x : AV) : AV := .own (asN x) 1 fun i => lstG [.B (asB (asG x i 0))]
abbrev vclTokens (x : AV) : List AV := [vslIntS (asA x 0), vslBoolS (asA x 1)]
abbrev vcoTokens (x : AV) : List AV := [vowIntS (asA x 0), vowBoolS (asA x 1)]
abbrev vclTimer (x : AV) : List AV := [nI (asI (asA x 0)), nI (asI (asA x 1))]
abbrev vcoTimer (x : AV) : List AV := vclTimer x
abbrev vslTimerS (x : AV) : AV := .sl (asN x) 2 fun i => lstG [nI (asI (asG x i 0)), nI (asI (asG x i 1))]
abbrev vowTimerS (x : AV) : AV := .own (asN x) 2 fun i => lstG [nI (asI (asG x i 0)), nI (asI (asG x i 1))]
abbrev vclClock (x : AV) : List AV := [nI (asI (asA x 0)), vslTimerS (asA x 1)]
abbrev vcoClock (x : AV) : List AV := [nI (asI (asA x 0)), vowTimerS (asA x 1)]
abbrev vclGrant (x : AV) : List AV := [nI (asI (asA x 0)), .B (asB (asA x 1))]
abbrev vcoGrant (x : AV) : List AV := vclGrant x
abbrev vslGrantS (x : AV) : AV := .sl (asN x) 2 fun i => lstG [nI (asI (asG x i 0)), .B (asB (asG x i 1))]
abbrev vowGrantS (x : AV) : AV := .own (asN x) 2 fun i => lstG [nI (asI (asG x i 0)), .B (asB (asG x i 1))]
abbrev vclNotify (x : AV) : List AV := [.B (asB (asA x 0)), vslIntS (asA x 1), vslGrantS (asA x 2), nI (asI (asA x 3)), nI (asI (asA x 4)), nI (asI (asA x 5))]
abbrev vcoNotify (x : AV) : List AV := [.B (asB (asA x 0)), vowIntS (asA x 1), vowGrantS (asA x 2), nI (asI (asA x 3)), nI (asI (asA x 4)), nI (asI (asA x 5))]
abbrev vslNotifyS (x : AV) : AV := .sl (asN x) 6 fun i => lstG [.B (asB (asG x i 0)), vslIntS (asG x i 1), vslGrantS (asG x i 2), nI (asI (asG x i 3)), nI (asI (asG x i 4)), nI (asI (asG x i 5))]
abbrev vowNotifyS (x : AV) : AV := .own (asN x) 6 fun i => lstG [.B (asB (asG x i 0)), vowIntS (asG x i 1), vowGrantS (asG x i 2), nI (asI (asG x i 3)), nI (asI (asG x i 4)), nI (asI (asG x i 5))]
abbrev vclEvent (x : AV) : List AV := [.B (asB (asA x 0)), .B (asB (asA x 1)), vslIntS (asA x 2), vslIntS (asA x 3), nI (asI (asA x 4)), nI (asI (asA x 5)), nI (asI (asA x 6))]
abbrev vcoEvent (x : AV) : List AV := [.B (asB (asA x 0)), .B (asB (asA x 1)), vowIntS (asA x 2), vowIntS (asA x 3), nI (asI (asA x 4)), nI (asI (asA x 5)), nI (asI (asA x 6))]
abbrev vslEventS (x : AV) : AV := .sl (asN x) 7 fun i => lstG [.B (asB (asG x i 0)), .B (asB (asG x i 1)), vslIntS (asG x i 2), vslIntS (asG x i 3), nI (asI (asG x i 4)), nI (asI (asG x i 5)), nI (asI (asG x i 6))]
abbrev vowEventS (x : AV) : AV := .own (asN x) 7 fun i => lstG [.B (asB (asG x i 0)), .B (asB (asG x i 1)), vowIntS (asG x i 2), vowIntS (asG x i 3), nI (asI (asG x i 4)), nI (asI (asG x i 5)), nI (asI (asG x i 6))]
abbrev vclLatch (x : AV) : List AV := [nI (asI (asA x 0)), vslIntS (asA x 1), vslIntS (asA x 2)]
abbrev vcoLatch (x : AV) : List AV := [nI (asI (asA x 0)), vowIntS (asA x 1), vowIntS (asA x 2)]
abbrev vslLatchS (x : AV) : AV := .sl (asN x) 3 fun i => lstG [nI (asI (asG x i 0)), vslIntS (asG x i 1), vslIntS (asG x i 2)]
abbrev vowLatchS (x : AV) : AV := .own (asN x) 3 fun i => lstG [nI (asI (asG x i 0)), vowIntS (asG x i 1), vowIntS (asG x i 2)]
abbrev vclMsg (x : AV) : List AV := [nI (asI (asA x 0)), nI (asI (asA x 1)), .S (asS (asA x 2))]
abbrev vcoMsg (x : AV) : List AV := vclMsg x
abbrev vslMsgS (x : AV) : AV := .sl (asN x) 3 fun i => lstG [nI (asI (asG x i 0)), nI (asI (asG x i 1)), .S (asS (asG x i 2))]
abbrev vowMsgS (x : AV) : AV := .own (asN x) 3 fun i => lstG [nI (asI (asG x i 0)), nI (asI (asG x i 1)), .S (asS (asG x i 2))]
abbrev vclCell (x : AV) : List AV := [nI (asI (asA x 0)), nI (asI (asA x 1)), .S (asS (asA x 2)), nI (asI (asA x 3)), .B (asB (asA x 4)), vslIntS (asA x 5), vslIntS (asA x 6)]
abbrev vcoCell (x : AV) : List AV := [nI (asI (asA x 0)), nI (asI (asA x 1)), .S (asS (asA x 2)), nI (asI (asA x 3)), .B (asB (asA x 4)), vowIntS (asA x 5), vowIntS (asA x 6)]
abbrev vslCellS (x : AV) : AV := .sl (asN x) 7 fun i => lstG [nI (asI (asG x i 0)), nI (asI (asG x i 1)), .S (asS (asG x i 2)), nI (asI (asG x i 3)), .B (asB (asG x i 4)), vslIntS (asG x i 5), vslIntS (asG x i 6)]
abbrev vowCellS (x : AV) : AV := .own (asN x) 7 fun i => lstG [nI (asI (asG x i 0)), nI (asI (asG x i 1)), .S (asS (asG x i 2)), nI (asI (asG x i 3)), .B (asB (asG x i 4)), vowIntS (asG x i 5), vowIntS (asG x i 6)]
abbrev vclTerm (x : AV) : List AV := [nI (asI (asA x 0)), nI (asI (asA x 1)), .S (asS (asA x 2))]
abbrev vcoTerm (x : AV) : List AV := vclTerm x
abbrev vslTermS (x : AV) : AV := .sl (asN x) 3 fun i => lstG [nI (asI (asG x i 0)), nI (asI (asG x i 1)), .S (asS (asG x i 2))]
abbrev vowTermS (x : AV) : AV := .own (asN x) 3 fun i => lstG [nI (asI (asG x i 0)), nI (asI (asG x i 1)), .S (asS (asG x i 2))]
abbrev vclSub (x : AV) : List AV := [nI (asI (asA x 0)), nI (asI (asA x 1)), nI (asI (asA x 2)), nI (asI (asA x 3)), nI (asI (asA x 4)), nI (asI (asA x 5)), vslTermS (asA x 6)]
abbrev vcoSub (x : AV) : List AV := [nI (asI (asA x 0)), nI (asI (asA x 1)), nI (asI (asA x 2)), nI (asI (asA x 3)), nI (asI (asA x 4)), nI (asI (asA x 5)), vowTermS (asA x 6)]
abbrev vslSubS (x : AV) : AV := .sl (asN x) 7 fun i => lstG [nI (asI (asG x i 0)), nI (asI (asG x i 1)), nI (asI (asG x i 2)), nI (asI (asG x i 3)), nI (asI (asG x i 4)), nI (asI (asG x i 5)), vslTermS (asG x i 6)]
abbrev vowSubS (x : AV) : AV := .own (asN x) 7 fun i => lstG [nI (asI (asG x i 0)), nI (asI (asG x i 1)), nI (asI (asG x i 2)), nI (asI (asG x i 3)), nI (asI (asG x i 4)), nI (asI (asG x i 5)), vowTermS (asG x i 6)]
abbrev vclRing (x : AV) : List AV := [nI (asI (asA x 0)), nI (asI (asA x 1)), vslMsgS (asA x 2), nI (asI (asA x 3)), vslSubS (asA x 4), vslIntS (asA x 5), vslIntS (asA x 6), .B (asB (asA x 7))]
abbrev vcoRing (x : AV) : List AV := [nI (asI (asA x 0)), nI (asI (asA x 1)), vowMsgS (asA x 2), nI (asI (asA x 3)), vowSubS (asA x 4), vowIntS (asA x 5), vowIntS (asA x 6), .B (asB (asA x 7))]
abbrev vclTopic (x : AV) : List AV := [.S (asS (asA x 0)), nI (asI (asA x 1)), nI (asI (asA x 2)), vslMsgS (asA x 3), nI (asI (asA x 4)), vslSubS (asA x 5), vslIntS (asA x 6), vslIntS (asA x 7), .B (asB (asA x 8))]
abbrev vcoTopic (x : AV) : List AV := [.S (asS (asA x 0)), nI (asI (asA x 1)), nI (asI (asA x 2)), vowMsgS (asA x 3), nI (asI (asA x 4)), vowSubS (asA x 5), vowIntS (asA x 6), vowIntS (asA x 7), .B (asB (asA x 8))]
abbrev vslTopicS (x : AV) : AV := .sl (asN x) 9 fun i => lstG [.S (asS (asG x i 0)), nI (asI (asG x i 1)), nI (asI (asG x i 2)), vslMsgS (asG x i 3), nI (asI (asG x i 4)), vslSubS (asG x i 5), vslIntS (asG x i 6), vslIntS (asG x i 7), .B (asB (asG x i 8))]
abbrev vowTopicS (x : AV) : AV := .own (asN x) 9 fun i => lstG [.S (asS (asG x i 0)), nI (asI (asG x i 1)), nI (asI (asG x i 2)), vowMsgS (asG x i 3), nI (asI (asG x i 4)), vowSubS (asG x i 5), vowIntS (asG x i 6), vowIntS (asG x i 7), .B (asB (asG x i 8))]
abbrev vclLeg (x : AV) : List AV := [nI (asI (asA x 0)), nI (asI (asA x 1)), nI (asI (asA x 2)), .B (asB (asA x 3))]
abbrev vcoLeg (x : AV) : List AV := vclLeg x
abbrev vslLegS (x : AV) : AV := .sl (asN x) 4 fun i => lstG [nI (asI (asG x i 0)), nI (asI (asG x i 1)), nI (asI (asG x i 2)), .B (asB (asG x i 3))]
abbrev vowLegS (x : AV) : AV := .own (asN x) 4 fun i => lstG [nI (asI (asG x i 0)), nI (asI (asG x i 1)), nI (asI (asG x i 2)), .B (asB (asG x i 3))]
abbrev vclMerge (x : AV) : List AV := [vslLegS (asA x 0), nI (asI (asA x 1)), nI (asI (asA x 2))]
abbrev vcoMerge (x : AV) : List AV := [vowLegS (asA x 0), nI (asI (asA x 1)), nI (asI (asA x 2))]
abbrev vslMergeS (x : AV) : AV := .sl (asN x) 3 fun i => lstG [vslLegS (asG x i 0), nI (asI (asG x i 1)), nI (asI (asG x i 2))]
abbrev vowMergeS (x : AV) : AV := .own (asN x) 3 fun i => lstG [vowLegS (asG x i 0), nI (asI (asG x i 1)), nI (asI (asG x i 2))]
abbrev vclHit (x : AV) : List AV := [nI (asI (asA x 0)), nI (asI (asA x 1))]
abbrev vcoHit (x : AV) : List AV := vclHit x
abbrev vslHitS (x : AV) : AV := .sl (asN x) 2 fun i => lstG [nI (asI (asG x i 0)), nI (asI (asG x i 1))]
abbrev vowHitS (x : AV) : AV := .own (asN x) 2 fun i => lstG [nI (asI (asG x i 0)), nI (asI (asG x i 1))]
abbrev vclUser (x : AV) : List AV := [vslHitS (asA x 0), vslIntS (asA x 1)]
abbrev vcoUser (x : AV) : List AV := [vowHitS (asA x 0), vowIntS (asA x 1)]
abbrev vslUserS (x : AV) : AV := .sl (asN x) 2 fun i => lstG [vslHitS (asG x i 0), vslIntS (asG x i 1)]
abbrev vowUserS (x : AV) : AV := .own (asN x) 2 fun i => lstG [vowHitS (asG x i 0), vowIntS (asG x i 1)]
abbrev vclHub (x : AV) : List AV := [vslIntS (asA x 0), vslBoolS (asA x 1), nI (asI (asA x 2)), vslTimerS (asA x 3), vslNotifyS (asA x 4), vslEventS (asA x 5), vslLatchS (asA x 6), vslCellS (asA x 7), vslTopicS (asA x 8), vslMergeS (asA x 9), vslUserS (asA x 10)]
abbrev vcoHub (x : AV) : List AV := [vowIntS (asA x 0), vowBoolS (asA x 1), nI (asI (asA x 2)), vowTimerS (asA x 3), vowNotifyS (asA x 4), vowEventS (asA x 5), vowLatchS (asA x 6), vowCellS (asA x 7), vowTopicS (asA x 8), vowMergeS (asA x 9), vowUserS (asA x 10)]
abbrev vclCall (x : AV) : List AV := [nI (asI (asA x 0)), nI (asI (asA x 1)), nI (asI (asA x 2)), nI (asI (asA x 3)), .S (asS (asA x 4)), nI (asI (asA x 5)), nI (asI (asA x 6)), .S (asS (asA x 7)), vslTermS (asA x 8)]
abbrev vcoCall (x : AV) : List AV := [nI (asI (asA x 0)), nI (asI (asA x 1)), nI (asI (asA x 2)), nI (asI (asA x 3)), .S (asS (asA x 4)), nI (asI (asA x 5)), nI (asI (asA x 6)), .S (asS (asA x 7)), vowTermS (asA x 8)]
abbrev vslCallS (x : AV) : AV := .sl (asN x) 9 fun i => lstG [nI (asI (asG x i 0)), nI (asI (asG x i 1)), nI (asI (asG x i 2)), nI (asI (asG x i 3)), .S (asS (asG x i 4)), nI (asI (asG x i 5)), nI (asI (asG x i 6)), .S (asS (asG x i 7)), vslTermS (asG x i 8)]
abbrev vowCallS (x : AV) : AV := .own (asN x) 9 fun i => lstG [nI (asI (asG x i 0)), nI (asI (asG x i 1)), nI (asI (asG x i 2)), nI (asI (asG x i 3)), .S (asS (asG x i 4)), nI (asI (asG x i 5)), nI (asI (asG x i 6)), .S (asS (asG x i 7)), vowTermS (asG x i 8)]
abbrev vclClient (x : AV) : List AV := [vslCallS (asA x 0), nI (asI (asA x 1)), .B (asB (asA x 2))]
abbrev vcoClient (x : AV) : List AV := [vowCallS (asA x 0), nI (asI (asA x 1)), .B (asB (asA x 2))]
abbrev vslClientS (x : AV) : AV := .sl (asN x) 3 fun i => lstG [vslCallS (asG x i 0), nI (asI (asG x i 1)), .B (asB (asG x i 2))]
abbrev vowClientS (x : AV) : AV := .own (asN x) 3 fun i => lstG [vowCallS (asG x i 0), nI (asI (asG x i 1)), .B (asB (asG x i 2))]
abbrev vclState (x : AV) : List AV := [vslIntS (asA x 0), vslBoolS (asA x 1), nI (asI (asA x 2)), vslTimerS (asA x 3), vslNotifyS (asA x 4), vslEventS (asA x 5), vslLatchS (asA x 6), vslCellS (asA x 7), vslTopicS (asA x 8), vslMergeS (asA x 9), vslUserS (asA x 10), vslClientS (asA x 11)]
abbrev vcoState (x : AV) : List AV := [vowIntS (asA x 0), vowBoolS (asA x 1), nI (asI (asA x 2)), vowTimerS (asA x 3), vowNotifyS (asA x 4), vowEventS (asA x 5), vowLatchS (asA x 6), vowCellS (asA x 7), vowTopicS (asA x 8), vowMergeS (asA x 9), vowUserS (asA x 10), vowClientS (asA x 11)]
abbrev P75 : List Bool := [true, true, true, false, true]
abbrev S75 (x : (List VCall)) (a i : Int) : St := hdS [(0, slCallS x), (1, nI a), (5, nI i)] [] []
abbrev P23 : List Bool := [true, true, true, false, true]
abbrev S23 (x : (List VCell)) (a i : Int) : St := hdS [(0, slCellS x), (1, nI a), (5, nI i)] [] []
abbrev P10 : List Bool := [true, true, true, false, true]
abbrev S10 (x : (List VClient)) (a i : Int) : St := hdS [(0, slClientS x), (1, nI a), (5, nI i)] [] []
abbrev P21 : List Bool := [true, true, true, false, true]
abbrev S21 (x : (List VEvent)) (a i : Int) : St := hdS [(0, slEventS x), (1, nI a), (5, nI i)] [] []
abbrev P22 : List Bool := [true, true, true, false, true]
abbrev S22 (x : (List VLatch)) (a i : Int) : St := hdS [(0, slLatchS x), (1, nI a), (5, nI i)] [] []
abbrev P25 : List Bool := [true, true, true, false, true]
abbrev S25 (x : (List VMerge)) (a i : Int) : St := hdS [(0, slMergeS x), (1, nI a), (5, nI i)] [] []
abbrev P121 : List Bool := [true, true, true, false, true]
abbrev S121 (x : (List VMsg)) (a i : Int) : St := hdS [(0, slMsgS x), (1, nI a), (5, nI i)] [] []
abbrev P20 : List Bool := [true, true, true, false, true]
abbrev S20 (x : (List VNotify)) (a i : Int) : St := hdS [(0, slNotifyS x), (1, nI a), (5, nI i)] [] []
abbrev P122 : List Bool := [true, true, true, false, true]
abbrev S122 (x : (List VSub)) (a i : Int) : St := hdS [(0, slSubS x), (1, nI a), (5, nI i)] [] []
abbrev P123 : List Bool := [true, true, true, false, true]
abbrev S123 (x : (List VTerm)) (a i : Int) : St := hdS [(0, slTermS x), (1, nI a), (5, nI i)] [] []
abbrev P24 : List Bool := [true, true, true, false, true]
abbrev S24 (x : (List VTopic)) (a i : Int) : St := hdS [(0, slTopicS x), (1, nI a), (5, nI i)] [] []
abbrev P26 : List Bool := [true, true, true, false, true]
abbrev S26 (x : (List VUser)) (a i : Int) : St := hdS [(0, slUserS x), (1, nI a), (5, nI i)] [] []
abbrev P79 : List Bool := [true, true, false, true]
abbrev S79 (x : (List Bool)) (os : (List Bool)) (i : Int) : St := hdS [(0, slBoolS x), (3, .rf 290816), (4, nI i)] [(290816, ⟨os.length, 1, goBoolS os⟩)] []
abbrev P88 : List Bool := [true, true, false, true]
abbrev S88 (x : (List VCall)) (os : (List VCall)) (i : Int) : St := hdS [(0, slCallS x), (3, .rf 290816), (4, nI i)] [(290816, ⟨os.length, 9, goCallS os⟩)] []
abbrev P43 : List Bool := [true, true, false, true]
abbrev S43 (x : (List VCell)) (os : (List VCell)) (i : Int) : St := hdS [(0, slCellS x), (3, .rf 290816), (4, nI i)] [(290816, ⟨os.length, 7, goCellS os⟩)] []
abbrev P14 : List Bool := [true, true, false, true]
abbrev S14 (x : (List VClient)) (os : (List VClient)) (i : Int) : St := hdS [(0, slClientS x), (3, .rf 290816), (4, nI i)] [(290816, ⟨os.length, 3, goClientS os⟩)] []
abbrev P41 : List Bool := [true, true, false, true]
abbrev S41 (x : (List VEvent)) (os : (List VEvent)) (i : Int) : St := hdS [(0, slEventS x), (3, .rf 290816), (4, nI i)] [(290816, ⟨os.length, 7, goEventS os⟩)] []
abbrev P108 : List Bool := [true, true, false, true]
abbrev S108 (x : (List VGrant)) (os : (List VGrant)) (i : Int) : St := hdS [(0, slGrantS x), (3, .rf 290816), (4, nI i)] [(290816, ⟨os.length, 2, goGrantS os⟩)] []
abbrev P112 : List Bool := [true, true, false, true]
abbrev S112 (x : (List VHit)) (os : (List VHit)) (i : Int) : St := hdS [(0, slHitS x), (3, .rf 290816), (4, nI i)] [(290816, ⟨os.length, 2, goHitS os⟩)] []
abbrev P78 : List Bool := [true, true, false, true]
abbrev S78 (x : (List Int)) (os : (List Int)) (i : Int) : St := hdS [(0, slIntS x), (3, .rf 290816), (4, nI i)] [(290816, ⟨os.length, 1, goIntS os⟩)] []
abbrev P42 : List Bool := [true, true, false, true]
abbrev S42 (x : (List VLatch)) (os : (List VLatch)) (i : Int) : St := hdS [(0, slLatchS x), (3, .rf 290816), (4, nI i)] [(290816, ⟨os.length, 3, goLatchS os⟩)] []
abbrev P111 : List Bool := [true, true, false, true]
abbrev S111 (x : (List VLeg)) (os : (List VLeg)) (i : Int) : St := hdS [(0, slLegS x), (3, .rf 290816), (4, nI i)] [(290816, ⟨os.length, 4, goLegS os⟩)] []
abbrev P45 : List Bool := [true, true, false, true]
abbrev S45 (x : (List VMerge)) (os : (List VMerge)) (i : Int) : St := hdS [(0, slMergeS x), (3, .rf 290816), (4, nI i)] [(290816, ⟨os.length, 3, goMergeS os⟩)] []
abbrev P125 : List Bool := [true, true, false, true]
abbrev S125 (x : (List VMsg)) (os : (List VMsg)) (i : Int) : St := hdS [(0, slMsgS x), (3, .rf 290816), (4, nI i)] [(290816, ⟨os.length, 3, goMsgS os⟩)] []
abbrev P40 : List Bool := [true, true, false, true]
abbrev S40 (x : (List VNotify)) (os : (List VNotify)) (i : Int) : St := hdS [(0, slNotifyS x), (3, .rf 290816), (4, nI i)] [(290816, ⟨os.length, 6, goNotifyS os⟩)] []
abbrev P126 : List Bool := [true, true, false, true]
abbrev S126 (x : (List VSub)) (os : (List VSub)) (i : Int) : St := hdS [(0, slSubS x), (3, .rf 290816), (4, nI i)] [(290816, ⟨os.length, 7, goSubS os⟩)] []
abbrev P129 : List Bool := [true, true, false, true]
abbrev S129 (x : (List VTerm)) (os : (List VTerm)) (i : Int) : St := hdS [(0, slTermS x), (3, .rf 290816), (4, nI i)] [(290816, ⟨os.length, 3, goTermS os⟩)] []
abbrev P80 : List Bool := [true, true, false, true]
abbrev S80 (x : (List VTimer)) (os : (List VTimer)) (i : Int) : St := hdS [(0, slTimerS x), (3, .rf 290816), (4, nI i)] [(290816, ⟨os.length, 2, goTimerS os⟩)] []
abbrev P44 : List Bool := [true, true, false, true]
abbrev S44 (x : (List VTopic)) (os : (List VTopic)) (i : Int) : St := hdS [(0, slTopicS x), (3, .rf 290816), (4, nI i)] [(290816, ⟨os.length, 9, goTopicS os⟩)] []
abbrev P46 : List Bool := [true, true, false, true]
abbrev S46 (x : (List VUser)) (os : (List VUser)) (i : Int) : St := hdS [(0, slUserS x), (3, .rf 290816), (4, nI i)] [(290816, ⟨os.length, 2, goUserS os⟩)] []
abbrev P91 : List Bool := [true, true, false, true]
abbrev S91 (x y : (List Bool)) (i : Int) : St := hdS [(0, slBoolS x), (1, slBoolS y), (5, nI i)] [] []
abbrev P100 : List Bool := [true, true, false, true]
abbrev S100 (x y : (List VCall)) (i : Int) : St := hdS [(0, slCallS x), (1, slCallS y), (5, nI i)] [] []
abbrev P60 : List Bool := [true, true, false, true]
abbrev S60 (x y : (List VCell)) (i : Int) : St := hdS [(0, slCellS x), (1, slCellS y), (5, nI i)] [] []
abbrev P17 : List Bool := [true, true, false, true]
abbrev S17 (x y : (List VClient)) (i : Int) : St := hdS [(0, slClientS x), (1, slClientS y), (5, nI i)] [] []
abbrev P58 : List Bool := [true, true, false, true]
abbrev S58 (x y : (List VEvent)) (i : Int) : St := hdS [(0, slEventS x), (1, slEventS y), (5, nI i)] [] []
abbrev P115 : List Bool := [true, true, false, true]
abbrev S115 (x y : (List VGrant)) (i : Int) : St := hdS [(0, slGrantS x), (1, slGrantS y), (5, nI i)] [] []
abbrev P119 : List Bool := [true, true, false, true]
abbrev S119 (x y : (List VHit)) (i : Int) : St := hdS [(0, slHitS x), (1, slHitS y), (5, nI i)] [] []
abbrev P90 : List Bool := [true, true, false, true]
abbrev S90 (x y : (List Int)) (i : Int) : St := hdS [(0, slIntS x), (1, slIntS y), (5, nI i)] [] []
abbrev P59 : List Bool := [true, true, false, true]
abbrev S59 (x y : (List VLatch)) (i : Int) : St := hdS [(0, slLatchS x), (1, slLatchS y), (5, nI i)] [] []
abbrev P118 : List Bool := [true, true, false, true]
abbrev S118 (x y : (List VLeg)) (i : Int) : St := hdS [(0, slLegS x), (1, slLegS y), (5, nI i)] [] []
abbrev P62 : List Bool := [true, true, false, true]
abbrev S62 (x y : (List VMerge)) (i : Int) : St := hdS [(0, slMergeS x), (1, slMergeS y), (5, nI i)] [] []
abbrev P131 : List Bool := [true, true, false, true]
abbrev S131 (x y : (List VMsg)) (i : Int) : St := hdS [(0, slMsgS x), (1, slMsgS y), (5, nI i)] [] []
abbrev P57 : List Bool := [true, true, false, true]
abbrev S57 (x y : (List VNotify)) (i : Int) : St := hdS [(0, slNotifyS x), (1, slNotifyS y), (5, nI i)] [] []
abbrev P132 : List Bool := [true, true, false, true]
abbrev S132 (x y : (List VSub)) (i : Int) : St := hdS [(0, slSubS x), (1, slSubS y), (5, nI i)] [] []
abbrev P135 : List Bool := [true, true, false, true]
abbrev S135 (x y : (List VTerm)) (i : Int) : St := hdS [(0, slTermS x), (1, slTermS y), (5, nI i)] [] []
abbrev P92 : List Bool := [true, true, false, true]
abbrev S92 (x y : (List VTimer)) (i : Int) : St := hdS [(0, slTimerS x), (1, slTimerS y), (5, nI i)] [] []
abbrev P61 : List Bool := [true, true, false, true]
abbrev S61 (x y : (List VTopic)) (i : Int) : St := hdS [(0, slTopicS x), (1, slTopicS y), (5, nI i)] [] []
abbrev P63 : List Bool := [true, true, false, true]
abbrev S63 (x y : (List VUser)) (i : Int) : St := hdS [(0, slUserS x), (1, slUserS y), (5, nI i)] [] []
abbrev P76 : List Bool := [true, true, false, true]
abbrev S76 (x y : (List Int)) (i : Int) : St := hdS [(0, slIntS x), (1, slIntS y), (5, nI i)] [] []
abbrev P28 : List Bool := [true, true, false, true]
abbrev S28 (x y : (List VTerm)) (i : Int) : St := hdS [(0, slTermS x), (1, slTermS y), (5, nI i)] [] []
abbrev P32 : List Bool := [true, true, false, true]
abbrev S32 (x y : (List VEvent)) (i : Int) : St := hdS [(0, slEventS x), (1, slEventS y), (5, nI i)] [] []
abbrev P33 : List Bool := [true, true, false, true]
abbrev S33 (x y : (List VLatch)) (i : Int) : St := hdS [(0, slLatchS x), (1, slLatchS y), (5, nI i)] [] []
abbrev P34 : List Bool := [true, true, false, true]
abbrev S34 (x y : (List VCell)) (i : Int) : St := hdS [(0, slCellS x), (1, slCellS y), (5, nI i)] [] []
abbrev P35 : List Bool := [true, true, false, true]
abbrev S35 (x y : (List VTopic)) (i : Int) : St := hdS [(0, slTopicS x), (1, slTopicS y), (5, nI i)] [] []
abbrev P31a : List Bool := [true, true, false, true]
abbrev S31a (x y : (List VNotify)) (i : Int) : St := hdS [(0, slNotifyS x), (1, slNotifyS y), (5, nI i)] [] []
abbrev P31b : List Bool := [true, true, false, true, true, true, false, true, true, true]
abbrev S31b (x y : List VNotify) (i : Int) (p q : VNotify) (j : Int) : St := hdS [(0, slNotifyS x), (1, slNotifyS y), (5, nI i), (6, .pb 70 0), (7, .pb 71 0), (8, nI j)] [] [(70, 6, (clNotify p)), (71, 6, (clNotify q))]
abbrev P36a : List Bool := [true, true, false, true]
abbrev S36a (x y : (List VMerge)) (i : Int) : St := hdS [(0, slMergeS x), (1, slMergeS y), (5, nI i)] [] []
abbrev P36b : List Bool := [true, true, false, true, true, true, false, true, true]
abbrev S36b (x y : (List VMerge)) (i j : Int) : St := hdS [(0, slMergeS x), (1, slMergeS y), (5, nI i), (6, nI j)] [] []
abbrev P37a : List Bool := [true, true, false, true]
abbrev S37a (x y : (List VUser)) (i : Int) : St := hdS [(0, slUserS x), (1, slUserS y), (5, nI i)] [] []
abbrev P37b : List Bool := [true, true, false, true, true, true, false, true, true]
abbrev S37b (x y : (List VUser)) (i j : Int) : St := hdS [(0, slUserS x), (1, slUserS y), (5, nI i), (6, nI j)] [] []
abbrev P29 : List Bool := [true, true, false, true]
abbrev S29 (x y : VTokens) (i : Int) : St := hdS [(2, .pb 66 0), (3, .pb 67 0), (5, nI i)] [] [(66, 2, (clTokens x)), (67, 2, (clTokens y))]
abbrev P30 : List Bool := [true, true, false, true]
abbrev S30 (x y : VClock) (i : Int) : St := hdS [(2, .pb 66 0), (3, .pb 67 0), (5, nI i)] [] [(66, 2, (clClock x)), (67, 2, (clClock y))]
abbrev P77a : List Bool := [true, true, false, true]
abbrev S77a (x y : VRing) (i : Int) : St := hdS [(2, .pb 66 0), (3, .pb 67 0), (5, nI i)] [] [(66, 8, (clRing x)), (67, 8, (clRing y))]
abbrev P77b : List Bool := [true, true, true, false, true]
abbrev S77b (x y : VRing) (i : Int) : St := hdS [(2, .pb 66 0), (3, .pb 67 0), (6, nI i)] [] [(66, 8, (clRing x)), (67, 8, (clRing y))]
abbrev P5a : List Bool := [true, true, false, true]
abbrev S5a (x y : VState) (i : Int) : St := hdS [(2, .pb 66 0), (3, .pb 67 0), (5, nI i)] [] [(66, 12, (clState x)), (67, 12, (clState y))]
abbrev P5b : List Bool := [true, true, false, true, true, true, false, true, true, true]
abbrev S5b (x y : VState) (i : Int) (p q : VClient) (j : Int) : St := hdS [(2, .pb 66 0), (3, .pb 67 0), (5, nI i), (6, .pb 70 0), (7, .pb 71 0), (8, nI j)] [] [(66, 12, (clState x)), (67, 12, (clState y)), (70, 3, (clClient p)), (71, 3, (clClient q))]
abbrev P5c : List Bool := [true, true, false, true, true, true, false, false]
abbrev S5c (x y : VState) (i : Int) (p q : VClient) : St := hdS [(2, .pb 66 0), (3, .pb 67 0), (5, nI i), (6, .pb 70 0), (7, .pb 71 0)] [] [(66, 12, (clState x)), (67, 12, (clState y)), (70, 3, (clClient p)), (71, 3, (clClient q))]
abbrev P50 : List Bool := [true, false, true]
abbrev S50 (xs : List Int) (m i : Int) (w w0 : ByteArray) : St := hdS [(0, .pb 0 0), (17, slIntS xs), (18, nI m), (19, nI i)] [(4096000, ⟨w.size, 1, bytG w⟩)] [(0, 1, [.rf 4096000])]
abbrev P54 : List Bool := [true, true]
abbrev S54 (xs : List VTerm) (m i : Int) (w w0 : ByteArray) : St := hdS [(0, .pb 0 0), (11, slTermS xs), (12, nI m), (13, nI i)] [(4096000, ⟨w.size, 1, bytG w⟩)] [(0, 1, [.rf 4096000])]
abbrev P48a : List Bool := [true, true, true, false, true]
abbrev S48a (h : VHub) (xs : List Bool) (m i : Int) (w w0 : ByteArray) : St := hdS [(0, .pb 0 0), (3, .pb 67 0), (32, slBoolS xs), (33, nI m), (34, nI i)] [(4096000, ⟨w.size, 1, bytG w⟩)] [(0, 1, [.rf 4096000]), (67, 11, (clHub h))]
abbrev P48b : List Bool := [true, true, true, true, true, false, true]
abbrev S48b (h : VHub) (xs : List VTimer) (m i : Int) (w w0 : ByteArray) : St := hdS [(0, .pb 0 0), (3, .pb 67 0), (68, slTimerS xs), (69, nI m), (70, nI i)] [(4096000, ⟨w.size, 1, bytG w⟩)] [(0, 1, [.rf 4096000]), (67, 11, (clHub h))]
abbrev P48c : List Bool := [true, true, true, true, true, true, false, true]
abbrev S48c (h : VHub) (xs : List VNotify) (m i : Int) (w w0 : ByteArray) : St := hdS [(0, .pb 0 0), (3, .pb 67 0), (83, slNotifyS xs), (84, nI m), (85, nI i)] [(4096000, ⟨w.size, 1, bytG w⟩)] [(0, 1, [.rf 4096000]), (67, 11, (clHub h))]
abbrev P48d : List Bool := [true, true, true, true, true, true, false, true, true, true, true, false, true, true, true, true]
abbrev S48d (h : VHub) (xs : List VNotify) (m i : Int) (ys : List VGrant) (n j : Int) (w w0 : ByteArray) : St := hdS [(0, .pb 0 0), (3, .pb 67 0), (83, slNotifyS xs), (84, nI m), (85, nI i), (109, slGrantS ys), (110, nI n), (111, nI j)] [(4096000, ⟨w.size, 1, bytG w⟩)] [(0, 1, [.rf 4096000]), (67, 11, (clHub h))]
abbrev P48e : List Bool := [true, true, true, true, true, true, true, false, true]
abbrev S48e (h : VHub) (xs : List VEvent) (m i : Int) (w w0 : ByteArray) : St := hdS [(0, .pb 0 0), (3, .pb 67 0), (126, slEventS xs), (127, nI m), (128, nI i)] [(4096000, ⟨w.size, 1, bytG w⟩)] [(0, 1, [.rf 4096000]), (67, 11, (clHub h))]
abbrev P48f : List Bool := [true, true, true, true, true, true, true, true, false, true]
abbrev S48f (h : VHub) (xs : List VLatch) (m i : Int) (w w0 : ByteArray) : St := hdS [(0, .pb 0 0), (3, .pb 67 0), (157, slLatchS xs), (158, nI m), (159, nI i)] [(4096000, ⟨w.size, 1, bytG w⟩)] [(0, 1, [.rf 4096000]), (67, 11, (clHub h))]
abbrev P48g : List Bool := [true, true, true, true, true, true, true, true, true, true]
abbrev S48g (xs : List VCell) (m i : Int) (w w0 : ByteArray) : St := hdS [(0, .pb 0 0), (178, slCellS xs), (179, nI m), (180, nI i)] [(4096000, ⟨w.size, 1, bytG w⟩)] [(0, 1, [.rf 4096000])]
abbrev P49a : List Bool := [true, true, false, true]
abbrev S49a (h : VHub) (xs : List VTopic) (m i : Int) (w w0 : ByteArray) : St := hdS [(0, .pb 0 0), (3, .pb 67 0), (25, slTopicS xs), (26, nI m), (27, nI i)] [(4096000, ⟨w.size, 1, bytG w⟩)] [(0, 1, [.rf 4096000]), (67, 11, (clHub h))]
abbrev P49b : List Bool := [true, true, false, true, true, true, true, false, true, true, true, true, false, true]
abbrev S49b (h : VHub) (r : VRing) (xs : List VTopic) (m i : Int) (ys : List VMsg) (n j : Int) (w w0 : ByteArray) : St := hdS [(0, .pb 0 0), (3, .pb 67 0), (6, .pb 70 0), (25, slTopicS xs), (26, nI m), (27, nI i), (56, slMsgS ys), (57, nI n), (58, nI j)] [(4096000, ⟨w.size, 1, bytG w⟩)] [(0, 1, [.rf 4096000]), (67, 11, (clHub h)), (70, 8, (clRing r))]
abbrev P49c : List Bool := [true, true, false, true, true, true, true, false, true, true, true, true, true, false, true]
abbrev S49c (h : VHub) (r : VRing) (xs : List VTopic) (m i : Int) (ys : List VSub) (n j : Int) (w w0 : ByteArray) : St := hdS [(0, .pb 0 0), (3, .pb 67 0), (6, .pb 70 0), (25, slTopicS xs), (26, nI m), (27, nI i), (67, slSubS ys), (68, nI n), (69, nI j)] [(4096000, ⟨w.size, 1, bytG w⟩)] [(0, 1, [.rf 4096000]), (67, 11, (clHub h)), (70, 8, (clRing r))]
abbrev P49d : List Bool := [true, true, true, true]
abbrev S49d (xs : List VMerge) (m i : Int) (w w0 : ByteArray) : St := hdS [(0, .pb 0 0), (103, slMergeS xs), (104, nI m), (105, nI i)] [(4096000, ⟨w.size, 1, bytG w⟩)] [(0, 1, [.rf 4096000])]
abbrev P49e : List Bool := [true, true, true, true, true, true, true, false, true, true, true]
abbrev S49e (xs : List VMerge) (m i : Int) (ys : List VLeg) (n j : Int) (w w0 : ByteArray) : St := hdS [(0, .pb 0 0), (103, slMergeS xs), (104, nI m), (105, nI i), (120, slLegS ys), (121, nI n), (122, nI j)] [(4096000, ⟨w.size, 1, bytG w⟩)] [(0, 1, [.rf 4096000])]
abbrev P15a : List Bool := [true, true, true, true, true, false, true]
abbrev S15a (s : VState) (xs : List VUser) (m i : Int) (w : ByteArray) : St := hdS [(1, .pb 65 0), (3, .pb 77 0), (34, slUserS xs), (35, nI m), (36, nI i)] [(4096000, ⟨w.size, 1, bytG w⟩)] [(65, 12, (clState s)), (77, 1, [.rf 4096000])]
abbrev P15b : List Bool := [true, true, true, true, true, false, true, true, true, true, false, true, true, false, true]
abbrev S15b (s : VState) (u : VUser) (xs : List VUser) (m i : Int) (ys : List VHit) (n j : Int) (w : ByteArray) : St := hdS [(1, .pb 65 0), (3, .pb 77 0), (5, .pb 69 0), (34, slUserS xs), (35, nI m), (36, nI i), (47, slHitS ys), (48, nI n), (49, nI j)] [(4096000, ⟨w.size, 1, bytG w⟩)] [(65, 12, (clState s)), (69, 2, (clUser u)), (77, 1, [.rf 4096000])]
abbrev P15c : List Bool := [true, true, true, true, true, true, false, true]
abbrev S15c (xs : List VClient) (m i : Int) (w : ByteArray) : St := hdS [(3, .pb 77 0), (67, slClientS xs), (68, nI m), (69, nI i)] [(4096000, ⟨w.size, 1, bytG w⟩)] [(77, 1, [.rf 4096000])]
abbrev P15d : List Bool := [true, true, true, true, true, true, false, true, true, true, true, false, true, true, true]
abbrev S15d (xs : List VClient) (m i : Int) (ys : List VCall) (n j : Int) (w : ByteArray) : St := hdS [(3, .pb 77 0), (67, slClientS xs), (68, nI m), (69, nI i), (85, slCallS ys), (86, nI n), (87, nI j)] [(4096000, ⟨w.size, 1, bytG w⟩)] [(77, 1, [.rf 4096000])]
end Go.Fw
