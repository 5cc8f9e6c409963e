/- What the opening of arguments tells: sizes, and that whole numbers are of 64 bits. -/
import Derived.Test.YtndmnbgcneaggaaGreatDoorV0
set_option linter.unusedVariables false
namespace Go.Fw
open Go.Proofs
abbrev i64R (n : Int) : Prop := -9223372036854775808 ≤ n ∧ n ≤ 9223372036854775807
theorem wf_rng {n : Int} (h : (Lit.int .i64 n).wf = true) : i64R n := by
 simpa [Lit.wf, IntKind.min, IntKind.max, IntKind.signed, IntKind.bits] using h
def arIntS (xs : List Int) : Prop := xs.length ≤ 9223372036854775807 ∧ ∀ x ∈ xs, i64R x
theorem ok_IntS {xs : List Int} (h : arIntS xs) : okIntS xs := ⟨h.1, fun x hx => trivial⟩
def arBoolS (xs : List Bool) : Prop := xs.length ≤ 9223372036854775807 ∧ ∀ x ∈ xs, True
theorem ok_BoolS {xs : List Bool} (h : arBoolS xs) : okBoolS xs := ⟨h.1, fun x hx => trivial⟩
def arTokens (x : VTokens) : Prop := arIntS x.Parents ∧ arBoolS x.Off
theorem ok_Tokens {x : VTokens} (h : arTokens x) : okTokens x := ⟨ok_IntS (h.1), ok_BoolS (h.2)⟩
def arTimer (x : VTimer) : Prop := i64R x.At ∧ i64R x.Token
def arTimerS (xs : List VTimer) : Prop := xs.length ≤ 9223372036854775807 ∧ ∀ x ∈ xs, arTimer x
theorem ok_TimerS {xs : List VTimer} (h : arTimerS xs) : okTimerS xs := ⟨h.1, fun x hx => trivial⟩
def arClock (x : VClock) : Prop := i64R x.Now ∧ arTimerS x.Timers
theorem ok_Clock {x : VClock} (h : arClock x) : okClock x := ok_TimerS (h.2)
def arGrant (x : VGrant) : Prop := i64R x.Who
def arGrantS (xs : List VGrant) : Prop := xs.length ≤ 9223372036854775807 ∧ ∀ x ∈ xs, arGrant x
theorem ok_GrantS {xs : List VGrant} (h : arGrantS xs) : okGrantS xs := ⟨h.1, fun x hx => trivial⟩
def arNotify (x : VNotify) : Prop := arIntS x.Line ∧ arGrantS x.Grants ∧ i64R x.Ones ∧ i64R x.Spilt ∧ i64R x.Taken
theorem ok_Notify {x : VNotify} (h : arNotify x) : okNotify x := ⟨ok_IntS (h.1), ok_GrantS (h.2.1)⟩
def arNotifyS (xs : List VNotify) : Prop := xs.length ≤ 9223372036854775807 ∧ ∀ x ∈ xs, arNotify x
theorem ok_NotifyS {xs : List VNotify} (h : arNotifyS xs) : okNotifyS xs := ⟨h.1, fun x hx => ok_Notify (h.2 x hx)⟩
def arEvent (x : VEvent) : Prop := arIntS x.Line ∧ arIntS x.Grants ∧ i64R x.Sets ∧ i64R x.Spilt ∧ i64R x.Taken
theorem ok_Event {x : VEvent} (h : arEvent x) : okEvent x := ⟨ok_IntS (h.1), ok_IntS (h.2.1)⟩
def arEventS (xs : List VEvent) : Prop := xs.length ≤ 9223372036854775807 ∧ ∀ x ∈ xs, arEvent x
theorem ok_EventS {xs : List VEvent} (h : arEventS xs) : okEventS xs := ⟨h.1, fun x hx => ok_Event (h.2 x hx)⟩
def arLatch (x : VLatch) : Prop := i64R x.Count ∧ arIntS x.Line ∧ arIntS x.Grants
theorem ok_Latch {x : VLatch} (h : arLatch x) : okLatch x := ⟨ok_IntS (h.2.1), ok_IntS (h.2.2)⟩
def arLatchS (xs : List VLatch) : Prop := xs.length ≤ 9223372036854775807 ∧ ∀ x ∈ xs, arLatch x
theorem ok_LatchS {xs : List VLatch} (h : arLatchS xs) : okLatchS xs := ⟨h.1, fun x hx => ok_Latch (h.2 x hx)⟩
def arMsg (x : VMsg) : Prop := i64R x.Kind ∧ i64R x.Num ∧ x.Text.size ≤ 9223372036854775807
theorem ok_Msg {x : VMsg} (h : arMsg x) : okMsg x := h.2.2
def arMsgS (xs : List VMsg) : Prop := xs.length ≤ 9223372036854775807 ∧ ∀ x ∈ xs, arMsg x
theorem ok_MsgS {xs : List VMsg} (h : arMsgS xs) : okMsgS xs := ⟨h.1, fun x hx => ok_Msg (h.2 x hx)⟩
def arCell (x : VCell) : Prop := arMsg x.Val ∧ i64R x.Version ∧ arIntS x.Line ∧ arIntS x.Grants
theorem ok_Cell {x : VCell} (h : arCell x) : okCell x := ⟨ok_Msg (h.1), ok_IntS (h.2.2.1), ok_IntS (h.2.2.2)⟩
def arCellS (xs : List VCell) : Prop := xs.length ≤ 9223372036854775807 ∧ ∀ x ∈ xs, arCell x
theorem ok_CellS {xs : List VCell} (h : arCellS xs) : okCellS xs := ⟨h.1, fun x hx => ok_Cell (h.2 x hx)⟩
def arTerm (x : VTerm) : Prop := i64R x.Op ∧ i64R x.Num ∧ x.Text.size ≤ 9223372036854775807
theorem ok_Term {x : VTerm} (h : arTerm x) : okTerm x := h.2.2
def arTermS (xs : List VTerm) : Prop := xs.length ≤ 9223372036854775807 ∧ ∀ x ∈ xs, arTerm x
theorem ok_TermS {xs : List VTerm} (h : arTermS xs) : okTermS xs := ⟨h.1, fun x hx => ok_Term (h.2 x hx)⟩
def arSub (x : VSub) : Prop := i64R x.Id ∧ i64R x.Start ∧ i64R x.Cursor ∧ i64R x.Got ∧ i64R x.Lost ∧ i64R x.Passed ∧ arTermS x.Filter
theorem ok_Sub {x : VSub} (h : arSub x) : okSub x := ok_TermS (h.2.2.2.2.2.2)
def arSubS (xs : List VSub) : Prop := xs.length ≤ 9223372036854775807 ∧ ∀ x ∈ xs, arSub x
theorem ok_SubS {xs : List VSub} (h : arSubS xs) : okSubS xs := ⟨h.1, fun x hx => ok_Sub (h.2 x hx)⟩
def arRing (x : VRing) : Prop := i64R x.Cap ∧ i64R x.Sent ∧ arMsgS x.Items ∧ i64R x.Next ∧ arSubS x.Subs ∧ arIntS x.Line ∧ arIntS x.Grants
theorem ok_Ring {x : VRing} (h : arRing x) : okRing x := ⟨ok_MsgS (h.2.2.1), ok_SubS (h.2.2.2.2.1), ok_IntS (h.2.2.2.2.2.1), ok_IntS (h.2.2.2.2.2.2)⟩
def arTopic (x : VTopic) : Prop := x.Name.size ≤ 9223372036854775807 ∧ arRing x.Ring
theorem ok_Topic {x : VTopic} (h : arTopic x) : okTopic x := ⟨h.1, ok_Ring (h.2)⟩
def arTopicS (xs : List VTopic) : Prop := xs.length ≤ 9223372036854775807 ∧ ∀ x ∈ xs, arTopic x
theorem ok_TopicS {xs : List VTopic} (h : arTopicS xs) : okTopicS xs := ⟨h.1, fun x hx => ok_Topic (h.2 x hx)⟩
def arLeg (x : VLeg) : Prop := i64R x.Topic ∧ i64R x.Id ∧ i64R x.Lost
def arLegS (xs : List VLeg) : Prop := xs.length ≤ 9223372036854775807 ∧ ∀ x ∈ xs, arLeg x
theorem ok_LegS {xs : List VLeg} (h : arLegS xs) : okLegS xs := ⟨h.1, fun x hx => trivial⟩
def arMerge (x : VMerge) : Prop := arLegS x.Legs ∧ i64R x.Into ∧ i64R x.Moved
theorem ok_Merge {x : VMerge} (h : arMerge x) : okMerge x := ok_LegS (h.1)
def arMergeS (xs : List VMerge) : Prop := xs.length ≤ 9223372036854775807 ∧ ∀ x ∈ xs, arMerge x
theorem ok_MergeS {xs : List VMerge} (h : arMergeS xs) : okMergeS xs := ⟨h.1, fun x hx => ok_Merge (h.2 x hx)⟩
def arHit (x : VHit) : Prop := i64R x.Topic ∧ i64R x.Id
def arHitS (xs : List VHit) : Prop := xs.length ≤ 9223372036854775807 ∧ ∀ x ∈ xs, arHit x
theorem ok_HitS {xs : List VHit} (h : arHitS xs) : okHitS xs := ⟨h.1, fun x hx => trivial⟩
def arUser (x : VUser) : Prop := arHitS x.Subs ∧ arIntS x.Seen
theorem ok_User {x : VUser} (h : arUser x) : okUser x := ⟨ok_HitS (h.1), ok_IntS (h.2)⟩
def arUserS (xs : List VUser) : Prop := xs.length ≤ 9223372036854775807 ∧ ∀ x ∈ xs, arUser x
theorem ok_UserS {xs : List VUser} (h : arUserS xs) : okUserS xs := ⟨h.1, fun x hx => ok_User (h.2 x hx)⟩
def arHub (x : VHub) : Prop := arTokens x.Tokens ∧ arClock x.Clock ∧ arNotifyS x.Notes ∧ arEventS x.Events ∧ arLatchS x.Latches ∧ arCellS x.Cells ∧ arTopicS x.Topics ∧ arMergeS x.Merges ∧ arUserS x.Users
theorem ok_Hub {x : VHub} (h : arHub x) : okHub x := ⟨ok_Tokens (h.1), ok_Clock (h.2.1), ok_NotifyS (h.2.2.1), ok_EventS (h.2.2.2.1), ok_LatchS (h.2.2.2.2.1), ok_CellS (h.2.2.2.2.2.1), ok_TopicS (h.2.2.2.2.2.2.1), ok_MergeS (h.2.2.2.2.2.2.2.1), ok_UserS (h.2.2.2.2.2.2.2.2)⟩
def arCall (x : VCall) : Prop := i64R x.Op ∧ i64R x.A ∧ i64R x.B ∧ i64R x.Tok ∧ x.Name.size ≤ 9223372036854775807 ∧ arMsg x.Msg ∧ arTermS x.Filter
theorem ok_Call {x : VCall} (h : arCall x) : okCall x := ⟨h.2.2.2.2.1, ok_Msg (h.2.2.2.2.2.1), ok_TermS (h.2.2.2.2.2.2)⟩
def arCallS (xs : List VCall) : Prop := xs.length ≤ 9223372036854775807 ∧ ∀ x ∈ xs, arCall x
theorem ok_CallS {xs : List VCall} (h : arCallS xs) : okCallS xs := ⟨h.1, fun x hx => ok_Call (h.2 x hx)⟩
def arClient (x : VClient) : Prop := arCallS x.Prog ∧ i64R x.At
theorem ok_Client {x : VClient} (h : arClient x) : okClient x := ok_CallS (h.1)
def arClientS (xs : List VClient) : Prop := xs.length ≤ 9223372036854775807 ∧ ∀ x ∈ xs, arClient x
theorem ok_ClientS {xs : List VClient} (h : arClientS xs) : okClientS xs := ⟨h.1, fun x hx => ok_Client (h.2 x hx)⟩
def arState (x : VState) : Prop := arHub x.Hub ∧ arClientS x.Clients
theorem ok_State {x : VState} (h : arState x) : okState x := ⟨ok_Hub (h.1), ok_ClientS (h.2)⟩
end Go.Fw
