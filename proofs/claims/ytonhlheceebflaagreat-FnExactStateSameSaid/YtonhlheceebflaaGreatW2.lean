/- What the program writes of a state; unlike states are written otherwise. No program in sight. -/
import Derived.Test.YtonhlheceebflaaGreatW1
set_option linter.unusedVariables false
set_option linter.unusedSimpArgs false
namespace Go.Fw
open Go.Proofs
def bN (b : Bool) : Int := bif b then 1 else 0
theorem bN_inj (a b : Bool) : (bN a = bN b) = (a = b) := by cases a <;> cases b <;> simp [bN]
theorem natI (a b : Nat) : ((a : Int) = (b : Int)) = (a = b) := propext Int.ofNat_inj
def wMsg (x : VMsg) : ByteArray := wN [x.Kind, x.Num] ++ wT x.Text
theorem PF_Msg : PF wMsg := by
  intro x y r s h
  unfold wMsg at h
  simp only [dl_app, List.append_assoc] at h
  obtain ⟨h1, h⟩ := PF_N _ _ _ _ h
  simp only [List.cons.injEq, and_true, bN_inj, natI] at h1
  obtain ⟨q1_0, q1_1⟩ := h1
  obtain ⟨h2, h⟩ := PF_T _ _ _ _ h
  refine ⟨?_, h⟩
  obtain ⟨⟩ := x; obtain ⟨⟩ := y
  simp_all
def wTerm (x : VTerm) : ByteArray := wN [x.Op, x.Num] ++ wT x.Text
theorem PF_Term : PF wTerm := by
  intro x y r s h
  unfold wTerm at h
  simp only [dl_app, List.append_assoc] at h
  obtain ⟨h1, h⟩ := PF_N _ _ _ _ h
  simp only [List.cons.injEq, and_true, bN_inj, natI] at h1
  obtain ⟨q1_0, q1_1⟩ := h1
  obtain ⟨h2, h⟩ := PF_T _ _ _ _ h
  refine ⟨?_, h⟩
  obtain ⟨⟩ := x; obtain ⟨⟩ := y
  simp_all
def wF (ts : List VTerm) : ByteArray := wN [(ts.length : Int)] ++ wL wTerm ts
theorem PF_F : PF wF := by
  intro x y r s h
  unfold wF at h
  simp only [dl_app, List.append_assoc] at h
  obtain ⟨h1, h⟩ := PF_N _ _ _ _ h
  simp only [List.cons.injEq, and_true, natI] at h1
  exact PFL PF_Term _ _ _ _ h1 h
def wBool (x : Bool) : ByteArray := wN [bN x]
theorem PF_Bool : PF wBool := by
  intro x y r s h
  unfold wBool at h
  obtain ⟨h1, h⟩ := PF_N _ _ _ _ h
  simp only [List.cons.injEq, and_true, bN_inj, natI] at h1
  have q1_0 := h1
  refine ⟨?_, h⟩
  assumption
def wTimer (x : VTimer) : ByteArray := wN [x.At, x.Token]
theorem PF_Timer : PF wTimer := by
  intro x y r s h
  unfold wTimer at h
  obtain ⟨h1, h⟩ := PF_N _ _ _ _ h
  simp only [List.cons.injEq, and_true, bN_inj, natI] at h1
  obtain ⟨q1_0, q1_1⟩ := h1
  refine ⟨?_, h⟩
  obtain ⟨⟩ := x; obtain ⟨⟩ := y
  simp_all
def wGrant (x : VGrant) : ByteArray := wN [x.Who, bN x.One]
theorem PF_Grant : PF wGrant := by
  intro x y r s h
  unfold wGrant at h
  obtain ⟨h1, h⟩ := PF_N _ _ _ _ h
  simp only [List.cons.injEq, and_true, bN_inj, natI] at h1
  obtain ⟨q1_0, q1_1⟩ := h1
  refine ⟨?_, h⟩
  obtain ⟨⟩ := x; obtain ⟨⟩ := y
  simp_all
def wNote (x : VNotify) : ByteArray := wN [bN x.Permit, x.Ones, x.Spilt, x.Taken, (x.Grants.length : Int)] ++ wN x.Line ++ wL wGrant x.Grants
theorem PF_Note : PF wNote := by
  intro x y r s h
  unfold wNote at h
  simp only [dl_app, List.append_assoc] at h
  obtain ⟨h1, h⟩ := PF_N _ _ _ _ h
  simp only [List.cons.injEq, and_true, bN_inj, natI] at h1
  obtain ⟨q1_0, q1_1, q1_2, q1_3, q1_4⟩ := h1
  obtain ⟨h2, h⟩ := PF_N _ _ _ _ h
  obtain ⟨h3, h⟩ := PFL PF_Grant _ _ _ _ q1_4 h
  refine ⟨?_, h⟩
  obtain ⟨⟩ := x; obtain ⟨⟩ := y
  simp_all
def wEvent (x : VEvent) : ByteArray := wN [bN x.Auto, bN x.Up, x.Sets, x.Spilt, x.Taken] ++ wN x.Line ++ wN x.Grants
theorem PF_Event : PF wEvent := by
  intro x y r s h
  unfold wEvent at h
  simp only [dl_app, List.append_assoc] at h
  obtain ⟨h1, h⟩ := PF_N _ _ _ _ h
  simp only [List.cons.injEq, and_true, bN_inj, natI] at h1
  obtain ⟨q1_0, q1_1, q1_2, q1_3, q1_4⟩ := h1
  obtain ⟨h2, h⟩ := PF_N _ _ _ _ h
  obtain ⟨h3, h⟩ := PF_N _ _ _ _ h
  refine ⟨?_, h⟩
  obtain ⟨⟩ := x; obtain ⟨⟩ := y
  simp_all
def wLatch (x : VLatch) : ByteArray := wN [x.Count] ++ wN x.Line ++ wN x.Grants
theorem PF_Latch : PF wLatch := by
  intro x y r s h
  unfold wLatch at h
  simp only [dl_app, List.append_assoc] at h
  obtain ⟨h1, h⟩ := PF_N _ _ _ _ h
  simp only [List.cons.injEq, and_true, bN_inj, natI] at h1
  have q1_0 := h1
  obtain ⟨h2, h⟩ := PF_N _ _ _ _ h
  obtain ⟨h3, h⟩ := PF_N _ _ _ _ h
  refine ⟨?_, h⟩
  obtain ⟨⟩ := x; obtain ⟨⟩ := y
  simp_all
def wCell (x : VCell) : ByteArray := wMsg x.Val ++ wN [x.Version, bN x.Closed] ++ wN x.Line ++ wN x.Grants
theorem PF_Cell : PF wCell := by
  intro x y r s h
  unfold wCell at h
  simp only [dl_app, List.append_assoc] at h
  obtain ⟨h1, h⟩ := PF_Msg _ _ _ _ h
  obtain ⟨h2, h⟩ := PF_N _ _ _ _ h
  simp only [List.cons.injEq, and_true, bN_inj, natI] at h2
  obtain ⟨q2_0, q2_1⟩ := h2
  obtain ⟨h3, h⟩ := PF_N _ _ _ _ h
  obtain ⟨h4, h⟩ := PF_N _ _ _ _ h
  refine ⟨?_, h⟩
  obtain ⟨⟩ := x; obtain ⟨⟩ := y
  simp_all
def wSub (x : VSub) : ByteArray := wN [x.Id, x.Start, x.Cursor, x.Got, x.Lost, x.Passed] ++ wF x.Filter
theorem PF_Sub : PF wSub := by
  intro x y r s h
  unfold wSub at h
  simp only [dl_app, List.append_assoc] at h
  obtain ⟨h1, h⟩ := PF_N _ _ _ _ h
  simp only [List.cons.injEq, and_true, bN_inj, natI] at h1
  obtain ⟨q1_0, q1_1, q1_2, q1_3, q1_4, q1_5⟩ := h1
  obtain ⟨h2, h⟩ := PF_F _ _ _ _ h
  refine ⟨?_, h⟩
  obtain ⟨⟩ := x; obtain ⟨⟩ := y
  simp_all
def wTopic (x : VTopic) : ByteArray := wT x.Name ++ wN [x.Ring.Cap, x.Ring.Sent, x.Ring.Next, bN x.Ring.Closed, (x.Ring.Items.length : Int), (x.Ring.Subs.length : Int)] ++ wL wMsg x.Ring.Items ++ wL wSub x.Ring.Subs ++ wN x.Ring.Line ++ wN x.Ring.Grants
theorem PF_Topic : PF wTopic := by
  intro x y r s h
  unfold wTopic at h
  simp only [dl_app, List.append_assoc] at h
  obtain ⟨h1, h⟩ := PF_T _ _ _ _ h
  obtain ⟨h2, h⟩ := PF_N _ _ _ _ h
  simp only [List.cons.injEq, and_true, bN_inj, natI] at h2
  obtain ⟨q2_0, q2_1, q2_2, q2_3, q2_4, q2_5⟩ := h2
  obtain ⟨h3, h⟩ := PFL PF_Msg _ _ _ _ q2_4 h
  obtain ⟨h4, h⟩ := PFL PF_Sub _ _ _ _ q2_5 h
  obtain ⟨h5, h⟩ := PF_N _ _ _ _ h
  obtain ⟨h6, h⟩ := PF_N _ _ _ _ h
  refine ⟨?_, h⟩
  obtain ⟨xn, xr⟩ := x; obtain ⟨yn, yr⟩ := y; obtain ⟨⟩ := xr; obtain ⟨⟩ := yr
  simp_all
def wLeg (x : VLeg) : ByteArray := wN [x.Topic, x.Id, x.Lost, bN x.Over]
theorem PF_Leg : PF wLeg := by
  intro x y r s h
  unfold wLeg at h
  obtain ⟨h1, h⟩ := PF_N _ _ _ _ h
  simp only [List.cons.injEq, and_true, bN_inj, natI] at h1
  obtain ⟨q1_0, q1_1, q1_2, q1_3⟩ := h1
  refine ⟨?_, h⟩
  obtain ⟨⟩ := x; obtain ⟨⟩ := y
  simp_all
def wMerge (x : VMerge) : ByteArray := wN [x.Into, x.Moved, (x.Legs.length : Int)] ++ wL wLeg x.Legs
theorem PF_Merge : PF wMerge := by
  intro x y r s h
  unfold wMerge at h
  simp only [dl_app, List.append_assoc] at h
  obtain ⟨h1, h⟩ := PF_N _ _ _ _ h
  simp only [List.cons.injEq, and_true, bN_inj, natI] at h1
  obtain ⟨q1_0, q1_1, q1_2⟩ := h1
  obtain ⟨h2, h⟩ := PFL PF_Leg _ _ _ _ q1_2 h
  refine ⟨?_, h⟩
  obtain ⟨⟩ := x; obtain ⟨⟩ := y
  simp_all
def wHit (x : VHit) : ByteArray := wN [x.Topic, x.Id]
theorem PF_Hit : PF wHit := by
  intro x y r s h
  unfold wHit at h
  obtain ⟨h1, h⟩ := PF_N _ _ _ _ h
  simp only [List.cons.injEq, and_true, bN_inj, natI] at h1
  obtain ⟨q1_0, q1_1⟩ := h1
  refine ⟨?_, h⟩
  obtain ⟨⟩ := x; obtain ⟨⟩ := y
  simp_all
def wUser (x : VUser) : ByteArray := wN [(x.Subs.length : Int)] ++ wL wHit x.Subs ++ wN x.Seen
theorem PF_User : PF wUser := by
  intro x y r s h
  unfold wUser at h
  simp only [dl_app, List.append_assoc] at h
  obtain ⟨h1, h⟩ := PF_N _ _ _ _ h
  simp only [List.cons.injEq, and_true, bN_inj, natI] at h1
  have q1_0 := h1
  obtain ⟨h2, h⟩ := PFL PF_Hit _ _ _ _ q1_0 h
  obtain ⟨h3, h⟩ := PF_N _ _ _ _ h
  refine ⟨?_, h⟩
  obtain ⟨⟩ := x; obtain ⟨⟩ := y
  simp_all
def wCall (x : VCall) : ByteArray := wN [x.Op, x.A, x.B, x.Tok] ++ wT x.Name ++ wMsg x.Msg ++ wF x.Filter
theorem PF_Call : PF wCall := by
  intro x y r s h
  unfold wCall at h
  simp only [dl_app, List.append_assoc] at h
  obtain ⟨h1, h⟩ := PF_N _ _ _ _ h
  simp only [List.cons.injEq, and_true, bN_inj, natI] at h1
  obtain ⟨q1_0, q1_1, q1_2, q1_3⟩ := h1
  obtain ⟨h2, h⟩ := PF_T _ _ _ _ h
  obtain ⟨h3, h⟩ := PF_Msg _ _ _ _ h
  obtain ⟨h4, h⟩ := PF_F _ _ _ _ h
  refine ⟨?_, h⟩
  obtain ⟨⟩ := x; obtain ⟨⟩ := y
  simp_all
def wClient (x : VClient) : ByteArray := wN [x.At, bN x.Waiting, (x.Prog.length : Int)] ++ wL wCall x.Prog
theorem PF_Client : PF wClient := by
  intro x y r s h
  unfold wClient at h
  simp only [dl_app, List.append_assoc] at h
  obtain ⟨h1, h⟩ := PF_N _ _ _ _ h
  simp only [List.cons.injEq, and_true, bN_inj, natI] at h1
  obtain ⟨q1_0, q1_1, q1_2⟩ := h1
  obtain ⟨h2, h⟩ := PFL PF_Call _ _ _ _ q1_2 h
  refine ⟨?_, h⟩
  obtain ⟨⟩ := x; obtain ⟨⟩ := y
  simp_all
def wWaits (x : VHub) : ByteArray := wN x.Tokens.Parents ++ wN [(x.Tokens.Off.length : Int)] ++ wL wBool x.Tokens.Off ++ wN [x.Clock.Now, (x.Clock.Timers.length : Int), (x.Notes.length : Int), (x.Events.length : Int), (x.Latches.length : Int), (x.Cells.length : Int)] ++ wL wTimer x.Clock.Timers ++ wL wNote x.Notes ++ wL wEvent x.Events ++ wL wLatch x.Latches ++ wL wCell x.Cells
def wStreams (x : VHub) : ByteArray := wN [(x.Topics.length : Int), (x.Merges.length : Int)] ++ wL wTopic x.Topics ++ wL wMerge x.Merges
def wState (x : VState) : ByteArray := wWaits x.Hub ++ wStreams x.Hub ++ wN [(x.Hub.Users.length : Int), (x.Clients.length : Int)] ++ wL wUser x.Hub.Users ++ wL wClient x.Clients
theorem wState_inj {x y : VState} (h : wState x = wState y) : x = y := by
  have h := congrArg (fun b => dl b ++ []) h
  simp only [wState, wWaits, wStreams, dl_app, List.append_assoc] at h
  obtain ⟨h1, h⟩ := PF_N _ _ _ _ h
  obtain ⟨h2, h⟩ := PF_N _ _ _ _ h
  simp only [List.cons.injEq, and_true, bN_inj, natI] at h2
  have q2_0 := h2
  obtain ⟨h3, h⟩ := PFL PF_Bool _ _ _ _ q2_0 h
  obtain ⟨h4, h⟩ := PF_N _ _ _ _ h
  simp only [List.cons.injEq, and_true, bN_inj, natI] at h4
  obtain ⟨q4_0, q4_1, q4_2, q4_3, q4_4, q4_5⟩ := h4
  obtain ⟨h5, h⟩ := PFL PF_Timer _ _ _ _ q4_1 h
  obtain ⟨h6, h⟩ := PFL PF_Note _ _ _ _ q4_2 h
  obtain ⟨h7, h⟩ := PFL PF_Event _ _ _ _ q4_3 h
  obtain ⟨h8, h⟩ := PFL PF_Latch _ _ _ _ q4_4 h
  obtain ⟨h9, h⟩ := PFL PF_Cell _ _ _ _ q4_5 h
  obtain ⟨h10, h⟩ := PF_N _ _ _ _ h
  simp only [List.cons.injEq, and_true, bN_inj, natI] at h10
  obtain ⟨q10_0, q10_1⟩ := h10
  obtain ⟨h11, h⟩ := PFL PF_Topic _ _ _ _ q10_0 h
  obtain ⟨h12, h⟩ := PFL PF_Merge _ _ _ _ q10_1 h
  obtain ⟨h13, h⟩ := PF_N _ _ _ _ h
  simp only [List.cons.injEq, and_true, bN_inj, natI] at h13
  obtain ⟨q13_0, q13_1⟩ := h13
  obtain ⟨h14, h⟩ := PFL PF_User _ _ _ _ q13_0 h
  obtain ⟨h15, h⟩ := PFL PF_Client _ _ _ _ q13_1 h
  obtain ⟨xh, xc⟩ := x; obtain ⟨yh, yc⟩ := y
  obtain ⟨xt, xk, x1, x2, x3, x4, x5, x6, x7⟩ := xh; obtain ⟨yt, yk, y1, y2, y3, y4, y5, y6, y7⟩ := yh
  obtain ⟨⟩ := xt; obtain ⟨⟩ := yt; obtain ⟨⟩ := xk; obtain ⟨⟩ := yk
  simp_all
end Go.Fw
