/- Values: what the program writes of a state. -/
import Derived.Test.YtonhlheceebflaaGreatW6
set_option linter.unusedVariables false
set_option linter.unusedSimpArgs false
namespace Go.Fw
open Go.Proofs
theorem u_listK {α : Type} {f : Nat} {exts : List AV} {p : List Bool} {r : AV × List AV} (d : α) (wf : α → ByteArray) (hf : ∀ x, 1 ≤ (wf x).size) (xs : List α) (S : Int → ByteArray → St)
    (step : ∀ (i : Nat) (w : ByteArray) (r : AV × List AV), i < xs.length → xs.length ≤ 4294967296 → (w ++ wf (xs.getD i d)).size ≤ 4294967296 → L f exts p (S ((i + 1 : Nat) : Int) (w ++ wf (xs.getD i d))) = some r → L f exts p (S (i : Int) w) = some r)
    (w : ByteArray) (hs : (w ++ wL wf xs).size ≤ 4294967296) (fin : L f exts p (S (xs.length : Int) (w ++ wL wf xs)) = some r) : L f exts p (S ((0 : Nat) : Int) w) = some r := by
  have key : ∀ (k i : Nat) (w : ByteArray), i + k = xs.length → xs.length ≤ 4294967296 → (w ++ wL wf (xs.drop i)).size ≤ 4294967296 → L f exts p (S (xs.length : Int) (w ++ wL wf (xs.drop i))) = some r → L f exts p (S (i : Int) w) = some r := by
    intro k
    induction k with
    | zero =>
      intro i w h hl hs hf
      rw [List.drop_eq_nil_of_le (by omega)] at hf
      have e0 : w ++ wL wf [] = w := by show w ++ ByteArray.empty = _; simp
      rw [e0] at hf
      have : i = xs.length := by omega
      subst this; exact hf
    | succ k ih =>
      intro i w h hl hs hf
      have hi2 : i < xs.length := by omega
      rw [drop_getD (d := d) hi2] at hs hf
      have e0 : w ++ wL wf (xs.getD i d :: xs.drop (i + 1)) = w ++ wf (xs.getD i d) ++ wL wf (xs.drop (i + 1)) := by
        show w ++ (wf (xs.getD i d) ++ wL wf (xs.drop (i + 1))) = _
        rw [ByteArray.append_assoc]
      rw [e0] at hs hf
      exact step i w r hi2 hl (by rw [ByteArray.size_append] at hs; omega) (ih (i + 1) _ (by omega) hl hs hf)
  have hl := wL_len hf xs
  have hs' := hs
  rw [ByteArray.size_append] at hs'
  exact key xs.length 0 w (by omega) (by omega) hs fin
theorem wT_pos (s : ByteArray) : 1 ≤ (wT s).size := by unfold wT; have := wN_pos [(s.size : Int)]; rw [ByteArray.size_append]; omega
theorem pos_Msg (x : VMsg) : 1 ≤ (wMsg x).size := by unfold wMsg; have := wN_pos [x.Kind, x.Num]; simp only [ByteArray.size_append]; omega
theorem pos_Term (x : VTerm) : 1 ≤ (wTerm x).size := by unfold wTerm; have := wN_pos [x.Op, x.Num]; simp only [ByteArray.size_append]; omega
theorem pos_Bool (x : Bool) : 1 ≤ (wBool x).size := by unfold wBool; exact wN_pos _
theorem pos_Timer (x : VTimer) : 1 ≤ (wTimer x).size := by unfold wTimer; have := wN_pos [x.At, x.Token]; exact this
theorem pos_Grant (x : VGrant) : 1 ≤ (wGrant x).size := by unfold wGrant; have := wN_pos [x.Who, bN x.One]; exact this
theorem pos_Note (x : VNotify) : 1 ≤ (wNote x).size := by unfold wNote; have := wN_pos [bN x.Permit, x.Ones, x.Spilt, x.Taken, (x.Grants.length : Int)]; simp only [ByteArray.size_append]; omega
theorem pos_Event (x : VEvent) : 1 ≤ (wEvent x).size := by unfold wEvent; have := wN_pos [bN x.Auto, bN x.Up, x.Sets, x.Spilt, x.Taken]; simp only [ByteArray.size_append]; omega
theorem pos_Latch (x : VLatch) : 1 ≤ (wLatch x).size := by unfold wLatch; have := wN_pos [x.Count]; simp only [ByteArray.size_append]; omega
theorem pos_Cell (x : VCell) : 1 ≤ (wCell x).size := by unfold wCell; have := wN_pos [x.Version, bN x.Closed]; simp only [ByteArray.size_append]; omega
theorem pos_Sub (x : VSub) : 1 ≤ (wSub x).size := by unfold wSub; have := wN_pos [x.Id, x.Start, x.Cursor, x.Got, x.Lost, x.Passed]; simp only [ByteArray.size_append]; omega
theorem pos_Topic (x : VTopic) : 1 ≤ (wTopic x).size := by unfold wTopic; have := wT_pos x.Name; simp only [ByteArray.size_append]; omega
theorem pos_Leg (x : VLeg) : 1 ≤ (wLeg x).size := by unfold wLeg; have := wN_pos [x.Topic, x.Id, x.Lost, bN x.Over]; exact this
theorem pos_Merge (x : VMerge) : 1 ≤ (wMerge x).size := by unfold wMerge; have := wN_pos [x.Into, x.Moved, (x.Legs.length : Int)]; simp only [ByteArray.size_append]; omega
theorem pos_Hit (x : VHit) : 1 ≤ (wHit x).size := by unfold wHit; have := wN_pos [x.Topic, x.Id]; exact this
theorem pos_User (x : VUser) : 1 ≤ (wUser x).size := by unfold wUser; have := wN_pos [(x.Subs.length : Int)]; simp only [ByteArray.size_append]; omega
theorem pos_Call (x : VCall) : 1 ≤ (wCall x).size := by unfold wCall; have := wN_pos [x.Op, x.A, x.B, x.Tok]; simp only [ByteArray.size_append]; omega
theorem pos_Client (x : VClient) : 1 ≤ (wClient x).size := by unfold wClient; have := wN_pos [x.At, bN x.Waiting, (x.Prog.length : Int)]; simp only [ByteArray.size_append]; omega
theorem v_waits (h : VHub) (w : ByteArray) (ha0 : arHub h) (hs0 : (w ++ wWaits h).size ≤ 4294967296) : E 48 [.pb 0 0, slHub h] [NBw w] = RW (w ++ wWaits h) := by
  have e0 : w ++ wWaits h = w ++ wN h.Tokens.Parents ++ wN [(h.Tokens.Off.length : Int)] ++ wL wBool h.Tokens.Off ++ wN [h.Clock.Now, (h.Clock.Timers.length : Int), (h.Notes.length : Int), (h.Events.length : Int), (h.Latches.length : Int), (h.Cells.length : Int)] ++ wL wTimer h.Clock.Timers ++ wL wNote h.Notes ++ wL wEvent h.Events ++ wL wLatch h.Latches ++ wL wCell h.Cells := by unfold wWaits; simp only [ByteArray.append_assoc]
  rw [e0] at hs0 ⊢
  have hs1 := hs0
  simp only [ByteArray.size_append] at hs1
  have hl_Bool0 := wL_len pos_Bool h.Tokens.Off
  have hl_Timer0 := wL_len pos_Timer h.Clock.Timers
  have hl_Note0 := wL_len pos_Note h.Notes
  have hl_Event0 := wL_len pos_Event h.Events
  have hl_Latch0 := wL_len pos_Latch h.Latches
  have hl_Cell0 := wL_len pos_Cell h.Cells
  refine evK rfl ((e48 ..).trans (obind' (v_nums h.Tokens.Parents (w) (ha0.1.1).2 (by simp only [ByteArray.size_append]; omega)) (obind' (v_numsG [(h.Tokens.Off.length : Int)] (row1 ..) rfl (w ++ wN h.Tokens.Parents) (fa (zr (by omega)) fa0) (by simp only [ByteArray.size_append]; omega)) (?_))))
  refine u_listK (p := P48a) false wBool pos_Bool (h.Tokens.Off) (fun i w' => S48a h h.Tokens.Off (zN h.Tokens.Off.length) i w' w) (fun i w' r hi hl hs hk => ?_) (w ++ wN h.Tokens.Parents ++ wN [(h.Tokens.Off.length : Int)]) (by simp only [ByteArray.size_append]; omega) ?_
  · have e1 : w' ++ wBool (h.Tokens.Off.getD i false) = w' ++ wN [bN (h.Tokens.Off.getD i false)] := rfl
    refine lstep ((h48a ..).trans (bt' (decide_eq_true (by simp only [zN]; omega)) (bt' (bndL hi) ?_)))
    rw [Int.toNat_natCast, wrapN (by omega)]
    exact obind' (v51 _) (obind' (v_numsG [bN (h.Tokens.Off.getD i false)] (row1 ..) rfl w' (fa (bN_r _) fa0) hs) hk)
  refine lstep ((h48a ..).trans (bf' (decide_eq_false (by simp only [zN]; omega)) ?_))
  refine obind' (v_numsG [h.Clock.Now, (h.Clock.Timers.length : Int), (h.Notes.length : Int), (h.Events.length : Int), (h.Latches.length : Int), (h.Cells.length : Int)] (row6 ..) rfl (w ++ wN h.Tokens.Parents ++ wN [(h.Tokens.Off.length : Int)] ++ wL wBool h.Tokens.Off) (fa (ha0.2.1.1) (fa (zr (by omega)) (fa (zr (by omega)) (fa (zr (by omega)) (fa (zr (by omega)) (fa (zr (by omega)) fa0)))))) (by simp only [ByteArray.size_append]; omega)) (?_)
  refine u_listK (p := P48b) zTimer wTimer pos_Timer (h.Clock.Timers) (fun i w' => S48b h h.Clock.Timers (zN h.Clock.Timers.length) i w' w) (fun i w' r hi hl hs hk => ?_) (w ++ wN h.Tokens.Parents ++ wN [(h.Tokens.Off.length : Int)] ++ wL wBool h.Tokens.Off ++ wN [h.Clock.Now, (h.Clock.Timers.length : Int), (h.Notes.length : Int), (h.Events.length : Int), (h.Latches.length : Int), (h.Cells.length : Int)]) (by simp only [ByteArray.size_append]; omega) ?_
  · have ha := (ha0.2.1.2).2 _ (getD_mem (d := zTimer) hi)
    have e1 : w' ++ wTimer (h.Clock.Timers.getD i zTimer) = w' ++ wN [(h.Clock.Timers.getD i zTimer).At, (h.Clock.Timers.getD i zTimer).Token] := by unfold wTimer; simp only [ByteArray.append_assoc]
    rw [e1] at hs hk
    have hs2 := hs
    simp only [ByteArray.size_append] at hs2
    refine lstep ((h48b ..).trans (bt' (decide_eq_true (by simp only [zN]; omega)) (bt' (bndL hi) ?_)))
    rw [Int.toNat_natCast]
    rw [wrapN (by omega)]
    exact obind' (v_numsG [(h.Clock.Timers.getD i zTimer).At, (h.Clock.Timers.getD i zTimer).Token] (row2 ..) rfl (w') (fa (ha.1) (fa (ha.2) fa0)) (by simp only [ByteArray.size_append]; omega)) (hk)
  refine lstep ((h48b ..).trans (bf' (decide_eq_false (by simp only [zN]; omega)) ?_))
  refine u_listK (p := P48c) zNotify wNote pos_Note (h.Notes) (fun i w' => S48c h h.Notes (zN h.Notes.length) i w' w) (fun i w' r hi hl hs hk => ?_) (w ++ wN h.Tokens.Parents ++ wN [(h.Tokens.Off.length : Int)] ++ wL wBool h.Tokens.Off ++ wN [h.Clock.Now, (h.Clock.Timers.length : Int), (h.Notes.length : Int), (h.Events.length : Int), (h.Latches.length : Int), (h.Cells.length : Int)] ++ wL wTimer h.Clock.Timers) (by simp only [ByteArray.size_append]; omega) ?_
  · have ha := (ha0.2.2.1).2 _ (getD_mem (d := zNotify) hi)
    have e1 : w' ++ wNote (h.Notes.getD i zNotify) = w' ++ wN [bN (h.Notes.getD i zNotify).Permit, (h.Notes.getD i zNotify).Ones, (h.Notes.getD i zNotify).Spilt, (h.Notes.getD i zNotify).Taken, ((h.Notes.getD i zNotify).Grants.length : Int)] ++ wN (h.Notes.getD i zNotify).Line ++ wL wGrant (h.Notes.getD i zNotify).Grants := by unfold wNote; simp only [ByteArray.append_assoc]
    rw [e1] at hs hk
    have hs2 := hs
    simp only [ByteArray.size_append] at hs2
    have hl_Grant := wL_len pos_Grant (h.Notes.getD i zNotify).Grants
    refine lstep ((h48c ..).trans (bt' (decide_eq_true (by simp only [zN]; omega)) (bt' (bndL hi) ?_)))
    rw [Int.toNat_natCast]
    refine obind' (v51 _) (obind' (v_numsG [bN (h.Notes.getD i zNotify).Permit, (h.Notes.getD i zNotify).Ones, (h.Notes.getD i zNotify).Spilt, (h.Notes.getD i zNotify).Taken, ((h.Notes.getD i zNotify).Grants.length : Int)] (row5 ..) rfl (w') (fa (bN_r _) (fa (ha.2.2.1) (fa (ha.2.2.2.1) (fa (ha.2.2.2.2) (fa (zr (by omega)) fa0))))) (by simp only [ByteArray.size_append]; omega)) (obind' (v_nums (h.Notes.getD i zNotify).Line (w' ++ wN [bN (h.Notes.getD i zNotify).Permit, (h.Notes.getD i zNotify).Ones, (h.Notes.getD i zNotify).Spilt, (h.Notes.getD i zNotify).Taken, ((h.Notes.getD i zNotify).Grants.length : Int)]) (ha.1).2 (by simp only [ByteArray.size_append]; omega)) (?_)))
    refine u_listK (p := P48d) zGrant wGrant pos_Grant (h.Notes.getD i zNotify).Grants (fun j w'' => S48d h h.Notes (zN h.Notes.length) i (h.Notes.getD i zNotify).Grants (zN (h.Notes.getD i zNotify).Grants.length) j w'' w) (fun j w'' r hj hlj hsj hh => ?_) (w' ++ wN [bN (h.Notes.getD i zNotify).Permit, (h.Notes.getD i zNotify).Ones, (h.Notes.getD i zNotify).Spilt, (h.Notes.getD i zNotify).Taken, ((h.Notes.getD i zNotify).Grants.length : Int)] ++ wN (h.Notes.getD i zNotify).Line) (by simp only [ByteArray.size_append]; omega) ?_
    · have hg := (ha.2.1).2 _ (getD_mem (d := zGrant) hj)
      refine lstep ((h48d ..).trans (bt' (decide_eq_true (by simp only [zN]; omega)) (bt' (bndL hj) ?_)))
      rw [Int.toNat_natCast, wrapN (by omega)]
      exact obind' (v51 _) (obind' (v_numsG [((h.Notes.getD i zNotify).Grants.getD j zGrant).Who, bN ((h.Notes.getD i zNotify).Grants.getD j zGrant).One] (row2 ..) rfl w'' (fa hg (fa (bN_r _) fa0)) hsj) hh)
    · refine lstep ((h48d ..).trans (bf' (decide_eq_false (by simp only [zN]; omega)) ?_))
      rw [wrapN (by omega)]
      exact hk
  refine lstep ((h48c ..).trans (bf' (decide_eq_false (by simp only [zN]; omega)) ?_))
  refine u_listK (p := P48e) zEvent wEvent pos_Event (h.Events) (fun i w' => S48e h h.Events (zN h.Events.length) i w' w) (fun i w' r hi hl hs hk => ?_) (w ++ wN h.Tokens.Parents ++ wN [(h.Tokens.Off.length : Int)] ++ wL wBool h.Tokens.Off ++ wN [h.Clock.Now, (h.Clock.Timers.length : Int), (h.Notes.length : Int), (h.Events.length : Int), (h.Latches.length : Int), (h.Cells.length : Int)] ++ wL wTimer h.Clock.Timers ++ wL wNote h.Notes) (by simp only [ByteArray.size_append]; omega) ?_
  · have ha := (ha0.2.2.2.1).2 _ (getD_mem (d := zEvent) hi)
    have e1 : w' ++ wEvent (h.Events.getD i zEvent) = w' ++ wN [bN (h.Events.getD i zEvent).Auto, bN (h.Events.getD i zEvent).Up, (h.Events.getD i zEvent).Sets, (h.Events.getD i zEvent).Spilt, (h.Events.getD i zEvent).Taken] ++ wN (h.Events.getD i zEvent).Line ++ wN (h.Events.getD i zEvent).Grants := by unfold wEvent; simp only [ByteArray.append_assoc]
    rw [e1] at hs hk
    have hs2 := hs
    simp only [ByteArray.size_append] at hs2
    refine lstep ((h48e ..).trans (bt' (decide_eq_true (by simp only [zN]; omega)) (bt' (bndL hi) ?_)))
    rw [Int.toNat_natCast]
    rw [wrapN (by omega)]
    exact obind' (v51 _) (obind' (v51 _) (obind' (v_numsG [bN (h.Events.getD i zEvent).Auto, bN (h.Events.getD i zEvent).Up, (h.Events.getD i zEvent).Sets, (h.Events.getD i zEvent).Spilt, (h.Events.getD i zEvent).Taken] (row5 ..) rfl (w') (fa (bN_r _) (fa (bN_r _) (fa (ha.2.2.1) (fa (ha.2.2.2.1) (fa (ha.2.2.2.2) fa0))))) (by simp only [ByteArray.size_append]; omega)) (obind' (v_nums (h.Events.getD i zEvent).Line (w' ++ wN [bN (h.Events.getD i zEvent).Auto, bN (h.Events.getD i zEvent).Up, (h.Events.getD i zEvent).Sets, (h.Events.getD i zEvent).Spilt, (h.Events.getD i zEvent).Taken]) (ha.1).2 (by simp only [ByteArray.size_append]; omega)) (obind' (v_nums (h.Events.getD i zEvent).Grants (w' ++ wN [bN (h.Events.getD i zEvent).Auto, bN (h.Events.getD i zEvent).Up, (h.Events.getD i zEvent).Sets, (h.Events.getD i zEvent).Spilt, (h.Events.getD i zEvent).Taken] ++ wN (h.Events.getD i zEvent).Line) (ha.2.1).2 (by simp only [ByteArray.size_append]; omega)) (hk)))))
  refine lstep ((h48e ..).trans (bf' (decide_eq_false (by simp only [zN]; omega)) ?_))
  refine u_listK (p := P48f) zLatch wLatch pos_Latch (h.Latches) (fun i w' => S48f h h.Latches (zN h.Latches.length) i w' w) (fun i w' r hi hl hs hk => ?_) (w ++ wN h.Tokens.Parents ++ wN [(h.Tokens.Off.length : Int)] ++ wL wBool h.Tokens.Off ++ wN [h.Clock.Now, (h.Clock.Timers.length : Int), (h.Notes.length : Int), (h.Events.length : Int), (h.Latches.length : Int), (h.Cells.length : Int)] ++ wL wTimer h.Clock.Timers ++ wL wNote h.Notes ++ wL wEvent h.Events) (by simp only [ByteArray.size_append]; omega) ?_
  · have ha := (ha0.2.2.2.2.1).2 _ (getD_mem (d := zLatch) hi)
    have e1 : w' ++ wLatch (h.Latches.getD i zLatch) = w' ++ wN [(h.Latches.getD i zLatch).Count] ++ wN (h.Latches.getD i zLatch).Line ++ wN (h.Latches.getD i zLatch).Grants := by unfold wLatch; simp only [ByteArray.append_assoc]
    rw [e1] at hs hk
    have hs2 := hs
    simp only [ByteArray.size_append] at hs2
    refine lstep ((h48f ..).trans (bt' (decide_eq_true (by simp only [zN]; omega)) (bt' (bndL hi) ?_)))
    rw [Int.toNat_natCast]
    rw [wrapN (by omega)]
    exact obind' (v_numsG [(h.Latches.getD i zLatch).Count] (row1 ..) rfl (w') (fa (ha.1) fa0) (by simp only [ByteArray.size_append]; omega)) (obind' (v_nums (h.Latches.getD i zLatch).Line (w' ++ wN [(h.Latches.getD i zLatch).Count]) (ha.2.1).2 (by simp only [ByteArray.size_append]; omega)) (obind' (v_nums (h.Latches.getD i zLatch).Grants (w' ++ wN [(h.Latches.getD i zLatch).Count] ++ wN (h.Latches.getD i zLatch).Line) (ha.2.2).2 (by simp only [ByteArray.size_append]; omega)) (hk)))
  refine lstep ((h48f ..).trans (bf' (decide_eq_false (by simp only [zN]; omega)) ?_))
  refine u_listK (p := P48g) zCell wCell pos_Cell (h.Cells) (fun i w' => S48g h.Cells (zN h.Cells.length) i w' w) (fun i w' r hi hl hs hk => ?_) (w ++ wN h.Tokens.Parents ++ wN [(h.Tokens.Off.length : Int)] ++ wL wBool h.Tokens.Off ++ wN [h.Clock.Now, (h.Clock.Timers.length : Int), (h.Notes.length : Int), (h.Events.length : Int), (h.Latches.length : Int), (h.Cells.length : Int)] ++ wL wTimer h.Clock.Timers ++ wL wNote h.Notes ++ wL wEvent h.Events ++ wL wLatch h.Latches) (by simp only [ByteArray.size_append]; omega) ?_
  · have ha := (ha0.2.2.2.2.2.1).2 _ (getD_mem (d := zCell) hi)
    have e1 : w' ++ wCell (h.Cells.getD i zCell) = w' ++ wMsg (h.Cells.getD i zCell).Val ++ wN [(h.Cells.getD i zCell).Version, bN (h.Cells.getD i zCell).Closed] ++ wN (h.Cells.getD i zCell).Line ++ wN (h.Cells.getD i zCell).Grants := by unfold wCell; simp only [ByteArray.append_assoc]
    rw [e1] at hs hk
    have hs2 := hs
    simp only [ByteArray.size_append] at hs2
    refine lstep ((h48g ..).trans (bt' (decide_eq_true (by simp only [zN]; omega)) (bt' (bndL hi) ?_)))
    rw [Int.toNat_natCast]
    rw [wrapN (by omega)]
    exact obind' (v_msg (h.Cells.getD i zCell).Val (w') (ha.1) (by simp only [ByteArray.size_append]; omega)) (obind' (v51 _) (obind' (v_numsG [(h.Cells.getD i zCell).Version, bN (h.Cells.getD i zCell).Closed] (row2 ..) rfl (w' ++ wMsg (h.Cells.getD i zCell).Val) (fa (ha.2.1) (fa (bN_r _) fa0)) (by simp only [ByteArray.size_append]; omega)) (obind' (v_nums (h.Cells.getD i zCell).Line (w' ++ wMsg (h.Cells.getD i zCell).Val ++ wN [(h.Cells.getD i zCell).Version, bN (h.Cells.getD i zCell).Closed]) (ha.2.2.1).2 (by simp only [ByteArray.size_append]; omega)) (obind' (v_nums (h.Cells.getD i zCell).Grants (w' ++ wMsg (h.Cells.getD i zCell).Val ++ wN [(h.Cells.getD i zCell).Version, bN (h.Cells.getD i zCell).Closed] ++ wN (h.Cells.getD i zCell).Line) (ha.2.2.2).2 (by simp only [ByteArray.size_append]; omega)) (hk)))))
  exact lstep ((h48g ..).trans (bf' (decide_eq_false (by simp only [zN]; omega)) (bt' okTb rfl)))
end Go.Fw
