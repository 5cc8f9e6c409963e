/- Values: what the program writes of a state's streams. -/
import Derived.Test.YtonhlheceebflaaGreatW7
set_option linter.unusedVariables false
set_option linter.unusedSimpArgs false
namespace Go.Fw
open Go.Proofs
theorem v_streams (h : VHub) (w : ByteArray) (ha0 : arHub h) (hs0 : (w ++ wStreams h).size ≤ 4294967296) : E 49 [.pb 0 0, slHub h] [NBw w] = RW (w ++ wStreams h) := by
  have e0 : w ++ wStreams h = w ++ wN [(h.Topics.length : Int), (h.Merges.length : Int)] ++ wL wTopic h.Topics ++ wL wMerge h.Merges := by unfold wStreams; simp only [ByteArray.append_assoc]
  rw [e0] at hs0 ⊢
  have hs1 := hs0
  simp only [ByteArray.size_append] at hs1
  have hl_Topic0 := wL_len pos_Topic h.Topics
  have hl_Merge0 := wL_len pos_Merge h.Merges
  refine evK rfl ((e49 ..).trans (obind' (v_numsG [(h.Topics.length : Int), (h.Merges.length : Int)] (row2 ..) rfl (w) (fa (zr (by omega)) (fa (zr (by omega)) fa0)) (by simp only [ByteArray.size_append]; omega)) (?_)))
  refine u_listK (p := P49a) zTopic wTopic pos_Topic (h.Topics) (fun i w' => S49a h h.Topics (zN h.Topics.length) i w' w) (fun i w' r hi hl hs hk => ?_) (w ++ wN [(h.Topics.length : Int), (h.Merges.length : Int)]) (by simp only [ByteArray.size_append]; omega) ?_
  · have ha := (ha0.2.2.2.2.2.2.1).2 _ (getD_mem (d := zTopic) hi)
    have e1 : w' ++ wTopic (h.Topics.getD i zTopic) = w' ++ wT (h.Topics.getD i zTopic).Name ++ wN [(h.Topics.getD i zTopic).Ring.Cap, (h.Topics.getD i zTopic).Ring.Sent, (h.Topics.getD i zTopic).Ring.Next, bN (h.Topics.getD i zTopic).Ring.Closed, ((h.Topics.getD i zTopic).Ring.Items.length : Int), ((h.Topics.getD i zTopic).Ring.Subs.length : Int)] ++ wL wMsg (h.Topics.getD i zTopic).Ring.Items ++ wL wSub (h.Topics.getD i zTopic).Ring.Subs ++ wN (h.Topics.getD i zTopic).Ring.Line ++ wN (h.Topics.getD i zTopic).Ring.Grants := by unfold wTopic; simp only [ByteArray.append_assoc]
    rw [e1] at hs hk
    have hs2 := hs
    simp only [ByteArray.size_append] at hs2
    have hl_Msg := wL_len pos_Msg (h.Topics.getD i zTopic).Ring.Items
    have hl_Sub := wL_len pos_Sub (h.Topics.getD i zTopic).Ring.Subs
    refine lstep ((h49a ..).trans (bt' (decide_eq_true (by simp only [zN]; omega)) (bt' (bndL hi) ?_)))
    rw [Int.toNat_natCast]
    refine obind' (v_text (h.Topics.getD i zTopic).Name (w') (by simp only [ByteArray.size_append]; omega)) (obind' (v51 _) (obind' (v_numsG [(h.Topics.getD i zTopic).Ring.Cap, (h.Topics.getD i zTopic).Ring.Sent, (h.Topics.getD i zTopic).Ring.Next, bN (h.Topics.getD i zTopic).Ring.Closed, ((h.Topics.getD i zTopic).Ring.Items.length : Int), ((h.Topics.getD i zTopic).Ring.Subs.length : Int)] (row6 ..) rfl (w' ++ wT (h.Topics.getD i zTopic).Name) (fa (ha.2.1) (fa (ha.2.2.1) (fa (ha.2.2.2.2.1) (fa (bN_r _) (fa (zr (by omega)) (fa (zr (by omega)) fa0)))))) (by simp only [ByteArray.size_append]; omega)) (?_)))
    refine u_listK (p := P49b) zMsg wMsg pos_Msg (h.Topics.getD i zTopic).Ring.Items (fun j w'' => S49b h (h.Topics.getD i zTopic).Ring h.Topics (zN h.Topics.length) i (h.Topics.getD i zTopic).Ring.Items (zN (h.Topics.getD i zTopic).Ring.Items.length) j w'' w) (fun j w'' r hj hlj hsj hh => ?_) (w' ++ wT (h.Topics.getD i zTopic).Name ++ wN [(h.Topics.getD i zTopic).Ring.Cap, (h.Topics.getD i zTopic).Ring.Sent, (h.Topics.getD i zTopic).Ring.Next, bN (h.Topics.getD i zTopic).Ring.Closed, ((h.Topics.getD i zTopic).Ring.Items.length : Int), ((h.Topics.getD i zTopic).Ring.Subs.length : Int)]) (by simp only [ByteArray.size_append]; omega) ?_
    · have hg := (ha.2.2.2.1).2 _ (getD_mem (d := zMsg) hj)
      have hs3 := hsj
      simp only [ByteArray.size_append] at hs3
      refine lstep ((h49b ..).trans (bt' (decide_eq_true (by simp only [zN]; omega)) (bt' (bndL hj) ?_)))
      rw [Int.toNat_natCast, wrapN (by omega)]
      exact obind' (v_msg ((h.Topics.getD i zTopic).Ring.Items.getD j zMsg) w'' hg hsj) hh
    refine lstep ((h49b ..).trans (bf' (decide_eq_false (by simp only [zN]; omega)) ?_))
    refine u_listK (p := P49c) zSub wSub pos_Sub (h.Topics.getD i zTopic).Ring.Subs (fun j w'' => S49c h (h.Topics.getD i zTopic).Ring h.Topics (zN h.Topics.length) i (h.Topics.getD i zTopic).Ring.Subs (zN (h.Topics.getD i zTopic).Ring.Subs.length) j w'' w) (fun j w'' r hj hlj hsj hh => ?_) (w' ++ wT (h.Topics.getD i zTopic).Name ++ wN [(h.Topics.getD i zTopic).Ring.Cap, (h.Topics.getD i zTopic).Ring.Sent, (h.Topics.getD i zTopic).Ring.Next, bN (h.Topics.getD i zTopic).Ring.Closed, ((h.Topics.getD i zTopic).Ring.Items.length : Int), ((h.Topics.getD i zTopic).Ring.Subs.length : Int)] ++ wL wMsg (h.Topics.getD i zTopic).Ring.Items) (by simp only [ByteArray.size_append]; omega) ?_
    · have hg := (ha.2.2.2.2.2.1).2 _ (getD_mem (d := zSub) hj)
      have e2 : w'' ++ wSub ((h.Topics.getD i zTopic).Ring.Subs.getD j zSub) = w'' ++ wN [((h.Topics.getD i zTopic).Ring.Subs.getD j zSub).Id, ((h.Topics.getD i zTopic).Ring.Subs.getD j zSub).Start, ((h.Topics.getD i zTopic).Ring.Subs.getD j zSub).Cursor, ((h.Topics.getD i zTopic).Ring.Subs.getD j zSub).Got, ((h.Topics.getD i zTopic).Ring.Subs.getD j zSub).Lost, ((h.Topics.getD i zTopic).Ring.Subs.getD j zSub).Passed] ++ wF ((h.Topics.getD i zTopic).Ring.Subs.getD j zSub).Filter := by unfold wSub; simp only [ByteArray.append_assoc]
      rw [e2] at hsj hh
      have hs3 := hsj
      simp only [ByteArray.size_append] at hs3
      refine lstep ((h49c ..).trans (bt' (decide_eq_true (by simp only [zN]; omega)) (bt' (bndL hj) ?_)))
      rw [Int.toNat_natCast, wrapN (by omega)]
      exact obind' (v_numsG [((h.Topics.getD i zTopic).Ring.Subs.getD j zSub).Id, ((h.Topics.getD i zTopic).Ring.Subs.getD j zSub).Start, ((h.Topics.getD i zTopic).Ring.Subs.getD j zSub).Cursor, ((h.Topics.getD i zTopic).Ring.Subs.getD j zSub).Got, ((h.Topics.getD i zTopic).Ring.Subs.getD j zSub).Lost, ((h.Topics.getD i zTopic).Ring.Subs.getD j zSub).Passed] (row6 ..) rfl (w'') (fa (hg.1) (fa (hg.2.1) (fa (hg.2.2.1) (fa (hg.2.2.2.1) (fa (hg.2.2.2.2.1) (fa (hg.2.2.2.2.2.1) fa0)))))) (by simp only [ByteArray.size_append]; omega)) (obind' (v_filter ((h.Topics.getD i zTopic).Ring.Subs.getD j zSub).Filter (w'' ++ wN [((h.Topics.getD i zTopic).Ring.Subs.getD j zSub).Id, ((h.Topics.getD i zTopic).Ring.Subs.getD j zSub).Start, ((h.Topics.getD i zTopic).Ring.Subs.getD j zSub).Cursor, ((h.Topics.getD i zTopic).Ring.Subs.getD j zSub).Got, ((h.Topics.getD i zTopic).Ring.Subs.getD j zSub).Lost, ((h.Topics.getD i zTopic).Ring.Subs.getD j zSub).Passed]) (hg.2.2.2.2.2.2) (by simp only [ByteArray.size_append]; omega)) (hh))
    refine lstep ((h49c ..).trans (bf' (decide_eq_false (by simp only [zN]; omega)) ?_))
    rw [wrapN (by omega)]
    exact obind' (v_nums (h.Topics.getD i zTopic).Ring.Line (w' ++ wT (h.Topics.getD i zTopic).Name ++ wN [(h.Topics.getD i zTopic).Ring.Cap, (h.Topics.getD i zTopic).Ring.Sent, (h.Topics.getD i zTopic).Ring.Next, bN (h.Topics.getD i zTopic).Ring.Closed, ((h.Topics.getD i zTopic).Ring.Items.length : Int), ((h.Topics.getD i zTopic).Ring.Subs.length : Int)] ++ wL wMsg (h.Topics.getD i zTopic).Ring.Items ++ wL wSub (h.Topics.getD i zTopic).Ring.Subs) (ha.2.2.2.2.2.2.1).2 (by simp only [ByteArray.size_append]; omega)) (obind' (v_nums (h.Topics.getD i zTopic).Ring.Grants (w' ++ wT (h.Topics.getD i zTopic).Name ++ wN [(h.Topics.getD i zTopic).Ring.Cap, (h.Topics.getD i zTopic).Ring.Sent, (h.Topics.getD i zTopic).Ring.Next, bN (h.Topics.getD i zTopic).Ring.Closed, ((h.Topics.getD i zTopic).Ring.Items.length : Int), ((h.Topics.getD i zTopic).Ring.Subs.length : Int)] ++ wL wMsg (h.Topics.getD i zTopic).Ring.Items ++ wL wSub (h.Topics.getD i zTopic).Ring.Subs ++ wN (h.Topics.getD i zTopic).Ring.Line) (ha.2.2.2.2.2.2.2).2 (by simp only [ByteArray.size_append]; omega)) (hk))
  refine lstep ((h49a ..).trans (bf' (decide_eq_false (by simp only [zN]; omega)) ?_))
  refine u_listK (p := P49d) zMerge wMerge pos_Merge (h.Merges) (fun i w' => S49d h.Merges (zN h.Merges.length) i w' w) (fun i w' r hi hl hs hk => ?_) (w ++ wN [(h.Topics.length : Int), (h.Merges.length : Int)] ++ wL wTopic h.Topics) (by simp only [ByteArray.size_append]; omega) ?_
  · have ha := (ha0.2.2.2.2.2.2.2.1).2 _ (getD_mem (d := zMerge) hi)
    have e1 : w' ++ wMerge (h.Merges.getD i zMerge) = w' ++ wN [(h.Merges.getD i zMerge).Into, (h.Merges.getD i zMerge).Moved, ((h.Merges.getD i zMerge).Legs.length : Int)] ++ wL wLeg (h.Merges.getD i zMerge).Legs := by unfold wMerge; simp only [ByteArray.append_assoc]
    rw [e1] at hs hk
    have hs2 := hs
    simp only [ByteArray.size_append] at hs2
    have hl_Leg := wL_len pos_Leg (h.Merges.getD i zMerge).Legs
    refine lstep ((h49d ..).trans (bt' (decide_eq_true (by simp only [zN]; omega)) (bt' (bndL hi) ?_)))
    rw [Int.toNat_natCast]
    refine obind' (v_numsG [(h.Merges.getD i zMerge).Into, (h.Merges.getD i zMerge).Moved, ((h.Merges.getD i zMerge).Legs.length : Int)] (row3 ..) rfl (w') (fa (ha.2.1) (fa (ha.2.2) (fa (zr (by omega)) fa0))) (by simp only [ByteArray.size_append]; omega)) (?_)
    refine u_listK (p := P49e) zLeg wLeg pos_Leg (h.Merges.getD i zMerge).Legs (fun j w'' => S49e h.Merges (zN h.Merges.length) i (h.Merges.getD i zMerge).Legs (zN (h.Merges.getD i zMerge).Legs.length) j w'' w) (fun j w'' r hj hlj hsj hh => ?_) (w' ++ wN [(h.Merges.getD i zMerge).Into, (h.Merges.getD i zMerge).Moved, ((h.Merges.getD i zMerge).Legs.length : Int)]) (by simp only [ByteArray.size_append]; omega) ?_
    · have hg := (ha.1).2 _ (getD_mem (d := zLeg) hj)
      have e2 : w'' ++ wLeg ((h.Merges.getD i zMerge).Legs.getD j zLeg) = w'' ++ wN [((h.Merges.getD i zMerge).Legs.getD j zLeg).Topic, ((h.Merges.getD i zMerge).Legs.getD j zLeg).Id, ((h.Merges.getD i zMerge).Legs.getD j zLeg).Lost, bN ((h.Merges.getD i zMerge).Legs.getD j zLeg).Over] := by unfold wLeg; simp only [ByteArray.append_assoc]
      rw [e2] at hsj hh
      have hs3 := hsj
      simp only [ByteArray.size_append] at hs3
      refine lstep ((h49e ..).trans (bt' (decide_eq_true (by simp only [zN]; omega)) (bt' (bndL hj) ?_)))
      rw [Int.toNat_natCast, wrapN (by omega)]
      exact obind' (v51 _) (obind' (v_numsG [((h.Merges.getD i zMerge).Legs.getD j zLeg).Topic, ((h.Merges.getD i zMerge).Legs.getD j zLeg).Id, ((h.Merges.getD i zMerge).Legs.getD j zLeg).Lost, bN ((h.Merges.getD i zMerge).Legs.getD j zLeg).Over] (row4 ..) rfl (w'') (fa (hg.1) (fa (hg.2.1) (fa (hg.2.2) (fa (bN_r _) fa0)))) (by simp only [ByteArray.size_append]; omega)) (hh))
    refine lstep ((h49e ..).trans (bf' (decide_eq_false (by simp only [zN]; omega)) ?_))
    rw [wrapN (by omega)]
    exact hk
  exact lstep ((h49d ..).trans (bf' (decide_eq_false (by simp only [zN]; omega)) (bt' okTb rfl)))
end Go.Fw
