/- Values: hubs and states are right. -/
import Derived.Test.YtndmnbgcneaggaaGreatDoorS12
set_option linter.unusedVariables false
set_option linter.unusedSimpArgs false
namespace Go.Fw
open Go.Proofs
noncomputable abbrev notesB (x : VHub) : Bool := allR (fun j => dB (NotifyP (x.Notes.getD j zNotify))) x.Notes.length 0
noncomputable abbrev eventsB (x : VHub) : Bool := allR (fun j => eventB (x.Events.getD j zEvent)) x.Events.length 0
noncomputable abbrev latchesB (x : VHub) : Bool := allR (fun j => latchB (x.Latches.getD j zLatch)) x.Latches.length 0
noncomputable abbrev cellsB (x : VHub) : Bool := allR (fun j => cellB (x.Cells.getD j zCell)) x.Cells.length 0
noncomputable abbrev mergesB (x : VHub) : Bool := allR (fun j => mergeB x.Topics (x.Merges.getD j zMerge)) x.Merges.length 0
abbrev usersB (x : VHub) : Bool := allR (fun j => userB x (x.Users.getD j zUser)) x.Users.length 0
theorem v47 (x : VHub) (hb : szHub x ≤ 1048576) : E 47 [slHub x] [] = RB (!decide (8 < zN x.Notes.length) && (!decide (8 < zN x.Events.length) && (!decide (8 < zN x.Latches.length) && (!decide (8 < zN x.Cells.length) && (notesB x && (eventsB x && (latchesB x && (cellsB x && true)))))))) := by
 unfold szHub at hb
 have b1 : szNotifyS x.Notes ≤ 1048576 := by omega
 have b2 : szEventS x.Events ≤ 1048576 := by omega
 have b3 : szLatchS x.Latches ≤ 1048576 := by omega
 have b4 : szCellS x.Cells ≤ 1048576 := by omega
 have l1 : x.Notes.length ≤ 1048576 := sumL_len b1
 have l2 : x.Events.length ≤ 1048576 := sumL_len b2
 have l3 : x.Latches.length ≤ 1048576 := sumL_len b3
 have l4 : x.Cells.length ≤ 1048576 := sumL_len b4
 refine evK rfl ((e47 ..).trans (sF (sF (sF (sF ?_)))))
 refine u_all (S := fun i : Nat => S47a x i) (n := x.Notes.length) (lstep ((h47a ..).trans (bf' (decide_eq_false (by simp only [zN]; omega)) ?_))) (fun i c hi hc => ?_)
 · refine u_all (S := fun i : Nat => S47b x i) (n := x.Events.length) (lstep ((h47b ..).trans (bf' (decide_eq_false (by simp only [zN]; omega)) ?_))) (fun i c hi hc => ?_)
   · refine u_all (S := fun i : Nat => S47c x i) (n := x.Latches.length) (lstep ((h47c ..).trans (bf' (decide_eq_false (by simp only [zN]; omega)) ?_))) (fun i c hi hc => ?_)
     · refine u_all (S := fun i : Nat => S47d x i) (n := x.Cells.length) (lstep ((h47d ..).trans (bf' (decide_eq_false (by simp only [zN]; omega)) rfl))) (fun i c hi hc => ?_)
       refine lstep ((h47d ..).trans (bt' (decide_eq_true (by simp only [zN]; omega)) (bt' (bndL' hi) ?_)))
       rw [wrapN (by omega)]
       simp only [Int.toNat_natCast]
       exact obind' (v124 _ (sumL_get (f := szCell) b4 hi)) (sN hc)
     · refine lstep ((h47c ..).trans (bt' (decide_eq_true (by simp only [zN]; omega)) (bt' (bndL' hi) ?_)))
       rw [wrapN (by omega)]
       simp only [Int.toNat_natCast]
       exact obind' (v123 _ (sumL_get (f := szLatch) b3 hi)) (sN hc)
   · refine lstep ((h47b ..).trans (bt' (decide_eq_true (by simp only [zN]; omega)) (bt' (bndL' hi) ?_)))
     rw [wrapN (by omega)]
     simp only [Int.toNat_natCast]
     exact obind' (v122 _ (sumL_get (f := szEvent) b2 hi)) (sN hc)
 · refine lstep ((h47a ..).trans (bt' (decide_eq_true (by simp only [zN]; omega)) (bt' (bndL' hi) ?_)))
   rw [wrapN (by omega)]
   simp only [Int.toNat_natCast]
   exact obind' (v121 _ (sumL_get (f := szNotify) b1 hi)) (sN hc)
noncomputable def hubB (x : VHub) : Bool := tokB x.Tokens && (clkB x.Clock && (topB x.Topics && ((decide (zN x.Notes.length ≤ 8) && notesB x) && ((decide (zN x.Events.length ≤ 8) && eventsB x) && ((decide (zN x.Latches.length ≤ 8) && latchesB x) && ((decide (zN x.Cells.length ≤ 8) && cellsB x) &&
 ((decide (zN x.Merges.length ≤ 4) && mergesB x) && (decide (zN x.Users.length ≤ 64) && usersB x))))))))
theorem v27 (x : VHub) (hb : szHub x ≤ 1048576) : E 27 [slHub x] [] = RB (hubB x) := by
 unfold szHub at hb
 have b0 : szTopicS x.Topics ≤ 1048576 := by omega
 have b1 : szNotifyS x.Notes ≤ 1048576 := by omega
 have b2 : szEventS x.Events ≤ 1048576 := by omega
 have b3 : szLatchS x.Latches ≤ 1048576 := by omega
 have b4 : szCellS x.Cells ≤ 1048576 := by omega
 have b5 : szMergeS x.Merges ≤ 1048576 := by omega
 have b6 : szUserS x.Users ≤ 1048576 := by omega
 have l1 : x.Notes.length ≤ 1048576 := sumL_len b1
 have l2 : x.Events.length ≤ 1048576 := sumL_len b2
 have l3 : x.Latches.length ≤ 1048576 := sumL_len b3
 have l4 : x.Cells.length ≤ 1048576 := sumL_len b4
 have l5 : x.Merges.length ≤ 1048576 := sumL_len b5
 have l6 : x.Users.length ≤ 1048576 := sumL_len b6
 exact val (evK rfl ((e27 ..).trans (obind' (v66 _ (by omega)) (sP (obind' (v67 _ (by omega)) (sP (obind' (v68 _ b0) (sP
  (obind' (v69 8 x.Notes (by omega) b1) (sP (obind' (v71 8 x.Events (by omega) b2) (sP (obind' (v73 8 x.Latches (by omega) b3) (sP (obind' (v75 8 x.Cells (by omega) b4) (sP
  (obind' (v77 4 x.Merges x (by omega) b0 b5) (sP (obind' (v80 64 x.Users x (by omega) b6) rfl))))))))))))))))))) rfl
theorem gt8 {n k : Int} : (!decide (k < n)) = decide (n ≤ k) := by by_cases h : n ≤ k <;> simp [h] <;> omega
theorem v21 (x : VHub) (hb : szHub x ≤ 1048576) : E 21 [slHub x] [] = RB (hubB x) := by
 have hT := v47 x hb
 unfold szHub at hb
 have b0 : szTopicS x.Topics ≤ 1048576 := by omega
 have b5 : szMergeS x.Merges ≤ 1048576 := by omega
 have b6 : szUserS x.Users ≤ 1048576 := by omega
 have l5 : x.Merges.length ≤ 1048576 := sumL_len b5
 have l6 : x.Users.length ≤ 1048576 := sumL_len b6
 have hU : L 21 [] P21b (S21b x 0) = RB (usersB x && true) := by
  refine u_all (S := fun i : Nat => S21b x i) (n := x.Users.length) (lstep ((h21b ..).trans (bf' (decide_eq_false (by simp only [zN]; omega)) rfl))) (fun i c hi hc => ?_)
  have hz := sumL_get (d := zUser) (f := szUser) b6 hi
  unfold szUser at hz
  have hl : (x.Users.getD i zUser).Subs.length ≤ 1048576 := sumL_len (f := fun _ => 0) (show szHitS (x.Users.getD i zUser).Subs ≤ 1048576 by omega)
  have inner : L 21 [] P21c (S21c x (x.Users.getD i zUser) i 0) = RB (allR (fun j => inR ((x.Users.getD i zUser).Subs.getD j zHit).Topic 0 (IntKind.i64.wrap (zN x.Topics.length - 1))) (x.Users.getD i zUser).Subs.length 0 && c) := by
   refine u_all (S := fun k : Nat => S21c x (x.Users.getD i zUser) i k) (n := (x.Users.getD i zUser).Subs.length) (lstep ((h21c ..).trans (bf' (decide_eq_false (by simp only [zN]; omega)) ?_))) (fun k c hk hc => ?_)
   · rw [wrapN (by omega)]; exact hc
   · refine lstep ((h21c ..).trans (bt' (decide_eq_true (by simp only [zN]; omega)) (bt' (bndL' hk) ?_)))
     rw [wrapN (by omega)]
     simp only [Int.toNat_natCast]
     exact obind' (v22 ..) (sN hc)
  refine lstep ((h21b ..).trans (bt' (decide_eq_true (by simp only [zN]; omega)) (bt' (bndL' hi) ?_)))
  simp only [Int.toNat_natCast]
  refine val (sF (sN inner)) ?_
  unfold userB
  rw [show (!decide ((12 : Int) < zN (x.Users.getD i zUser).Subs.length)) = decide ((x.Users.getD i zUser).Subs.length ≤ 12) from gt_len 12]
  simp only [Bool.and_assoc]
 have hM : L 21 [] P21a (S21a x 0) = RB (allR (fun j => topB x.Topics && mergeB x.Topics (x.Merges.getD j zMerge)) x.Merges.length 0 && (usersB x && true)) := by
  refine u_all (S := fun i : Nat => S21a x i) (n := x.Merges.length) (lstep ((h21a ..).trans (bf' (decide_eq_false (by simp only [zN]; omega)) hU))) (fun i c hi hc => ?_)
  refine lstep ((h21a ..).trans (bt' (decide_eq_true (by simp only [zN]; omega)) (bt' (bndL' hi) ?_)))
  rw [wrapN (by omega)]
  simp only [Int.toNat_natCast]
  exact obind' (v48 _ _ b0 (sumL_get (f := szMerge) b5 hi)) (sN hc)
 refine val (evK rfl ((e21 ..).trans (obind' (v44 _ (by omega)) (sN (obind' (v45 _ (by omega)) (sN (obind' (v46 _ b0) (sN (obind' hT (sN (sF (sF hM)))))))))))) ?_
 unfold hubB
 simp only [asB, gt8, Bool.and_true]
 cases topB x.Topics with
 | false => cases tokB x.Tokens <;> cases clkB x.Clock <;> rfl
 | true =>
  simp only [Bool.true_and, mergesB]
  ac_rfl
noncomputable def stateB (x : VState) : Bool := hubB x.Hub && (decide (zN x.Hub.Users.length = zN x.Clients.length) && (decide (zN x.Clients.length ≤ 6) && allR (fun j => clientB (x.Clients.getD j zClient)) x.Clients.length 0))
theorem v9 (x : VState) (hb : szState x ≤ 1048576) : E 9 [slState x] [] = RB (stateB x) := by
 unfold szState at hb
 have b1 : szClientS x.Clients ≤ 1048576 := by omega
 have l1 : x.Clients.length ≤ 1048576 := sumL_len b1
 exact val (evK rfl ((e9 ..).trans (obind' (v27 _ (by omega)) (sP (sP (obind' (v28 6 x.Clients (by omega) b1) rfl)))))) rfl
theorem v7 (x : VState) (hb : szState x ≤ 1048576) : E 7 [slState x] [] = RB (stateB x) := by
 unfold szState at hb
 have b1 : szClientS x.Clients ≤ 1048576 := by omega
 have l1 : x.Clients.length ≤ 1048576 := sumL_len b1
 have hC : L 7 [] P7a (S7a x 0) = RB (allR (fun j => clientB (x.Clients.getD j zClient)) x.Clients.length 0 && true) := by
  refine u_all (S := fun i : Nat => S7a x i) (n := x.Clients.length) (lstep ((h7a ..).trans (bf' (decide_eq_false (by simp only [zN]; omega)) rfl))) (fun i c hi hc => ?_)
  have hz := sumL_get (d := zClient) (f := szClient) b1 hi
  unfold szClient at hz
  have hl : (x.Clients.getD i zClient).Prog.length ≤ 1048576 := sumL_len hz
  have hm : ∀ z ∈ (x.Clients.getD i zClient).Prog, smCall z := fun z h => smCall_of (sumL_mem hz z h)
  have inner : inR (x.Clients.getD i zClient).At 0 (zN (x.Clients.getD i zClient).Prog.length) = true → L 7 [] P7b (S7b x (x.Clients.getD i zClient) i 0) = RB (allR (fun j => callOk ((x.Clients.getD i zClient).Prog.getD j zCall)) (x.Clients.getD i zClient).Prog.length 0 &&
    ((bif (x.Clients.getD i zClient).Waiting then decide ((x.Clients.getD i zClient).At < zN (x.Clients.getD i zClient).Prog.length) && blk ((x.Clients.getD i zClient).Prog.getD (x.Clients.getD i zClient).At.toNat zCall).Op else true) && c)) := by
   intro ha
   have ha := inR_iff.1 ha
   refine u_all (S := fun k : Nat => S7b x (x.Clients.getD i zClient) i k) (n := (x.Clients.getD i zClient).Prog.length) (lstep ((h7b ..).trans (bf' (decide_eq_false (by simp only [zN]; omega)) ?_))) (fun k c hk hc => ?_)
   · rw [wrapN (by omega)]
     cases (x.Clients.getD i zClient).Waiting with
     | false => exact hc
     | true =>
      refine bt' rfl ?_
      by_cases h : (x.Clients.getD i zClient).At < zN (x.Clients.getD i zClient).Prog.length
      · rw [decide_eq_true h]
        exact bf' (decide_eq_false (by omega)) (bt' (by rw [decide_eq_true ha.1]; rfl) (obind' (v24 _) (sN hc)))
      · rw [decide_eq_false h]
        exact bt' (decide_eq_true (by omega)) rfl
   · refine lstep ((h7b ..).trans (bt' (decide_eq_true (by simp only [zN]; omega)) (bt' (bndL' hk) ?_)))
     rw [wrapN (by omega)]
     simp only [Int.toNat_natCast]
     have hz := hm _ (getD_mem (d := zCall) hk)
     exact obind' (v23 _ hz.1 hz.2.1 hz.2.2.1 hz.2.2.2) (sN hc)
  refine lstep ((h7a ..).trans (bt' (decide_eq_true (by simp only [zN]; omega)) (bt' (bndL' hi) ?_)))
  simp only [Int.toNat_natCast]
  unfold clientB
  rw [← show (!decide ((30 : Int) < zN (x.Clients.getD i zClient).Prog.length)) = decide ((x.Clients.getD i zClient).Prog.length ≤ 30) from gt_len 30]
  refine val (sF (w := inR (x.Clients.getD i zClient).At 0 (zN (x.Clients.getD i zClient).Prog.length) && (allR (fun j => callOk ((x.Clients.getD i zClient).Prog.getD j zCall)) (x.Clients.getD i zClient).Prog.length 0 &&
    ((bif (x.Clients.getD i zClient).Waiting then decide ((x.Clients.getD i zClient).At < zN (x.Clients.getD i zClient).Prog.length) && blk ((x.Clients.getD i zClient).Prog.getD (x.Clients.getD i zClient).At.toNat zCall).Op else true) && c))) (obind' (v22 ..) ?_)) ?_
  · show (bif !inR (x.Clients.getD i zClient).At 0 (zN (x.Clients.getD i zClient).Prog.length) then _ else _) = _
    cases ha : inR (x.Clients.getD i zClient).At 0 (zN (x.Clients.getD i zClient).Prog.length) with
    | false => rfl
    | true => exact bf' rfl ((inner ha).trans (by rw [Bool.true_and]))
  · simp only [Bool.and_assoc]
 refine val (evK rfl ((e7 ..).trans (obind' (v21 _ (by omega)) (sN (sF (sN hC)))))) ?_
 unfold stateB
 simp only [asB, gt8, Bool.and_true]
 cases hubB x.Hub <;> cases decide (zN x.Hub.Users.length = zN x.Clients.length) <;> simp
end Go.Fw
