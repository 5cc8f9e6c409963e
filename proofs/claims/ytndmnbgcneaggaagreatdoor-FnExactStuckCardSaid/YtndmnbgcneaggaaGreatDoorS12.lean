/- Values: 'all are right' by type; hubs. -/
import Derived.Test.YtndmnbgcneaggaaGreatDoorS11
set_option linter.unusedVariables false
set_option linter.unusedSimpArgs false
namespace Go.Fw
open Go.Proofs
theorem v146 (x : VNotify)  (c : Bool) (h : E 70 [slNotify x] [] = RB c) : E 146 [slNotify x, .sp 1 (lstG [.clo 70 0 (lstG [])])] [] = RB (!c) := evK rfl ((e146 ..).trans (obind' h rfl))
theorem v223 (xs : List VNotify)  (hb : xs.length ≤ 4294967296) (hm : szNotifyS xs ≤ 1048576) : E 223 [.sl xs.length 6 (gsNotifyS xs), .clo 146 1 (lstG [.sp 1 (lstG [.clo 70 0 (lstG [])])])] [] = some (nI (fst1 (fun j => (!(dB (NotifyP (xs.getD j zNotify))))) xs.length 0), []) := by
 refine evK rfl ((e223 ..).trans (u_fst (S := fun i : Nat => S223 xs.length xs  (zN xs.length) i) (n := xs.length) (P := fun j => (!(dB (NotifyP (xs.getD j zNotify))))) ?_ (fun i c hi hc => ?_)))
 · exact lstep ((h223 ..).trans (bf' (decide_eq_false (by simp only [zN]; omega)) rfl))
 · refine lstep ((h223 ..).trans (bt' (decide_eq_true (by simp only [zN]; omega)) (bt' (bndL' hi) ?_)))
   rw [wrapN (by omega)]
   simp only [Int.toNat_natCast]
   refine obind' (v146 _  _ (v70 _ (sumL_get (f := szNotify) hm hi))) ?_
   cases ((!(dB (NotifyP (xs.getD i zNotify))))) with
   | true => rfl
   | false => exact hc
theorem v145 (xs : List VNotify)  (hb : xs.length ≤ 4294967296) (hm : szNotifyS xs ≤ 1048576) : E 145 [.sl xs.length 6 (gsNotifyS xs), .clo 146 1 (lstG [.sp 1 (lstG [.clo 70 0 (lstG [])])])] [] = RB (!allR (fun j => !(!(dB (NotifyP (xs.getD j zNotify))))) xs.length 0) :=
 evK rfl ((e145 ..).trans (val (cont_val (v223 xs  hb hm)) (fst1_nn _ _ _)))
theorem v69 (m : Int) (xs : List VNotify)  (hb : xs.length ≤ 4294967296) (hm : szNotifyS xs ≤ 1048576) : E 69 [slNotifyS xs, nI m, .clo 70 0 (lstG [])] [] = RB (decide (zN xs.length ≤ m) && allR (fun j => (dB (NotifyP (xs.getD j zNotify)))) xs.length 0) := by
 refine val (evK rfl ((e69 ..).trans (sP (obind' (v145 xs  hb hm) rfl)))) ?_
 simp only [asB, Bool.not_not]
theorem v150 (x : VEvent)  (c : Bool) (h : E 72 [slEvent x] [] = RB c) : E 150 [slEvent x, .sp 1 (lstG [.clo 72 0 (lstG [])])] [] = RB (!c) := evK rfl ((e150 ..).trans (obind' h rfl))
theorem v229 (xs : List VEvent)  (hb : xs.length ≤ 4294967296) (hm : szEventS xs ≤ 1048576) : E 229 [.sl xs.length 7 (gsEventS xs), .clo 150 1 (lstG [.sp 1 (lstG [.clo 72 0 (lstG [])])])] [] = some (nI (fst1 (fun j => (!(eventB (xs.getD j zEvent)))) xs.length 0), []) := by
 refine evK rfl ((e229 ..).trans (u_fst (S := fun i : Nat => S229 xs.length xs  (zN xs.length) i) (n := xs.length) (P := fun j => (!(eventB (xs.getD j zEvent)))) ?_ (fun i c hi hc => ?_)))
 · exact lstep ((h229 ..).trans (bf' (decide_eq_false (by simp only [zN]; omega)) rfl))
 · refine lstep ((h229 ..).trans (bt' (decide_eq_true (by simp only [zN]; omega)) (bt' (bndL' hi) ?_)))
   rw [wrapN (by omega)]
   simp only [Int.toNat_natCast]
   refine obind' (v150 _  _ (v72 _ (sumL_get (f := szEvent) hm hi))) ?_
   cases ((!(eventB (xs.getD i zEvent)))) with
   | true => rfl
   | false => exact hc
theorem v149 (xs : List VEvent)  (hb : xs.length ≤ 4294967296) (hm : szEventS xs ≤ 1048576) : E 149 [.sl xs.length 7 (gsEventS xs), .clo 150 1 (lstG [.sp 1 (lstG [.clo 72 0 (lstG [])])])] [] = RB (!allR (fun j => !(!(eventB (xs.getD j zEvent)))) xs.length 0) :=
 evK rfl ((e149 ..).trans (val (cont_val (v229 xs  hb hm)) (fst1_nn _ _ _)))
theorem v71 (m : Int) (xs : List VEvent)  (hb : xs.length ≤ 4294967296) (hm : szEventS xs ≤ 1048576) : E 71 [slEventS xs, nI m, .clo 72 0 (lstG [])] [] = RB (decide (zN xs.length ≤ m) && allR (fun j => (eventB (xs.getD j zEvent))) xs.length 0) := by
 refine val (evK rfl ((e71 ..).trans (sP (obind' (v149 xs  hb hm) rfl)))) ?_
 simp only [asB, Bool.not_not]
theorem v152 (x : VLatch)  (c : Bool) (h : E 74 [slLatch x] [] = RB c) : E 152 [slLatch x, .sp 1 (lstG [.clo 74 0 (lstG [])])] [] = RB (!c) := evK rfl ((e152 ..).trans (obind' h rfl))
theorem v230 (xs : List VLatch)  (hb : xs.length ≤ 4294967296) (hm : szLatchS xs ≤ 1048576) : E 230 [.sl xs.length 3 (gsLatchS xs), .clo 152 1 (lstG [.sp 1 (lstG [.clo 74 0 (lstG [])])])] [] = some (nI (fst1 (fun j => (!(latchB (xs.getD j zLatch)))) xs.length 0), []) := by
 refine evK rfl ((e230 ..).trans (u_fst (S := fun i : Nat => S230 xs.length xs  (zN xs.length) i) (n := xs.length) (P := fun j => (!(latchB (xs.getD j zLatch)))) ?_ (fun i c hi hc => ?_)))
 · exact lstep ((h230 ..).trans (bf' (decide_eq_false (by simp only [zN]; omega)) rfl))
 · refine lstep ((h230 ..).trans (bt' (decide_eq_true (by simp only [zN]; omega)) (bt' (bndL' hi) ?_)))
   rw [wrapN (by omega)]
   simp only [Int.toNat_natCast]
   refine obind' (v152 _  _ (v74 _ (sumL_get (f := szLatch) hm hi))) ?_
   cases ((!(latchB (xs.getD i zLatch)))) with
   | true => rfl
   | false => exact hc
theorem v151 (xs : List VLatch)  (hb : xs.length ≤ 4294967296) (hm : szLatchS xs ≤ 1048576) : E 151 [.sl xs.length 3 (gsLatchS xs), .clo 152 1 (lstG [.sp 1 (lstG [.clo 74 0 (lstG [])])])] [] = RB (!allR (fun j => !(!(latchB (xs.getD j zLatch)))) xs.length 0) :=
 evK rfl ((e151 ..).trans (val (cont_val (v230 xs  hb hm)) (fst1_nn _ _ _)))
theorem v73 (m : Int) (xs : List VLatch)  (hb : xs.length ≤ 4294967296) (hm : szLatchS xs ≤ 1048576) : E 73 [slLatchS xs, nI m, .clo 74 0 (lstG [])] [] = RB (decide (zN xs.length ≤ m) && allR (fun j => (latchB (xs.getD j zLatch))) xs.length 0) := by
 refine val (evK rfl ((e73 ..).trans (sP (obind' (v151 xs  hb hm) rfl)))) ?_
 simp only [asB, Bool.not_not]
theorem v154 (x : VCell)  (c : Bool) (h : E 76 [slCell x] [] = RB c) : E 154 [slCell x, .sp 1 (lstG [.clo 76 0 (lstG [])])] [] = RB (!c) := evK rfl ((e154 ..).trans (obind' h rfl))
theorem v231 (xs : List VCell)  (hb : xs.length ≤ 4294967296) (hm : szCellS xs ≤ 1048576) : E 231 [.sl xs.length 7 (gsCellS xs), .clo 154 1 (lstG [.sp 1 (lstG [.clo 76 0 (lstG [])])])] [] = some (nI (fst1 (fun j => (!(cellB (xs.getD j zCell)))) xs.length 0), []) := by
 refine evK rfl ((e231 ..).trans (u_fst (S := fun i : Nat => S231 xs.length xs  (zN xs.length) i) (n := xs.length) (P := fun j => (!(cellB (xs.getD j zCell)))) ?_ (fun i c hi hc => ?_)))
 · exact lstep ((h231 ..).trans (bf' (decide_eq_false (by simp only [zN]; omega)) rfl))
 · refine lstep ((h231 ..).trans (bt' (decide_eq_true (by simp only [zN]; omega)) (bt' (bndL' hi) ?_)))
   rw [wrapN (by omega)]
   simp only [Int.toNat_natCast]
   refine obind' (v154 _  _ (v76 _ (sumL_get (f := szCell) hm hi))) ?_
   cases ((!(cellB (xs.getD i zCell)))) with
   | true => rfl
   | false => exact hc
theorem v153 (xs : List VCell)  (hb : xs.length ≤ 4294967296) (hm : szCellS xs ≤ 1048576) : E 153 [.sl xs.length 7 (gsCellS xs), .clo 154 1 (lstG [.sp 1 (lstG [.clo 76 0 (lstG [])])])] [] = RB (!allR (fun j => !(!(cellB (xs.getD j zCell)))) xs.length 0) :=
 evK rfl ((e153 ..).trans (val (cont_val (v231 xs  hb hm)) (fst1_nn _ _ _)))
theorem v75 (m : Int) (xs : List VCell)  (hb : xs.length ≤ 4294967296) (hm : szCellS xs ≤ 1048576) : E 75 [slCellS xs, nI m, .clo 76 0 (lstG [])] [] = RB (decide (zN xs.length ≤ m) && allR (fun j => (cellB (xs.getD j zCell))) xs.length 0) := by
 refine val (evK rfl ((e75 ..).trans (sP (obind' (v153 xs  hb hm) rfl)))) ?_
 simp only [asB, Bool.not_not]
theorem v78 (x : VMerge) (h0 : VHub) (hb : szTopicS h0.Topics ≤ 1048576) (hx : szMerge x ≤ 1048576) : E 78 [slMerge x, .sp 11 (lstG (clHub h0))] [] = RB (mergeB h0.Topics x) :=
 evK rfl ((e78 ..).trans (obind' (v79 _ _ hb hx) rfl))
theorem v64 (x : VHit) (h0 : VHub) : E 64 [slHit x, .sp 11 (lstG (clHub h0))] [] = RB (inR x.Topic 0 (IntKind.i64.wrap (zN h0.Topics.length - 1))) :=
 evK rfl ((e64 ..).trans (obind' (v65 ..) rfl))
theorem v157 (x : VMerge) (h0 : VHub) (c : Bool) (h : E 78 [slMerge x, .sp 11 (lstG (clHub h0))] [] = RB c) : E 157 [slMerge x, .sp 1 (lstG [.clo 78 1 (lstG [.sp 11 (lstG (clHub h0))])])] [] = RB (!c) := evK rfl ((e157 ..).trans (obind' h rfl))
theorem v232 (xs : List VMerge) (h0 : VHub) (hb : xs.length ≤ 4294967296) (hb0 : szTopicS h0.Topics ≤ 1048576) (hm : szMergeS xs ≤ 1048576) : E 232 [.sl xs.length 3 (gsMergeS xs), .clo 157 1 (lstG [.sp 1 (lstG [.clo 78 1 (lstG [.sp 11 (lstG (clHub h0))])])])] [] = some (nI (fst1 (fun j => (!(mergeB h0.Topics (xs.getD j zMerge)))) xs.length 0), []) := by
 refine evK rfl ((e232 ..).trans (u_fst (S := fun i : Nat => S232 xs.length xs h0 (zN xs.length) i) (n := xs.length) (P := fun j => (!(mergeB h0.Topics (xs.getD j zMerge)))) ?_ (fun i c hi hc => ?_)))
 · exact lstep ((h232 ..).trans (bf' (decide_eq_false (by simp only [zN]; omega)) rfl))
 · refine lstep ((h232 ..).trans (bt' (decide_eq_true (by simp only [zN]; omega)) (bt' (bndL' hi) ?_)))
   rw [wrapN (by omega)]
   simp only [Int.toNat_natCast]
   refine obind' (v157 _ h0 _ (v78 _ _ hb0 (sumL_get (f := szMerge) hm hi))) ?_
   cases ((!(mergeB h0.Topics (xs.getD i zMerge)))) with
   | true => rfl
   | false => exact hc
theorem v156 (xs : List VMerge) (h0 : VHub) (hb : xs.length ≤ 4294967296) (hb0 : szTopicS h0.Topics ≤ 1048576) (hm : szMergeS xs ≤ 1048576) : E 156 [.sl xs.length 3 (gsMergeS xs), .clo 157 1 (lstG [.sp 1 (lstG [.clo 78 1 (lstG [.sp 11 (lstG (clHub h0))])])])] [] = RB (!allR (fun j => !(!(mergeB h0.Topics (xs.getD j zMerge)))) xs.length 0) :=
 evK rfl ((e156 ..).trans (val (cont_val (v232 xs h0 hb hb0 hm)) (fst1_nn _ _ _)))
theorem v77 (m : Int) (xs : List VMerge) (h0 : VHub) (hb : xs.length ≤ 4294967296) (hb0 : szTopicS h0.Topics ≤ 1048576) (hm : szMergeS xs ≤ 1048576) : E 77 [slMergeS xs, nI m, .clo 78 1 (lstG [.sp 11 (lstG (clHub h0))])] [] = RB (decide (zN xs.length ≤ m) && allR (fun j => (mergeB h0.Topics (xs.getD j zMerge))) xs.length 0) := by
 refine val (evK rfl ((e77 ..).trans (sP (obind' (v156 xs h0 hb hb0 hm) rfl)))) ?_
 simp only [asB, Bool.not_not]
theorem v141 (x : VHit) (h0 : VHub) (c : Bool) (h : E 64 [slHit x, .sp 11 (lstG (clHub h0))] [] = RB c) : E 141 [slHit x, .sp 1 (lstG [.clo 64 1 (lstG [.sp 11 (lstG (clHub h0))])])] [] = RB (!c) := evK rfl ((e141 ..).trans (obind' h rfl))
theorem v211 (xs : List VHit) (h0 : VHub) (hb : xs.length ≤ 4294967296)  : E 211 [.sl xs.length 2 (gsHitS xs), .clo 141 1 (lstG [.sp 1 (lstG [.clo 64 1 (lstG [.sp 11 (lstG (clHub h0))])])])] [] = some (nI (fst1 (fun j => (!(inR (xs.getD j zHit).Topic 0 (IntKind.i64.wrap (zN h0.Topics.length - 1))))) xs.length 0), []) := by
 refine evK rfl ((e211 ..).trans (u_fst (S := fun i : Nat => S211 xs.length xs h0 (zN xs.length) i) (n := xs.length) (P := fun j => (!(inR (xs.getD j zHit).Topic 0 (IntKind.i64.wrap (zN h0.Topics.length - 1))))) ?_ (fun i c hi hc => ?_)))
 · exact lstep ((h211 ..).trans (bf' (decide_eq_false (by simp only [zN]; omega)) rfl))
 · refine lstep ((h211 ..).trans (bt' (decide_eq_true (by simp only [zN]; omega)) (bt' (bndL' hi) ?_)))
   rw [wrapN (by omega)]
   simp only [Int.toNat_natCast]
   refine obind' (v141 _ h0 _ (v64 _ _)) ?_
   cases ((!(inR (xs.getD i zHit).Topic 0 (IntKind.i64.wrap (zN h0.Topics.length - 1))))) with
   | true => rfl
   | false => exact hc
theorem v140 (xs : List VHit) (h0 : VHub) (hb : xs.length ≤ 4294967296)  : E 140 [.sl xs.length 2 (gsHitS xs), .clo 141 1 (lstG [.sp 1 (lstG [.clo 64 1 (lstG [.sp 11 (lstG (clHub h0))])])])] [] = RB (!allR (fun j => !(!(inR (xs.getD j zHit).Topic 0 (IntKind.i64.wrap (zN h0.Topics.length - 1))))) xs.length 0) :=
 evK rfl ((e140 ..).trans (val (cont_val (v211 xs h0 hb )) (fst1_nn _ _ _)))
theorem v63 (m : Int) (xs : List VHit) (h0 : VHub) (hb : xs.length ≤ 4294967296)  : E 63 [slHitS xs, nI m, .clo 64 1 (lstG [.sp 11 (lstG (clHub h0))])] [] = RB (decide (zN xs.length ≤ m) && allR (fun j => (inR (xs.getD j zHit).Topic 0 (IntKind.i64.wrap (zN h0.Topics.length - 1)))) xs.length 0) := by
 refine val (evK rfl ((e63 ..).trans (sP (obind' (v140 xs h0 hb ) rfl)))) ?_
 simp only [asB, Bool.not_not]
def userB (h0 : VHub) (u : VUser) : Bool := decide (u.Subs.length ≤ 12) && (decide (zN u.Seen.length = zN h0.Cells.length) && allR (fun j => inR (u.Subs.getD j zHit).Topic 0 (IntKind.i64.wrap (zN h0.Topics.length - 1))) u.Subs.length 0)
theorem v62 (u : VUser) (h0 : VHub) (hb : szUser u ≤ 1048576) : E 62 [slUser u, .sp 11 (lstG (clHub h0))] [] = RB (userB h0 u) := by
 unfold szUser at hb
 have hl : u.Subs.length ≤ 1048576 := sumL_len (f := fun _ => 0) (show szHitS u.Subs ≤ 1048576 by omega)
 refine val (evK rfl ((e62 ..).trans (sP (obind' (v63 12 u.Subs h0 (by omega)) rfl)))) ?_
 unfold userB
 rw [show decide (zN u.Subs.length ≤ (12 : Int)) = decide (u.Subs.length ≤ 12) from le_len 12]
 simp only [asB]
 cases decide (u.Subs.length ≤ 12) <;> cases decide (zN u.Seen.length = zN h0.Cells.length) <;> simp
theorem v162 (x : VUser) (h0 : VHub) (c : Bool) (h : E 62 [slUser x, .sp 11 (lstG (clHub h0))] [] = RB c) : E 162 [slUser x, .sp 1 (lstG [.clo 62 1 (lstG [.sp 11 (lstG (clHub h0))])])] [] = RB (!c) := evK rfl ((e162 ..).trans (obind' h rfl))
theorem v235 (xs : List VUser) (h0 : VHub) (hb : xs.length ≤ 4294967296) (hm : szUserS xs ≤ 1048576) : E 235 [.sl xs.length 2 (gsUserS xs), .clo 162 1 (lstG [.sp 1 (lstG [.clo 62 1 (lstG [.sp 11 (lstG (clHub h0))])])])] [] = some (nI (fst1 (fun j => (!(userB h0 (xs.getD j zUser)))) xs.length 0), []) := by
 refine evK rfl ((e235 ..).trans (u_fst (S := fun i : Nat => S235 xs.length xs h0 (zN xs.length) i) (n := xs.length) (P := fun j => (!(userB h0 (xs.getD j zUser)))) ?_ (fun i c hi hc => ?_)))
 · exact lstep ((h235 ..).trans (bf' (decide_eq_false (by simp only [zN]; omega)) rfl))
 · refine lstep ((h235 ..).trans (bt' (decide_eq_true (by simp only [zN]; omega)) (bt' (bndL' hi) ?_)))
   rw [wrapN (by omega)]
   simp only [Int.toNat_natCast]
   refine obind' (v162 _ h0 _ (v62 _ _ (sumL_get (f := szUser) hm hi))) ?_
   cases ((!(userB h0 (xs.getD i zUser)))) with
   | true => rfl
   | false => exact hc
theorem v161 (xs : List VUser) (h0 : VHub) (hb : xs.length ≤ 4294967296) (hm : szUserS xs ≤ 1048576) : E 161 [.sl xs.length 2 (gsUserS xs), .clo 162 1 (lstG [.sp 1 (lstG [.clo 62 1 (lstG [.sp 11 (lstG (clHub h0))])])])] [] = RB (!allR (fun j => !(!(userB h0 (xs.getD j zUser)))) xs.length 0) :=
 evK rfl ((e161 ..).trans (val (cont_val (v235 xs h0 hb hm)) (fst1_nn _ _ _)))
theorem v80 (m : Int) (xs : List VUser) (h0 : VHub) (hb : xs.length ≤ 4294967296) (hm : szUserS xs ≤ 1048576) : E 80 [slUserS xs, nI m, .clo 62 1 (lstG [.sp 11 (lstG (clHub h0))])] [] = RB (decide (zN xs.length ≤ m) && allR (fun j => (userB h0 (xs.getD j zUser))) xs.length 0) := by
 refine val (evK rfl ((e80 ..).trans (sP (obind' (v161 xs h0 hb hm) rfl)))) ?_
 simp only [asB, Bool.not_not]
def clientB (c : VClient) : Bool := decide (c.Prog.length ≤ 30) && (inR c.At 0 (zN c.Prog.length) && (allR (fun j => callOk (c.Prog.getD j zCall)) c.Prog.length 0 && (bif c.Waiting then decide (c.At < zN c.Prog.length) && blk (c.Prog.getD c.At.toNat zCall).Op else true)))
theorem v29 (x : VClient) (hb : szClient x ≤ 1048576) : E 29 [slClient x] [] = RB (clientB x) := by
 unfold szClient at hb
 have hl : x.Prog.length ≤ 1048576 := sumL_len hb
 have hm : ∀ z ∈ x.Prog, smCall z := fun z hz => smCall_of (sumL_mem hb z hz)
 have hc := v83 x.Prog (by omega) hm
 refine val (b := !decide (30 < zN x.Prog.length) && (allR (fun j => callOk (x.Prog.getD j zCall)) x.Prog.length 0 && (inR x.At 0 (zN x.Prog.length) && (bif x.Waiting then decide (x.At < zN x.Prog.length) && blk (x.Prog.getD x.At.toNat zCall).Op else true)))) (evK rfl ((e29 ..).trans ?_)) ?_
 · refine val (sF (obind' hc (sF (w := inR x.At 0 (zN x.Prog.length) && (bif x.Waiting then decide (x.At < zN x.Prog.length) && blk (x.Prog.getD x.At.toNat zCall).Op else true)) (obind' (v86 ..) ?_)))) ?_
   · show (bif !inR x.At 0 (zN x.Prog.length) then _ else _) = _
     cases ha : inR x.At 0 (zN x.Prog.length) with
     | false => rfl
     | true =>
      have ha := inR_iff.1 ha
      refine bf' rfl ?_
      cases x.Waiting with
      | false => rfl
      | true =>
       refine bf' rfl ?_
       by_cases h : x.At < zN x.Prog.length
       · rw [decide_eq_true h]
         exact bt' rfl (bt' (by rw [decide_eq_true ha.1]; rfl) (obind' (v87 _) rfl))
       · rw [decide_eq_false h]; rfl
   · simp only [asB, Bool.not_not]
 · unfold clientB
   rw [show (!decide ((30 : Int) < zN x.Prog.length)) = decide (x.Prog.length ≤ 30) from gt_len 30]
   cases decide (x.Prog.length ≤ 30) <;> cases allR (fun j => callOk (x.Prog.getD j zCall)) x.Prog.length 0 <;> cases inR x.At 0 (zN x.Prog.length) <;> simp
theorem v82 (x : VClient)  (c : Bool) (h : E 29 [slClient x] [] = RB c) : E 82 [slClient x, .sp 1 (lstG [.clo 29 0 (lstG [])])] [] = RB (!c) := evK rfl ((e82 ..).trans (obind' h rfl))
theorem v163 (xs : List VClient)  (hb : xs.length ≤ 4294967296) (hm : szClientS xs ≤ 1048576) : E 163 [.sl xs.length 3 (gsClientS xs), .clo 82 1 (lstG [.sp 1 (lstG [.clo 29 0 (lstG [])])])] [] = some (nI (fst1 (fun j => (!(clientB (xs.getD j zClient)))) xs.length 0), []) := by
 refine evK rfl ((e163 ..).trans (u_fst (S := fun i : Nat => S163 xs.length xs  (zN xs.length) i) (n := xs.length) (P := fun j => (!(clientB (xs.getD j zClient)))) ?_ (fun i c hi hc => ?_)))
 · exact lstep ((h163 ..).trans (bf' (decide_eq_false (by simp only [zN]; omega)) rfl))
 · refine lstep ((h163 ..).trans (bt' (decide_eq_true (by simp only [zN]; omega)) (bt' (bndL' hi) ?_)))
   rw [wrapN (by omega)]
   simp only [Int.toNat_natCast]
   refine obind' (v82 _  _ (v29 _ (sumL_get (f := szClient) hm hi))) ?_
   cases ((!(clientB (xs.getD i zClient)))) with
   | true => rfl
   | false => exact hc
theorem v81 (xs : List VClient)  (hb : xs.length ≤ 4294967296) (hm : szClientS xs ≤ 1048576) : E 81 [.sl xs.length 3 (gsClientS xs), .clo 82 1 (lstG [.sp 1 (lstG [.clo 29 0 (lstG [])])])] [] = RB (!allR (fun j => !(!(clientB (xs.getD j zClient)))) xs.length 0) :=
 evK rfl ((e81 ..).trans (val (cont_val (v163 xs  hb hm)) (fst1_nn _ _ _)))
theorem v28 (m : Int) (xs : List VClient)  (hb : xs.length ≤ 4294967296) (hm : szClientS xs ≤ 1048576) : E 28 [slClientS xs, nI m, .clo 29 0 (lstG [])] [] = RB (decide (zN xs.length ≤ m) && allR (fun j => (clientB (xs.getD j zClient))) xs.length 0) := by
 refine val (evK rfl ((e28 ..).trans (sP (obind' (v81 xs  hb hm) rfl)))) ?_
 simp only [asB, Bool.not_not]
end Go.Fw
