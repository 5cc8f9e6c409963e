/- Marking a state; marks of numbers are read again. -/
import Derived.Test.YtndmnbgcneaggaaGreatDoorM1
set_option linter.unusedVariables false
set_option linter.unusedSimpArgs false
set_option maxRecDepth 100000
namespace Go.Fw
open Go.Proofs
theorem vm98 (x : VTokens) (k : Int) (h0 : 0 ≤ k) (h1 : k + 64 * (szTokens x : Nat) ≤ 1125899906842624) : ∃ (k' : Int) (a : List Int) (c : List Bool), E 98 [.ag 2 (lstG [.rf 0, .rf 4096]), nI k] [owIntS x.Parents, owBoolS x.Off] = some (nI k', [.own x.Parents.length 1 (gsIntS a), .own x.Off.length 1 (gsBoolS c)]) ∧ k ≤ k' ∧ k' ≤ k + 64 * (szTokens x : Nat) := by
 unfold szTokens at h1 ⊢
 obtain ⟨k1, z1, e1, l1, a1, b1⟩ := vm15 x.Parents k (by omega) (by omega)
 obtain ⟨k2, z2, e2, l2, a2, b2⟩ := vm177 x.Off k1 (by omega) (by omega)
 exact ⟨k2, z1, z2, evK rfl ((e98 ..).trans (obind' e1 (obind' e2 (bt' okT_eq (bt' okT_eq rfl))))), by omega, by omega⟩
theorem vm99 (x : VClock) (k : Int) (h0 : 0 ≤ k) (h1 : k + 64 * (szClock x : Nat) ≤ 1125899906842624) : ∃ (k' : Int) (a : List VTimer), E 99 [.ag 2 (lstG [nI x.Now, .rf 0]), nI k] [owTimerS x.Timers] = some (nI k', [.own x.Timers.length 2 (gsTimerS a)]) ∧ k ≤ k' ∧ k' ≤ k + 64 * (szClock x : Nat) := by
 unfold szClock at h1 ⊢
 obtain ⟨k1, z1, e1, l1, a1, b1⟩ := vm178 x.Timers k (by omega) (by omega)
 exact ⟨k1, z1, evK rfl ((e99 ..).trans (obind' e1 (bt' okT_eq rfl))), by omega, by omega⟩
theorem vm32 (x : VHub) (k : Int) (h0 : 0 ≤ k) (h1 : k + 64 * (szHub x : Nat) ≤ 1125899906842624) : ∃ (k' : Int) (a : List Int) (c : List Bool) (d : List VTimer) (y0 : List VNotify) (y1 : List VEvent) (y2 : List VLatch) (y3 : List VCell) (y4 : List VTopic) (y5 : List VMerge) (y6 : List VUser), E 32 [.ag 11 (lstG [.rf 0, .rf 4096, nI x.Clock.Now, .rf 8192, .rf 12288, .rf 16384, .rf 20480, .rf 24576, .rf 28672, .rf 32768, .rf 36864]), nI k] [owIntS x.Tokens.Parents, owBoolS x.Tokens.Off, owTimerS x.Clock.Timers, owNotifyS x.Notes, owEventS x.Events, owLatchS x.Latches, owCellS x.Cells, owTopicS x.Topics, owMergeS x.Merges, owUserS x.Users] = some (nI k', [.own x.Tokens.Parents.length 1 (gsIntS a), .own x.Tokens.Off.length 1 (gsBoolS c), .own x.Clock.Timers.length 2 (gsTimerS d), .own x.Notes.length 6 (goNotifyS y0), .own x.Events.length 7 (goEventS y1), .own x.Latches.length 3 (goLatchS y2), .own x.Cells.length 7 (goCellS y3), .own x.Topics.length 9 (goTopicS y4), .own x.Merges.length 3 (goMergeS y5), .own x.Users.length 2 (goUserS y6)]) ∧ k ≤ k' ∧ k' ≤ k + 64 * (szHub x : Nat) := by
 unfold szHub at h1 ⊢
 obtain ⟨k0, a, c, e0, a0, b0⟩ := vm98 x.Tokens k (by omega) (by omega)
 obtain ⟨k1, d, e1, a1, b1⟩ := vm99 x.Clock k0 (by omega) (by omega)
 obtain ⟨m0, y0, f0, l0, g0, w0⟩ := vm100 x.Notes k1 (by omega) (by omega)
 obtain ⟨m1, y1, f1, l1, g1, w1⟩ := vm101 x.Events m0 (by omega) (by omega)
 obtain ⟨m2, y2, f2, l2, g2, w2⟩ := vm102 x.Latches m1 (by omega) (by omega)
 obtain ⟨m3, y3, f3, l3, g3, w3⟩ := vm103 x.Cells m2 (by omega) (by omega)
 obtain ⟨m4, y4, f4, l4, g4, w4⟩ := vm104 x.Topics m3 (by omega) (by omega)
 obtain ⟨m5, y5, f5, l5, g5, w5⟩ := vm105 x.Merges m4 (by omega) (by omega)
 obtain ⟨m6, y6, f6, l6, g6, w6⟩ := vm106 x.Users m5 (by omega) (by omega)
 refine ⟨m6, a, c, d, y0, y1, y2, y3, y4, y5, y6, evK rfl ((e32 ..).trans (obind' e0 (obind' e1 (obind' f0 (obind' f1 (obind' f2 (obind' f3 (obind' f4 (obind' f5 (obind' f6 (?_))))))))))), by omega, by omega⟩
 exact bt' okT_eq (bt' okT_eq (bt' okT_eq (bt' (okF_NotifyS x.Notes y0) (bt' (okF_EventS x.Events y1) (bt' (okF_LatchS x.Latches y2) (bt' (okF_CellS x.Cells y3) (bt' (okF_TopicS x.Topics y4) (bt' (okF_MergeS x.Merges y5) (bt' (okF_UserS x.Users y6) (rfl))))))))))
theorem vm14 (x : VState) (k : Int) (h0 : 0 ≤ k) (h1 : k + 64 * (szState x : Nat) ≤ 1125899906842624) : ∃ (k' : Int) (r : List AV), E 14 [.ag 12 (lstG [.rf 0, .rf 4096, nI x.Hub.Clock.Now, .rf 8192, .rf 12288, .rf 16384, .rf 20480, .rf 24576, .rf 28672, .rf 32768, .rf 36864, .rf 40960]), nI k] [owIntS x.Hub.Tokens.Parents, owBoolS x.Hub.Tokens.Off, owTimerS x.Hub.Clock.Timers, owNotifyS x.Hub.Notes, owEventS x.Hub.Events, owLatchS x.Hub.Latches, owCellS x.Hub.Cells, owTopicS x.Hub.Topics, owMergeS x.Hub.Merges, owUserS x.Hub.Users, owClientS x.Clients] = some (nI k', r) ∧ k ≤ k' := by
 unfold szState at h1
 obtain ⟨k1, a, c, d, y0, y1, y2, y3, y4, y5, y6, e0, a0, b0⟩ := vm32 x.Hub k h0 (by omega)
 obtain ⟨k2, z, e1, l1, a1, b1⟩ := vm33 x.Clients k1 (by omega) (by omega)
 exact ⟨k2, _, evK rfl ((e14 ..).trans (obind' e0 (obind' e1 (bt' okT_eq (bt' okT_eq (bt' okT_eq (bt' (okF_NotifyS x.Hub.Notes y0) (bt' (okF_EventS x.Hub.Events y1) (bt' (okF_LatchS x.Hub.Latches y2) (bt' (okF_CellS x.Hub.Cells y3) (bt' (okF_TopicS x.Hub.Topics y4) (bt' (okF_MergeS x.Hub.Merges y5) (bt' (okF_UserS x.Hub.Users y6) (bt' (okF_ClientS x.Clients z) rfl)))))))))))))), by omega⟩
theorem mmk (x : List Int) (k : Int) (h0 : 0 ≤ k) (hx : x.length ≤ 1048576) (hk : k ≤ 1099511627776) : ∃ z : List Int, E 15 [.rf 0, nI k] [owIntS x] = some (nI (k + x.length), [owIntS z]) ∧ z.length = x.length ∧ ∀ j : Nat, j < x.length → z.getD j 0 = k + j := by
 have key : ∀ (m i : Nat) (y : List Int), i + m = x.length → y.length = x.length → (∀ j : Nat, j < i → y.getD j 0 = k + j) →
   ∃ z : List Int, L 15 [owIntS x] P15 (S15 x y (k + i) i) = some (nI (k + x.length), [owIntS z]) ∧ z.length = x.length ∧ ∀ j : Nat, j < x.length → z.getD j 0 = k + j := by
  intro m
  induction m with
  | zero =>
   intro i y hi hy hj
   obtain rfl : i = x.length := by omega
   refine ⟨y, lstep ((h15 ..).trans (bf' (decide_eq_false (by simp only [zN]; omega)) (bt' okT_eq ?_))), hy, hj⟩
   rw [← hy] <;> rfl
  | succ m ih =>
   intro i y hi hy hj
   have hle : i < y.length := by omega
   obtain ⟨z, e, r⟩ := ih (i + 1) (y.set i (k + i)) (by omega) (by rw [List.length_set]; exact hy) (fun j hj2 => by
    rw [getD_set hle]
    by_cases h : j = i
    · rw [if_pos h, h]
    · rw [if_neg h]; exact hj j (by omega))
   refine ⟨z, ?_, r⟩
   refine lstep ((h15 ..).trans (bt' (decide_eq_true (by simp only [zN]; omega)) (bt' (bndM hle) ?_)))
   rw [wrapN (by omega), wr (a := k + (i : Int)) (by omega) (by omega)]
   simp only [Int.toNat_natCast]
   refine (congrArg (fun G => L 15 [owIntS x] P15 (hdS [(0, .rf 0), (1, nI (k + (i : Int) + 1)), (5, nI ((i + 1 : Nat) : Int))] [(0, ⟨y.length, 1, G⟩)] [])) (set_IntS (os := y) (v := k + (i : Int)) hle)).trans ?_
   rw [show y.length = (y.set i (k + (i : Int))).length from (List.length_set ..).symm, show k + (i : Int) + 1 = k + ((i + 1 : Nat) : Int) by omega]
   exact e
 obtain ⟨z, e, r⟩ := key x.length 0 x (by omega) rfl (fun j hj => by omega)
 refine ⟨z, evK rfl ((e15 ..).trans ?_), r⟩
 have e2 : k + ((0 : Nat) : Int) = k := by omega
 rw [e2] at e
 exact e
theorem hmk (z : List Int) (k : Int) (h0 : 0 ≤ k) (hz : z.length ≤ 1048576) (hk : k ≤ 1099511627776) (h : ∀ j : Nat, j < z.length → z.getD j 0 = k + j) : E 16 [slIntS z, nI k] [] = some (nI (k + z.length), []) := by
 have key : ∀ (m i : Nat), i + m = z.length → L 16 [] P16 (S16 z (k + i) i) = some (nI (k + z.length), []) := by
  intro m
  induction m with
  | zero =>
   intro i hi
   obtain rfl : i = z.length := by omega
   exact lstep ((h16 ..).trans (bf' (decide_eq_false (by simp only [zN]; omega)) rfl))
  | succ m ih =>
   intro i hi
   have hl : i < z.length := by omega
   refine lstep ((h16 ..).trans (bt' (decide_eq_true (by simp only [zN]; omega)) (bt' (bndM hl) ?_)))
   rw [wrapN (by omega), wr (a := k + (i : Int)) (by omega) (by omega)]
   simp only [Int.toNat_natCast]
   refine bf' (by rw [decide_eq_true (h i hl)]; rfl) ?_
   rw [show k + (i : Int) + 1 = k + ((i + 1 : Nat) : Int) by omega]
   exact ih (i + 1) (by omega)
 have := key z.length 0 (by omega)
 have e2 : k + ((0 : Nat) : Int) = k := by omega
 rw [e2] at this
 exact evK rfl ((e16 ..).trans this)
end Go.Fw
