/- Values of sizes, comparisons. -/
import Derived.Test.YtonhlheceebflaaGreatV0
set_option linter.unusedVariables false
set_option linter.unusedSimpArgs false
namespace Go.Fw
open Go.Proofs
theorem m90 (x : (List Int)) (hb : szIntS x ≤ 1048576) : ∀ (m i : Nat), i + m = x.length →
    HH 90 [] (m + 1) [true, true, false, true] (hdS [(0, slIntS x), (1, slIntS x), (5, nI (i : Int))] [] []) = some (.B true, []) := by
  have hlen : x.length ≤ 1048576 := sumL_len hb
  intro m
  induction m with
  | zero => intro i hi; rw [hstep, h90, bf (by simp [zN] <;> omega)]
  | succ m ih =>
    intro i hi
    rw [hstep, h90, bt (by simp [zN] <;> omega), bt (by simp [zN] <;> omega), bt (by simp [zN] <;> omega), wrapN (by omega)]
    simp only [Int.toNat_natCast]
    refine bf' (by simp) ?_
    exact ih (i + 1) (by omega)
theorem w90 (x : (List Int)) (hb : szIntS x ≤ 1048576) : E 90 [slIntS x, slIntS x] [] = some (.B true, []) := by
  refine ev1 (x.length + 1) rfl ?_
  rw [e90, bf (by simp)]
  exact m90 x hb x.length 0 (by omega)
theorem m91 (x : (List Bool)) (hb : szBoolS x ≤ 1048576) : ∀ (m i : Nat), i + m = x.length →
    HH 91 [] (m + 1) [true, true, false, true] (hdS [(0, slBoolS x), (1, slBoolS x), (5, nI (i : Int))] [] []) = some (.B true, []) := by
  have hlen : x.length ≤ 1048576 := sumL_len hb
  intro m
  induction m with
  | zero => intro i hi; rw [hstep, h91, bf (by simp [zN] <;> omega)]
  | succ m ih =>
    intro i hi
    rw [hstep, h91, bt (by simp [zN] <;> omega), bt (by simp [zN] <;> omega), bt (by simp [zN] <;> omega), wrapN (by omega)]
    simp only [Int.toNat_natCast]
    refine bf' (by simp) ?_
    exact ih (i + 1) (by omega)
theorem w91 (x : (List Bool)) (hb : szBoolS x ≤ 1048576) : E 91 [slBoolS x, slBoolS x] [] = some (.B true, []) := by
  refine ev1 (x.length + 1) rfl ?_
  rw [e91, bf (by simp)]
  exact m91 x hb x.length 0 (by omega)
theorem w55 (x : VTokens) (hb : szTokens x ≤ 1048576) : E 55 [slTokens x, slTokens x] [] = some (.B true, []) := by
  refine ev1 0 rfl ?_
  rw [e55]
  unfold szTokens at hb
  refine obind' (w90 x.Parents (by omega)) (bf' rfl ?_)
  refine obind' (w91 x.Off (by omega)) (bf' rfl ?_)
  rfl
theorem w114 (x : VTimer) : E 114 [slTimer x, slTimer x] [] = some (.B true, []) := by
  refine ev1 0 rfl ?_
  rw [e114]
  refine bf' (by simp) ?_
  refine bf' (by simp) ?_
  rfl
theorem m92 (x : (List VTimer)) (hb : szTimerS x ≤ 1048576) : ∀ (m i : Nat), i + m = x.length →
    HH 92 [] (m + 1) [true, true, false, true] (hdS [(0, slTimerS x), (1, slTimerS x), (5, nI (i : Int))] [] []) = some (.B true, []) := by
  have hlen : x.length ≤ 1048576 := sumL_len hb
  intro m
  induction m with
  | zero => intro i hi; rw [hstep, h92, bf (by simp [zN] <;> omega)]
  | succ m ih =>
    intro i hi
    rw [hstep, h92, bt (by simp [zN] <;> omega), bt (by simp [zN] <;> omega), bt (by simp [zN] <;> omega), wrapN (by omega)]
    simp only [Int.toNat_natCast]
    refine obind' (w114 (x.getD i zTimer)) (bf' rfl ?_)
    exact ih (i + 1) (by omega)
theorem w92 (x : (List VTimer)) (hb : szTimerS x ≤ 1048576) : E 92 [slTimerS x, slTimerS x] [] = some (.B true, []) := by
  refine ev1 (x.length + 1) rfl ?_
  rw [e92, bf (by simp)]
  exact m92 x hb x.length 0 (by omega)
theorem w56 (x : VClock) (hb : szClock x ≤ 1048576) : E 56 [slClock x, slClock x] [] = some (.B true, []) := by
  refine ev1 0 rfl ?_
  rw [e56]
  unfold szClock at hb
  refine bf' (by simp) ?_
  refine obind' (w92 x.Timers (by omega)) (bf' rfl ?_)
  rfl
theorem w130 (x : VGrant) : E 130 [slGrant x, slGrant x] [] = some (.B true, []) := by
  refine ev1 0 rfl ?_
  rw [e130]
  refine bf' (by simp) ?_
  refine bf' (by simp) ?_
  rfl
theorem m115 (x : (List VGrant)) (hb : szGrantS x ≤ 1048576) : ∀ (m i : Nat), i + m = x.length →
    HH 115 [] (m + 1) [true, true, false, true] (hdS [(0, slGrantS x), (1, slGrantS x), (5, nI (i : Int))] [] []) = some (.B true, []) := by
  have hlen : x.length ≤ 1048576 := sumL_len hb
  intro m
  induction m with
  | zero => intro i hi; rw [hstep, h115, bf (by simp [zN] <;> omega)]
  | succ m ih =>
    intro i hi
    rw [hstep, h115, bt (by simp [zN] <;> omega), bt (by simp [zN] <;> omega), bt (by simp [zN] <;> omega), wrapN (by omega)]
    simp only [Int.toNat_natCast]
    refine obind' (w130 (x.getD i zGrant)) (bf' rfl ?_)
    exact ih (i + 1) (by omega)
theorem w115 (x : (List VGrant)) (hb : szGrantS x ≤ 1048576) : E 115 [slGrantS x, slGrantS x] [] = some (.B true, []) := by
  refine ev1 (x.length + 1) rfl ?_
  rw [e115, bf (by simp)]
  exact m115 x hb x.length 0 (by omega)
theorem w93 (x : VNotify) (hb : szNotify x ≤ 1048576) : E 93 [slNotify x, slNotify x] [] = some (.B true, []) := by
  refine ev1 0 rfl ?_
  rw [e93]
  unfold szNotify at hb
  refine bf' (by simp) ?_
  refine obind' (w90 x.Line (by omega)) (bf' rfl ?_)
  refine obind' (w115 x.Grants (by omega)) (bf' rfl ?_)
  refine bf' (by simp) ?_
  refine bf' (by simp) ?_
  refine bf' (by simp) ?_
  rfl
theorem m57 (x : (List VNotify)) (hb : szNotifyS x ≤ 1048576) : ∀ (m i : Nat), i + m = x.length →
    HH 57 [] (m + 1) [true, true, false, true] (hdS [(0, slNotifyS x), (1, slNotifyS x), (5, nI (i : Int))] [] []) = some (.B true, []) := by
  have hlen : x.length ≤ 1048576 := sumL_len hb
  intro m
  induction m with
  | zero => intro i hi; rw [hstep, h57, bf (by simp [zN] <;> omega)]
  | succ m ih =>
    intro i hi
    rw [hstep, h57, bt (by simp [zN] <;> omega), bt (by simp [zN] <;> omega), bt (by simp [zN] <;> omega), wrapN (by omega)]
    simp only [Int.toNat_natCast]
    refine obind' (w93 (x.getD i zNotify) (sumL_get hb (by omega))) (bf' rfl ?_)
    exact ih (i + 1) (by omega)
theorem w57 (x : (List VNotify)) (hb : szNotifyS x ≤ 1048576) : E 57 [slNotifyS x, slNotifyS x] [] = some (.B true, []) := by
  refine ev1 (x.length + 1) rfl ?_
  rw [e57, bf (by simp)]
  exact m57 x hb x.length 0 (by omega)
theorem w94 (x : VEvent) (hb : szEvent x ≤ 1048576) : E 94 [slEvent x, slEvent x] [] = some (.B true, []) := by
  refine ev1 0 rfl ?_
  rw [e94]
  unfold szEvent at hb
  refine bf' (by simp) ?_
  refine bf' (by simp) ?_
  refine obind' (w90 x.Line (by omega)) (bf' rfl ?_)
  refine obind' (w90 x.Grants (by omega)) (bf' rfl ?_)
  refine bf' (by simp) ?_
  refine bf' (by simp) ?_
  refine bf' (by simp) ?_
  rfl
theorem m58 (x : (List VEvent)) (hb : szEventS x ≤ 1048576) : ∀ (m i : Nat), i + m = x.length →
    HH 58 [] (m + 1) [true, true, false, true] (hdS [(0, slEventS x), (1, slEventS x), (5, nI (i : Int))] [] []) = some (.B true, []) := by
  have hlen : x.length ≤ 1048576 := sumL_len hb
  intro m
  induction m with
  | zero => intro i hi; rw [hstep, h58, bf (by simp [zN] <;> omega)]
  | succ m ih =>
    intro i hi
    rw [hstep, h58, bt (by simp [zN] <;> omega), bt (by simp [zN] <;> omega), bt (by simp [zN] <;> omega), wrapN (by omega)]
    simp only [Int.toNat_natCast]
    refine obind' (w94 (x.getD i zEvent) (sumL_get hb (by omega))) (bf' rfl ?_)
    exact ih (i + 1) (by omega)
theorem w58 (x : (List VEvent)) (hb : szEventS x ≤ 1048576) : E 58 [slEventS x, slEventS x] [] = some (.B true, []) := by
  refine ev1 (x.length + 1) rfl ?_
  rw [e58, bf (by simp)]
  exact m58 x hb x.length 0 (by omega)
theorem w95 (x : VLatch) (hb : szLatch x ≤ 1048576) : E 95 [slLatch x, slLatch x] [] = some (.B true, []) := by
  refine ev1 0 rfl ?_
  rw [e95]
  unfold szLatch at hb
  refine bf' (by simp) ?_
  refine obind' (w90 x.Line (by omega)) (bf' rfl ?_)
  refine obind' (w90 x.Grants (by omega)) (bf' rfl ?_)
  rfl
theorem m59 (x : (List VLatch)) (hb : szLatchS x ≤ 1048576) : ∀ (m i : Nat), i + m = x.length →
    HH 59 [] (m + 1) [true, true, false, true] (hdS [(0, slLatchS x), (1, slLatchS x), (5, nI (i : Int))] [] []) = some (.B true, []) := by
  have hlen : x.length ≤ 1048576 := sumL_len hb
  intro m
  induction m with
  | zero => intro i hi; rw [hstep, h59, bf (by simp [zN] <;> omega)]
  | succ m ih =>
    intro i hi
    rw [hstep, h59, bt (by simp [zN] <;> omega), bt (by simp [zN] <;> omega), bt (by simp [zN] <;> omega), wrapN (by omega)]
    simp only [Int.toNat_natCast]
    refine obind' (w95 (x.getD i zLatch) (sumL_get hb (by omega))) (bf' rfl ?_)
    exact ih (i + 1) (by omega)
theorem w59 (x : (List VLatch)) (hb : szLatchS x ≤ 1048576) : E 59 [slLatchS x, slLatchS x] [] = some (.B true, []) := by
  refine ev1 (x.length + 1) rfl ?_
  rw [e59, bf (by simp)]
  exact m59 x hb x.length 0 (by omega)
theorem w116 (x : VMsg) (hb : szMsg x ≤ 1048576) : E 116 [slMsg x, slMsg x] [] = some (.B true, []) := by
  refine ev1 0 rfl ?_
  rw [e116]
  refine bf' (by simp) ?_
  refine bf' (by simp) ?_
  refine bf' (by simp) ?_
  rfl
theorem m131 (x : (List VMsg)) (hb : szMsgS x ≤ 1048576) : ∀ (m i : Nat), i + m = x.length →
    HH 131 [] (m + 1) [true, true, false, true] (hdS [(0, slMsgS x), (1, slMsgS x), (5, nI (i : Int))] [] []) = some (.B true, []) := by
  have hlen : x.length ≤ 1048576 := sumL_len hb
  intro m
  induction m with
  | zero => intro i hi; rw [hstep, h131, bf (by simp [zN] <;> omega)]
  | succ m ih =>
    intro i hi
    rw [hstep, h131, bt (by simp [zN] <;> omega), bt (by simp [zN] <;> omega), bt (by simp [zN] <;> omega), wrapN (by omega)]
    simp only [Int.toNat_natCast]
    refine obind' (w116 (x.getD i zMsg) (sumL_get hb (by omega))) (bf' rfl ?_)
    exact ih (i + 1) (by omega)
theorem w131 (x : (List VMsg)) (hb : szMsgS x ≤ 1048576) : E 131 [slMsgS x, slMsgS x] [] = some (.B true, []) := by
  refine ev1 (x.length + 1) rfl ?_
  rw [e131, bf (by simp)]
  exact m131 x hb x.length 0 (by omega)
theorem w96 (x : VCell) (hb : szCell x ≤ 1048576) : E 96 [slCell x, slCell x] [] = some (.B true, []) := by
  refine ev1 0 rfl ?_
  rw [e96]
  unfold szCell at hb
  refine obind' (w116 x.Val (by omega)) (bf' rfl ?_)
  refine bf' (by simp) ?_
  refine bf' (by simp) ?_
  refine obind' (w90 x.Line (by omega)) (bf' rfl ?_)
  refine obind' (w90 x.Grants (by omega)) (bf' rfl ?_)
  rfl
theorem m60 (x : (List VCell)) (hb : szCellS x ≤ 1048576) : ∀ (m i : Nat), i + m = x.length →
    HH 60 [] (m + 1) [true, true, false, true] (hdS [(0, slCellS x), (1, slCellS x), (5, nI (i : Int))] [] []) = some (.B true, []) := by
  have hlen : x.length ≤ 1048576 := sumL_len hb
  intro m
  induction m with
  | zero => intro i hi; rw [hstep, h60, bf (by simp [zN] <;> omega)]
  | succ m ih =>
    intro i hi
    rw [hstep, h60, bt (by simp [zN] <;> omega), bt (by simp [zN] <;> omega), bt (by simp [zN] <;> omega), wrapN (by omega)]
    simp only [Int.toNat_natCast]
    refine obind' (w96 (x.getD i zCell) (sumL_get hb (by omega))) (bf' rfl ?_)
    exact ih (i + 1) (by omega)
theorem w60 (x : (List VCell)) (hb : szCellS x ≤ 1048576) : E 60 [slCellS x, slCellS x] [] = some (.B true, []) := by
  refine ev1 (x.length + 1) rfl ?_
  rw [e60, bf (by simp)]
  exact m60 x hb x.length 0 (by omega)
theorem w141 (x : VTerm) (hb : szTerm x ≤ 1048576) : E 141 [slTerm x, slTerm x] [] = some (.B true, []) := by
  refine ev1 0 rfl ?_
  rw [e141]
  refine bf' (by simp) ?_
  refine bf' (by simp) ?_
  refine bf' (by simp) ?_
  rfl
theorem m135 (x : (List VTerm)) (hb : szTermS x ≤ 1048576) : ∀ (m i : Nat), i + m = x.length →
    HH 135 [] (m + 1) [true, true, false, true] (hdS [(0, slTermS x), (1, slTermS x), (5, nI (i : Int))] [] []) = some (.B true, []) := by
  have hlen : x.length ≤ 1048576 := sumL_len hb
  intro m
  induction m with
  | zero => intro i hi; rw [hstep, h135, bf (by simp [zN] <;> omega)]
  | succ m ih =>
    intro i hi
    rw [hstep, h135, bt (by simp [zN] <;> omega), bt (by simp [zN] <;> omega), bt (by simp [zN] <;> omega), wrapN (by omega)]
    simp only [Int.toNat_natCast]
    refine obind' (w141 (x.getD i zTerm) (sumL_get hb (by omega))) (bf' rfl ?_)
    exact ih (i + 1) (by omega)
theorem w135 (x : (List VTerm)) (hb : szTermS x ≤ 1048576) : E 135 [slTermS x, slTermS x] [] = some (.B true, []) := by
  refine ev1 (x.length + 1) rfl ?_
  rw [e135, bf (by simp)]
  exact m135 x hb x.length 0 (by omega)
theorem w140 (x : VSub) (hb : szSub x ≤ 1048576) : E 140 [slSub x, slSub x] [] = some (.B true, []) := by
  refine ev1 0 rfl ?_
  rw [e140]
  unfold szSub at hb
  refine bf' (by simp) ?_
  refine bf' (by simp) ?_
  refine bf' (by simp) ?_
  refine bf' (by simp) ?_
  refine bf' (by simp) ?_
  refine bf' (by simp) ?_
  refine obind' (w135 x.Filter (by omega)) (bf' rfl ?_)
  rfl
theorem m132 (x : (List VSub)) (hb : szSubS x ≤ 1048576) : ∀ (m i : Nat), i + m = x.length →
    HH 132 [] (m + 1) [true, true, false, true] (hdS [(0, slSubS x), (1, slSubS x), (5, nI (i : Int))] [] []) = some (.B true, []) := by
  have hlen : x.length ≤ 1048576 := sumL_len hb
  intro m
  induction m with
  | zero => intro i hi; rw [hstep, h132, bf (by simp [zN] <;> omega)]
  | succ m ih =>
    intro i hi
    rw [hstep, h132, bt (by simp [zN] <;> omega), bt (by simp [zN] <;> omega), bt (by simp [zN] <;> omega), wrapN (by omega)]
    simp only [Int.toNat_natCast]
    refine obind' (w140 (x.getD i zSub) (sumL_get hb (by omega))) (bf' rfl ?_)
    exact ih (i + 1) (by omega)
theorem w132 (x : (List VSub)) (hb : szSubS x ≤ 1048576) : E 132 [slSubS x, slSubS x] [] = some (.B true, []) := by
  refine ev1 (x.length + 1) rfl ?_
  rw [e132, bf (by simp)]
  exact m132 x hb x.length 0 (by omega)
theorem w117 (x : VRing) (hb : szRing x ≤ 1048576) : E 117 [slRing x, slRing x] [] = some (.B true, []) := by
  refine ev1 0 rfl ?_
  rw [e117]
  unfold szRing at hb
  refine bf' (by simp) ?_
  refine bf' (by simp) ?_
  refine obind' (w131 x.Items (by omega)) (bf' rfl ?_)
  refine bf' (by simp) ?_
  refine obind' (w132 x.Subs (by omega)) (bf' rfl ?_)
  refine obind' (w90 x.Line (by omega)) (bf' rfl ?_)
  refine obind' (w90 x.Grants (by omega)) (bf' rfl ?_)
  refine bf' (by simp) ?_
  rfl
theorem w97 (x : VTopic) (hb : szTopic x ≤ 1048576) : E 97 [slTopic x, slTopic x] [] = some (.B true, []) := by
  refine ev1 0 rfl ?_
  rw [e97]
  unfold szTopic at hb
  refine bf' (by simp) ?_
  refine obind' (w117 x.Ring (by omega)) (bf' rfl ?_)
  rfl
theorem m61 (x : (List VTopic)) (hb : szTopicS x ≤ 1048576) : ∀ (m i : Nat), i + m = x.length →
    HH 61 [] (m + 1) [true, true, false, true] (hdS [(0, slTopicS x), (1, slTopicS x), (5, nI (i : Int))] [] []) = some (.B true, []) := by
  have hlen : x.length ≤ 1048576 := sumL_len hb
  intro m
  induction m with
  | zero => intro i hi; rw [hstep, h61, bf (by simp [zN] <;> omega)]
  | succ m ih =>
    intro i hi
    rw [hstep, h61, bt (by simp [zN] <;> omega), bt (by simp [zN] <;> omega), bt (by simp [zN] <;> omega), wrapN (by omega)]
    simp only [Int.toNat_natCast]
    refine obind' (w97 (x.getD i zTopic) (sumL_get hb (by omega))) (bf' rfl ?_)
    exact ih (i + 1) (by omega)
theorem w61 (x : (List VTopic)) (hb : szTopicS x ≤ 1048576) : E 61 [slTopicS x, slTopicS x] [] = some (.B true, []) := by
  refine ev1 (x.length + 1) rfl ?_
  rw [e61, bf (by simp)]
  exact m61 x hb x.length 0 (by omega)
theorem w133 (x : VLeg) : E 133 [slLeg x, slLeg x] [] = some (.B true, []) := by
  refine ev1 0 rfl ?_
  rw [e133]
  refine bf' (by simp) ?_
  refine bf' (by simp) ?_
  refine bf' (by simp) ?_
  refine bf' (by simp) ?_
  rfl
theorem m118 (x : (List VLeg)) (hb : szLegS x ≤ 1048576) : ∀ (m i : Nat), i + m = x.length →
    HH 118 [] (m + 1) [true, true, false, true] (hdS [(0, slLegS x), (1, slLegS x), (5, nI (i : Int))] [] []) = some (.B true, []) := by
  have hlen : x.length ≤ 1048576 := sumL_len hb
  intro m
  induction m with
  | zero => intro i hi; rw [hstep, h118, bf (by simp [zN] <;> omega)]
  | succ m ih =>
    intro i hi
    rw [hstep, h118, bt (by simp [zN] <;> omega), bt (by simp [zN] <;> omega), bt (by simp [zN] <;> omega), wrapN (by omega)]
    simp only [Int.toNat_natCast]
    refine obind' (w133 (x.getD i zLeg)) (bf' rfl ?_)
    exact ih (i + 1) (by omega)
theorem w118 (x : (List VLeg)) (hb : szLegS x ≤ 1048576) : E 118 [slLegS x, slLegS x] [] = some (.B true, []) := by
  refine ev1 (x.length + 1) rfl ?_
  rw [e118, bf (by simp)]
  exact m118 x hb x.length 0 (by omega)
theorem w98 (x : VMerge) (hb : szMerge x ≤ 1048576) : E 98 [slMerge x, slMerge x] [] = some (.B true, []) := by
  refine ev1 0 rfl ?_
  rw [e98]
  unfold szMerge at hb
  refine obind' (w118 x.Legs (by omega)) (bf' rfl ?_)
  refine bf' (by simp) ?_
  refine bf' (by simp) ?_
  rfl
theorem m62 (x : (List VMerge)) (hb : szMergeS x ≤ 1048576) : ∀ (m i : Nat), i + m = x.length →
    HH 62 [] (m + 1) [true, true, false, true] (hdS [(0, slMergeS x), (1, slMergeS x), (5, nI (i : Int))] [] []) = some (.B true, []) := by
  have hlen : x.length ≤ 1048576 := sumL_len hb
  intro m
  induction m with
  | zero => intro i hi; rw [hstep, h62, bf (by simp [zN] <;> omega)]
  | succ m ih =>
    intro i hi
    rw [hstep, h62, bt (by simp [zN] <;> omega), bt (by simp [zN] <;> omega), bt (by simp [zN] <;> omega), wrapN (by omega)]
    simp only [Int.toNat_natCast]
    refine obind' (w98 (x.getD i zMerge) (sumL_get hb (by omega))) (bf' rfl ?_)
    exact ih (i + 1) (by omega)
theorem w62 (x : (List VMerge)) (hb : szMergeS x ≤ 1048576) : E 62 [slMergeS x, slMergeS x] [] = some (.B true, []) := by
  refine ev1 (x.length + 1) rfl ?_
  rw [e62, bf (by simp)]
  exact m62 x hb x.length 0 (by omega)
theorem w134 (x : VHit) : E 134 [slHit x, slHit x] [] = some (.B true, []) := by
  refine ev1 0 rfl ?_
  rw [e134]
  refine bf' (by simp) ?_
  refine bf' (by simp) ?_
  rfl
theorem m119 (x : (List VHit)) (hb : szHitS x ≤ 1048576) : ∀ (m i : Nat), i + m = x.length →
    HH 119 [] (m + 1) [true, true, false, true] (hdS [(0, slHitS x), (1, slHitS x), (5, nI (i : Int))] [] []) = some (.B true, []) := by
  have hlen : x.length ≤ 1048576 := sumL_len hb
  intro m
  induction m with
  | zero => intro i hi; rw [hstep, h119, bf (by simp [zN] <;> omega)]
  | succ m ih =>
    intro i hi
    rw [hstep, h119, bt (by simp [zN] <;> omega), bt (by simp [zN] <;> omega), bt (by simp [zN] <;> omega), wrapN (by omega)]
    simp only [Int.toNat_natCast]
    refine obind' (w134 (x.getD i zHit)) (bf' rfl ?_)
    exact ih (i + 1) (by omega)
theorem w119 (x : (List VHit)) (hb : szHitS x ≤ 1048576) : E 119 [slHitS x, slHitS x] [] = some (.B true, []) := by
  refine ev1 (x.length + 1) rfl ?_
  rw [e119, bf (by simp)]
  exact m119 x hb x.length 0 (by omega)
theorem w99 (x : VUser) (hb : szUser x ≤ 1048576) : E 99 [slUser x, slUser x] [] = some (.B true, []) := by
  refine ev1 0 rfl ?_
  rw [e99]
  unfold szUser at hb
  refine obind' (w119 x.Subs (by omega)) (bf' rfl ?_)
  refine obind' (w90 x.Seen (by omega)) (bf' rfl ?_)
  rfl
theorem m63 (x : (List VUser)) (hb : szUserS x ≤ 1048576) : ∀ (m i : Nat), i + m = x.length →
    HH 63 [] (m + 1) [true, true, false, true] (hdS [(0, slUserS x), (1, slUserS x), (5, nI (i : Int))] [] []) = some (.B true, []) := by
  have hlen : x.length ≤ 1048576 := sumL_len hb
  intro m
  induction m with
  | zero => intro i hi; rw [hstep, h63, bf (by simp [zN] <;> omega)]
  | succ m ih =>
    intro i hi
    rw [hstep, h63, bt (by simp [zN] <;> omega), bt (by simp [zN] <;> omega), bt (by simp [zN] <;> omega), wrapN (by omega)]
    simp only [Int.toNat_natCast]
    refine obind' (w99 (x.getD i zUser) (sumL_get hb (by omega))) (bf' rfl ?_)
    exact ih (i + 1) (by omega)
theorem w63 (x : (List VUser)) (hb : szUserS x ≤ 1048576) : E 63 [slUserS x, slUserS x] [] = some (.B true, []) := by
  refine ev1 (x.length + 1) rfl ?_
  rw [e63, bf (by simp)]
  exact m63 x hb x.length 0 (by omega)
theorem w16 (x : VHub) (hb : szHub x ≤ 1048576) : E 16 [slHub x, slHub x] [] = some (.B true, []) := by
  refine ev1 0 rfl ?_
  rw [e16]
  unfold szHub at hb
  refine obind' (w55 x.Tokens (by omega)) (bf' rfl ?_)
  refine obind' (w56 x.Clock (by omega)) (bf' rfl ?_)
  refine obind' (w57 x.Notes (by omega)) (bf' rfl ?_)
  refine obind' (w58 x.Events (by omega)) (bf' rfl ?_)
  refine obind' (w59 x.Latches (by omega)) (bf' rfl ?_)
  refine obind' (w60 x.Cells (by omega)) (bf' rfl ?_)
  refine obind' (w61 x.Topics (by omega)) (bf' rfl ?_)
  refine obind' (w62 x.Merges (by omega)) (bf' rfl ?_)
  refine obind' (w63 x.Users (by omega)) (bf' rfl ?_)
  rfl
theorem w120 (x : VCall) (hb : szCall x ≤ 1048576) : E 120 [slCall x, slCall x] [] = some (.B true, []) := by
  refine ev1 0 rfl ?_
  rw [e120]
  unfold szCall at hb
  refine bf' (by simp) ?_
  refine bf' (by simp) ?_
  refine bf' (by simp) ?_
  refine bf' (by simp) ?_
  refine bf' (by simp) ?_
  refine obind' (w116 x.Msg (by omega)) (bf' rfl ?_)
  refine obind' (w135 x.Filter (by omega)) (bf' rfl ?_)
  rfl
theorem m100 (x : (List VCall)) (hb : szCallS x ≤ 1048576) : ∀ (m i : Nat), i + m = x.length →
    HH 100 [] (m + 1) [true, true, false, true] (hdS [(0, slCallS x), (1, slCallS x), (5, nI (i : Int))] [] []) = some (.B true, []) := by
  have hlen : x.length ≤ 1048576 := sumL_len hb
  intro m
  induction m with
  | zero => intro i hi; rw [hstep, h100, bf (by simp [zN] <;> omega)]
  | succ m ih =>
    intro i hi
    rw [hstep, h100, bt (by simp [zN] <;> omega), bt (by simp [zN] <;> omega), bt (by simp [zN] <;> omega), wrapN (by omega)]
    simp only [Int.toNat_natCast]
    refine obind' (w120 (x.getD i zCall) (sumL_get hb (by omega))) (bf' rfl ?_)
    exact ih (i + 1) (by omega)
theorem w100 (x : (List VCall)) (hb : szCallS x ≤ 1048576) : E 100 [slCallS x, slCallS x] [] = some (.B true, []) := by
  refine ev1 (x.length + 1) rfl ?_
  rw [e100, bf (by simp)]
  exact m100 x hb x.length 0 (by omega)
theorem w64 (x : VClient) (hb : szClient x ≤ 1048576) : E 64 [slClient x, slClient x] [] = some (.B true, []) := by
  refine ev1 0 rfl ?_
  rw [e64]
  unfold szClient at hb
  refine obind' (w100 x.Prog (by omega)) (bf' rfl ?_)
  refine bf' (by simp) ?_
  refine bf' (by simp) ?_
  rfl
theorem m17 (x : (List VClient)) (hb : szClientS x ≤ 1048576) : ∀ (m i : Nat), i + m = x.length →
    HH 17 [] (m + 1) [true, true, false, true] (hdS [(0, slClientS x), (1, slClientS x), (5, nI (i : Int))] [] []) = some (.B true, []) := by
  have hlen : x.length ≤ 1048576 := sumL_len hb
  intro m
  induction m with
  | zero => intro i hi; rw [hstep, h17, bf (by simp [zN] <;> omega)]
  | succ m ih =>
    intro i hi
    rw [hstep, h17, bt (by simp [zN] <;> omega), bt (by simp [zN] <;> omega), bt (by simp [zN] <;> omega), wrapN (by omega)]
    simp only [Int.toNat_natCast]
    refine obind' (w64 (x.getD i zClient) (sumL_get hb (by omega))) (bf' rfl ?_)
    exact ih (i + 1) (by omega)
theorem w17 (x : (List VClient)) (hb : szClientS x ≤ 1048576) : E 17 [slClientS x, slClientS x] [] = some (.B true, []) := by
  refine ev1 (x.length + 1) rfl ?_
  rw [e17, bf (by simp)]
  exact m17 x hb x.length 0 (by omega)
theorem w8 (x : VState) (hb : szState x ≤ 1048576) : E 8 [slState x, slState x] [] = some (.B true, []) := by
  refine ev1 0 rfl ?_
  rw [e8]
  unfold szState at hb
  refine obind' (w16 x.Hub (by omega)) (bf' rfl ?_)
  refine obind' (w17 x.Clients (by omega)) (bf' rfl ?_)
  rfl
end Go.Fw
