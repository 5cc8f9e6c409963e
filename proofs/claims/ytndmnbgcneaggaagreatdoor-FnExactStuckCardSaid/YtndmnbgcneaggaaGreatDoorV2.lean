/- Values of sizes, comparisons. -/
import Derived.Test.YtndmnbgcneaggaaGreatDoorV0
set_option linter.unusedVariables false
set_option linter.unusedSimpArgs false
namespace Go.Fw
open Go.Proofs
theorem m13 (x : (List Int)) (hb : szIntS x ≤ 1048576) : ∀ (m i : Nat), i + m = x.length →
  HH 13 [] (m + 1) [true, true, false, true] (hdS [(0, slIntS x), (1, slIntS x), (5, nI (i : Int))] [] []) = some (.B true, []) := by
 have hlen : x.length ≤ 1048576 := sumL_len hb
 intro m
 induction m with
 | zero => intro i hi; rw [hstep, h13, bf (by simp [zN] <;> omega)]
 | succ m ih =>
  intro i hi
  rw [hstep, h13, bt (by simp [zN] <;> omega), bt (by simp [zN] <;> omega), bt (by simp [zN] <;> omega), wrapN (by omega)]
  simp only [Int.toNat_natCast]
  refine bf' (by simp) ?_
  exact ih (i + 1) (by omega)
theorem w13 (x : (List Int)) (hb : szIntS x ≤ 1048576) : E 13 [slIntS x, slIntS x] [] = some (.B true, []) := by
 refine ev1 (x.length + 1) rfl ?_
 rw [e13, bf (by simp)]
 exact m13 x hb x.length 0 (by omega)
theorem m167 (x : (List Bool)) (hb : szBoolS x ≤ 1048576) : ∀ (m i : Nat), i + m = x.length →
  HH 167 [] (m + 1) [true, true, false, true] (hdS [(0, slBoolS x), (1, slBoolS x), (5, nI (i : Int))] [] []) = some (.B true, []) := by
 have hlen : x.length ≤ 1048576 := sumL_len hb
 intro m
 induction m with
 | zero => intro i hi; rw [hstep, h167, bf (by simp [zN] <;> omega)]
 | succ m ih =>
  intro i hi
  rw [hstep, h167, bt (by simp [zN] <;> omega), bt (by simp [zN] <;> omega), bt (by simp [zN] <;> omega), wrapN (by omega)]
  simp only [Int.toNat_natCast]
  refine bf' (by simp) ?_
  exact ih (i + 1) (by omega)
theorem w167 (x : (List Bool)) (hb : szBoolS x ≤ 1048576) : E 167 [slBoolS x, slBoolS x] [] = some (.B true, []) := by
 refine ev1 (x.length + 1) rfl ?_
 rw [e167, bf (by simp)]
 exact m167 x hb x.length 0 (by omega)
theorem w88 (x : VTokens) (hb : szTokens x ≤ 1048576) : E 88 [slTokens x, slTokens x] [] = some (.B true, []) := by
 refine ev1 0 rfl ?_
 rw [e88]
 unfold szTokens at hb
 refine obind' (w13 x.Parents (by omega)) (bf' rfl ?_)
 refine obind' (w167 x.Off (by omega)) (bf' rfl ?_)
 rfl
theorem w238 (x : VTimer) : E 238 [slTimer x, slTimer x] [] = some (.B true, []) := by
 refine ev1 0 rfl ?_
 rw [e238]
 refine bf' (by simp) ?_
 refine bf' (by simp) ?_
 rfl
theorem m168 (x : (List VTimer)) (hb : szTimerS x ≤ 1048576) : ∀ (m i : Nat), i + m = x.length →
  HH 168 [] (m + 1) [true, true, false, true] (hdS [(0, slTimerS x), (1, slTimerS x), (5, nI (i : Int))] [] []) = some (.B true, []) := by
 have hlen : x.length ≤ 1048576 := sumL_len hb
 intro m
 induction m with
 | zero => intro i hi; rw [hstep, h168, bf (by simp [zN] <;> omega)]
 | succ m ih =>
  intro i hi
  rw [hstep, h168, bt (by simp [zN] <;> omega), bt (by simp [zN] <;> omega), bt (by simp [zN] <;> omega), wrapN (by omega)]
  simp only [Int.toNat_natCast]
  refine obind' (w238 (x.getD i zTimer)) (bf' rfl ?_)
  exact ih (i + 1) (by omega)
theorem w168 (x : (List VTimer)) (hb : szTimerS x ≤ 1048576) : E 168 [slTimerS x, slTimerS x] [] = some (.B true, []) := by
 refine ev1 (x.length + 1) rfl ?_
 rw [e168, bf (by simp)]
 exact m168 x hb x.length 0 (by omega)
theorem w89 (x : VClock) (hb : szClock x ≤ 1048576) : E 89 [slClock x, slClock x] [] = some (.B true, []) := by
 refine ev1 0 rfl ?_
 rw [e89]
 unfold szClock at hb
 refine bf' (by simp) ?_
 refine obind' (w168 x.Timers (by omega)) (bf' rfl ?_)
 rfl
theorem w264 (x : VGrant) : E 264 [slGrant x, slGrant x] [] = some (.B true, []) := by
 refine ev1 0 rfl ?_
 rw [e264]
 refine bf' (by simp) ?_
 refine bf' (by simp) ?_
 rfl
theorem m239 (x : (List VGrant)) (hb : szGrantS x ≤ 1048576) : ∀ (m i : Nat), i + m = x.length →
  HH 239 [] (m + 1) [true, true, false, true] (hdS [(0, slGrantS x), (1, slGrantS x), (5, nI (i : Int))] [] []) = some (.B true, []) := by
 have hlen : x.length ≤ 1048576 := sumL_len hb
 intro m
 induction m with
 | zero => intro i hi; rw [hstep, h239, bf (by simp [zN] <;> omega)]
 | succ m ih =>
  intro i hi
  rw [hstep, h239, bt (by simp [zN] <;> omega), bt (by simp [zN] <;> omega), bt (by simp [zN] <;> omega), wrapN (by omega)]
  simp only [Int.toNat_natCast]
  refine obind' (w264 (x.getD i zGrant)) (bf' rfl ?_)
  exact ih (i + 1) (by omega)
theorem w239 (x : (List VGrant)) (hb : szGrantS x ≤ 1048576) : E 239 [slGrantS x, slGrantS x] [] = some (.B true, []) := by
 refine ev1 (x.length + 1) rfl ?_
 rw [e239, bf (by simp)]
 exact m239 x hb x.length 0 (by omega)
theorem w169 (x : VNotify) (hb : szNotify x ≤ 1048576) : E 169 [slNotify x, slNotify x] [] = some (.B true, []) := by
 refine ev1 0 rfl ?_
 rw [e169]
 unfold szNotify at hb
 refine bf' (by simp) ?_
 refine obind' (w13 x.Line (by omega)) (bf' rfl ?_)
 refine obind' (w239 x.Grants (by omega)) (bf' rfl ?_)
 refine bf' (by simp) ?_
 refine bf' (by simp) ?_
 refine bf' (by simp) ?_
 rfl
theorem m90 (x : (List VNotify)) (hb : szNotifyS x ≤ 1048576) : ∀ (m i : Nat), i + m = x.length →
  HH 90 [] (m + 1) [true, true, false, true] (hdS [(0, slNotifyS x), (1, slNotifyS x), (5, nI (i : Int))] [] []) = some (.B true, []) := by
 have hlen : x.length ≤ 1048576 := sumL_len hb
 intro m
 induction m with
 | zero => intro i hi; rw [hstep, h90, bf (by simp [zN] <;> omega)]
 | succ m ih =>
  intro i hi
  rw [hstep, h90, bt (by simp [zN] <;> omega), bt (by simp [zN] <;> omega), bt (by simp [zN] <;> omega), wrapN (by omega)]
  simp only [Int.toNat_natCast]
  refine obind' (w169 (x.getD i zNotify) (sumL_get hb (by omega))) (bf' rfl ?_)
  exact ih (i + 1) (by omega)
theorem w90 (x : (List VNotify)) (hb : szNotifyS x ≤ 1048576) : E 90 [slNotifyS x, slNotifyS x] [] = some (.B true, []) := by
 refine ev1 (x.length + 1) rfl ?_
 rw [e90, bf (by simp)]
 exact m90 x hb x.length 0 (by omega)
theorem w170 (x : VEvent) (hb : szEvent x ≤ 1048576) : E 170 [slEvent x, slEvent x] [] = some (.B true, []) := by
 refine ev1 0 rfl ?_
 rw [e170]
 unfold szEvent at hb
 refine bf' (by simp) ?_
 refine bf' (by simp) ?_
 refine obind' (w13 x.Line (by omega)) (bf' rfl ?_)
 refine obind' (w13 x.Grants (by omega)) (bf' rfl ?_)
 refine bf' (by simp) ?_
 refine bf' (by simp) ?_
 refine bf' (by simp) ?_
 rfl
theorem m91 (x : (List VEvent)) (hb : szEventS x ≤ 1048576) : ∀ (m i : Nat), i + m = x.length →
  HH 91 [] (m + 1) [true, true, false, true] (hdS [(0, slEventS x), (1, slEventS x), (5, nI (i : Int))] [] []) = some (.B true, []) := by
 have hlen : x.length ≤ 1048576 := sumL_len hb
 intro m
 induction m with
 | zero => intro i hi; rw [hstep, h91, bf (by simp [zN] <;> omega)]
 | succ m ih =>
  intro i hi
  rw [hstep, h91, bt (by simp [zN] <;> omega), bt (by simp [zN] <;> omega), bt (by simp [zN] <;> omega), wrapN (by omega)]
  simp only [Int.toNat_natCast]
  refine obind' (w170 (x.getD i zEvent) (sumL_get hb (by omega))) (bf' rfl ?_)
  exact ih (i + 1) (by omega)
theorem w91 (x : (List VEvent)) (hb : szEventS x ≤ 1048576) : E 91 [slEventS x, slEventS x] [] = some (.B true, []) := by
 refine ev1 (x.length + 1) rfl ?_
 rw [e91, bf (by simp)]
 exact m91 x hb x.length 0 (by omega)
theorem w171 (x : VLatch) (hb : szLatch x ≤ 1048576) : E 171 [slLatch x, slLatch x] [] = some (.B true, []) := by
 refine ev1 0 rfl ?_
 rw [e171]
 unfold szLatch at hb
 refine bf' (by simp) ?_
 refine obind' (w13 x.Line (by omega)) (bf' rfl ?_)
 refine obind' (w13 x.Grants (by omega)) (bf' rfl ?_)
 rfl
theorem m92 (x : (List VLatch)) (hb : szLatchS x ≤ 1048576) : ∀ (m i : Nat), i + m = x.length →
  HH 92 [] (m + 1) [true, true, false, true] (hdS [(0, slLatchS x), (1, slLatchS x), (5, nI (i : Int))] [] []) = some (.B true, []) := by
 have hlen : x.length ≤ 1048576 := sumL_len hb
 intro m
 induction m with
 | zero => intro i hi; rw [hstep, h92, bf (by simp [zN] <;> omega)]
 | succ m ih =>
  intro i hi
  rw [hstep, h92, bt (by simp [zN] <;> omega), bt (by simp [zN] <;> omega), bt (by simp [zN] <;> omega), wrapN (by omega)]
  simp only [Int.toNat_natCast]
  refine obind' (w171 (x.getD i zLatch) (sumL_get hb (by omega))) (bf' rfl ?_)
  exact ih (i + 1) (by omega)
theorem w92 (x : (List VLatch)) (hb : szLatchS x ≤ 1048576) : E 92 [slLatchS x, slLatchS x] [] = some (.B true, []) := by
 refine ev1 (x.length + 1) rfl ?_
 rw [e92, bf (by simp)]
 exact m92 x hb x.length 0 (by omega)
theorem w240 (x : VMsg) (hb : szMsg x ≤ 1048576) : E 240 [slMsg x, slMsg x] [] = some (.B true, []) := by
 refine ev1 0 rfl ?_
 rw [e240]
 refine bf' (by simp) ?_
 refine bf' (by simp) ?_
 refine bf' (by simp) ?_
 rfl
theorem m265 (x : (List VMsg)) (hb : szMsgS x ≤ 1048576) : ∀ (m i : Nat), i + m = x.length →
  HH 265 [] (m + 1) [true, true, false, true] (hdS [(0, slMsgS x), (1, slMsgS x), (5, nI (i : Int))] [] []) = some (.B true, []) := by
 have hlen : x.length ≤ 1048576 := sumL_len hb
 intro m
 induction m with
 | zero => intro i hi; rw [hstep, h265, bf (by simp [zN] <;> omega)]
 | succ m ih =>
  intro i hi
  rw [hstep, h265, bt (by simp [zN] <;> omega), bt (by simp [zN] <;> omega), bt (by simp [zN] <;> omega), wrapN (by omega)]
  simp only [Int.toNat_natCast]
  refine obind' (w240 (x.getD i zMsg) (sumL_get hb (by omega))) (bf' rfl ?_)
  exact ih (i + 1) (by omega)
theorem w265 (x : (List VMsg)) (hb : szMsgS x ≤ 1048576) : E 265 [slMsgS x, slMsgS x] [] = some (.B true, []) := by
 refine ev1 (x.length + 1) rfl ?_
 rw [e265, bf (by simp)]
 exact m265 x hb x.length 0 (by omega)
theorem w172 (x : VCell) (hb : szCell x ≤ 1048576) : E 172 [slCell x, slCell x] [] = some (.B true, []) := by
 refine ev1 0 rfl ?_
 rw [e172]
 unfold szCell at hb
 refine obind' (w240 x.Val (by omega)) (bf' rfl ?_)
 refine bf' (by simp) ?_
 refine bf' (by simp) ?_
 refine obind' (w13 x.Line (by omega)) (bf' rfl ?_)
 refine obind' (w13 x.Grants (by omega)) (bf' rfl ?_)
 rfl
theorem m93 (x : (List VCell)) (hb : szCellS x ≤ 1048576) : ∀ (m i : Nat), i + m = x.length →
  HH 93 [] (m + 1) [true, true, false, true] (hdS [(0, slCellS x), (1, slCellS x), (5, nI (i : Int))] [] []) = some (.B true, []) := by
 have hlen : x.length ≤ 1048576 := sumL_len hb
 intro m
 induction m with
 | zero => intro i hi; rw [hstep, h93, bf (by simp [zN] <;> omega)]
 | succ m ih =>
  intro i hi
  rw [hstep, h93, bt (by simp [zN] <;> omega), bt (by simp [zN] <;> omega), bt (by simp [zN] <;> omega), wrapN (by omega)]
  simp only [Int.toNat_natCast]
  refine obind' (w172 (x.getD i zCell) (sumL_get hb (by omega))) (bf' rfl ?_)
  exact ih (i + 1) (by omega)
theorem w93 (x : (List VCell)) (hb : szCellS x ≤ 1048576) : E 93 [slCellS x, slCellS x] [] = some (.B true, []) := by
 refine ev1 (x.length + 1) rfl ?_
 rw [e93, bf (by simp)]
 exact m93 x hb x.length 0 (by omega)
theorem w279 (x : VTerm) (hb : szTerm x ≤ 1048576) : E 279 [slTerm x, slTerm x] [] = some (.B true, []) := by
 refine ev1 0 rfl ?_
 rw [e279]
 refine bf' (by simp) ?_
 refine bf' (by simp) ?_
 refine bf' (by simp) ?_
 rfl
theorem m269 (x : (List VTerm)) (hb : szTermS x ≤ 1048576) : ∀ (m i : Nat), i + m = x.length →
  HH 269 [] (m + 1) [true, true, false, true] (hdS [(0, slTermS x), (1, slTermS x), (5, nI (i : Int))] [] []) = some (.B true, []) := by
 have hlen : x.length ≤ 1048576 := sumL_len hb
 intro m
 induction m with
 | zero => intro i hi; rw [hstep, h269, bf (by simp [zN] <;> omega)]
 | succ m ih =>
  intro i hi
  rw [hstep, h269, bt (by simp [zN] <;> omega), bt (by simp [zN] <;> omega), bt (by simp [zN] <;> omega), wrapN (by omega)]
  simp only [Int.toNat_natCast]
  refine obind' (w279 (x.getD i zTerm) (sumL_get hb (by omega))) (bf' rfl ?_)
  exact ih (i + 1) (by omega)
theorem w269 (x : (List VTerm)) (hb : szTermS x ≤ 1048576) : E 269 [slTermS x, slTermS x] [] = some (.B true, []) := by
 refine ev1 (x.length + 1) rfl ?_
 rw [e269, bf (by simp)]
 exact m269 x hb x.length 0 (by omega)
theorem w278 (x : VSub) (hb : szSub x ≤ 1048576) : E 278 [slSub x, slSub x] [] = some (.B true, []) := by
 refine ev1 0 rfl ?_
 rw [e278]
 unfold szSub at hb
 refine bf' (by simp) ?_
 refine bf' (by simp) ?_
 refine bf' (by simp) ?_
 refine bf' (by simp) ?_
 refine bf' (by simp) ?_
 refine bf' (by simp) ?_
 refine obind' (w269 x.Filter (by omega)) (bf' rfl ?_)
 rfl
theorem m266 (x : (List VSub)) (hb : szSubS x ≤ 1048576) : ∀ (m i : Nat), i + m = x.length →
  HH 266 [] (m + 1) [true, true, false, true] (hdS [(0, slSubS x), (1, slSubS x), (5, nI (i : Int))] [] []) = some (.B true, []) := by
 have hlen : x.length ≤ 1048576 := sumL_len hb
 intro m
 induction m with
 | zero => intro i hi; rw [hstep, h266, bf (by simp [zN] <;> omega)]
 | succ m ih =>
  intro i hi
  rw [hstep, h266, bt (by simp [zN] <;> omega), bt (by simp [zN] <;> omega), bt (by simp [zN] <;> omega), wrapN (by omega)]
  simp only [Int.toNat_natCast]
  refine obind' (w278 (x.getD i zSub) (sumL_get hb (by omega))) (bf' rfl ?_)
  exact ih (i + 1) (by omega)
theorem w266 (x : (List VSub)) (hb : szSubS x ≤ 1048576) : E 266 [slSubS x, slSubS x] [] = some (.B true, []) := by
 refine ev1 (x.length + 1) rfl ?_
 rw [e266, bf (by simp)]
 exact m266 x hb x.length 0 (by omega)
theorem w241 (x : VRing) (hb : szRing x ≤ 1048576) : E 241 [slRing x, slRing x] [] = some (.B true, []) := by
 refine ev1 0 rfl ?_
 rw [e241]
 unfold szRing at hb
 refine bf' (by simp) ?_
 refine bf' (by simp) ?_
 refine obind' (w265 x.Items (by omega)) (bf' rfl ?_)
 refine bf' (by simp) ?_
 refine obind' (w266 x.Subs (by omega)) (bf' rfl ?_)
 refine obind' (w13 x.Line (by omega)) (bf' rfl ?_)
 refine obind' (w13 x.Grants (by omega)) (bf' rfl ?_)
 refine bf' (by simp) ?_
 rfl
theorem w173 (x : VTopic) (hb : szTopic x ≤ 1048576) : E 173 [slTopic x, slTopic x] [] = some (.B true, []) := by
 refine ev1 0 rfl ?_
 rw [e173]
 unfold szTopic at hb
 refine bf' (by simp) ?_
 refine obind' (w241 x.Ring (by omega)) (bf' rfl ?_)
 rfl
theorem m94 (x : (List VTopic)) (hb : szTopicS x ≤ 1048576) : ∀ (m i : Nat), i + m = x.length →
  HH 94 [] (m + 1) [true, true, false, true] (hdS [(0, slTopicS x), (1, slTopicS x), (5, nI (i : Int))] [] []) = some (.B true, []) := by
 have hlen : x.length ≤ 1048576 := sumL_len hb
 intro m
 induction m with
 | zero => intro i hi; rw [hstep, h94, bf (by simp [zN] <;> omega)]
 | succ m ih =>
  intro i hi
  rw [hstep, h94, bt (by simp [zN] <;> omega), bt (by simp [zN] <;> omega), bt (by simp [zN] <;> omega), wrapN (by omega)]
  simp only [Int.toNat_natCast]
  refine obind' (w173 (x.getD i zTopic) (sumL_get hb (by omega))) (bf' rfl ?_)
  exact ih (i + 1) (by omega)
theorem w94 (x : (List VTopic)) (hb : szTopicS x ≤ 1048576) : E 94 [slTopicS x, slTopicS x] [] = some (.B true, []) := by
 refine ev1 (x.length + 1) rfl ?_
 rw [e94, bf (by simp)]
 exact m94 x hb x.length 0 (by omega)
theorem w267 (x : VLeg) : E 267 [slLeg x, slLeg x] [] = some (.B true, []) := by
 refine ev1 0 rfl ?_
 rw [e267]
 refine bf' (by simp) ?_
 refine bf' (by simp) ?_
 refine bf' (by simp) ?_
 refine bf' (by simp) ?_
 rfl
theorem m242 (x : (List VLeg)) (hb : szLegS x ≤ 1048576) : ∀ (m i : Nat), i + m = x.length →
  HH 242 [] (m + 1) [true, true, false, true] (hdS [(0, slLegS x), (1, slLegS x), (5, nI (i : Int))] [] []) = some (.B true, []) := by
 have hlen : x.length ≤ 1048576 := sumL_len hb
 intro m
 induction m with
 | zero => intro i hi; rw [hstep, h242, bf (by simp [zN] <;> omega)]
 | succ m ih =>
  intro i hi
  rw [hstep, h242, bt (by simp [zN] <;> omega), bt (by simp [zN] <;> omega), bt (by simp [zN] <;> omega), wrapN (by omega)]
  simp only [Int.toNat_natCast]
  refine obind' (w267 (x.getD i zLeg)) (bf' rfl ?_)
  exact ih (i + 1) (by omega)
theorem w242 (x : (List VLeg)) (hb : szLegS x ≤ 1048576) : E 242 [slLegS x, slLegS x] [] = some (.B true, []) := by
 refine ev1 (x.length + 1) rfl ?_
 rw [e242, bf (by simp)]
 exact m242 x hb x.length 0 (by omega)
theorem w174 (x : VMerge) (hb : szMerge x ≤ 1048576) : E 174 [slMerge x, slMerge x] [] = some (.B true, []) := by
 refine ev1 0 rfl ?_
 rw [e174]
 unfold szMerge at hb
 refine obind' (w242 x.Legs (by omega)) (bf' rfl ?_)
 refine bf' (by simp) ?_
 refine bf' (by simp) ?_
 rfl
theorem m95 (x : (List VMerge)) (hb : szMergeS x ≤ 1048576) : ∀ (m i : Nat), i + m = x.length →
  HH 95 [] (m + 1) [true, true, false, true] (hdS [(0, slMergeS x), (1, slMergeS x), (5, nI (i : Int))] [] []) = some (.B true, []) := by
 have hlen : x.length ≤ 1048576 := sumL_len hb
 intro m
 induction m with
 | zero => intro i hi; rw [hstep, h95, bf (by simp [zN] <;> omega)]
 | succ m ih =>
  intro i hi
  rw [hstep, h95, bt (by simp [zN] <;> omega), bt (by simp [zN] <;> omega), bt (by simp [zN] <;> omega), wrapN (by omega)]
  simp only [Int.toNat_natCast]
  refine obind' (w174 (x.getD i zMerge) (sumL_get hb (by omega))) (bf' rfl ?_)
  exact ih (i + 1) (by omega)
theorem w95 (x : (List VMerge)) (hb : szMergeS x ≤ 1048576) : E 95 [slMergeS x, slMergeS x] [] = some (.B true, []) := by
 refine ev1 (x.length + 1) rfl ?_
 rw [e95, bf (by simp)]
 exact m95 x hb x.length 0 (by omega)
theorem w268 (x : VHit) : E 268 [slHit x, slHit x] [] = some (.B true, []) := by
 refine ev1 0 rfl ?_
 rw [e268]
 refine bf' (by simp) ?_
 refine bf' (by simp) ?_
 rfl
theorem m243 (x : (List VHit)) (hb : szHitS x ≤ 1048576) : ∀ (m i : Nat), i + m = x.length →
  HH 243 [] (m + 1) [true, true, false, true] (hdS [(0, slHitS x), (1, slHitS x), (5, nI (i : Int))] [] []) = some (.B true, []) := by
 have hlen : x.length ≤ 1048576 := sumL_len hb
 intro m
 induction m with
 | zero => intro i hi; rw [hstep, h243, bf (by simp [zN] <;> omega)]
 | succ m ih =>
  intro i hi
  rw [hstep, h243, bt (by simp [zN] <;> omega), bt (by simp [zN] <;> omega), bt (by simp [zN] <;> omega), wrapN (by omega)]
  simp only [Int.toNat_natCast]
  refine obind' (w268 (x.getD i zHit)) (bf' rfl ?_)
  exact ih (i + 1) (by omega)
theorem w243 (x : (List VHit)) (hb : szHitS x ≤ 1048576) : E 243 [slHitS x, slHitS x] [] = some (.B true, []) := by
 refine ev1 (x.length + 1) rfl ?_
 rw [e243, bf (by simp)]
 exact m243 x hb x.length 0 (by omega)
theorem w175 (x : VUser) (hb : szUser x ≤ 1048576) : E 175 [slUser x, slUser x] [] = some (.B true, []) := by
 refine ev1 0 rfl ?_
 rw [e175]
 unfold szUser at hb
 refine obind' (w243 x.Subs (by omega)) (bf' rfl ?_)
 refine obind' (w13 x.Seen (by omega)) (bf' rfl ?_)
 rfl
theorem m96 (x : (List VUser)) (hb : szUserS x ≤ 1048576) : ∀ (m i : Nat), i + m = x.length →
  HH 96 [] (m + 1) [true, true, false, true] (hdS [(0, slUserS x), (1, slUserS x), (5, nI (i : Int))] [] []) = some (.B true, []) := by
 have hlen : x.length ≤ 1048576 := sumL_len hb
 intro m
 induction m with
 | zero => intro i hi; rw [hstep, h96, bf (by simp [zN] <;> omega)]
 | succ m ih =>
  intro i hi
  rw [hstep, h96, bt (by simp [zN] <;> omega), bt (by simp [zN] <;> omega), bt (by simp [zN] <;> omega), wrapN (by omega)]
  simp only [Int.toNat_natCast]
  refine obind' (w175 (x.getD i zUser) (sumL_get hb (by omega))) (bf' rfl ?_)
  exact ih (i + 1) (by omega)
theorem w96 (x : (List VUser)) (hb : szUserS x ≤ 1048576) : E 96 [slUserS x, slUserS x] [] = some (.B true, []) := by
 refine ev1 (x.length + 1) rfl ?_
 rw [e96, bf (by simp)]
 exact m96 x hb x.length 0 (by omega)
theorem w30 (x : VHub) (hb : szHub x ≤ 1048576) : E 30 [slHub x, slHub x] [] = some (.B true, []) := by
 refine ev1 0 rfl ?_
 rw [e30]
 unfold szHub at hb
 refine obind' (w88 x.Tokens (by omega)) (bf' rfl ?_)
 refine obind' (w89 x.Clock (by omega)) (bf' rfl ?_)
 refine obind' (w90 x.Notes (by omega)) (bf' rfl ?_)
 refine obind' (w91 x.Events (by omega)) (bf' rfl ?_)
 refine obind' (w92 x.Latches (by omega)) (bf' rfl ?_)
 refine obind' (w93 x.Cells (by omega)) (bf' rfl ?_)
 refine obind' (w94 x.Topics (by omega)) (bf' rfl ?_)
 refine obind' (w95 x.Merges (by omega)) (bf' rfl ?_)
 refine obind' (w96 x.Users (by omega)) (bf' rfl ?_)
 rfl
theorem w244 (x : VCall) (hb : szCall x ≤ 1048576) : E 244 [slCall x, slCall x] [] = some (.B true, []) := by
 refine ev1 0 rfl ?_
 rw [e244]
 unfold szCall at hb
 refine bf' (by simp) ?_
 refine bf' (by simp) ?_
 refine bf' (by simp) ?_
 refine bf' (by simp) ?_
 refine bf' (by simp) ?_
 refine obind' (w240 x.Msg (by omega)) (bf' rfl ?_)
 refine obind' (w269 x.Filter (by omega)) (bf' rfl ?_)
 rfl
theorem m176 (x : (List VCall)) (hb : szCallS x ≤ 1048576) : ∀ (m i : Nat), i + m = x.length →
  HH 176 [] (m + 1) [true, true, false, true] (hdS [(0, slCallS x), (1, slCallS x), (5, nI (i : Int))] [] []) = some (.B true, []) := by
 have hlen : x.length ≤ 1048576 := sumL_len hb
 intro m
 induction m with
 | zero => intro i hi; rw [hstep, h176, bf (by simp [zN] <;> omega)]
 | succ m ih =>
  intro i hi
  rw [hstep, h176, bt (by simp [zN] <;> omega), bt (by simp [zN] <;> omega), bt (by simp [zN] <;> omega), wrapN (by omega)]
  simp only [Int.toNat_natCast]
  refine obind' (w244 (x.getD i zCall) (sumL_get hb (by omega))) (bf' rfl ?_)
  exact ih (i + 1) (by omega)
theorem w176 (x : (List VCall)) (hb : szCallS x ≤ 1048576) : E 176 [slCallS x, slCallS x] [] = some (.B true, []) := by
 refine ev1 (x.length + 1) rfl ?_
 rw [e176, bf (by simp)]
 exact m176 x hb x.length 0 (by omega)
theorem w97 (x : VClient) (hb : szClient x ≤ 1048576) : E 97 [slClient x, slClient x] [] = some (.B true, []) := by
 refine ev1 0 rfl ?_
 rw [e97]
 unfold szClient at hb
 refine obind' (w176 x.Prog (by omega)) (bf' rfl ?_)
 refine bf' (by simp) ?_
 refine bf' (by simp) ?_
 rfl
theorem m31 (x : (List VClient)) (hb : szClientS x ≤ 1048576) : ∀ (m i : Nat), i + m = x.length →
  HH 31 [] (m + 1) [true, true, false, true] (hdS [(0, slClientS x), (1, slClientS x), (5, nI (i : Int))] [] []) = some (.B true, []) := by
 have hlen : x.length ≤ 1048576 := sumL_len hb
 intro m
 induction m with
 | zero => intro i hi; rw [hstep, h31, bf (by simp [zN] <;> omega)]
 | succ m ih =>
  intro i hi
  rw [hstep, h31, bt (by simp [zN] <;> omega), bt (by simp [zN] <;> omega), bt (by simp [zN] <;> omega), wrapN (by omega)]
  simp only [Int.toNat_natCast]
  refine obind' (w97 (x.getD i zClient) (sumL_get hb (by omega))) (bf' rfl ?_)
  exact ih (i + 1) (by omega)
theorem w31 (x : (List VClient)) (hb : szClientS x ≤ 1048576) : E 31 [slClientS x, slClientS x] [] = some (.B true, []) := by
 refine ev1 (x.length + 1) rfl ?_
 rw [e31, bf (by simp)]
 exact m31 x hb x.length 0 (by omega)
theorem w10 (x : VState) (hb : szState x ≤ 1048576) : E 10 [slState x, slState x] [] = some (.B true, []) := by
 refine ev1 0 rfl ?_
 rw [e10]
 unfold szState at hb
 refine obind' (w30 x.Hub (by omega)) (bf' rfl ?_)
 refine obind' (w31 x.Clients (by omega)) (bf' rfl ?_)
 rfl
end Go.Fw
