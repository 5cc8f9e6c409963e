/- Values of sizes, copies. -/
import Derived.Test.YtndmnbgcneaggaaGreatDoorV0
set_option linter.unusedVariables false
set_option linter.unusedSimpArgs false
namespace Go.Fw
open Go.Proofs
theorem set_IntS {os : List Int} {k : Nat} {v : Int} (h : k < os.length) : (fun i => lstG [AV.I .i64 (bif decide (i = k) then v else os.getD i 0)]) = goIntS (os.set k v) := by
 funext i
 unfold goIntS gI
 rw [getD_set h]
 by_cases hi : i = k <;> simp [hi]
theorem l129 (x : (List Int)) (hb : szIntS x ≤ 1048576) : ∀ (m i : Nat) (os : (List Int)), i + m = x.length → os.length = x.length → (∀ j, j < i → os.getD j 0 = x.getD j 0) →
  HH 129 [] (m + 1) [true, true, false, true] (hdS [(0, slIntS x), (3, .rf 290816), (4, nI (i : Int))] [(290816, ⟨os.length, 1, goIntS os⟩)] []) = some (owIntS x, []) := by
 have hlen : x.length ≤ 1048576 := sumL_len hb
 intro m
 induction m with
 | zero =>
  intro i os hi hl ho
  have : os = x := list_ext_getD (d := 0) hl fun j hj => ho j (by omega)
  subst this
  rw [hstep, h129, bf (by simp [zN] <;> omega)]
  exact bt (by simp [okT_eq, okU_eq, okV_eq, okW_eq, okD_true])
 | succ m ih =>
  intro i os hi hl ho
  rw [hstep, h129, bt (by simp [zN] <;> omega), bt (by simp [zN] <;> omega), wrapN (by omega)]
  simp only [Int.toNat_natCast]
  refine (bt' (by simp [zN] <;> omega) ?_)
  refine (congrArg (fun G => HH 129 [] (m + 1) [true, true, false, true] (hdS [(0, slIntS x), (3, .rf 290816), (4, nI ((i + 1 : Nat) : Int))] [(290816, ⟨os.length, 1, G⟩)] [])) (set_IntS (os := os) (k := i) (v := x.getD i 0) (by omega))).trans ?_
  have := ih (i + 1) (os.set i (x.getD i 0)) (by omega) (by simpa using hl) (fun j hj => by
   rw [getD_set (by omega)]
   by_cases hji : j = i
   · subst hji; simp
   · rw [if_neg hji]; exact ho j (by omega))
  rw [List.length_set] at this
  exact this
theorem v129 (x : (List Int)) (hb : szIntS x ≤ 1048576) : E 129 [slIntS x] [] = some (owIntS x, []) := by
 have hlen : x.length ≤ 1048576 := sumL_len hb
 refine ev1 (x.length + 1) rfl ?_
 rw [e129, bt (by simp [zN] <;> omega)]
 have := l129 x hb x.length 0 (List.replicate x.length 0) (by omega) (by simp) (fun j hj => by omega)
 rw [List.length_replicate] at this
 refine Eq.trans ?_ this
 refine congrArg (fun G => HH 129 [] (x.length + 1) [true, true, false, true] (hdS [(0, slIntS x), (3, .rf 290816), (4, nI 0)] [(290816, ⟨x.length, 1, G⟩)] [])) ?_
 funext i
 simp only [goIntS, gsIntS, gI, getD_rep]
 try rfl
theorem set_BoolS {os : List Bool} {k : Nat} {v : Bool} (h : k < os.length) : (fun i => lstG [AV.B (bif decide (i = k) then v else (os.getD i false))]) = goBoolS (os.set k v) := by
 funext i
 unfold goBoolS gsBoolS
 rw [getD_set h]
 by_cases hi : i = k
 · subst hi; simp only [decide_true, cond_true, if_true]; try rfl
 · simp only [hi, decide_false, cond_false, if_false]; try rfl
theorem l130 (x : (List Bool)) (hb : szBoolS x ≤ 1048576) : ∀ (m i : Nat) (os : (List Bool)), i + m = x.length → os.length = x.length → (∀ j, j < i → os.getD j false = x.getD j false) →
  HH 130 [] (m + 1) [true, true, false, true] (hdS [(0, slBoolS x), (3, .rf 290816), (4, nI (i : Int))] [(290816, ⟨os.length, 1, goBoolS os⟩)] []) = some (owBoolS x, []) := by
 have hlen : x.length ≤ 1048576 := sumL_len hb
 intro m
 induction m with
 | zero =>
  intro i os hi hl ho
  have : os = x := list_ext_getD (d := false) hl fun j hj => ho j (by omega)
  subst this
  rw [hstep, h130, bf (by simp [zN] <;> omega)]
  exact bt (by simp [okT_eq, okU_eq, okV_eq, okW_eq, okD_true])
 | succ m ih =>
  intro i os hi hl ho
  rw [hstep, h130, bt (by simp [zN] <;> omega), bt (by simp [zN] <;> omega), wrapN (by omega)]
  simp only [Int.toNat_natCast]
  refine (bt' (by simp [zN] <;> omega) ?_)
  refine (congrArg (fun G => HH 130 [] (m + 1) [true, true, false, true] (hdS [(0, slBoolS x), (3, .rf 290816), (4, nI ((i + 1 : Nat) : Int))] [(290816, ⟨os.length, 1, G⟩)] [])) (set_BoolS (os := os) (k := i) (v := x.getD i false) (by omega))).trans ?_
  have := ih (i + 1) (os.set i (x.getD i false)) (by omega) (by simpa using hl) (fun j hj => by
   rw [getD_set (by omega)]
   by_cases hji : j = i
   · subst hji; simp
   · rw [if_neg hji]; exact ho j (by omega))
  rw [List.length_set] at this
  exact this
theorem v130 (x : (List Bool)) (hb : szBoolS x ≤ 1048576) : E 130 [slBoolS x] [] = some (owBoolS x, []) := by
 have hlen : x.length ≤ 1048576 := sumL_len hb
 refine ev1 (x.length + 1) rfl ?_
 rw [e130, bt (by simp [zN] <;> omega)]
 have := l130 x hb x.length 0 (List.replicate x.length false) (by omega) (by simp) (fun j hj => by omega)
 rw [List.length_replicate] at this
 refine Eq.trans ?_ this
 refine congrArg (fun G => HH 130 [] (x.length + 1) [true, true, false, true] (hdS [(0, slBoolS x), (3, .rf 290816), (4, nI 0)] [(290816, ⟨x.length, 1, G⟩)] [])) ?_
 funext i
 simp only [goBoolS, gsBoolS, getD_rep]
 try rfl
theorem v52 (x : VTokens) (hb : szTokens x ≤ 1048576) : E 52 [slTokens x] [] = some (owTokens x, []) := by
 refine ev1 0 rfl ?_
 rw [e52]
 unfold szTokens at hb
 refine obind' (v129 x.Parents (by omega)) ?_
 refine obind' (v130 x.Off (by omega)) ?_
 exact bt (by simp [okT_eq, okU_eq, okV_eq, okW_eq, okD_true])
theorem v204 (x : VTimer) : E 204 [slTimer x] [] = some (owTimer x, []) := by
 refine ev1 0 rfl ?_
 rw [e204]
theorem set_TimerS {os : List VTimer} {k : Nat} {v : VTimer} (h : k < os.length) : (fun i => lstG [nI (bif decide (i = k) then v.At else (os.getD i zTimer).At), nI (bif decide (i = k) then v.Token else (os.getD i zTimer).Token)]) = goTimerS (os.set k v) := by
 funext i
 unfold goTimerS gsTimerS
 rw [getD_set h]
 by_cases hi : i = k
 · subst hi; simp only [decide_true, cond_true, if_true]; try rfl
 · simp only [hi, decide_false, cond_false, if_false]; try rfl
theorem l131 (x : (List VTimer)) (hb : szTimerS x ≤ 1048576) : ∀ (m i : Nat) (os : (List VTimer)), i + m = x.length → os.length = x.length → (∀ j, j < i → os.getD j zTimer = x.getD j zTimer) →
  HH 131 [] (m + 1) [true, true, false, true] (hdS [(0, slTimerS x), (3, .rf 290816), (4, nI (i : Int))] [(290816, ⟨os.length, 2, goTimerS os⟩)] []) = some (owTimerS x, []) := by
 have hlen : x.length ≤ 1048576 := sumL_len hb
 intro m
 induction m with
 | zero =>
  intro i os hi hl ho
  have : os = x := list_ext_getD (d := zTimer) hl fun j hj => ho j (by omega)
  subst this
  rw [hstep, h131, bf (by simp [zN] <;> omega)]
  exact bt (by simp [okT_eq, okU_eq, okV_eq, okW_eq, okD_true])
 | succ m ih =>
  intro i os hi hl ho
  rw [hstep, h131, bt (by simp [zN] <;> omega), bt (by simp [zN] <;> omega), wrapN (by omega)]
  simp only [Int.toNat_natCast]
  refine obind' (v204 (x.getD i zTimer)) (bt' (by simp [zN] <;> omega) ?_)
  refine (congrArg (fun G => HH 131 [] (m + 1) [true, true, false, true] (hdS [(0, slTimerS x), (3, .rf 290816), (4, nI ((i + 1 : Nat) : Int))] [(290816, ⟨os.length, 2, G⟩)] [])) (set_TimerS (os := os) (k := i) (v := x.getD i zTimer) (by omega))).trans ?_
  have := ih (i + 1) (os.set i (x.getD i zTimer)) (by omega) (by simpa using hl) (fun j hj => by
   rw [getD_set (by omega)]
   by_cases hji : j = i
   · subst hji; simp
   · rw [if_neg hji]; exact ho j (by omega))
  rw [List.length_set] at this
  exact this
theorem v131 (x : (List VTimer)) (hb : szTimerS x ≤ 1048576) : E 131 [slTimerS x] [] = some (owTimerS x, []) := by
 have hlen : x.length ≤ 1048576 := sumL_len hb
 refine ev1 (x.length + 1) rfl ?_
 rw [e131, bt (by simp [zN] <;> omega)]
 have := l131 x hb x.length 0 (List.replicate x.length zTimer) (by omega) (by simp) (fun j hj => by omega)
 rw [List.length_replicate] at this
 refine Eq.trans ?_ this
 refine congrArg (fun G => HH 131 [] (x.length + 1) [true, true, false, true] (hdS [(0, slTimerS x), (3, .rf 290816), (4, nI 0)] [(290816, ⟨x.length, 2, G⟩)] [])) ?_
 funext i
 simp only [goTimerS, gsTimerS, getD_rep]
 try rfl
theorem v53 (x : VClock) (hb : szClock x ≤ 1048576) : E 53 [slClock x] [] = some (owClock x, []) := by
 refine ev1 0 rfl ?_
 rw [e53]
 unfold szClock at hb
 refine obind' (v131 x.Timers (by omega)) ?_
 exact bt (by simp [okT_eq, okU_eq, okV_eq, okW_eq, okD_true])
theorem v248 (x : VGrant) : E 248 [slGrant x] [] = some (owGrant x, []) := by
 refine ev1 0 rfl ?_
 rw [e248]
theorem set_GrantS {os : List VGrant} {k : Nat} {v : VGrant} (h : k < os.length) : (fun i => lstG [nI (bif decide (i = k) then v.Who else (os.getD i zGrant).Who), AV.B (bif decide (i = k) then v.One else (os.getD i zGrant).One)]) = goGrantS (os.set k v) := by
 funext i
 unfold goGrantS gsGrantS
 rw [getD_set h]
 by_cases hi : i = k
 · subst hi; simp only [decide_true, cond_true, if_true]; try rfl
 · simp only [hi, decide_false, cond_false, if_false]; try rfl
theorem l205 (x : (List VGrant)) (hb : szGrantS x ≤ 1048576) : ∀ (m i : Nat) (os : (List VGrant)), i + m = x.length → os.length = x.length → (∀ j, j < i → os.getD j zGrant = x.getD j zGrant) →
  HH 205 [] (m + 1) [true, true, false, true] (hdS [(0, slGrantS x), (3, .rf 290816), (4, nI (i : Int))] [(290816, ⟨os.length, 2, goGrantS os⟩)] []) = some (owGrantS x, []) := by
 have hlen : x.length ≤ 1048576 := sumL_len hb
 intro m
 induction m with
 | zero =>
  intro i os hi hl ho
  have : os = x := list_ext_getD (d := zGrant) hl fun j hj => ho j (by omega)
  subst this
  rw [hstep, h205, bf (by simp [zN] <;> omega)]
  exact bt (by simp [okT_eq, okU_eq, okV_eq, okW_eq, okD_true])
 | succ m ih =>
  intro i os hi hl ho
  rw [hstep, h205, bt (by simp [zN] <;> omega), bt (by simp [zN] <;> omega), wrapN (by omega)]
  simp only [Int.toNat_natCast]
  refine obind' (v248 (x.getD i zGrant)) (bt' (by simp [zN] <;> omega) ?_)
  refine (congrArg (fun G => HH 205 [] (m + 1) [true, true, false, true] (hdS [(0, slGrantS x), (3, .rf 290816), (4, nI ((i + 1 : Nat) : Int))] [(290816, ⟨os.length, 2, G⟩)] [])) (set_GrantS (os := os) (k := i) (v := x.getD i zGrant) (by omega))).trans ?_
  have := ih (i + 1) (os.set i (x.getD i zGrant)) (by omega) (by simpa using hl) (fun j hj => by
   rw [getD_set (by omega)]
   by_cases hji : j = i
   · subst hji; simp
   · rw [if_neg hji]; exact ho j (by omega))
  rw [List.length_set] at this
  exact this
theorem v205 (x : (List VGrant)) (hb : szGrantS x ≤ 1048576) : E 205 [slGrantS x] [] = some (owGrantS x, []) := by
 have hlen : x.length ≤ 1048576 := sumL_len hb
 refine ev1 (x.length + 1) rfl ?_
 rw [e205, bt (by simp [zN] <;> omega)]
 have := l205 x hb x.length 0 (List.replicate x.length zGrant) (by omega) (by simp) (fun j hj => by omega)
 rw [List.length_replicate] at this
 refine Eq.trans ?_ this
 refine congrArg (fun G => HH 205 [] (x.length + 1) [true, true, false, true] (hdS [(0, slGrantS x), (3, .rf 290816), (4, nI 0)] [(290816, ⟨x.length, 2, G⟩)] [])) ?_
 funext i
 simp only [goGrantS, gsGrantS, getD_rep]
 try rfl
theorem v132 (x : VNotify) (hb : szNotify x ≤ 1048576) : E 132 [slNotify x] [] = some (owNotify x, []) := by
 refine ev1 0 rfl ?_
 rw [e132]
 unfold szNotify at hb
 refine obind' (v129 x.Line (by omega)) ?_
 refine obind' (v205 x.Grants (by omega)) ?_
 exact bt (by simp [okT_eq, okU_eq, okV_eq, okW_eq, okD_true])
theorem set_NotifyS {os : List VNotify} {k : Nat} {v : VNotify} (h : k < os.length) : (fun i => lstG [AV.B (bif decide (i = k) then v.Permit else (os.getD i zNotify).Permit), AV.own (bif decide (i = k) then (v.Line).length else ((os.getD i zNotify).Line).length) 1 (fun j0 => lstG [nI (bif decide (i = k) then ((v.Line).getD j0 0) else (((os.getD i zNotify).Line).getD j0 0))]), AV.own (bif decide (i = k) then (v.Grants).length else ((os.getD i zNotify).Grants).length) 2 (fun j0 => lstG [nI (bif decide (i = k) then ((v.Grants).getD j0 zGrant).Who else (((os.getD i zNotify).Grants).getD j0 zGrant).Who), AV.B (bif decide (i = k) then ((v.Grants).getD j0 zGrant).One else (((os.getD i zNotify).Grants).getD j0 zGrant).One)]), nI (bif decide (i = k) then v.Ones else (os.getD i zNotify).Ones), nI (bif decide (i = k) then v.Spilt else (os.getD i zNotify).Spilt), nI (bif decide (i = k) then v.Taken else (os.getD i zNotify).Taken)]) = goNotifyS (os.set k v) := by
 funext i
 unfold goNotifyS
 rw [getD_set h]
 by_cases hi : i = k
 · subst hi; simp only [decide_true, cond_true, if_true, gI, gsGrantS]; try rfl
 · simp only [hi, decide_false, cond_false, if_false, gI, gsGrantS]; try rfl
theorem l54 (x : (List VNotify)) (hb : szNotifyS x ≤ 1048576) : ∀ (m i : Nat) (os : (List VNotify)), i + m = x.length → os.length = x.length → (∀ j, j < i → os.getD j zNotify = x.getD j zNotify) →
  HH 54 [] (m + 1) [true, true, false, true] (hdS [(0, slNotifyS x), (3, .rf 290816), (4, nI (i : Int))] [(290816, ⟨os.length, 6, goNotifyS os⟩)] []) = some (owNotifyS x, []) := by
 have hlen : x.length ≤ 1048576 := sumL_len hb
 intro m
 induction m with
 | zero =>
  intro i os hi hl ho
  have : os = x := list_ext_getD (d := zNotify) hl fun j hj => ho j (by omega)
  subst this
  rw [hstep, h54, bf (by simp [zN] <;> omega)]
  exact bt (by simp [okT_eq, okU_eq, okV_eq, okW_eq, okD_true])
 | succ m ih =>
  intro i os hi hl ho
  rw [hstep, h54, bt (by simp [zN] <;> omega), bt (by simp [zN] <;> omega), wrapN (by omega)]
  simp only [Int.toNat_natCast]
  refine obind' (v132 (x.getD i zNotify) (sumL_get hb (by omega))) (bt' (by simp [zN] <;> omega) ?_)
  refine (congrArg (fun G => HH 54 [] (m + 1) [true, true, false, true] (hdS [(0, slNotifyS x), (3, .rf 290816), (4, nI ((i + 1 : Nat) : Int))] [(290816, ⟨os.length, 6, G⟩)] [])) (set_NotifyS (os := os) (k := i) (v := x.getD i zNotify) (by omega))).trans ?_
  have := ih (i + 1) (os.set i (x.getD i zNotify)) (by omega) (by simpa using hl) (fun j hj => by
   rw [getD_set (by omega)]
   by_cases hji : j = i
   · subst hji; simp
   · rw [if_neg hji]; exact ho j (by omega))
  rw [List.length_set] at this
  exact this
theorem v54 (x : (List VNotify)) (hb : szNotifyS x ≤ 1048576) : E 54 [slNotifyS x] [] = some (owNotifyS x, []) := by
 have hlen : x.length ≤ 1048576 := sumL_len hb
 refine ev1 (x.length + 1) rfl ?_
 rw [e54, bt (by simp [zN] <;> omega)]
 have := l54 x hb x.length 0 (List.replicate x.length zNotify) (by omega) (by simp) (fun j hj => by omega)
 rw [List.length_replicate] at this
 refine Eq.trans ?_ this
 refine congrArg (fun G => HH 54 [] (x.length + 1) [true, true, false, true] (hdS [(0, slNotifyS x), (3, .rf 290816), (4, nI 0)] [(290816, ⟨x.length, 6, G⟩)] [])) ?_
 funext i
 simp only [goNotifyS, gsNotifyS, getD_rep]
 try rfl
theorem v133 (x : VEvent) (hb : szEvent x ≤ 1048576) : E 133 [slEvent x] [] = some (owEvent x, []) := by
 refine ev1 0 rfl ?_
 rw [e133]
 unfold szEvent at hb
 refine obind' (v129 x.Line (by omega)) ?_
 refine obind' (v129 x.Grants (by omega)) ?_
 exact bt (by simp [okT_eq, okU_eq, okV_eq, okW_eq, okD_true])
theorem set_EventS {os : List VEvent} {k : Nat} {v : VEvent} (h : k < os.length) : (fun i => lstG [AV.B (bif decide (i = k) then v.Auto else (os.getD i zEvent).Auto), AV.B (bif decide (i = k) then v.Up else (os.getD i zEvent).Up), AV.own (bif decide (i = k) then (v.Line).length else ((os.getD i zEvent).Line).length) 1 (fun j0 => lstG [nI (bif decide (i = k) then ((v.Line).getD j0 0) else (((os.getD i zEvent).Line).getD j0 0))]), AV.own (bif decide (i = k) then (v.Grants).length else ((os.getD i zEvent).Grants).length) 1 (fun j0 => lstG [nI (bif decide (i = k) then ((v.Grants).getD j0 0) else (((os.getD i zEvent).Grants).getD j0 0))]), nI (bif decide (i = k) then v.Sets else (os.getD i zEvent).Sets), nI (bif decide (i = k) then v.Spilt else (os.getD i zEvent).Spilt), nI (bif decide (i = k) then v.Taken else (os.getD i zEvent).Taken)]) = goEventS (os.set k v) := by
 funext i
 unfold goEventS
 rw [getD_set h]
 by_cases hi : i = k
 · subst hi; simp only [decide_true, cond_true, if_true, gI]; try rfl
 · simp only [hi, decide_false, cond_false, if_false, gI]; try rfl
theorem l55 (x : (List VEvent)) (hb : szEventS x ≤ 1048576) : ∀ (m i : Nat) (os : (List VEvent)), i + m = x.length → os.length = x.length → (∀ j, j < i → os.getD j zEvent = x.getD j zEvent) →
  HH 55 [] (m + 1) [true, true, false, true] (hdS [(0, slEventS x), (3, .rf 290816), (4, nI (i : Int))] [(290816, ⟨os.length, 7, goEventS os⟩)] []) = some (owEventS x, []) := by
 have hlen : x.length ≤ 1048576 := sumL_len hb
 intro m
 induction m with
 | zero =>
  intro i os hi hl ho
  have : os = x := list_ext_getD (d := zEvent) hl fun j hj => ho j (by omega)
  subst this
  rw [hstep, h55, bf (by simp [zN] <;> omega)]
  exact bt (by simp [okT_eq, okU_eq, okV_eq, okW_eq, okD_true])
 | succ m ih =>
  intro i os hi hl ho
  rw [hstep, h55, bt (by simp [zN] <;> omega), bt (by simp [zN] <;> omega), wrapN (by omega)]
  simp only [Int.toNat_natCast]
  refine obind' (v133 (x.getD i zEvent) (sumL_get hb (by omega))) (bt' (by simp [zN] <;> omega) ?_)
  refine (congrArg (fun G => HH 55 [] (m + 1) [true, true, false, true] (hdS [(0, slEventS x), (3, .rf 290816), (4, nI ((i + 1 : Nat) : Int))] [(290816, ⟨os.length, 7, G⟩)] [])) (set_EventS (os := os) (k := i) (v := x.getD i zEvent) (by omega))).trans ?_
  have := ih (i + 1) (os.set i (x.getD i zEvent)) (by omega) (by simpa using hl) (fun j hj => by
   rw [getD_set (by omega)]
   by_cases hji : j = i
   · subst hji; simp
   · rw [if_neg hji]; exact ho j (by omega))
  rw [List.length_set] at this
  exact this
theorem v55 (x : (List VEvent)) (hb : szEventS x ≤ 1048576) : E 55 [slEventS x] [] = some (owEventS x, []) := by
 have hlen : x.length ≤ 1048576 := sumL_len hb
 refine ev1 (x.length + 1) rfl ?_
 rw [e55, bt (by simp [zN] <;> omega)]
 have := l55 x hb x.length 0 (List.replicate x.length zEvent) (by omega) (by simp) (fun j hj => by omega)
 rw [List.length_replicate] at this
 refine Eq.trans ?_ this
 refine congrArg (fun G => HH 55 [] (x.length + 1) [true, true, false, true] (hdS [(0, slEventS x), (3, .rf 290816), (4, nI 0)] [(290816, ⟨x.length, 7, G⟩)] [])) ?_
 funext i
 simp only [goEventS, gsEventS, getD_rep]
 try rfl
theorem v134 (x : VLatch) (hb : szLatch x ≤ 1048576) : E 134 [slLatch x] [] = some (owLatch x, []) := by
 refine ev1 0 rfl ?_
 rw [e134]
 unfold szLatch at hb
 refine obind' (v129 x.Line (by omega)) ?_
 refine obind' (v129 x.Grants (by omega)) ?_
 exact bt (by simp [okT_eq, okU_eq, okV_eq, okW_eq, okD_true])
theorem set_LatchS {os : List VLatch} {k : Nat} {v : VLatch} (h : k < os.length) : (fun i => lstG [nI (bif decide (i = k) then v.Count else (os.getD i zLatch).Count), AV.own (bif decide (i = k) then (v.Line).length else ((os.getD i zLatch).Line).length) 1 (fun j0 => lstG [nI (bif decide (i = k) then ((v.Line).getD j0 0) else (((os.getD i zLatch).Line).getD j0 0))]), AV.own (bif decide (i = k) then (v.Grants).length else ((os.getD i zLatch).Grants).length) 1 (fun j0 => lstG [nI (bif decide (i = k) then ((v.Grants).getD j0 0) else (((os.getD i zLatch).Grants).getD j0 0))])]) = goLatchS (os.set k v) := by
 funext i
 unfold goLatchS
 rw [getD_set h]
 by_cases hi : i = k
 · subst hi; simp only [decide_true, cond_true, if_true, gI]; try rfl
 · simp only [hi, decide_false, cond_false, if_false, gI]; try rfl
theorem l56 (x : (List VLatch)) (hb : szLatchS x ≤ 1048576) : ∀ (m i : Nat) (os : (List VLatch)), i + m = x.length → os.length = x.length → (∀ j, j < i → os.getD j zLatch = x.getD j zLatch) →
  HH 56 [] (m + 1) [true, true, false, true] (hdS [(0, slLatchS x), (3, .rf 290816), (4, nI (i : Int))] [(290816, ⟨os.length, 3, goLatchS os⟩)] []) = some (owLatchS x, []) := by
 have hlen : x.length ≤ 1048576 := sumL_len hb
 intro m
 induction m with
 | zero =>
  intro i os hi hl ho
  have : os = x := list_ext_getD (d := zLatch) hl fun j hj => ho j (by omega)
  subst this
  rw [hstep, h56, bf (by simp [zN] <;> omega)]
  exact bt (by simp [okT_eq, okU_eq, okV_eq, okW_eq, okD_true])
 | succ m ih =>
  intro i os hi hl ho
  rw [hstep, h56, bt (by simp [zN] <;> omega), bt (by simp [zN] <;> omega), wrapN (by omega)]
  simp only [Int.toNat_natCast]
  refine obind' (v134 (x.getD i zLatch) (sumL_get hb (by omega))) (bt' (by simp [zN] <;> omega) ?_)
  refine (congrArg (fun G => HH 56 [] (m + 1) [true, true, false, true] (hdS [(0, slLatchS x), (3, .rf 290816), (4, nI ((i + 1 : Nat) : Int))] [(290816, ⟨os.length, 3, G⟩)] [])) (set_LatchS (os := os) (k := i) (v := x.getD i zLatch) (by omega))).trans ?_
  have := ih (i + 1) (os.set i (x.getD i zLatch)) (by omega) (by simpa using hl) (fun j hj => by
   rw [getD_set (by omega)]
   by_cases hji : j = i
   · subst hji; simp
   · rw [if_neg hji]; exact ho j (by omega))
  rw [List.length_set] at this
  exact this
theorem v56 (x : (List VLatch)) (hb : szLatchS x ≤ 1048576) : E 56 [slLatchS x] [] = some (owLatchS x, []) := by
 have hlen : x.length ≤ 1048576 := sumL_len hb
 refine ev1 (x.length + 1) rfl ?_
 rw [e56, bt (by simp [zN] <;> omega)]
 have := l56 x hb x.length 0 (List.replicate x.length zLatch) (by omega) (by simp) (fun j hj => by omega)
 rw [List.length_replicate] at this
 refine Eq.trans ?_ this
 refine congrArg (fun G => HH 56 [] (x.length + 1) [true, true, false, true] (hdS [(0, slLatchS x), (3, .rf 290816), (4, nI 0)] [(290816, ⟨x.length, 3, G⟩)] [])) ?_
 funext i
 simp only [goLatchS, gsLatchS, getD_rep]
 try rfl
theorem v206 (x : VMsg) (hb : szMsg x ≤ 1048576) : E 206 [slMsg x] [] = some (owMsg x, []) := by
 refine ev1 0 rfl ?_
 rw [e206]
theorem set_MsgS {os : List VMsg} {k : Nat} {v : VMsg} (h : k < os.length) : (fun i => lstG [nI (bif decide (i = k) then v.Kind else (os.getD i zMsg).Kind), nI (bif decide (i = k) then v.Num else (os.getD i zMsg).Num), AV.S (bif decide (i = k) then v.Text else (os.getD i zMsg).Text)]) = goMsgS (os.set k v) := by
 funext i
 unfold goMsgS gsMsgS
 rw [getD_set h]
 by_cases hi : i = k
 · subst hi; simp only [decide_true, cond_true, if_true]; try rfl
 · simp only [hi, decide_false, cond_false, if_false]; try rfl
theorem l249 (x : (List VMsg)) (hb : szMsgS x ≤ 1048576) : ∀ (m i : Nat) (os : (List VMsg)), i + m = x.length → os.length = x.length → (∀ j, j < i → os.getD j zMsg = x.getD j zMsg) →
  HH 249 [] (m + 1) [true, true, false, true] (hdS [(0, slMsgS x), (3, .rf 290816), (4, nI (i : Int))] [(290816, ⟨os.length, 3, goMsgS os⟩)] []) = some (owMsgS x, []) := by
 have hlen : x.length ≤ 1048576 := sumL_len hb
 intro m
 induction m with
 | zero =>
  intro i os hi hl ho
  have : os = x := list_ext_getD (d := zMsg) hl fun j hj => ho j (by omega)
  subst this
  rw [hstep, h249, bf (by simp [zN] <;> omega)]
  exact bt (by simp [okT_eq, okU_eq, okV_eq, okW_eq, okD_true])
 | succ m ih =>
  intro i os hi hl ho
  rw [hstep, h249, bt (by simp [zN] <;> omega), bt (by simp [zN] <;> omega), wrapN (by omega)]
  simp only [Int.toNat_natCast]
  refine obind' (v206 (x.getD i zMsg) (sumL_get hb (by omega))) (bt' (by simp [zN] <;> omega) ?_)
  refine (congrArg (fun G => HH 249 [] (m + 1) [true, true, false, true] (hdS [(0, slMsgS x), (3, .rf 290816), (4, nI ((i + 1 : Nat) : Int))] [(290816, ⟨os.length, 3, G⟩)] [])) (set_MsgS (os := os) (k := i) (v := x.getD i zMsg) (by omega))).trans ?_
  have := ih (i + 1) (os.set i (x.getD i zMsg)) (by omega) (by simpa using hl) (fun j hj => by
   rw [getD_set (by omega)]
   by_cases hji : j = i
   · subst hji; simp
   · rw [if_neg hji]; exact ho j (by omega))
  rw [List.length_set] at this
  exact this
theorem v249 (x : (List VMsg)) (hb : szMsgS x ≤ 1048576) : E 249 [slMsgS x] [] = some (owMsgS x, []) := by
 have hlen : x.length ≤ 1048576 := sumL_len hb
 refine ev1 (x.length + 1) rfl ?_
 rw [e249, bt (by simp [zN] <;> omega)]
 have := l249 x hb x.length 0 (List.replicate x.length zMsg) (by omega) (by simp) (fun j hj => by omega)
 rw [List.length_replicate] at this
 refine Eq.trans ?_ this
 refine congrArg (fun G => HH 249 [] (x.length + 1) [true, true, false, true] (hdS [(0, slMsgS x), (3, .rf 290816), (4, nI 0)] [(290816, ⟨x.length, 3, G⟩)] [])) ?_
 funext i
 simp only [goMsgS, gsMsgS, getD_rep]
 try rfl
theorem v135 (x : VCell) (hb : szCell x ≤ 1048576) : E 135 [slCell x] [] = some (owCell x, []) := by
 refine ev1 0 rfl ?_
 rw [e135]
 unfold szCell at hb
 refine obind' (v206 x.Val (by omega)) ?_
 refine obind' (v129 x.Line (by omega)) ?_
 refine obind' (v129 x.Grants (by omega)) ?_
 exact bt (by simp [okT_eq, okU_eq, okV_eq, okW_eq, okD_true])
theorem set_CellS {os : List VCell} {k : Nat} {v : VCell} (h : k < os.length) : (fun i => lstG [nI (bif decide (i = k) then v.Val.Kind else (os.getD i zCell).Val.Kind), nI (bif decide (i = k) then v.Val.Num else (os.getD i zCell).Val.Num), AV.S (bif decide (i = k) then v.Val.Text else (os.getD i zCell).Val.Text), nI (bif decide (i = k) then v.Version else (os.getD i zCell).Version), AV.B (bif decide (i = k) then v.Closed else (os.getD i zCell).Closed), AV.own (bif decide (i = k) then (v.Line).length else ((os.getD i zCell).Line).length) 1 (fun j0 => lstG [nI (bif decide (i = k) then ((v.Line).getD j0 0) else (((os.getD i zCell).Line).getD j0 0))]), AV.own (bif decide (i = k) then (v.Grants).length else ((os.getD i zCell).Grants).length) 1 (fun j0 => lstG [nI (bif decide (i = k) then ((v.Grants).getD j0 0) else (((os.getD i zCell).Grants).getD j0 0))])]) = goCellS (os.set k v) := by
 funext i
 unfold goCellS
 rw [getD_set h]
 by_cases hi : i = k
 · subst hi; simp only [decide_true, cond_true, if_true, gI]; try rfl
 · simp only [hi, decide_false, cond_false, if_false, gI]; try rfl
theorem l57 (x : (List VCell)) (hb : szCellS x ≤ 1048576) : ∀ (m i : Nat) (os : (List VCell)), i + m = x.length → os.length = x.length → (∀ j, j < i → os.getD j zCell = x.getD j zCell) →
  HH 57 [] (m + 1) [true, true, false, true] (hdS [(0, slCellS x), (3, .rf 290816), (4, nI (i : Int))] [(290816, ⟨os.length, 7, goCellS os⟩)] []) = some (owCellS x, []) := by
 have hlen : x.length ≤ 1048576 := sumL_len hb
 intro m
 induction m with
 | zero =>
  intro i os hi hl ho
  have : os = x := list_ext_getD (d := zCell) hl fun j hj => ho j (by omega)
  subst this
  rw [hstep, h57, bf (by simp [zN] <;> omega)]
  exact bt (by simp [okT_eq, okU_eq, okV_eq, okW_eq, okD_true])
 | succ m ih =>
  intro i os hi hl ho
  rw [hstep, h57, bt (by simp [zN] <;> omega), bt (by simp [zN] <;> omega), wrapN (by omega)]
  simp only [Int.toNat_natCast]
  refine obind' (v135 (x.getD i zCell) (sumL_get hb (by omega))) (bt' (by simp [zN] <;> omega) ?_)
  refine (congrArg (fun G => HH 57 [] (m + 1) [true, true, false, true] (hdS [(0, slCellS x), (3, .rf 290816), (4, nI ((i + 1 : Nat) : Int))] [(290816, ⟨os.length, 7, G⟩)] [])) (set_CellS (os := os) (k := i) (v := x.getD i zCell) (by omega))).trans ?_
  have := ih (i + 1) (os.set i (x.getD i zCell)) (by omega) (by simpa using hl) (fun j hj => by
   rw [getD_set (by omega)]
   by_cases hji : j = i
   · subst hji; simp
   · rw [if_neg hji]; exact ho j (by omega))
  rw [List.length_set] at this
  exact this
theorem v57 (x : (List VCell)) (hb : szCellS x ≤ 1048576) : E 57 [slCellS x] [] = some (owCellS x, []) := by
 have hlen : x.length ≤ 1048576 := sumL_len hb
 refine ev1 (x.length + 1) rfl ?_
 rw [e57, bt (by simp [zN] <;> omega)]
 have := l57 x hb x.length 0 (List.replicate x.length zCell) (by omega) (by simp) (fun j hj => by omega)
 rw [List.length_replicate] at this
 refine Eq.trans ?_ this
 refine congrArg (fun G => HH 57 [] (x.length + 1) [true, true, false, true] (hdS [(0, slCellS x), (3, .rf 290816), (4, nI 0)] [(290816, ⟨x.length, 7, G⟩)] [])) ?_
 funext i
 simp only [goCellS, gsCellS, getD_rep]
 try rfl
theorem v273 (x : VTerm) (hb : szTerm x ≤ 1048576) : E 273 [slTerm x] [] = some (owTerm x, []) := by
 refine ev1 0 rfl ?_
 rw [e273]
theorem set_TermS {os : List VTerm} {k : Nat} {v : VTerm} (h : k < os.length) : (fun i => lstG [nI (bif decide (i = k) then v.Op else (os.getD i zTerm).Op), nI (bif decide (i = k) then v.Num else (os.getD i zTerm).Num), AV.S (bif decide (i = k) then v.Text else (os.getD i zTerm).Text)]) = goTermS (os.set k v) := by
 funext i
 unfold goTermS gsTermS
 rw [getD_set h]
 by_cases hi : i = k
 · subst hi; simp only [decide_true, cond_true, if_true]; try rfl
 · simp only [hi, decide_false, cond_false, if_false]; try rfl
theorem l253 (x : (List VTerm)) (hb : szTermS x ≤ 1048576) : ∀ (m i : Nat) (os : (List VTerm)), i + m = x.length → os.length = x.length → (∀ j, j < i → os.getD j zTerm = x.getD j zTerm) →
  HH 253 [] (m + 1) [true, true, false, true] (hdS [(0, slTermS x), (3, .rf 290816), (4, nI (i : Int))] [(290816, ⟨os.length, 3, goTermS os⟩)] []) = some (owTermS x, []) := by
 have hlen : x.length ≤ 1048576 := sumL_len hb
 intro m
 induction m with
 | zero =>
  intro i os hi hl ho
  have : os = x := list_ext_getD (d := zTerm) hl fun j hj => ho j (by omega)
  subst this
  rw [hstep, h253, bf (by simp [zN] <;> omega)]
  exact bt (by simp [okT_eq, okU_eq, okV_eq, okW_eq, okD_true])
 | succ m ih =>
  intro i os hi hl ho
  rw [hstep, h253, bt (by simp [zN] <;> omega), bt (by simp [zN] <;> omega), wrapN (by omega)]
  simp only [Int.toNat_natCast]
  refine obind' (v273 (x.getD i zTerm) (sumL_get hb (by omega))) (bt' (by simp [zN] <;> omega) ?_)
  refine (congrArg (fun G => HH 253 [] (m + 1) [true, true, false, true] (hdS [(0, slTermS x), (3, .rf 290816), (4, nI ((i + 1 : Nat) : Int))] [(290816, ⟨os.length, 3, G⟩)] [])) (set_TermS (os := os) (k := i) (v := x.getD i zTerm) (by omega))).trans ?_
  have := ih (i + 1) (os.set i (x.getD i zTerm)) (by omega) (by simpa using hl) (fun j hj => by
   rw [getD_set (by omega)]
   by_cases hji : j = i
   · subst hji; simp
   · rw [if_neg hji]; exact ho j (by omega))
  rw [List.length_set] at this
  exact this
theorem v253 (x : (List VTerm)) (hb : szTermS x ≤ 1048576) : E 253 [slTermS x] [] = some (owTermS x, []) := by
 have hlen : x.length ≤ 1048576 := sumL_len hb
 refine ev1 (x.length + 1) rfl ?_
 rw [e253, bt (by simp [zN] <;> omega)]
 have := l253 x hb x.length 0 (List.replicate x.length zTerm) (by omega) (by simp) (fun j hj => by omega)
 rw [List.length_replicate] at this
 refine Eq.trans ?_ this
 refine congrArg (fun G => HH 253 [] (x.length + 1) [true, true, false, true] (hdS [(0, slTermS x), (3, .rf 290816), (4, nI 0)] [(290816, ⟨x.length, 3, G⟩)] [])) ?_
 funext i
 simp only [goTermS, gsTermS, getD_rep]
 try rfl
theorem v272 (x : VSub) (hb : szSub x ≤ 1048576) : E 272 [slSub x] [] = some (owSub x, []) := by
 refine ev1 0 rfl ?_
 rw [e272]
 unfold szSub at hb
 refine obind' (v253 x.Filter (by omega)) ?_
 exact bt (by simp [okT_eq, okU_eq, okV_eq, okW_eq, okD_true])
theorem set_SubS {os : List VSub} {k : Nat} {v : VSub} (h : k < os.length) : (fun i => lstG [nI (bif decide (i = k) then v.Id else (os.getD i zSub).Id), nI (bif decide (i = k) then v.Start else (os.getD i zSub).Start), nI (bif decide (i = k) then v.Cursor else (os.getD i zSub).Cursor), nI (bif decide (i = k) then v.Got else (os.getD i zSub).Got), nI (bif decide (i = k) then v.Lost else (os.getD i zSub).Lost), nI (bif decide (i = k) then v.Passed else (os.getD i zSub).Passed), AV.own (bif decide (i = k) then (v.Filter).length else ((os.getD i zSub).Filter).length) 3 (fun j0 => lstG [nI (bif decide (i = k) then ((v.Filter).getD j0 zTerm).Op else (((os.getD i zSub).Filter).getD j0 zTerm).Op), nI (bif decide (i = k) then ((v.Filter).getD j0 zTerm).Num else (((os.getD i zSub).Filter).getD j0 zTerm).Num), AV.S (bif decide (i = k) then ((v.Filter).getD j0 zTerm).Text else (((os.getD i zSub).Filter).getD j0 zTerm).Text)])]) = goSubS (os.set k v) := by
 funext i
 unfold goSubS
 rw [getD_set h]
 by_cases hi : i = k
 · subst hi; simp only [decide_true, cond_true, if_true, gsTermS]; try rfl
 · simp only [hi, decide_false, cond_false, if_false, gsTermS]; try rfl
theorem l250 (x : (List VSub)) (hb : szSubS x ≤ 1048576) : ∀ (m i : Nat) (os : (List VSub)), i + m = x.length → os.length = x.length → (∀ j, j < i → os.getD j zSub = x.getD j zSub) →
  HH 250 [] (m + 1) [true, true, false, true] (hdS [(0, slSubS x), (3, .rf 290816), (4, nI (i : Int))] [(290816, ⟨os.length, 7, goSubS os⟩)] []) = some (owSubS x, []) := by
 have hlen : x.length ≤ 1048576 := sumL_len hb
 intro m
 induction m with
 | zero =>
  intro i os hi hl ho
  have : os = x := list_ext_getD (d := zSub) hl fun j hj => ho j (by omega)
  subst this
  rw [hstep, h250, bf (by simp [zN] <;> omega)]
  exact bt (by simp [okT_eq, okU_eq, okV_eq, okW_eq, okD_true])
 | succ m ih =>
  intro i os hi hl ho
  rw [hstep, h250, bt (by simp [zN] <;> omega), bt (by simp [zN] <;> omega), wrapN (by omega)]
  simp only [Int.toNat_natCast]
  refine obind' (v272 (x.getD i zSub) (sumL_get hb (by omega))) (bt' (by simp [zN] <;> omega) ?_)
  refine (congrArg (fun G => HH 250 [] (m + 1) [true, true, false, true] (hdS [(0, slSubS x), (3, .rf 290816), (4, nI ((i + 1 : Nat) : Int))] [(290816, ⟨os.length, 7, G⟩)] [])) (set_SubS (os := os) (k := i) (v := x.getD i zSub) (by omega))).trans ?_
  have := ih (i + 1) (os.set i (x.getD i zSub)) (by omega) (by simpa using hl) (fun j hj => by
   rw [getD_set (by omega)]
   by_cases hji : j = i
   · subst hji; simp
   · rw [if_neg hji]; exact ho j (by omega))
  rw [List.length_set] at this
  exact this
theorem v250 (x : (List VSub)) (hb : szSubS x ≤ 1048576) : E 250 [slSubS x] [] = some (owSubS x, []) := by
 have hlen : x.length ≤ 1048576 := sumL_len hb
 refine ev1 (x.length + 1) rfl ?_
 rw [e250, bt (by simp [zN] <;> omega)]
 have := l250 x hb x.length 0 (List.replicate x.length zSub) (by omega) (by simp) (fun j hj => by omega)
 rw [List.length_replicate] at this
 refine Eq.trans ?_ this
 refine congrArg (fun G => HH 250 [] (x.length + 1) [true, true, false, true] (hdS [(0, slSubS x), (3, .rf 290816), (4, nI 0)] [(290816, ⟨x.length, 7, G⟩)] [])) ?_
 funext i
 simp only [goSubS, gsSubS, getD_rep]
 try rfl
theorem v207 (x : VRing) (hb : szRing x ≤ 1048576) : E 207 [slRing x] [] = some (owRing x, []) := by
 refine ev1 0 rfl ?_
 rw [e207]
 unfold szRing at hb
 refine obind' (v249 x.Items (by omega)) ?_
 refine obind' (v250 x.Subs (by omega)) ?_
 refine obind' (v129 x.Line (by omega)) ?_
 refine obind' (v129 x.Grants (by omega)) ?_
 exact bt (by simp [okT_eq, okU_eq, okV_eq, okW_eq, okD_true])
theorem v136 (x : VTopic) (hb : szTopic x ≤ 1048576) : E 136 [slTopic x] [] = some (owTopic x, []) := by
 refine ev1 0 rfl ?_
 rw [e136]
 unfold szTopic at hb
 refine obind' (v207 x.Ring (by omega)) ?_
 exact bt (by simp [okT_eq, okU_eq, okV_eq, okW_eq, okD_true])
theorem set_TopicS {os : List VTopic} {k : Nat} {v : VTopic} (h : k < os.length) : (fun i => lstG [AV.S (bif decide (i = k) then v.Name else (os.getD i zTopic).Name), nI (bif decide (i = k) then v.Ring.Cap else (os.getD i zTopic).Ring.Cap), nI (bif decide (i = k) then v.Ring.Sent else (os.getD i zTopic).Ring.Sent), AV.own (bif decide (i = k) then (v.Ring.Items).length else ((os.getD i zTopic).Ring.Items).length) 3 (fun j0 => lstG [nI (bif decide (i = k) then ((v.Ring.Items).getD j0 zMsg).Kind else (((os.getD i zTopic).Ring.Items).getD j0 zMsg).Kind), nI (bif decide (i = k) then ((v.Ring.Items).getD j0 zMsg).Num else (((os.getD i zTopic).Ring.Items).getD j0 zMsg).Num), AV.S (bif decide (i = k) then ((v.Ring.Items).getD j0 zMsg).Text else (((os.getD i zTopic).Ring.Items).getD j0 zMsg).Text)]), nI (bif decide (i = k) then v.Ring.Next else (os.getD i zTopic).Ring.Next), AV.own (bif decide (i = k) then (v.Ring.Subs).length else ((os.getD i zTopic).Ring.Subs).length) 7 (fun j0 => lstG [nI (bif decide (i = k) then ((v.Ring.Subs).getD j0 zSub).Id else (((os.getD i zTopic).Ring.Subs).getD j0 zSub).Id), nI (bif decide (i = k) then ((v.Ring.Subs).getD j0 zSub).Start else (((os.getD i zTopic).Ring.Subs).getD j0 zSub).Start), nI (bif decide (i = k) then ((v.Ring.Subs).getD j0 zSub).Cursor else (((os.getD i zTopic).Ring.Subs).getD j0 zSub).Cursor), nI (bif decide (i = k) then ((v.Ring.Subs).getD j0 zSub).Got else (((os.getD i zTopic).Ring.Subs).getD j0 zSub).Got), nI (bif decide (i = k) then ((v.Ring.Subs).getD j0 zSub).Lost else (((os.getD i zTopic).Ring.Subs).getD j0 zSub).Lost), nI (bif decide (i = k) then ((v.Ring.Subs).getD j0 zSub).Passed else (((os.getD i zTopic).Ring.Subs).getD j0 zSub).Passed), AV.own (bif decide (i = k) then (((v.Ring.Subs).getD j0 zSub).Filter).length else ((((os.getD i zTopic).Ring.Subs).getD j0 zSub).Filter).length) 3 (fun j1 => lstG [nI (bif decide (i = k) then ((((v.Ring.Subs).getD j0 zSub).Filter).getD j1 zTerm).Op else (((((os.getD i zTopic).Ring.Subs).getD j0 zSub).Filter).getD j1 zTerm).Op), nI (bif decide (i = k) then ((((v.Ring.Subs).getD j0 zSub).Filter).getD j1 zTerm).Num else (((((os.getD i zTopic).Ring.Subs).getD j0 zSub).Filter).getD j1 zTerm).Num), AV.S (bif decide (i = k) then ((((v.Ring.Subs).getD j0 zSub).Filter).getD j1 zTerm).Text else (((((os.getD i zTopic).Ring.Subs).getD j0 zSub).Filter).getD j1 zTerm).Text)])]), AV.own (bif decide (i = k) then (v.Ring.Line).length else ((os.getD i zTopic).Ring.Line).length) 1 (fun j0 => lstG [nI (bif decide (i = k) then ((v.Ring.Line).getD j0 0) else (((os.getD i zTopic).Ring.Line).getD j0 0))]), AV.own (bif decide (i = k) then (v.Ring.Grants).length else ((os.getD i zTopic).Ring.Grants).length) 1 (fun j0 => lstG [nI (bif decide (i = k) then ((v.Ring.Grants).getD j0 0) else (((os.getD i zTopic).Ring.Grants).getD j0 0))]), AV.B (bif decide (i = k) then v.Ring.Closed else (os.getD i zTopic).Ring.Closed)]) = goTopicS (os.set k v) := by
 funext i
 unfold goTopicS
 rw [getD_set h]
 by_cases hi : i = k
 · subst hi; simp only [decide_true, cond_true, if_true, gsMsgS, goSubS, gsTermS, gI]; try rfl
 · simp only [hi, decide_false, cond_false, if_false, gsMsgS, goSubS, gsTermS, gI]; try rfl
theorem l58 (x : (List VTopic)) (hb : szTopicS x ≤ 1048576) : ∀ (m i : Nat) (os : (List VTopic)), i + m = x.length → os.length = x.length → (∀ j, j < i → os.getD j zTopic = x.getD j zTopic) →
  HH 58 [] (m + 1) [true, true, false, true] (hdS [(0, slTopicS x), (3, .rf 290816), (4, nI (i : Int))] [(290816, ⟨os.length, 9, goTopicS os⟩)] []) = some (owTopicS x, []) := by
 have hlen : x.length ≤ 1048576 := sumL_len hb
 intro m
 induction m with
 | zero =>
  intro i os hi hl ho
  have : os = x := list_ext_getD (d := zTopic) hl fun j hj => ho j (by omega)
  subst this
  rw [hstep, h58, bf (by simp [zN] <;> omega)]
  exact bt (by simp [okT_eq, okU_eq, okV_eq, okW_eq, okD_true])
 | succ m ih =>
  intro i os hi hl ho
  rw [hstep, h58, bt (by simp [zN] <;> omega), bt (by simp [zN] <;> omega), wrapN (by omega)]
  simp only [Int.toNat_natCast]
  refine obind' (v136 (x.getD i zTopic) (sumL_get hb (by omega))) (bt' (by simp [zN] <;> omega) ?_)
  refine (congrArg (fun G => HH 58 [] (m + 1) [true, true, false, true] (hdS [(0, slTopicS x), (3, .rf 290816), (4, nI ((i + 1 : Nat) : Int))] [(290816, ⟨os.length, 9, G⟩)] [])) (set_TopicS (os := os) (k := i) (v := x.getD i zTopic) (by omega))).trans ?_
  have := ih (i + 1) (os.set i (x.getD i zTopic)) (by omega) (by simpa using hl) (fun j hj => by
   rw [getD_set (by omega)]
   by_cases hji : j = i
   · subst hji; simp
   · rw [if_neg hji]; exact ho j (by omega))
  rw [List.length_set] at this
  exact this
theorem v58 (x : (List VTopic)) (hb : szTopicS x ≤ 1048576) : E 58 [slTopicS x] [] = some (owTopicS x, []) := by
 have hlen : x.length ≤ 1048576 := sumL_len hb
 refine ev1 (x.length + 1) rfl ?_
 rw [e58, bt (by simp [zN] <;> omega)]
 have := l58 x hb x.length 0 (List.replicate x.length zTopic) (by omega) (by simp) (fun j hj => by omega)
 rw [List.length_replicate] at this
 refine Eq.trans ?_ this
 refine congrArg (fun G => HH 58 [] (x.length + 1) [true, true, false, true] (hdS [(0, slTopicS x), (3, .rf 290816), (4, nI 0)] [(290816, ⟨x.length, 9, G⟩)] [])) ?_
 funext i
 simp only [goTopicS, gsTopicS, getD_rep]
 try rfl
theorem v251 (x : VLeg) : E 251 [slLeg x] [] = some (owLeg x, []) := by
 refine ev1 0 rfl ?_
 rw [e251]
theorem set_LegS {os : List VLeg} {k : Nat} {v : VLeg} (h : k < os.length) : (fun i => lstG [nI (bif decide (i = k) then v.Topic else (os.getD i zLeg).Topic), nI (bif decide (i = k) then v.Id else (os.getD i zLeg).Id), nI (bif decide (i = k) then v.Lost else (os.getD i zLeg).Lost), AV.B (bif decide (i = k) then v.Over else (os.getD i zLeg).Over)]) = goLegS (os.set k v) := by
 funext i
 unfold goLegS gsLegS
 rw [getD_set h]
 by_cases hi : i = k
 · subst hi; simp only [decide_true, cond_true, if_true]; try rfl
 · simp only [hi, decide_false, cond_false, if_false]; try rfl
theorem l208 (x : (List VLeg)) (hb : szLegS x ≤ 1048576) : ∀ (m i : Nat) (os : (List VLeg)), i + m = x.length → os.length = x.length → (∀ j, j < i → os.getD j zLeg = x.getD j zLeg) →
  HH 208 [] (m + 1) [true, true, false, true] (hdS [(0, slLegS x), (3, .rf 290816), (4, nI (i : Int))] [(290816, ⟨os.length, 4, goLegS os⟩)] []) = some (owLegS x, []) := by
 have hlen : x.length ≤ 1048576 := sumL_len hb
 intro m
 induction m with
 | zero =>
  intro i os hi hl ho
  have : os = x := list_ext_getD (d := zLeg) hl fun j hj => ho j (by omega)
  subst this
  rw [hstep, h208, bf (by simp [zN] <;> omega)]
  exact bt (by simp [okT_eq, okU_eq, okV_eq, okW_eq, okD_true])
 | succ m ih =>
  intro i os hi hl ho
  rw [hstep, h208, bt (by simp [zN] <;> omega), bt (by simp [zN] <;> omega), wrapN (by omega)]
  simp only [Int.toNat_natCast]
  refine obind' (v251 (x.getD i zLeg)) (bt' (by simp [zN] <;> omega) ?_)
  refine (congrArg (fun G => HH 208 [] (m + 1) [true, true, false, true] (hdS [(0, slLegS x), (3, .rf 290816), (4, nI ((i + 1 : Nat) : Int))] [(290816, ⟨os.length, 4, G⟩)] [])) (set_LegS (os := os) (k := i) (v := x.getD i zLeg) (by omega))).trans ?_
  have := ih (i + 1) (os.set i (x.getD i zLeg)) (by omega) (by simpa using hl) (fun j hj => by
   rw [getD_set (by omega)]
   by_cases hji : j = i
   · subst hji; simp
   · rw [if_neg hji]; exact ho j (by omega))
  rw [List.length_set] at this
  exact this
theorem v208 (x : (List VLeg)) (hb : szLegS x ≤ 1048576) : E 208 [slLegS x] [] = some (owLegS x, []) := by
 have hlen : x.length ≤ 1048576 := sumL_len hb
 refine ev1 (x.length + 1) rfl ?_
 rw [e208, bt (by simp [zN] <;> omega)]
 have := l208 x hb x.length 0 (List.replicate x.length zLeg) (by omega) (by simp) (fun j hj => by omega)
 rw [List.length_replicate] at this
 refine Eq.trans ?_ this
 refine congrArg (fun G => HH 208 [] (x.length + 1) [true, true, false, true] (hdS [(0, slLegS x), (3, .rf 290816), (4, nI 0)] [(290816, ⟨x.length, 4, G⟩)] [])) ?_
 funext i
 simp only [goLegS, gsLegS, getD_rep]
 try rfl
theorem v137 (x : VMerge) (hb : szMerge x ≤ 1048576) : E 137 [slMerge x] [] = some (owMerge x, []) := by
 refine ev1 0 rfl ?_
 rw [e137]
 unfold szMerge at hb
 refine obind' (v208 x.Legs (by omega)) ?_
 exact bt (by simp [okT_eq, okU_eq, okV_eq, okW_eq, okD_true])
theorem set_MergeS {os : List VMerge} {k : Nat} {v : VMerge} (h : k < os.length) : (fun i => lstG [AV.own (bif decide (i = k) then (v.Legs).length else ((os.getD i zMerge).Legs).length) 4 (fun j0 => lstG [nI (bif decide (i = k) then ((v.Legs).getD j0 zLeg).Topic else (((os.getD i zMerge).Legs).getD j0 zLeg).Topic), nI (bif decide (i = k) then ((v.Legs).getD j0 zLeg).Id else (((os.getD i zMerge).Legs).getD j0 zLeg).Id), nI (bif decide (i = k) then ((v.Legs).getD j0 zLeg).Lost else (((os.getD i zMerge).Legs).getD j0 zLeg).Lost), AV.B (bif decide (i = k) then ((v.Legs).getD j0 zLeg).Over else (((os.getD i zMerge).Legs).getD j0 zLeg).Over)]), nI (bif decide (i = k) then v.Into else (os.getD i zMerge).Into), nI (bif decide (i = k) then v.Moved else (os.getD i zMerge).Moved)]) = goMergeS (os.set k v) := by
 funext i
 unfold goMergeS
 rw [getD_set h]
 by_cases hi : i = k
 · subst hi; simp only [decide_true, cond_true, if_true, gsLegS]; try rfl
 · simp only [hi, decide_false, cond_false, if_false, gsLegS]; try rfl
theorem l59 (x : (List VMerge)) (hb : szMergeS x ≤ 1048576) : ∀ (m i : Nat) (os : (List VMerge)), i + m = x.length → os.length = x.length → (∀ j, j < i → os.getD j zMerge = x.getD j zMerge) →
  HH 59 [] (m + 1) [true, true, false, true] (hdS [(0, slMergeS x), (3, .rf 290816), (4, nI (i : Int))] [(290816, ⟨os.length, 3, goMergeS os⟩)] []) = some (owMergeS x, []) := by
 have hlen : x.length ≤ 1048576 := sumL_len hb
 intro m
 induction m with
 | zero =>
  intro i os hi hl ho
  have : os = x := list_ext_getD (d := zMerge) hl fun j hj => ho j (by omega)
  subst this
  rw [hstep, h59, bf (by simp [zN] <;> omega)]
  exact bt (by simp [okT_eq, okU_eq, okV_eq, okW_eq, okD_true])
 | succ m ih =>
  intro i os hi hl ho
  rw [hstep, h59, bt (by simp [zN] <;> omega), bt (by simp [zN] <;> omega), wrapN (by omega)]
  simp only [Int.toNat_natCast]
  refine obind' (v137 (x.getD i zMerge) (sumL_get hb (by omega))) (bt' (by simp [zN] <;> omega) ?_)
  refine (congrArg (fun G => HH 59 [] (m + 1) [true, true, false, true] (hdS [(0, slMergeS x), (3, .rf 290816), (4, nI ((i + 1 : Nat) : Int))] [(290816, ⟨os.length, 3, G⟩)] [])) (set_MergeS (os := os) (k := i) (v := x.getD i zMerge) (by omega))).trans ?_
  have := ih (i + 1) (os.set i (x.getD i zMerge)) (by omega) (by simpa using hl) (fun j hj => by
   rw [getD_set (by omega)]
   by_cases hji : j = i
   · subst hji; simp
   · rw [if_neg hji]; exact ho j (by omega))
  rw [List.length_set] at this
  exact this
theorem v59 (x : (List VMerge)) (hb : szMergeS x ≤ 1048576) : E 59 [slMergeS x] [] = some (owMergeS x, []) := by
 have hlen : x.length ≤ 1048576 := sumL_len hb
 refine ev1 (x.length + 1) rfl ?_
 rw [e59, bt (by simp [zN] <;> omega)]
 have := l59 x hb x.length 0 (List.replicate x.length zMerge) (by omega) (by simp) (fun j hj => by omega)
 rw [List.length_replicate] at this
 refine Eq.trans ?_ this
 refine congrArg (fun G => HH 59 [] (x.length + 1) [true, true, false, true] (hdS [(0, slMergeS x), (3, .rf 290816), (4, nI 0)] [(290816, ⟨x.length, 3, G⟩)] [])) ?_
 funext i
 simp only [goMergeS, gsMergeS, getD_rep]
 try rfl
theorem v252 (x : VHit) : E 252 [slHit x] [] = some (owHit x, []) := by
 refine ev1 0 rfl ?_
 rw [e252]
theorem set_HitS {os : List VHit} {k : Nat} {v : VHit} (h : k < os.length) : (fun i => lstG [nI (bif decide (i = k) then v.Topic else (os.getD i zHit).Topic), nI (bif decide (i = k) then v.Id else (os.getD i zHit).Id)]) = goHitS (os.set k v) := by
 funext i
 unfold goHitS gsHitS
 rw [getD_set h]
 by_cases hi : i = k
 · subst hi; simp only [decide_true, cond_true, if_true]; try rfl
 · simp only [hi, decide_false, cond_false, if_false]; try rfl
theorem l209 (x : (List VHit)) (hb : szHitS x ≤ 1048576) : ∀ (m i : Nat) (os : (List VHit)), i + m = x.length → os.length = x.length → (∀ j, j < i → os.getD j zHit = x.getD j zHit) →
  HH 209 [] (m + 1) [true, true, false, true] (hdS [(0, slHitS x), (3, .rf 290816), (4, nI (i : Int))] [(290816, ⟨os.length, 2, goHitS os⟩)] []) = some (owHitS x, []) := by
 have hlen : x.length ≤ 1048576 := sumL_len hb
 intro m
 induction m with
 | zero =>
  intro i os hi hl ho
  have : os = x := list_ext_getD (d := zHit) hl fun j hj => ho j (by omega)
  subst this
  rw [hstep, h209, bf (by simp [zN] <;> omega)]
  exact bt (by simp [okT_eq, okU_eq, okV_eq, okW_eq, okD_true])
 | succ m ih =>
  intro i os hi hl ho
  rw [hstep, h209, bt (by simp [zN] <;> omega), bt (by simp [zN] <;> omega), wrapN (by omega)]
  simp only [Int.toNat_natCast]
  refine obind' (v252 (x.getD i zHit)) (bt' (by simp [zN] <;> omega) ?_)
  refine (congrArg (fun G => HH 209 [] (m + 1) [true, true, false, true] (hdS [(0, slHitS x), (3, .rf 290816), (4, nI ((i + 1 : Nat) : Int))] [(290816, ⟨os.length, 2, G⟩)] [])) (set_HitS (os := os) (k := i) (v := x.getD i zHit) (by omega))).trans ?_
  have := ih (i + 1) (os.set i (x.getD i zHit)) (by omega) (by simpa using hl) (fun j hj => by
   rw [getD_set (by omega)]
   by_cases hji : j = i
   · subst hji; simp
   · rw [if_neg hji]; exact ho j (by omega))
  rw [List.length_set] at this
  exact this
theorem v209 (x : (List VHit)) (hb : szHitS x ≤ 1048576) : E 209 [slHitS x] [] = some (owHitS x, []) := by
 have hlen : x.length ≤ 1048576 := sumL_len hb
 refine ev1 (x.length + 1) rfl ?_
 rw [e209, bt (by simp [zN] <;> omega)]
 have := l209 x hb x.length 0 (List.replicate x.length zHit) (by omega) (by simp) (fun j hj => by omega)
 rw [List.length_replicate] at this
 refine Eq.trans ?_ this
 refine congrArg (fun G => HH 209 [] (x.length + 1) [true, true, false, true] (hdS [(0, slHitS x), (3, .rf 290816), (4, nI 0)] [(290816, ⟨x.length, 2, G⟩)] [])) ?_
 funext i
 simp only [goHitS, gsHitS, getD_rep]
 try rfl
theorem v138 (x : VUser) (hb : szUser x ≤ 1048576) : E 138 [slUser x] [] = some (owUser x, []) := by
 refine ev1 0 rfl ?_
 rw [e138]
 unfold szUser at hb
 refine obind' (v209 x.Subs (by omega)) ?_
 refine obind' (v129 x.Seen (by omega)) ?_
 exact bt (by simp [okT_eq, okU_eq, okV_eq, okW_eq, okD_true])
theorem set_UserS {os : List VUser} {k : Nat} {v : VUser} (h : k < os.length) : (fun i => lstG [AV.own (bif decide (i = k) then (v.Subs).length else ((os.getD i zUser).Subs).length) 2 (fun j0 => lstG [nI (bif decide (i = k) then ((v.Subs).getD j0 zHit).Topic else (((os.getD i zUser).Subs).getD j0 zHit).Topic), nI (bif decide (i = k) then ((v.Subs).getD j0 zHit).Id else (((os.getD i zUser).Subs).getD j0 zHit).Id)]), AV.own (bif decide (i = k) then (v.Seen).length else ((os.getD i zUser).Seen).length) 1 (fun j0 => lstG [nI (bif decide (i = k) then ((v.Seen).getD j0 0) else (((os.getD i zUser).Seen).getD j0 0))])]) = goUserS (os.set k v) := by
 funext i
 unfold goUserS
 rw [getD_set h]
 by_cases hi : i = k
 · subst hi; simp only [decide_true, cond_true, if_true, gsHitS, gI]; try rfl
 · simp only [hi, decide_false, cond_false, if_false, gsHitS, gI]; try rfl
theorem l60 (x : (List VUser)) (hb : szUserS x ≤ 1048576) : ∀ (m i : Nat) (os : (List VUser)), i + m = x.length → os.length = x.length → (∀ j, j < i → os.getD j zUser = x.getD j zUser) →
  HH 60 [] (m + 1) [true, true, false, true] (hdS [(0, slUserS x), (3, .rf 290816), (4, nI (i : Int))] [(290816, ⟨os.length, 2, goUserS os⟩)] []) = some (owUserS x, []) := by
 have hlen : x.length ≤ 1048576 := sumL_len hb
 intro m
 induction m with
 | zero =>
  intro i os hi hl ho
  have : os = x := list_ext_getD (d := zUser) hl fun j hj => ho j (by omega)
  subst this
  rw [hstep, h60, bf (by simp [zN] <;> omega)]
  exact bt (by simp [okT_eq, okU_eq, okV_eq, okW_eq, okD_true])
 | succ m ih =>
  intro i os hi hl ho
  rw [hstep, h60, bt (by simp [zN] <;> omega), bt (by simp [zN] <;> omega), wrapN (by omega)]
  simp only [Int.toNat_natCast]
  refine obind' (v138 (x.getD i zUser) (sumL_get hb (by omega))) (bt' (by simp [zN] <;> omega) ?_)
  refine (congrArg (fun G => HH 60 [] (m + 1) [true, true, false, true] (hdS [(0, slUserS x), (3, .rf 290816), (4, nI ((i + 1 : Nat) : Int))] [(290816, ⟨os.length, 2, G⟩)] [])) (set_UserS (os := os) (k := i) (v := x.getD i zUser) (by omega))).trans ?_
  have := ih (i + 1) (os.set i (x.getD i zUser)) (by omega) (by simpa using hl) (fun j hj => by
   rw [getD_set (by omega)]
   by_cases hji : j = i
   · subst hji; simp
   · rw [if_neg hji]; exact ho j (by omega))
  rw [List.length_set] at this
  exact this
theorem v60 (x : (List VUser)) (hb : szUserS x ≤ 1048576) : E 60 [slUserS x] [] = some (owUserS x, []) := by
 have hlen : x.length ≤ 1048576 := sumL_len hb
 refine ev1 (x.length + 1) rfl ?_
 rw [e60, bt (by simp [zN] <;> omega)]
 have := l60 x hb x.length 0 (List.replicate x.length zUser) (by omega) (by simp) (fun j hj => by omega)
 rw [List.length_replicate] at this
 refine Eq.trans ?_ this
 refine congrArg (fun G => HH 60 [] (x.length + 1) [true, true, false, true] (hdS [(0, slUserS x), (3, .rf 290816), (4, nI 0)] [(290816, ⟨x.length, 2, G⟩)] [])) ?_
 funext i
 simp only [goUserS, gsUserS, getD_rep]
 try rfl
theorem v25 (x : VHub) (hb : szHub x ≤ 1048576) : E 25 [slHub x] [] = some (owHub x, []) := by
 refine ev1 0 rfl ?_
 rw [e25]
 unfold szHub at hb
 refine obind' (v52 x.Tokens (by omega)) ?_
 refine obind' (v53 x.Clock (by omega)) ?_
 refine obind' (v54 x.Notes (by omega)) ?_
 refine obind' (v55 x.Events (by omega)) ?_
 refine obind' (v56 x.Latches (by omega)) ?_
 refine obind' (v57 x.Cells (by omega)) ?_
 refine obind' (v58 x.Topics (by omega)) ?_
 refine obind' (v59 x.Merges (by omega)) ?_
 refine obind' (v60 x.Users (by omega)) ?_
 exact bt (by simp [okT_eq, okU_eq, okV_eq, okW_eq, okD_true])
theorem v210 (x : VCall) (hb : szCall x ≤ 1048576) : E 210 [slCall x] [] = some (owCall x, []) := by
 refine ev1 0 rfl ?_
 rw [e210]
 unfold szCall at hb
 refine obind' (v206 x.Msg (by omega)) ?_
 refine obind' (v253 x.Filter (by omega)) ?_
 exact bt (by simp [okT_eq, okU_eq, okV_eq, okW_eq, okD_true])
theorem set_CallS {os : List VCall} {k : Nat} {v : VCall} (h : k < os.length) : (fun i => lstG [nI (bif decide (i = k) then v.Op else (os.getD i zCall).Op), nI (bif decide (i = k) then v.A else (os.getD i zCall).A), nI (bif decide (i = k) then v.B else (os.getD i zCall).B), nI (bif decide (i = k) then v.Tok else (os.getD i zCall).Tok), AV.S (bif decide (i = k) then v.Name else (os.getD i zCall).Name), nI (bif decide (i = k) then v.Msg.Kind else (os.getD i zCall).Msg.Kind), nI (bif decide (i = k) then v.Msg.Num else (os.getD i zCall).Msg.Num), AV.S (bif decide (i = k) then v.Msg.Text else (os.getD i zCall).Msg.Text), AV.own (bif decide (i = k) then (v.Filter).length else ((os.getD i zCall).Filter).length) 3 (fun j0 => lstG [nI (bif decide (i = k) then ((v.Filter).getD j0 zTerm).Op else (((os.getD i zCall).Filter).getD j0 zTerm).Op), nI (bif decide (i = k) then ((v.Filter).getD j0 zTerm).Num else (((os.getD i zCall).Filter).getD j0 zTerm).Num), AV.S (bif decide (i = k) then ((v.Filter).getD j0 zTerm).Text else (((os.getD i zCall).Filter).getD j0 zTerm).Text)])]) = goCallS (os.set k v) := by
 funext i
 unfold goCallS
 rw [getD_set h]
 by_cases hi : i = k
 · subst hi; simp only [decide_true, cond_true, if_true, gsTermS]; try rfl
 · simp only [hi, decide_false, cond_false, if_false, gsTermS]; try rfl
theorem l139 (x : (List VCall)) (hb : szCallS x ≤ 1048576) : ∀ (m i : Nat) (os : (List VCall)), i + m = x.length → os.length = x.length → (∀ j, j < i → os.getD j zCall = x.getD j zCall) →
  HH 139 [] (m + 1) [true, true, false, true] (hdS [(0, slCallS x), (3, .rf 290816), (4, nI (i : Int))] [(290816, ⟨os.length, 9, goCallS os⟩)] []) = some (owCallS x, []) := by
 have hlen : x.length ≤ 1048576 := sumL_len hb
 intro m
 induction m with
 | zero =>
  intro i os hi hl ho
  have : os = x := list_ext_getD (d := zCall) hl fun j hj => ho j (by omega)
  subst this
  rw [hstep, h139, bf (by simp [zN] <;> omega)]
  exact bt (by simp [okT_eq, okU_eq, okV_eq, okW_eq, okD_true])
 | succ m ih =>
  intro i os hi hl ho
  rw [hstep, h139, bt (by simp [zN] <;> omega), bt (by simp [zN] <;> omega), wrapN (by omega)]
  simp only [Int.toNat_natCast]
  refine obind' (v210 (x.getD i zCall) (sumL_get hb (by omega))) (bt' (by simp [zN] <;> omega) ?_)
  refine (congrArg (fun G => HH 139 [] (m + 1) [true, true, false, true] (hdS [(0, slCallS x), (3, .rf 290816), (4, nI ((i + 1 : Nat) : Int))] [(290816, ⟨os.length, 9, G⟩)] [])) (set_CallS (os := os) (k := i) (v := x.getD i zCall) (by omega))).trans ?_
  have := ih (i + 1) (os.set i (x.getD i zCall)) (by omega) (by simpa using hl) (fun j hj => by
   rw [getD_set (by omega)]
   by_cases hji : j = i
   · subst hji; simp
   · rw [if_neg hji]; exact ho j (by omega))
  rw [List.length_set] at this
  exact this
theorem v139 (x : (List VCall)) (hb : szCallS x ≤ 1048576) : E 139 [slCallS x] [] = some (owCallS x, []) := by
 have hlen : x.length ≤ 1048576 := sumL_len hb
 refine ev1 (x.length + 1) rfl ?_
 rw [e139, bt (by simp [zN] <;> omega)]
 have := l139 x hb x.length 0 (List.replicate x.length zCall) (by omega) (by simp) (fun j hj => by omega)
 rw [List.length_replicate] at this
 refine Eq.trans ?_ this
 refine congrArg (fun G => HH 139 [] (x.length + 1) [true, true, false, true] (hdS [(0, slCallS x), (3, .rf 290816), (4, nI 0)] [(290816, ⟨x.length, 9, G⟩)] [])) ?_
 funext i
 simp only [goCallS, gsCallS, getD_rep]
 try rfl
theorem v61 (x : VClient) (hb : szClient x ≤ 1048576) : E 61 [slClient x] [] = some (owClient x, []) := by
 refine ev1 0 rfl ?_
 rw [e61]
 unfold szClient at hb
 refine obind' (v139 x.Prog (by omega)) ?_
 exact bt (by simp [okT_eq, okU_eq, okV_eq, okW_eq, okD_true])
theorem set_ClientS {os : List VClient} {k : Nat} {v : VClient} (h : k < os.length) : (fun i => lstG [AV.own (bif decide (i = k) then (v.Prog).length else ((os.getD i zClient).Prog).length) 9 (fun j0 => lstG [nI (bif decide (i = k) then ((v.Prog).getD j0 zCall).Op else (((os.getD i zClient).Prog).getD j0 zCall).Op), nI (bif decide (i = k) then ((v.Prog).getD j0 zCall).A else (((os.getD i zClient).Prog).getD j0 zCall).A), nI (bif decide (i = k) then ((v.Prog).getD j0 zCall).B else (((os.getD i zClient).Prog).getD j0 zCall).B), nI (bif decide (i = k) then ((v.Prog).getD j0 zCall).Tok else (((os.getD i zClient).Prog).getD j0 zCall).Tok), AV.S (bif decide (i = k) then ((v.Prog).getD j0 zCall).Name else (((os.getD i zClient).Prog).getD j0 zCall).Name), nI (bif decide (i = k) then ((v.Prog).getD j0 zCall).Msg.Kind else (((os.getD i zClient).Prog).getD j0 zCall).Msg.Kind), nI (bif decide (i = k) then ((v.Prog).getD j0 zCall).Msg.Num else (((os.getD i zClient).Prog).getD j0 zCall).Msg.Num), AV.S (bif decide (i = k) then ((v.Prog).getD j0 zCall).Msg.Text else (((os.getD i zClient).Prog).getD j0 zCall).Msg.Text), AV.own (bif decide (i = k) then (((v.Prog).getD j0 zCall).Filter).length else ((((os.getD i zClient).Prog).getD j0 zCall).Filter).length) 3 (fun j1 => lstG [nI (bif decide (i = k) then ((((v.Prog).getD j0 zCall).Filter).getD j1 zTerm).Op else (((((os.getD i zClient).Prog).getD j0 zCall).Filter).getD j1 zTerm).Op), nI (bif decide (i = k) then ((((v.Prog).getD j0 zCall).Filter).getD j1 zTerm).Num else (((((os.getD i zClient).Prog).getD j0 zCall).Filter).getD j1 zTerm).Num), AV.S (bif decide (i = k) then ((((v.Prog).getD j0 zCall).Filter).getD j1 zTerm).Text else (((((os.getD i zClient).Prog).getD j0 zCall).Filter).getD j1 zTerm).Text)])]), nI (bif decide (i = k) then v.At else (os.getD i zClient).At), AV.B (bif decide (i = k) then v.Waiting else (os.getD i zClient).Waiting)]) = goClientS (os.set k v) := by
 funext i
 unfold goClientS
 rw [getD_set h]
 by_cases hi : i = k
 · subst hi; simp only [decide_true, cond_true, if_true, goCallS, gsTermS]; try rfl
 · simp only [hi, decide_false, cond_false, if_false, goCallS, gsTermS]; try rfl
theorem l26 (x : (List VClient)) (hb : szClientS x ≤ 1048576) : ∀ (m i : Nat) (os : (List VClient)), i + m = x.length → os.length = x.length → (∀ j, j < i → os.getD j zClient = x.getD j zClient) →
  HH 26 [] (m + 1) [true, true, false, true] (hdS [(0, slClientS x), (3, .rf 290816), (4, nI (i : Int))] [(290816, ⟨os.length, 3, goClientS os⟩)] []) = some (owClientS x, []) := by
 have hlen : x.length ≤ 1048576 := sumL_len hb
 intro m
 induction m with
 | zero =>
  intro i os hi hl ho
  have : os = x := list_ext_getD (d := zClient) hl fun j hj => ho j (by omega)
  subst this
  rw [hstep, h26, bf (by simp [zN] <;> omega)]
  exact bt (by simp [okT_eq, okU_eq, okV_eq, okW_eq, okD_true])
 | succ m ih =>
  intro i os hi hl ho
  rw [hstep, h26, bt (by simp [zN] <;> omega), bt (by simp [zN] <;> omega), wrapN (by omega)]
  simp only [Int.toNat_natCast]
  refine obind' (v61 (x.getD i zClient) (sumL_get hb (by omega))) (bt' (by simp [zN] <;> omega) ?_)
  refine (congrArg (fun G => HH 26 [] (m + 1) [true, true, false, true] (hdS [(0, slClientS x), (3, .rf 290816), (4, nI ((i + 1 : Nat) : Int))] [(290816, ⟨os.length, 3, G⟩)] [])) (set_ClientS (os := os) (k := i) (v := x.getD i zClient) (by omega))).trans ?_
  have := ih (i + 1) (os.set i (x.getD i zClient)) (by omega) (by simpa using hl) (fun j hj => by
   rw [getD_set (by omega)]
   by_cases hji : j = i
   · subst hji; simp
   · rw [if_neg hji]; exact ho j (by omega))
  rw [List.length_set] at this
  exact this
theorem v26 (x : (List VClient)) (hb : szClientS x ≤ 1048576) : E 26 [slClientS x] [] = some (owClientS x, []) := by
 have hlen : x.length ≤ 1048576 := sumL_len hb
 refine ev1 (x.length + 1) rfl ?_
 rw [e26, bt (by simp [zN] <;> omega)]
 have := l26 x hb x.length 0 (List.replicate x.length zClient) (by omega) (by simp) (fun j hj => by omega)
 rw [List.length_replicate] at this
 refine Eq.trans ?_ this
 refine congrArg (fun G => HH 26 [] (x.length + 1) [true, true, false, true] (hdS [(0, slClientS x), (3, .rf 290816), (4, nI 0)] [(290816, ⟨x.length, 3, G⟩)] [])) ?_
 funext i
 simp only [goClientS, gsClientS, getD_rep]
 try rfl
theorem v8 (x : VState) (hb : szState x ≤ 1048576) : E 8 [slState x] [] = some (owState x, []) := by
 refine ev1 0 rfl ?_
 rw [e8]
 unfold szState at hb
 refine obind' (v25 x.Hub (by omega)) ?_
 refine obind' (v26 x.Clients (by omega)) ?_
 exact bt (by simp [okT_eq, okU_eq, okV_eq, okW_eq, okD_true])
end Go.Fw
