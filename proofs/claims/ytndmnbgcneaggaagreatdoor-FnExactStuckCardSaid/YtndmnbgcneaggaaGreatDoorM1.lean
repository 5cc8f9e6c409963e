/- Marking a state: numbers and rows come back; by type. -/
import Derived.Test.YtndmnbgcneaggaaGreatDoorM0
import Derived.Test.YtndmnbgcneaggaaGreatDoorKm
import Derived.Test.YtndmnbgcneaggaaGreatDoorV1
set_option linter.unusedVariables false
set_option linter.unusedSimpArgs false
set_option maxRecDepth 100000
namespace Go.Fw
open Go.Proofs
theorem lMT : ∀ (n : Nat) (k : Int) (s : ByteArray), 0 ≤ k → k ≤ 1125899906842624 → k < 10 ^ n → s.size + n ≤ 4294967295 → ∃ t, HH 180 [] (n + 1) [true, true, true, false] (hdS [(0, nI k), (3, .S s)] [] []) = some (.S t, []) := by
 intro n
 induction n with
 | zero =>
  intro k s h0 hb h1 h2
  rw [hstep, h180, bf (decide_eq_false (by simp at h1; omega))]
  exact ⟨_, bt (decide_eq_true (by omega))⟩
 | succ n ih =>
  intro k s h0 hb h1 h2
  rw [hstep, h180]
  by_cases c : 0 < k
  · rw [bt (decide_eq_true c), bt (decide_eq_true (by omega))]
    have w : IntKind.i64.wrap (k.tdiv 10) = k / 10 := by rw [Int.tdiv_eq_ediv_of_nonneg h0]; exact wrapS (by omega) (by omega)
    rw [w]
    refine ih _ _ (by omega) (by omega) (by rw [Int.pow_succ] at h1; omega) ?_
    rw [ByteArray.size_append]
    show 1 + s.size + n ≤ _
    omega
  · rw [bf (decide_eq_false c)]
    exact ⟨_, bt (decide_eq_true (by omega))⟩
theorem xMT (k : Int) (h0 : 0 ≤ k) (h1 : k ≤ 1125899906842624) : ∃ t, E 180 [nI k] [] = some (.S t, []) := by
 by_cases c : k ≤ 0
 · exact ⟨_, ev1 0 rfl (by rw [e180, bt (decide_eq_true c)])⟩
 · obtain ⟨t, h⟩ := lMT 18 k ByteArray.empty h0 h1 (by omega) (by decide)
   exact ⟨t, ev1 19 rfl (by rw [e180, bf (decide_eq_false c)]; exact h)⟩
theorem fit_own {n m s : Nat} {g h : Nat → Nat → AV} (H : okF s (fun j => g 0 j) (fun i j => h i j) = true) : (AV.own n s g).fit (AV.own m s h) = true := by
 unfold okF at H
 simp only [AV.fit]
 rw [H]
 simp
theorem okF_of {n : Nat} {A : Nat → AV} {B : Nat → Nat → AV} (H : ∀ i j, j < n → (A j).fit (B i j) = true) : okF n A B = true := by
 unfold okF
 refine @decide_eq_true _ (_) ?_
 intro i
 exact List.all_eq_true.2 fun j hj => H i j (List.mem_range.1 hj)
theorem bndM {n i : Nat} (h : i < n) : (bif decide (0 ≤ (i : Int)) then decide ((i : Int) < zN n) else false) = true := by simp [zN]; omega
theorem asI_I (k : IntKind) (n : Int) : asI (AV.I k n) = n := rfl
theorem asS_S (s : ByteArray) : asS (AV.S s) = s := rfl
theorem wr {a : Int} (h0 : 0 ≤ a) (h1 : a ≤ 4611686018427387904) : IntKind.i64.wrap (a + 1) = a + 1 := wrapS (by omega) (by omega)
theorem okF_IntS (x y : (List Int)) : okF 1 (fun j => goIntS x 0 j) (fun i j => goIntS y i j) = true := okF_of fun i j hj => by
 match j, hj with
 | 0, _ => exact rfl
theorem fit_IntS (x y : (List Int)) : (owIntS x).fit (owIntS y) = true := fit_own (okF_IntS x y)
theorem vm15 (x : (List Int)) (k : Int) (h0 : 0 ≤ k) (h1 : k + 64 * (szIntS x : Nat) ≤ 1125899906842624) : ∃ (k' : Int) (z : (List Int)), E 15 [.rf 0, nI k] [owIntS x] = some (nI k', [owIntS z]) ∧ z.length = x.length ∧ k ≤ k' ∧ k' ≤ k + 64 * (szIntS x : Nat) := by
 have hx : x.length ≤ 17592186044416 := by have : x.length ≤ szIntS x := sumL_len (Nat.le_refl _); omega
 have key := u_mark (f := 15) (exts := [owIntS x]) (p := P15) (S := fun (y : (List Int)) (k : Int) (i : Nat) => S15 x y k i) (ow := owIntS) (g := (fun _ => 0)) (d := 0) (x := x) ?_ ?_ k h0 h1
 · obtain ⟨k', w, e, r⟩ := key
   exact ⟨k', w, evK rfl ((e15 ..).trans e), r⟩
 · intro y k hy
   refine lstep ((h15 ..).trans (bf' (decide_eq_false (by simp only [zN]; omega)) (bt' (okT_eq) ?_)))
   rw [← hy] <;> rfl
 · intro y k i hi hy hd h0 h1
   have hle : i < y.length := by omega
   refine ⟨(k : Int), k + 1, by omega, by omega, fun r hr => ?_⟩
   refine lstep ((h15 ..).trans (bt' (decide_eq_true (by simp only [zN]; omega)) ?_))
   rw [wrapN (by omega)]
   simp only [Int.toNat_natCast]
   repeat (refine bt' (bndM hle) ?_)
   rw [wr (a := k) (by omega) (by omega)]
   refine (congrArg (fun G => L 15 [owIntS x] P15 (hdS [(0, .rf 0), (1, nI (k + 1)), (5, nI ((i + 1 : Nat) : Int))] [(0, ⟨y.length, 1, G⟩)] [])) (set_IntS (os := y) (v := (k : Int)) hle)).trans ?_
   rw [show y.length = (y.set i (k : Int)).length from (List.length_set ..).symm]
   exact hr
theorem vm177 (x : (List Bool)) (k : Int) (h0 : 0 ≤ k) (h1 : k + 64 * (szBoolS x : Nat) ≤ 1125899906842624) : ∃ (k' : Int) (z : (List Bool)), E 177 [.rf 0, nI k] [owBoolS x] = some (nI k', [owBoolS z]) ∧ z.length = x.length ∧ k ≤ k' ∧ k' ≤ k + 64 * (szBoolS x : Nat) := by
 have hx : x.length ≤ 17592186044416 := by have : x.length ≤ szBoolS x := sumL_len (Nat.le_refl _); omega
 have key := u_mark (f := 177) (exts := [owBoolS x]) (p := P177) (S := fun (y : (List Bool)) (k : Int) (i : Nat) => S177 x y k i) (ow := owBoolS) (g := (fun _ => 0)) (d := false) (x := x) ?_ ?_ k h0 h1
 · obtain ⟨k', w, e, r⟩ := key
   exact ⟨k', w, evK rfl ((e177 ..).trans e), r⟩
 · intro y k hy
   refine lstep ((h177 ..).trans (bf' (decide_eq_false (by simp only [zN]; omega)) (bt' (okT_eq) ?_)))
   rw [← hy] <;> rfl
 · intro y k i hi hy hd h0 h1
   have hle : i < y.length := by omega
   refine ⟨((decide ((k).tmod 3 = 0)) : Bool), k + 1, by omega, by omega, fun r hr => ?_⟩
   refine lstep ((h177 ..).trans (bt' (decide_eq_true (by simp only [zN]; omega)) ?_))
   rw [wrapN (by omega)]
   simp only [Int.toNat_natCast]
   repeat (refine bt' (bndM hle) ?_)
   rw [wr (a := k) (by omega) (by omega)]
   refine (congrArg (fun G => L 177 [owBoolS x] P177 (hdS [(0, .rf 0), (1, nI (k + 1)), (5, nI ((i + 1 : Nat) : Int))] [(0, ⟨y.length, 1, G⟩)] [])) (set_BoolS (os := y) (v := ((decide ((k).tmod 3 = 0)) : Bool)) hle)).trans ?_
   rw [show y.length = (y.set i ((decide ((k).tmod 3 = 0)) : Bool)).length from (List.length_set ..).symm]
   exact hr
theorem vm178 (x : (List VTimer)) (k : Int) (h0 : 0 ≤ k) (h1 : k + 64 * (szTimerS x : Nat) ≤ 1125899906842624) : ∃ (k' : Int) (z : (List VTimer)), E 178 [.rf 0, nI k] [owTimerS x] = some (nI k', [owTimerS z]) ∧ z.length = x.length ∧ k ≤ k' ∧ k' ≤ k + 64 * (szTimerS x : Nat) := by
 have hx : x.length ≤ 17592186044416 := by have : x.length ≤ szTimerS x := sumL_len (Nat.le_refl _); omega
 have key := u_mark (f := 178) (exts := [owTimerS x]) (p := P178) (S := fun (y : (List VTimer)) (k : Int) (i : Nat) => S178 x y k i) (ow := owTimerS) (g := (fun _ => 0)) (d := zTimer) (x := x) ?_ ?_ k h0 h1
 · obtain ⟨k', w, e, r⟩ := key
   exact ⟨k', w, evK rfl ((e178 ..).trans e), r⟩
 · intro y k hy
   refine lstep ((h178 ..).trans (bf' (decide_eq_false (by simp only [zN]; omega)) (bt' (okT_eq) ?_)))
   rw [← hy] <;> rfl
 · intro y k i hi hy hd h0 h1
   have hle : i < y.length := by omega
   refine ⟨(⟨k, k + 1⟩ : VTimer), k + 1 + 1, by omega, by omega, fun r hr => ?_⟩
   refine lstep ((h178 ..).trans (bt' (decide_eq_true (by simp only [zN]; omega)) ?_))
   rw [wrapN (by omega)]
   simp only [Int.toNat_natCast]
   repeat (refine bt' (bndM hle) ?_)
   rw [wr (a := k) (by omega) (by omega)]
   rw [wr (a := k + 1) (by omega) (by omega)]
   refine (congrArg (fun G => L 178 [owTimerS x] P178 (hdS [(0, .rf 0), (1, nI (k + 1 + 1)), (5, nI ((i + 1 : Nat) : Int))] [(0, ⟨y.length, 2, G⟩)] [])) (set_TimerS (os := y) (v := (⟨k, k + 1⟩ : VTimer)) hle)).trans ?_
   rw [show y.length = (y.set i (⟨k, k + 1⟩ : VTimer)).length from (List.length_set ..).symm]
   exact hr
theorem okF_GrantS (x y : (List VGrant)) : okF 2 (fun j => goGrantS x 0 j) (fun i j => goGrantS y i j) = true := okF_of fun i j hj => by
 match j, hj with
 | 0, _ => exact rfl
 | 1, _ => exact rfl
theorem fit_GrantS (x y : (List VGrant)) : (owGrantS x).fit (owGrantS y) = true := fit_own (okF_GrantS x y)
theorem vm179 (x : (List VGrant)) (k : Int) (h0 : 0 ≤ k) (h1 : k + 64 * (szGrantS x : Nat) ≤ 1125899906842624) : ∃ (k' : Int) (z : (List VGrant)), E 179 [.rf 0, nI k] [owGrantS x] = some (nI k', [owGrantS z]) ∧ z.length = x.length ∧ k ≤ k' ∧ k' ≤ k + 64 * (szGrantS x : Nat) := by
 have hx : x.length ≤ 17592186044416 := by have : x.length ≤ szGrantS x := sumL_len (Nat.le_refl _); omega
 have key := u_mark (f := 179) (exts := [owGrantS x]) (p := P179) (S := fun (y : (List VGrant)) (k : Int) (i : Nat) => S179 x y k i) (ow := owGrantS) (g := (fun _ => 0)) (d := zGrant) (x := x) ?_ ?_ k h0 h1
 · obtain ⟨k', w, e, r⟩ := key
   exact ⟨k', w, evK rfl ((e179 ..).trans e), r⟩
 · intro y k hy
   refine lstep ((h179 ..).trans (bf' (decide_eq_false (by simp only [zN]; omega)) (bt' (okT_eq) ?_)))
   rw [← hy] <;> rfl
 · intro y k i hi hy hd h0 h1
   have hle : i < y.length := by omega
   refine ⟨(⟨k, (decide ((k + 1).tmod 3 = 0))⟩ : VGrant), k + 1 + 1, by omega, by omega, fun r hr => ?_⟩
   refine lstep ((h179 ..).trans (bt' (decide_eq_true (by simp only [zN]; omega)) ?_))
   rw [wrapN (by omega)]
   simp only [Int.toNat_natCast]
   repeat (refine bt' (bndM hle) ?_)
   rw [wr (a := k) (by omega) (by omega)]
   rw [wr (a := k + 1) (by omega) (by omega)]
   refine (congrArg (fun G => L 179 [owGrantS x] P179 (hdS [(0, .rf 0), (1, nI (k + 1 + 1)), (5, nI ((i + 1 : Nat) : Int))] [(0, ⟨y.length, 2, G⟩)] [])) (set_GrantS (os := y) (v := (⟨k, (decide ((k + 1).tmod 3 = 0))⟩ : VGrant)) hle)).trans ?_
   rw [show y.length = (y.set i (⟨k, (decide ((k + 1).tmod 3 = 0))⟩ : VGrant)).length from (List.length_set ..).symm]
   exact hr
theorem okF_NotifyS (x y : (List VNotify)) : okF 6 (fun j => goNotifyS x 0 j) (fun i j => goNotifyS y i j) = true := okF_of fun i j hj => by
 match j, hj with
 | 0, _ => exact rfl
 | 1, _ => exact fit_IntS _ _
 | 2, _ => exact fit_GrantS _ _
 | 3, _ => exact rfl
 | 4, _ => exact rfl
 | 5, _ => exact rfl
theorem vm100 (x : (List VNotify)) (k : Int) (h0 : 0 ≤ k) (h1 : k + 64 * (szNotifyS x : Nat) ≤ 1125899906842624) : ∃ (k' : Int) (z : (List VNotify)), E 100 [.rf 0, nI k] [owNotifyS x] = some (nI k', [owNotifyS z]) ∧ z.length = x.length ∧ k ≤ k' ∧ k' ≤ k + 64 * (szNotifyS x : Nat) := by
 have hx : x.length ≤ 17592186044416 := by have : x.length ≤ szNotifyS x := sumL_len (Nat.le_refl _); omega
 have key := u_mark (f := 100) (exts := [owNotifyS x]) (p := P100) (S := fun (y : (List VNotify)) (k : Int) (i : Nat) => S100 x y k i) (ow := owNotifyS) (g := szNotify) (d := zNotify) (x := x) ?_ ?_ k h0 h1
 · obtain ⟨k', w, e, r⟩ := key
   exact ⟨k', w, evK rfl ((e100 ..).trans e), r⟩
 · intro y k hy
   refine lstep ((h100 ..).trans (bf' (decide_eq_false (by simp only [zN]; omega)) (bt' (okF_NotifyS x y) ?_)))
   rw [← hy] <;> rfl
 · intro y k i hi hy hd h0 h1
   have hle : i < y.length := by omega
   unfold szNotify at h1
   obtain ⟨k0, z0, e0, l0, a0, b0⟩ := vm15 (x.getD i zNotify).Line (k + 1) (by omega) (by omega)
   obtain ⟨k1, z1, e1, l1, a1, b1⟩ := vm179 (x.getD i zNotify).Grants (k0) (by omega) (by omega)
   refine ⟨(⟨(decide ((k).tmod 3 = 0)), z0, z1, k1, k1 + 1, k1 + 1 + 1⟩ : VNotify), k1 + 1 + 1 + 1, by omega, by unfold szNotify; omega, fun r hr => ?_⟩
   refine lstep ((h100 ..).trans (bt' (decide_eq_true (by simp only [zN]; omega)) ?_))
   rw [wrapN (by omega)]
   simp only [Int.toNat_natCast, hd]
   repeat (refine bt' (bndM hle) ?_)
   rw [wr (a := k) (by omega) (by omega)]
   refine obind' e0 ?_
   simp only [asI_I, asS_S]
   repeat (refine bt' (bndM hle) ?_)
   refine obind' e1 ?_
   simp only [asI_I, asS_S]
   repeat (refine bt' (bndM hle) ?_)
   rw [wr (a := k1) (by omega) (by omega)]
   rw [wr (a := k1 + 1) (by omega) (by omega)]
   rw [wr (a := k1 + 1 + 1) (by omega) (by omega)]
   rw [← l0]
   rw [← l1]
   refine (congrArg (fun G => L 100 [owNotifyS x] P100 (hdS [(0, .rf 0), (1, nI (k1 + 1 + 1 + 1)), (5, nI ((i + 1 : Nat) : Int))] [(0, ⟨y.length, 6, G⟩)] [])) (set_NotifyS (os := y) (v := (⟨(decide ((k).tmod 3 = 0)), z0, z1, k1, k1 + 1, k1 + 1 + 1⟩ : VNotify)) hle)).trans ?_
   rw [show y.length = (y.set i (⟨(decide ((k).tmod 3 = 0)), z0, z1, k1, k1 + 1, k1 + 1 + 1⟩ : VNotify)).length from (List.length_set ..).symm]
   exact hr
theorem okF_EventS (x y : (List VEvent)) : okF 7 (fun j => goEventS x 0 j) (fun i j => goEventS y i j) = true := okF_of fun i j hj => by
 match j, hj with
 | 0, _ => exact rfl
 | 1, _ => exact rfl
 | 2, _ => exact fit_IntS _ _
 | 3, _ => exact fit_IntS _ _
 | 4, _ => exact rfl
 | 5, _ => exact rfl
 | 6, _ => exact rfl
theorem vm101 (x : (List VEvent)) (k : Int) (h0 : 0 ≤ k) (h1 : k + 64 * (szEventS x : Nat) ≤ 1125899906842624) : ∃ (k' : Int) (z : (List VEvent)), E 101 [.rf 0, nI k] [owEventS x] = some (nI k', [owEventS z]) ∧ z.length = x.length ∧ k ≤ k' ∧ k' ≤ k + 64 * (szEventS x : Nat) := by
 have hx : x.length ≤ 17592186044416 := by have : x.length ≤ szEventS x := sumL_len (Nat.le_refl _); omega
 have key := u_mark (f := 101) (exts := [owEventS x]) (p := P101) (S := fun (y : (List VEvent)) (k : Int) (i : Nat) => S101 x y k i) (ow := owEventS) (g := szEvent) (d := zEvent) (x := x) ?_ ?_ k h0 h1
 · obtain ⟨k', w, e, r⟩ := key
   exact ⟨k', w, evK rfl ((e101 ..).trans e), r⟩
 · intro y k hy
   refine lstep ((h101 ..).trans (bf' (decide_eq_false (by simp only [zN]; omega)) (bt' (okF_EventS x y) ?_)))
   rw [← hy] <;> rfl
 · intro y k i hi hy hd h0 h1
   have hle : i < y.length := by omega
   unfold szEvent at h1
   obtain ⟨k0, z0, e0, l0, a0, b0⟩ := vm15 (x.getD i zEvent).Line (k + 1 + 1) (by omega) (by omega)
   obtain ⟨k1, z1, e1, l1, a1, b1⟩ := vm15 (x.getD i zEvent).Grants (k0) (by omega) (by omega)
   refine ⟨(⟨(decide ((k).tmod 3 = 0)), (decide ((k + 1).tmod 3 = 0)), z0, z1, k1, k1 + 1, k1 + 1 + 1⟩ : VEvent), k1 + 1 + 1 + 1, by omega, by unfold szEvent; omega, fun r hr => ?_⟩
   refine lstep ((h101 ..).trans (bt' (decide_eq_true (by simp only [zN]; omega)) ?_))
   rw [wrapN (by omega)]
   simp only [Int.toNat_natCast, hd]
   repeat (refine bt' (bndM hle) ?_)
   rw [wr (a := k) (by omega) (by omega)]
   rw [wr (a := k + 1) (by omega) (by omega)]
   refine obind' e0 ?_
   simp only [asI_I, asS_S]
   repeat (refine bt' (bndM hle) ?_)
   refine obind' e1 ?_
   simp only [asI_I, asS_S]
   repeat (refine bt' (bndM hle) ?_)
   rw [wr (a := k1) (by omega) (by omega)]
   rw [wr (a := k1 + 1) (by omega) (by omega)]
   rw [wr (a := k1 + 1 + 1) (by omega) (by omega)]
   rw [← l0]
   rw [← l1]
   refine (congrArg (fun G => L 101 [owEventS x] P101 (hdS [(0, .rf 0), (1, nI (k1 + 1 + 1 + 1)), (5, nI ((i + 1 : Nat) : Int))] [(0, ⟨y.length, 7, G⟩)] [])) (set_EventS (os := y) (v := (⟨(decide ((k).tmod 3 = 0)), (decide ((k + 1).tmod 3 = 0)), z0, z1, k1, k1 + 1, k1 + 1 + 1⟩ : VEvent)) hle)).trans ?_
   rw [show y.length = (y.set i (⟨(decide ((k).tmod 3 = 0)), (decide ((k + 1).tmod 3 = 0)), z0, z1, k1, k1 + 1, k1 + 1 + 1⟩ : VEvent)).length from (List.length_set ..).symm]
   exact hr
theorem okF_LatchS (x y : (List VLatch)) : okF 3 (fun j => goLatchS x 0 j) (fun i j => goLatchS y i j) = true := okF_of fun i j hj => by
 match j, hj with
 | 0, _ => exact rfl
 | 1, _ => exact fit_IntS _ _
 | 2, _ => exact fit_IntS _ _
theorem vm102 (x : (List VLatch)) (k : Int) (h0 : 0 ≤ k) (h1 : k + 64 * (szLatchS x : Nat) ≤ 1125899906842624) : ∃ (k' : Int) (z : (List VLatch)), E 102 [.rf 0, nI k] [owLatchS x] = some (nI k', [owLatchS z]) ∧ z.length = x.length ∧ k ≤ k' ∧ k' ≤ k + 64 * (szLatchS x : Nat) := by
 have hx : x.length ≤ 17592186044416 := by have : x.length ≤ szLatchS x := sumL_len (Nat.le_refl _); omega
 have key := u_mark (f := 102) (exts := [owLatchS x]) (p := P102) (S := fun (y : (List VLatch)) (k : Int) (i : Nat) => S102 x y k i) (ow := owLatchS) (g := szLatch) (d := zLatch) (x := x) ?_ ?_ k h0 h1
 · obtain ⟨k', w, e, r⟩ := key
   exact ⟨k', w, evK rfl ((e102 ..).trans e), r⟩
 · intro y k hy
   refine lstep ((h102 ..).trans (bf' (decide_eq_false (by simp only [zN]; omega)) (bt' (okF_LatchS x y) ?_)))
   rw [← hy] <;> rfl
 · intro y k i hi hy hd h0 h1
   have hle : i < y.length := by omega
   unfold szLatch at h1
   obtain ⟨k0, z0, e0, l0, a0, b0⟩ := vm15 (x.getD i zLatch).Line (k + 1) (by omega) (by omega)
   obtain ⟨k1, z1, e1, l1, a1, b1⟩ := vm15 (x.getD i zLatch).Grants (k0) (by omega) (by omega)
   refine ⟨(⟨k, z0, z1⟩ : VLatch), k1, by omega, by unfold szLatch; omega, fun r hr => ?_⟩
   refine lstep ((h102 ..).trans (bt' (decide_eq_true (by simp only [zN]; omega)) ?_))
   rw [wrapN (by omega)]
   simp only [Int.toNat_natCast, hd]
   repeat (refine bt' (bndM hle) ?_)
   rw [wr (a := k) (by omega) (by omega)]
   refine obind' e0 ?_
   simp only [asI_I, asS_S]
   repeat (refine bt' (bndM hle) ?_)
   refine obind' e1 ?_
   simp only [asI_I, asS_S]
   repeat (refine bt' (bndM hle) ?_)
   rw [← l0]
   rw [← l1]
   refine (congrArg (fun G => L 102 [owLatchS x] P102 (hdS [(0, .rf 0), (1, nI (k1)), (5, nI ((i + 1 : Nat) : Int))] [(0, ⟨y.length, 3, G⟩)] [])) (set_LatchS (os := y) (v := (⟨k, z0, z1⟩ : VLatch)) hle)).trans ?_
   rw [show y.length = (y.set i (⟨k, z0, z1⟩ : VLatch)).length from (List.length_set ..).symm]
   exact hr
theorem okF_MsgS (x y : (List VMsg)) : okF 3 (fun j => goMsgS x 0 j) (fun i j => goMsgS y i j) = true := okF_of fun i j hj => by
 match j, hj with
 | 0, _ => exact rfl
 | 1, _ => exact rfl
 | 2, _ => exact rfl
theorem fit_MsgS (x y : (List VMsg)) : (owMsgS x).fit (owMsgS y) = true := fit_own (okF_MsgS x y)
theorem vm181 (x : (List VMsg)) (k : Int) (h0 : 0 ≤ k) (h1 : k + 64 * (szMsgS x : Nat) ≤ 1125899906842624) : ∃ (k' : Int) (z : (List VMsg)), E 181 [.rf 0, nI k] [owMsgS x] = some (nI k', [owMsgS z]) ∧ z.length = x.length ∧ k ≤ k' ∧ k' ≤ k + 64 * (szMsgS x : Nat) := by
 have hx : x.length ≤ 17592186044416 := by have : x.length ≤ szMsgS x := sumL_len (Nat.le_refl _); omega
 have key := u_mark (f := 181) (exts := [owMsgS x]) (p := P181) (S := fun (y : (List VMsg)) (k : Int) (i : Nat) => S181 x y k i) (ow := owMsgS) (g := szMsg) (d := zMsg) (x := x) ?_ ?_ k h0 h1
 · obtain ⟨k', w, e, r⟩ := key
   exact ⟨k', w, evK rfl ((e181 ..).trans e), r⟩
 · intro y k hy
   refine lstep ((h181 ..).trans (bf' (decide_eq_false (by simp only [zN]; omega)) (bt' (okT_eq) ?_)))
   rw [← hy] <;> rfl
 · intro y k i hi hy hd h0 h1
   have hle : i < y.length := by omega
   unfold szMsg at h1
   obtain ⟨t0, e0⟩ := xMT (k + 1 + 1) (by omega) (by omega)
   refine ⟨(⟨k, k + 1, t0⟩ : VMsg), k + 1 + 1 + 1, by omega, by unfold szMsg; omega, fun r hr => ?_⟩
   refine lstep ((h181 ..).trans (bt' (decide_eq_true (by simp only [zN]; omega)) ?_))
   rw [wrapN (by omega)]
   simp only [Int.toNat_natCast]
   repeat (refine bt' (bndM hle) ?_)
   rw [wr (a := k) (by omega) (by omega)]
   rw [wr (a := k + 1) (by omega) (by omega)]
   refine obind' e0 ?_
   simp only [asI_I, asS_S]
   repeat (refine bt' (bndM hle) ?_)
   rw [wr (a := k + 1 + 1) (by omega) (by omega)]
   refine (congrArg (fun G => L 181 [owMsgS x] P181 (hdS [(0, .rf 0), (1, nI (k + 1 + 1 + 1)), (5, nI ((i + 1 : Nat) : Int))] [(0, ⟨y.length, 3, G⟩)] [])) (set_MsgS (os := y) (v := (⟨k, k + 1, t0⟩ : VMsg)) hle)).trans ?_
   rw [show y.length = (y.set i (⟨k, k + 1, t0⟩ : VMsg)).length from (List.length_set ..).symm]
   exact hr
theorem okF_CellS (x y : (List VCell)) : okF 7 (fun j => goCellS x 0 j) (fun i j => goCellS y i j) = true := okF_of fun i j hj => by
 match j, hj with
 | 0, _ => exact rfl
 | 1, _ => exact rfl
 | 2, _ => exact rfl
 | 3, _ => exact rfl
 | 4, _ => exact rfl
 | 5, _ => exact fit_IntS _ _
 | 6, _ => exact fit_IntS _ _
theorem vm103 (x : (List VCell)) (k : Int) (h0 : 0 ≤ k) (h1 : k + 64 * (szCellS x : Nat) ≤ 1125899906842624) : ∃ (k' : Int) (z : (List VCell)), E 103 [.rf 0, nI k] [owCellS x] = some (nI k', [owCellS z]) ∧ z.length = x.length ∧ k ≤ k' ∧ k' ≤ k + 64 * (szCellS x : Nat) := by
 have hx : x.length ≤ 17592186044416 := by have : x.length ≤ szCellS x := sumL_len (Nat.le_refl _); omega
 have key := u_mark (f := 103) (exts := [owCellS x]) (p := P103) (S := fun (y : (List VCell)) (k : Int) (i : Nat) => S103 x y k i) (ow := owCellS) (g := szCell) (d := zCell) (x := x) ?_ ?_ k h0 h1
 · obtain ⟨k', w, e, r⟩ := key
   exact ⟨k', w, evK rfl ((e103 ..).trans e), r⟩
 · intro y k hy
   refine lstep ((h103 ..).trans (bf' (decide_eq_false (by simp only [zN]; omega)) (bt' (okF_CellS x y) ?_)))
   rw [← hy] <;> rfl
 · intro y k i hi hy hd h0 h1
   have hle : i < y.length := by omega
   unfold szCell szMsg at h1
   obtain ⟨t0, e0⟩ := xMT (k + 1 + 1) (by omega) (by omega)
   obtain ⟨k1, z1, e1, l1, a1, b1⟩ := vm15 (x.getD i zCell).Line (k + 1 + 1 + 1 + 1 + 1) (by omega) (by omega)
   obtain ⟨k2, z2, e2, l2, a2, b2⟩ := vm15 (x.getD i zCell).Grants (k1) (by omega) (by omega)
   refine ⟨(⟨⟨k, k + 1, t0⟩, k + 1 + 1 + 1, (decide ((k + 1 + 1 + 1 + 1).tmod 3 = 0)), z1, z2⟩ : VCell), k2, by omega, by unfold szCell szMsg; omega, fun r hr => ?_⟩
   refine lstep ((h103 ..).trans (bt' (decide_eq_true (by simp only [zN]; omega)) ?_))
   rw [wrapN (by omega)]
   simp only [Int.toNat_natCast, hd]
   repeat (refine bt' (bndM hle) ?_)
   rw [wr (a := k) (by omega) (by omega)]
   rw [wr (a := k + 1) (by omega) (by omega)]
   refine obind' e0 ?_
   simp only [asI_I, asS_S]
   repeat (refine bt' (bndM hle) ?_)
   rw [wr (a := k + 1 + 1) (by omega) (by omega)]
   rw [wr (a := k + 1 + 1 + 1) (by omega) (by omega)]
   rw [wr (a := k + 1 + 1 + 1 + 1) (by omega) (by omega)]
   refine obind' e1 ?_
   simp only [asI_I, asS_S]
   repeat (refine bt' (bndM hle) ?_)
   refine obind' e2 ?_
   simp only [asI_I, asS_S]
   repeat (refine bt' (bndM hle) ?_)
   rw [← l1]
   rw [← l2]
   refine (congrArg (fun G => L 103 [owCellS x] P103 (hdS [(0, .rf 0), (1, nI (k2)), (5, nI ((i + 1 : Nat) : Int))] [(0, ⟨y.length, 7, G⟩)] [])) (set_CellS (os := y) (v := (⟨⟨k, k + 1, t0⟩, k + 1 + 1 + 1, (decide ((k + 1 + 1 + 1 + 1).tmod 3 = 0)), z1, z2⟩ : VCell)) hle)).trans ?_
   rw [show y.length = (y.set i (⟨⟨k, k + 1, t0⟩, k + 1 + 1 + 1, (decide ((k + 1 + 1 + 1 + 1).tmod 3 = 0)), z1, z2⟩ : VCell)).length from (List.length_set ..).symm]
   exact hr
theorem okF_TermS (x y : (List VTerm)) : okF 3 (fun j => goTermS x 0 j) (fun i j => goTermS y i j) = true := okF_of fun i j hj => by
 match j, hj with
 | 0, _ => exact rfl
 | 1, _ => exact rfl
 | 2, _ => exact rfl
theorem fit_TermS (x y : (List VTerm)) : (owTermS x).fit (owTermS y) = true := fit_own (okF_TermS x y)
theorem vm185 (x : (List VTerm)) (k : Int) (h0 : 0 ≤ k) (h1 : k + 64 * (szTermS x : Nat) ≤ 1125899906842624) : ∃ (k' : Int) (z : (List VTerm)), E 185 [.rf 0, nI k] [owTermS x] = some (nI k', [owTermS z]) ∧ z.length = x.length ∧ k ≤ k' ∧ k' ≤ k + 64 * (szTermS x : Nat) := by
 have hx : x.length ≤ 17592186044416 := by have : x.length ≤ szTermS x := sumL_len (Nat.le_refl _); omega
 have key := u_mark (f := 185) (exts := [owTermS x]) (p := P185) (S := fun (y : (List VTerm)) (k : Int) (i : Nat) => S185 x y k i) (ow := owTermS) (g := szTerm) (d := zTerm) (x := x) ?_ ?_ k h0 h1
 · obtain ⟨k', w, e, r⟩ := key
   exact ⟨k', w, evK rfl ((e185 ..).trans e), r⟩
 · intro y k hy
   refine lstep ((h185 ..).trans (bf' (decide_eq_false (by simp only [zN]; omega)) (bt' (okT_eq) ?_)))
   rw [← hy] <;> rfl
 · intro y k i hi hy hd h0 h1
   have hle : i < y.length := by omega
   unfold szTerm at h1
   obtain ⟨t0, e0⟩ := xMT (k + 1 + 1) (by omega) (by omega)
   refine ⟨(⟨k, k + 1, t0⟩ : VTerm), k + 1 + 1 + 1, by omega, by unfold szTerm; omega, fun r hr => ?_⟩
   refine lstep ((h185 ..).trans (bt' (decide_eq_true (by simp only [zN]; omega)) ?_))
   rw [wrapN (by omega)]
   simp only [Int.toNat_natCast]
   repeat (refine bt' (bndM hle) ?_)
   rw [wr (a := k) (by omega) (by omega)]
   rw [wr (a := k + 1) (by omega) (by omega)]
   refine obind' e0 ?_
   simp only [asI_I, asS_S]
   repeat (refine bt' (bndM hle) ?_)
   rw [wr (a := k + 1 + 1) (by omega) (by omega)]
   refine (congrArg (fun G => L 185 [owTermS x] P185 (hdS [(0, .rf 0), (1, nI (k + 1 + 1 + 1)), (5, nI ((i + 1 : Nat) : Int))] [(0, ⟨y.length, 3, G⟩)] [])) (set_TermS (os := y) (v := (⟨k, k + 1, t0⟩ : VTerm)) hle)).trans ?_
   rw [show y.length = (y.set i (⟨k, k + 1, t0⟩ : VTerm)).length from (List.length_set ..).symm]
   exact hr
theorem okF_SubS (x y : (List VSub)) : okF 7 (fun j => goSubS x 0 j) (fun i j => goSubS y i j) = true := okF_of fun i j hj => by
 match j, hj with
 | 0, _ => exact rfl
 | 1, _ => exact rfl
 | 2, _ => exact rfl
 | 3, _ => exact rfl
 | 4, _ => exact rfl
 | 5, _ => exact rfl
 | 6, _ => exact fit_TermS _ _
theorem fit_SubS (x y : (List VSub)) : (owSubS x).fit (owSubS y) = true := fit_own (okF_SubS x y)
theorem vm182 (x : (List VSub)) (k : Int) (h0 : 0 ≤ k) (h1 : k + 64 * (szSubS x : Nat) ≤ 1125899906842624) : ∃ (k' : Int) (z : (List VSub)), E 182 [.rf 0, nI k] [owSubS x] = some (nI k', [owSubS z]) ∧ z.length = x.length ∧ k ≤ k' ∧ k' ≤ k + 64 * (szSubS x : Nat) := by
 have hx : x.length ≤ 17592186044416 := by have : x.length ≤ szSubS x := sumL_len (Nat.le_refl _); omega
 have key := u_mark (f := 182) (exts := [owSubS x]) (p := P182) (S := fun (y : (List VSub)) (k : Int) (i : Nat) => S182 x y k i) (ow := owSubS) (g := szSub) (d := zSub) (x := x) ?_ ?_ k h0 h1
 · obtain ⟨k', w, e, r⟩ := key
   exact ⟨k', w, evK rfl ((e182 ..).trans e), r⟩
 · intro y k hy
   refine lstep ((h182 ..).trans (bf' (decide_eq_false (by simp only [zN]; omega)) (bt' (okF_SubS x y) ?_)))
   rw [← hy] <;> rfl
 · intro y k i hi hy hd h0 h1
   have hle : i < y.length := by omega
   unfold szSub at h1
   obtain ⟨k0, z0, e0, l0, a0, b0⟩ := vm185 (x.getD i zSub).Filter (k + 1 + 1 + 1 + 1 + 1 + 1) (by omega) (by omega)
   refine ⟨(⟨k, k + 1, k + 1 + 1, k + 1 + 1 + 1, k + 1 + 1 + 1 + 1, k + 1 + 1 + 1 + 1 + 1, z0⟩ : VSub), k0, by omega, by unfold szSub; omega, fun r hr => ?_⟩
   refine lstep ((h182 ..).trans (bt' (decide_eq_true (by simp only [zN]; omega)) ?_))
   rw [wrapN (by omega)]
   simp only [Int.toNat_natCast, hd]
   repeat (refine bt' (bndM hle) ?_)
   rw [wr (a := k) (by omega) (by omega)]
   rw [wr (a := k + 1) (by omega) (by omega)]
   rw [wr (a := k + 1 + 1) (by omega) (by omega)]
   rw [wr (a := k + 1 + 1 + 1) (by omega) (by omega)]
   rw [wr (a := k + 1 + 1 + 1 + 1) (by omega) (by omega)]
   rw [wr (a := k + 1 + 1 + 1 + 1 + 1) (by omega) (by omega)]
   refine obind' e0 ?_
   simp only [asI_I, asS_S]
   repeat (refine bt' (bndM hle) ?_)
   rw [← l0]
   refine (congrArg (fun G => L 182 [owSubS x] P182 (hdS [(0, .rf 0), (1, nI (k0)), (5, nI ((i + 1 : Nat) : Int))] [(0, ⟨y.length, 7, G⟩)] [])) (set_SubS (os := y) (v := (⟨k, k + 1, k + 1 + 1, k + 1 + 1 + 1, k + 1 + 1 + 1 + 1, k + 1 + 1 + 1 + 1 + 1, z0⟩ : VSub)) hle)).trans ?_
   rw [show y.length = (y.set i (⟨k, k + 1, k + 1 + 1, k + 1 + 1 + 1, k + 1 + 1 + 1 + 1, k + 1 + 1 + 1 + 1 + 1, z0⟩ : VSub)).length from (List.length_set ..).symm]
   exact hr
theorem okF_TopicS (x y : (List VTopic)) : okF 9 (fun j => goTopicS x 0 j) (fun i j => goTopicS y i j) = true := okF_of fun i j hj => by
 match j, hj with
 | 0, _ => exact rfl
 | 1, _ => exact rfl
 | 2, _ => exact rfl
 | 3, _ => exact fit_MsgS _ _
 | 4, _ => exact rfl
 | 5, _ => exact fit_SubS _ _
 | 6, _ => exact fit_IntS _ _
 | 7, _ => exact fit_IntS _ _
 | 8, _ => exact rfl
theorem vm104 (x : (List VTopic)) (k : Int) (h0 : 0 ≤ k) (h1 : k + 64 * (szTopicS x : Nat) ≤ 1125899906842624) : ∃ (k' : Int) (z : (List VTopic)), E 104 [.rf 0, nI k] [owTopicS x] = some (nI k', [owTopicS z]) ∧ z.length = x.length ∧ k ≤ k' ∧ k' ≤ k + 64 * (szTopicS x : Nat) := by
 have hx : x.length ≤ 17592186044416 := by have : x.length ≤ szTopicS x := sumL_len (Nat.le_refl _); omega
 have key := u_mark (f := 104) (exts := [owTopicS x]) (p := P104) (S := fun (y : (List VTopic)) (k : Int) (i : Nat) => S104 x y k i) (ow := owTopicS) (g := szTopic) (d := zTopic) (x := x) ?_ ?_ k h0 h1
 · obtain ⟨k', w, e, r⟩ := key
   exact ⟨k', w, evK rfl ((e104 ..).trans e), r⟩
 · intro y k hy
   refine lstep ((h104 ..).trans (bf' (decide_eq_false (by simp only [zN]; omega)) (bt' (okF_TopicS x y) ?_)))
   rw [← hy] <;> rfl
 · intro y k i hi hy hd h0 h1
   have hle : i < y.length := by omega
   unfold szTopic szRing at h1
   obtain ⟨t0, e0⟩ := xMT (k) (by omega) (by omega)
   obtain ⟨k1, z1, e1, l1, a1, b1⟩ := vm181 (x.getD i zTopic).Ring.Items (k + 1 + 1 + 1) (by omega) (by omega)
   obtain ⟨k2, z2, e2, l2, a2, b2⟩ := vm182 (x.getD i zTopic).Ring.Subs (k1 + 1) (by omega) (by omega)
   obtain ⟨k3, z3, e3, l3, a3, b3⟩ := vm15 (x.getD i zTopic).Ring.Line (k2) (by omega) (by omega)
   obtain ⟨k4, z4, e4, l4, a4, b4⟩ := vm15 (x.getD i zTopic).Ring.Grants (k3) (by omega) (by omega)
   refine ⟨(⟨t0, ⟨k + 1, k + 1 + 1, z1, k1, z2, z3, z4, (decide ((k4).tmod 3 = 0))⟩⟩ : VTopic), k4 + 1, by omega, by unfold szTopic szRing; omega, fun r hr => ?_⟩
   refine lstep ((h104 ..).trans (bt' (decide_eq_true (by simp only [zN]; omega)) ?_))
   rw [wrapN (by omega)]
   simp only [Int.toNat_natCast, hd]
   repeat (refine bt' (bndM hle) ?_)
   refine obind' e0 ?_
   simp only [asI_I, asS_S]
   repeat (refine bt' (bndM hle) ?_)
   rw [wr (a := k) (by omega) (by omega)]
   rw [wr (a := k + 1) (by omega) (by omega)]
   rw [wr (a := k + 1 + 1) (by omega) (by omega)]
   refine obind' e1 ?_
   simp only [asI_I, asS_S]
   repeat (refine bt' (bndM hle) ?_)
   rw [wr (a := k1) (by omega) (by omega)]
   refine obind' e2 ?_
   simp only [asI_I, asS_S]
   repeat (refine bt' (bndM hle) ?_)
   refine obind' e3 ?_
   simp only [asI_I, asS_S]
   repeat (refine bt' (bndM hle) ?_)
   refine obind' e4 ?_
   simp only [asI_I, asS_S]
   repeat (refine bt' (bndM hle) ?_)
   rw [wr (a := k4) (by omega) (by omega)]
   rw [← l1]
   rw [← l2]
   rw [← l3]
   rw [← l4]
   refine (congrArg (fun G => L 104 [owTopicS x] P104 (hdS [(0, .rf 0), (1, nI (k4 + 1)), (5, nI ((i + 1 : Nat) : Int))] [(0, ⟨y.length, 9, G⟩)] [])) (set_TopicS (os := y) (v := (⟨t0, ⟨k + 1, k + 1 + 1, z1, k1, z2, z3, z4, (decide ((k4).tmod 3 = 0))⟩⟩ : VTopic)) hle)).trans ?_
   rw [show y.length = (y.set i (⟨t0, ⟨k + 1, k + 1 + 1, z1, k1, z2, z3, z4, (decide ((k4).tmod 3 = 0))⟩⟩ : VTopic)).length from (List.length_set ..).symm]
   exact hr
theorem okF_LegS (x y : (List VLeg)) : okF 4 (fun j => goLegS x 0 j) (fun i j => goLegS y i j) = true := okF_of fun i j hj => by
 match j, hj with
 | 0, _ => exact rfl
 | 1, _ => exact rfl
 | 2, _ => exact rfl
 | 3, _ => exact rfl
theorem fit_LegS (x y : (List VLeg)) : (owLegS x).fit (owLegS y) = true := fit_own (okF_LegS x y)
theorem vm183 (x : (List VLeg)) (k : Int) (h0 : 0 ≤ k) (h1 : k + 64 * (szLegS x : Nat) ≤ 1125899906842624) : ∃ (k' : Int) (z : (List VLeg)), E 183 [.rf 0, nI k] [owLegS x] = some (nI k', [owLegS z]) ∧ z.length = x.length ∧ k ≤ k' ∧ k' ≤ k + 64 * (szLegS x : Nat) := by
 have hx : x.length ≤ 17592186044416 := by have : x.length ≤ szLegS x := sumL_len (Nat.le_refl _); omega
 have key := u_mark (f := 183) (exts := [owLegS x]) (p := P183) (S := fun (y : (List VLeg)) (k : Int) (i : Nat) => S183 x y k i) (ow := owLegS) (g := (fun _ => 0)) (d := zLeg) (x := x) ?_ ?_ k h0 h1
 · obtain ⟨k', w, e, r⟩ := key
   exact ⟨k', w, evK rfl ((e183 ..).trans e), r⟩
 · intro y k hy
   refine lstep ((h183 ..).trans (bf' (decide_eq_false (by simp only [zN]; omega)) (bt' (okT_eq) ?_)))
   rw [← hy] <;> rfl
 · intro y k i hi hy hd h0 h1
   have hle : i < y.length := by omega
   refine ⟨(⟨k, k + 1, k + 1 + 1, (decide ((k + 1 + 1 + 1).tmod 3 = 0))⟩ : VLeg), k + 1 + 1 + 1 + 1, by omega, by omega, fun r hr => ?_⟩
   refine lstep ((h183 ..).trans (bt' (decide_eq_true (by simp only [zN]; omega)) ?_))
   rw [wrapN (by omega)]
   simp only [Int.toNat_natCast]
   repeat (refine bt' (bndM hle) ?_)
   rw [wr (a := k) (by omega) (by omega)]
   rw [wr (a := k + 1) (by omega) (by omega)]
   rw [wr (a := k + 1 + 1) (by omega) (by omega)]
   rw [wr (a := k + 1 + 1 + 1) (by omega) (by omega)]
   refine (congrArg (fun G => L 183 [owLegS x] P183 (hdS [(0, .rf 0), (1, nI (k + 1 + 1 + 1 + 1)), (5, nI ((i + 1 : Nat) : Int))] [(0, ⟨y.length, 4, G⟩)] [])) (set_LegS (os := y) (v := (⟨k, k + 1, k + 1 + 1, (decide ((k + 1 + 1 + 1).tmod 3 = 0))⟩ : VLeg)) hle)).trans ?_
   rw [show y.length = (y.set i (⟨k, k + 1, k + 1 + 1, (decide ((k + 1 + 1 + 1).tmod 3 = 0))⟩ : VLeg)).length from (List.length_set ..).symm]
   exact hr
theorem okF_MergeS (x y : (List VMerge)) : okF 3 (fun j => goMergeS x 0 j) (fun i j => goMergeS y i j) = true := okF_of fun i j hj => by
 match j, hj with
 | 0, _ => exact fit_LegS _ _
 | 1, _ => exact rfl
 | 2, _ => exact rfl
theorem vm105 (x : (List VMerge)) (k : Int) (h0 : 0 ≤ k) (h1 : k + 64 * (szMergeS x : Nat) ≤ 1125899906842624) : ∃ (k' : Int) (z : (List VMerge)), E 105 [.rf 0, nI k] [owMergeS x] = some (nI k', [owMergeS z]) ∧ z.length = x.length ∧ k ≤ k' ∧ k' ≤ k + 64 * (szMergeS x : Nat) := by
 have hx : x.length ≤ 17592186044416 := by have : x.length ≤ szMergeS x := sumL_len (Nat.le_refl _); omega
 have key := u_mark (f := 105) (exts := [owMergeS x]) (p := P105) (S := fun (y : (List VMerge)) (k : Int) (i : Nat) => S105 x y k i) (ow := owMergeS) (g := szMerge) (d := zMerge) (x := x) ?_ ?_ k h0 h1
 · obtain ⟨k', w, e, r⟩ := key
   exact ⟨k', w, evK rfl ((e105 ..).trans e), r⟩
 · intro y k hy
   refine lstep ((h105 ..).trans (bf' (decide_eq_false (by simp only [zN]; omega)) (bt' (okF_MergeS x y) ?_)))
   rw [← hy] <;> rfl
 · intro y k i hi hy hd h0 h1
   have hle : i < y.length := by omega
   unfold szMerge at h1
   obtain ⟨k0, z0, e0, l0, a0, b0⟩ := vm183 (x.getD i zMerge).Legs (k) (by omega) (by omega)
   refine ⟨(⟨z0, k0, k0 + 1⟩ : VMerge), k0 + 1 + 1, by omega, by unfold szMerge; omega, fun r hr => ?_⟩
   refine lstep ((h105 ..).trans (bt' (decide_eq_true (by simp only [zN]; omega)) ?_))
   rw [wrapN (by omega)]
   simp only [Int.toNat_natCast, hd]
   repeat (refine bt' (bndM hle) ?_)
   refine obind' e0 ?_
   simp only [asI_I, asS_S]
   repeat (refine bt' (bndM hle) ?_)
   rw [wr (a := k0) (by omega) (by omega)]
   rw [wr (a := k0 + 1) (by omega) (by omega)]
   rw [← l0]
   refine (congrArg (fun G => L 105 [owMergeS x] P105 (hdS [(0, .rf 0), (1, nI (k0 + 1 + 1)), (5, nI ((i + 1 : Nat) : Int))] [(0, ⟨y.length, 3, G⟩)] [])) (set_MergeS (os := y) (v := (⟨z0, k0, k0 + 1⟩ : VMerge)) hle)).trans ?_
   rw [show y.length = (y.set i (⟨z0, k0, k0 + 1⟩ : VMerge)).length from (List.length_set ..).symm]
   exact hr
theorem okF_HitS (x y : (List VHit)) : okF 2 (fun j => goHitS x 0 j) (fun i j => goHitS y i j) = true := okF_of fun i j hj => by
 match j, hj with
 | 0, _ => exact rfl
 | 1, _ => exact rfl
theorem fit_HitS (x y : (List VHit)) : (owHitS x).fit (owHitS y) = true := fit_own (okF_HitS x y)
theorem vm184 (x : (List VHit)) (k : Int) (h0 : 0 ≤ k) (h1 : k + 64 * (szHitS x : Nat) ≤ 1125899906842624) : ∃ (k' : Int) (z : (List VHit)), E 184 [.rf 0, nI k] [owHitS x] = some (nI k', [owHitS z]) ∧ z.length = x.length ∧ k ≤ k' ∧ k' ≤ k + 64 * (szHitS x : Nat) := by
 have hx : x.length ≤ 17592186044416 := by have : x.length ≤ szHitS x := sumL_len (Nat.le_refl _); omega
 have key := u_mark (f := 184) (exts := [owHitS x]) (p := P184) (S := fun (y : (List VHit)) (k : Int) (i : Nat) => S184 x y k i) (ow := owHitS) (g := (fun _ => 0)) (d := zHit) (x := x) ?_ ?_ k h0 h1
 · obtain ⟨k', w, e, r⟩ := key
   exact ⟨k', w, evK rfl ((e184 ..).trans e), r⟩
 · intro y k hy
   refine lstep ((h184 ..).trans (bf' (decide_eq_false (by simp only [zN]; omega)) (bt' (okT_eq) ?_)))
   rw [← hy] <;> rfl
 · intro y k i hi hy hd h0 h1
   have hle : i < y.length := by omega
   refine ⟨(⟨k, k + 1⟩ : VHit), k + 1 + 1, by omega, by omega, fun r hr => ?_⟩
   refine lstep ((h184 ..).trans (bt' (decide_eq_true (by simp only [zN]; omega)) ?_))
   rw [wrapN (by omega)]
   simp only [Int.toNat_natCast]
   repeat (refine bt' (bndM hle) ?_)
   rw [wr (a := k) (by omega) (by omega)]
   rw [wr (a := k + 1) (by omega) (by omega)]
   refine (congrArg (fun G => L 184 [owHitS x] P184 (hdS [(0, .rf 0), (1, nI (k + 1 + 1)), (5, nI ((i + 1 : Nat) : Int))] [(0, ⟨y.length, 2, G⟩)] [])) (set_HitS (os := y) (v := (⟨k, k + 1⟩ : VHit)) hle)).trans ?_
   rw [show y.length = (y.set i (⟨k, k + 1⟩ : VHit)).length from (List.length_set ..).symm]
   exact hr
theorem okF_UserS (x y : (List VUser)) : okF 2 (fun j => goUserS x 0 j) (fun i j => goUserS y i j) = true := okF_of fun i j hj => by
 match j, hj with
 | 0, _ => exact fit_HitS _ _
 | 1, _ => exact fit_IntS _ _
theorem vm106 (x : (List VUser)) (k : Int) (h0 : 0 ≤ k) (h1 : k + 64 * (szUserS x : Nat) ≤ 1125899906842624) : ∃ (k' : Int) (z : (List VUser)), E 106 [.rf 0, nI k] [owUserS x] = some (nI k', [owUserS z]) ∧ z.length = x.length ∧ k ≤ k' ∧ k' ≤ k + 64 * (szUserS x : Nat) := by
 have hx : x.length ≤ 17592186044416 := by have : x.length ≤ szUserS x := sumL_len (Nat.le_refl _); omega
 have key := u_mark (f := 106) (exts := [owUserS x]) (p := P106) (S := fun (y : (List VUser)) (k : Int) (i : Nat) => S106 x y k i) (ow := owUserS) (g := szUser) (d := zUser) (x := x) ?_ ?_ k h0 h1
 · obtain ⟨k', w, e, r⟩ := key
   exact ⟨k', w, evK rfl ((e106 ..).trans e), r⟩
 · intro y k hy
   refine lstep ((h106 ..).trans (bf' (decide_eq_false (by simp only [zN]; omega)) (bt' (okF_UserS x y) ?_)))
   rw [← hy] <;> rfl
 · intro y k i hi hy hd h0 h1
   have hle : i < y.length := by omega
   unfold szUser at h1
   obtain ⟨k0, z0, e0, l0, a0, b0⟩ := vm184 (x.getD i zUser).Subs (k) (by omega) (by omega)
   obtain ⟨k1, z1, e1, l1, a1, b1⟩ := vm15 (x.getD i zUser).Seen (k0) (by omega) (by omega)
   refine ⟨(⟨z0, z1⟩ : VUser), k1, by omega, by unfold szUser; omega, fun r hr => ?_⟩
   refine lstep ((h106 ..).trans (bt' (decide_eq_true (by simp only [zN]; omega)) ?_))
   rw [wrapN (by omega)]
   simp only [Int.toNat_natCast, hd]
   repeat (refine bt' (bndM hle) ?_)
   refine obind' e0 ?_
   simp only [asI_I, asS_S]
   repeat (refine bt' (bndM hle) ?_)
   refine obind' e1 ?_
   simp only [asI_I, asS_S]
   repeat (refine bt' (bndM hle) ?_)
   rw [← l0]
   rw [← l1]
   refine (congrArg (fun G => L 106 [owUserS x] P106 (hdS [(0, .rf 0), (1, nI (k1)), (5, nI ((i + 1 : Nat) : Int))] [(0, ⟨y.length, 2, G⟩)] [])) (set_UserS (os := y) (v := (⟨z0, z1⟩ : VUser)) hle)).trans ?_
   rw [show y.length = (y.set i (⟨z0, z1⟩ : VUser)).length from (List.length_set ..).symm]
   exact hr
theorem okF_CallS (x y : (List VCall)) : okF 9 (fun j => goCallS x 0 j) (fun i j => goCallS y i j) = true := okF_of fun i j hj => by
 match j, hj with
 | 0, _ => exact rfl
 | 1, _ => exact rfl
 | 2, _ => exact rfl
 | 3, _ => exact rfl
 | 4, _ => exact rfl
 | 5, _ => exact rfl
 | 6, _ => exact rfl
 | 7, _ => exact rfl
 | 8, _ => exact fit_TermS _ _
theorem fit_CallS (x y : (List VCall)) : (owCallS x).fit (owCallS y) = true := fit_own (okF_CallS x y)
theorem vm107 (x : (List VCall)) (k : Int) (h0 : 0 ≤ k) (h1 : k + 64 * (szCallS x : Nat) ≤ 1125899906842624) : ∃ (k' : Int) (z : (List VCall)), E 107 [.rf 0, nI k] [owCallS x] = some (nI k', [owCallS z]) ∧ z.length = x.length ∧ k ≤ k' ∧ k' ≤ k + 64 * (szCallS x : Nat) := by
 have hx : x.length ≤ 17592186044416 := by have : x.length ≤ szCallS x := sumL_len (Nat.le_refl _); omega
 have key := u_mark (f := 107) (exts := [owCallS x]) (p := P107) (S := fun (y : (List VCall)) (k : Int) (i : Nat) => S107 x y k i) (ow := owCallS) (g := szCall) (d := zCall) (x := x) ?_ ?_ k h0 h1
 · obtain ⟨k', w, e, r⟩ := key
   exact ⟨k', w, evK rfl ((e107 ..).trans e), r⟩
 · intro y k hy
   refine lstep ((h107 ..).trans (bf' (decide_eq_false (by simp only [zN]; omega)) (bt' (okF_CallS x y) ?_)))
   rw [← hy] <;> rfl
 · intro y k i hi hy hd h0 h1
   have hle : i < y.length := by omega
   unfold szCall szMsg at h1
   obtain ⟨t0, e0⟩ := xMT (k + 1 + 1 + 1 + 1) (by omega) (by omega)
   obtain ⟨t1, e1⟩ := xMT (k + 1 + 1 + 1 + 1 + 1 + 1 + 1) (by omega) (by omega)
   obtain ⟨k2, z2, e2, l2, a2, b2⟩ := vm185 (x.getD i zCall).Filter (k + 1 + 1 + 1 + 1 + 1 + 1 + 1 + 1) (by omega) (by omega)
   refine ⟨(⟨k, k + 1, k + 1 + 1, k + 1 + 1 + 1, t0, ⟨k + 1 + 1 + 1 + 1 + 1, k + 1 + 1 + 1 + 1 + 1 + 1, t1⟩, z2⟩ : VCall), k2, by omega, by unfold szCall szMsg; omega, fun r hr => ?_⟩
   refine lstep ((h107 ..).trans (bt' (decide_eq_true (by simp only [zN]; omega)) ?_))
   rw [wrapN (by omega)]
   simp only [Int.toNat_natCast, hd]
   repeat (refine bt' (bndM hle) ?_)
   rw [wr (a := k) (by omega) (by omega)]
   rw [wr (a := k + 1) (by omega) (by omega)]
   rw [wr (a := k + 1 + 1) (by omega) (by omega)]
   rw [wr (a := k + 1 + 1 + 1) (by omega) (by omega)]
   refine obind' e0 ?_
   simp only [asI_I, asS_S]
   repeat (refine bt' (bndM hle) ?_)
   rw [wr (a := k + 1 + 1 + 1 + 1) (by omega) (by omega)]
   rw [wr (a := k + 1 + 1 + 1 + 1 + 1) (by omega) (by omega)]
   rw [wr (a := k + 1 + 1 + 1 + 1 + 1 + 1) (by omega) (by omega)]
   refine obind' e1 ?_
   simp only [asI_I, asS_S]
   repeat (refine bt' (bndM hle) ?_)
   rw [wr (a := k + 1 + 1 + 1 + 1 + 1 + 1 + 1) (by omega) (by omega)]
   refine obind' e2 ?_
   simp only [asI_I, asS_S]
   repeat (refine bt' (bndM hle) ?_)
   rw [← l2]
   refine (congrArg (fun G => L 107 [owCallS x] P107 (hdS [(0, .rf 0), (1, nI (k2)), (5, nI ((i + 1 : Nat) : Int))] [(0, ⟨y.length, 9, G⟩)] [])) (set_CallS (os := y) (v := (⟨k, k + 1, k + 1 + 1, k + 1 + 1 + 1, t0, ⟨k + 1 + 1 + 1 + 1 + 1, k + 1 + 1 + 1 + 1 + 1 + 1, t1⟩, z2⟩ : VCall)) hle)).trans ?_
   rw [show y.length = (y.set i (⟨k, k + 1, k + 1 + 1, k + 1 + 1 + 1, t0, ⟨k + 1 + 1 + 1 + 1 + 1, k + 1 + 1 + 1 + 1 + 1 + 1, t1⟩, z2⟩ : VCall)).length from (List.length_set ..).symm]
   exact hr
theorem okF_ClientS (x y : (List VClient)) : okF 3 (fun j => goClientS x 0 j) (fun i j => goClientS y i j) = true := okF_of fun i j hj => by
 match j, hj with
 | 0, _ => exact fit_CallS _ _
 | 1, _ => exact rfl
 | 2, _ => exact rfl
theorem vm33 (x : (List VClient)) (k : Int) (h0 : 0 ≤ k) (h1 : k + 64 * (szClientS x : Nat) ≤ 1125899906842624) : ∃ (k' : Int) (z : (List VClient)), E 33 [.rf 0, nI k] [owClientS x] = some (nI k', [owClientS z]) ∧ z.length = x.length ∧ k ≤ k' ∧ k' ≤ k + 64 * (szClientS x : Nat) := by
 have hx : x.length ≤ 17592186044416 := by have : x.length ≤ szClientS x := sumL_len (Nat.le_refl _); omega
 have key := u_mark (f := 33) (exts := [owClientS x]) (p := P33) (S := fun (y : (List VClient)) (k : Int) (i : Nat) => S33 x y k i) (ow := owClientS) (g := szClient) (d := zClient) (x := x) ?_ ?_ k h0 h1
 · obtain ⟨k', w, e, r⟩ := key
   exact ⟨k', w, evK rfl ((e33 ..).trans e), r⟩
 · intro y k hy
   refine lstep ((h33 ..).trans (bf' (decide_eq_false (by simp only [zN]; omega)) (bt' (okF_ClientS x y) ?_)))
   rw [← hy] <;> rfl
 · intro y k i hi hy hd h0 h1
   have hle : i < y.length := by omega
   unfold szClient at h1
   obtain ⟨k0, z0, e0, l0, a0, b0⟩ := vm107 (x.getD i zClient).Prog k (by omega) (by omega)
   have w1 : IntKind.i64.wrap (k0 + 1) = k0 + 1 := wr (by omega) (by omega)
   have w2 : IntKind.i64.wrap (IntKind.i64.wrap (k0 + 1) + 1) = k0 + 1 + 1 := by rw [w1]; exact wr (by omega) (by omega)
   refine ⟨(⟨z0, k0, decide ((IntKind.i64.wrap (k0 + 1)).tmod 3 = 0)⟩ : VClient), IntKind.i64.wrap (IntKind.i64.wrap (k0 + 1) + 1), by omega, by unfold szClient; omega, fun r hr => ?_⟩
   refine lstep ((h33 ..).trans (bt' (decide_eq_true (by simp only [zN]; omega)) ?_))
   rw [wrapN (by omega)]
   simp only [Int.toNat_natCast, hd]
   repeat (refine bt' (bndM hle) ?_)
   refine obind' e0 ?_
   repeat (refine bt' (bndM hle) ?_)
   rw [← l0]
   refine (congrArg (fun G => L 33 [owClientS x] P33 (hdS [(0, .rf 0), (1, nI (IntKind.i64.wrap (IntKind.i64.wrap (k0 + 1) + 1))), (5, nI ((i + 1 : Nat) : Int))] [(0, ⟨y.length, 3, G⟩)] [])) (set_ClientS (os := y) (v := (⟨z0, k0, decide ((IntKind.i64.wrap (k0 + 1)).tmod 3 = 0)⟩ : VClient)) hle)).trans ?_
   rw [show y.length = (y.set i (⟨z0, k0, decide ((IntKind.i64.wrap (k0 + 1)).tmod 3 = 0)⟩ : VClient)).length from (List.length_set ..).symm]
   exact hr
end Go.Fw
