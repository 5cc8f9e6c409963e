/- Values of marking lists of calls, and of looking at marks. -/
import Derived.Test.YtailkfoodjgipaaDoorL4
import Derived.Test.YtailkfoodjgipaaDoorM1
set_option linter.unusedVariables false
set_option linter.unusedSimpArgs false
set_option maxRecDepth 100000
namespace Go.Fw
open Go.Proofs
theorem app_CallS {os : List VCall} {v : VCall} : (fun i => lstG [nI (bif decide (i < os.length) then (os.getD i zCall).Op else bif decide (i - os.length = 0) then v.Op else 0), nI (bif decide (i < os.length) then (os.getD i zCall).A else bif decide (i - os.length = 0) then v.A else 0), nI (bif decide (i < os.length) then (os.getD i zCall).B else bif decide (i - os.length = 0) then v.B else 0), nI (bif decide (i < os.length) then (os.getD i zCall).Tok else bif decide (i - os.length = 0) then v.Tok else 0), AV.S (bif decide (i < os.length) then (os.getD i zCall).Name else bif decide (i - os.length = 0) then v.Name else ByteArray.empty), nI (bif decide (i < os.length) then (os.getD i zCall).Msg.Kind else bif decide (i - os.length = 0) then v.Msg.Kind else 0), nI (bif decide (i < os.length) then (os.getD i zCall).Msg.Num else bif decide (i - os.length = 0) then v.Msg.Num else 0), AV.S (bif decide (i < os.length) then (os.getD i zCall).Msg.Text else bif decide (i - os.length = 0) then v.Msg.Text else ByteArray.empty), AV.own (bif decide (i < os.length) then ((os.getD i zCall).Filter).length else bif decide (i - os.length = 0) then (v.Filter).length else 0) 3 (fun j0 => lstG [nI (bif decide (i < os.length) then (((os.getD i zCall).Filter).getD j0 zTerm).Op else bif decide (i - os.length = 0) then ((v.Filter).getD j0 zTerm).Op else 0), nI (bif decide (i < os.length) then (((os.getD i zCall).Filter).getD j0 zTerm).Num else bif decide (i - os.length = 0) then ((v.Filter).getD j0 zTerm).Num else 0), AV.S (bif decide (i < os.length) then (((os.getD i zCall).Filter).getD j0 zTerm).Text else bif decide (i - os.length = 0) then ((v.Filter).getD j0 zTerm).Text else ByteArray.empty)])]) = goCallS (os ++ [v]) := by
  funext i
  unfold goCallS
  rw [getD_app]
  by_cases hi : i < os.length
  · simp only [hi, decide_true, cond_true, if_true, gsTermS]; try rfl
  · by_cases h2 : i = os.length
    · have h3 : i - os.length = 0 := by omega
      simp only [hi, h2, Nat.sub_self, Nat.lt_irrefl, decide_true, decide_false, cond_true, cond_false, if_true, if_false, gsTermS]; try rfl
    · have h3 : ¬ i - os.length = 0 := by omega
      simp only [hi, h2, h3, decide_false, cond_false, if_false, gsTermS]; try rfl
noncomputable def mkCall (x : VCall) (k : Int) : VCall := ⟨k, k + 1, k + 1 + 1, k + 1 + 1 + 1, mtS (k + 1 + 1 + 1 + 1), ⟨k + 1 + 1 + 1 + 1 + 1, k + 1 + 1 + 1 + 1 + 1 + 1, mtS (k + 1 + 1 + 1 + 1 + 1 + 1 + 1)⟩, mkTermS x.Filter (k + 1 + 1 + 1 + 1 + 1 + 1 + 1 + 1)⟩
noncomputable def enCall (x : VCall) (k : Int) : Int := enTermS x.Filter (k + 1 + 1 + 1 + 1 + 1 + 1 + 1 + 1)
theorem bdCall (x : VCall) (k : Int) : k ≤ enCall x k ∧ enCall x k ≤ k + 64 * (1 + szCall x : Nat) := by
  have h0 := bdTermS x.Filter (k + 1 + 1 + 1 + 1 + 1 + 1 + 1 + 1)
  unfold enCall szCall szMsg
  omega
noncomputable abbrev mkCallS : List VCall → Int → List VCall := mkL mkCall enCall
noncomputable abbrev enCallS : List VCall → Int → Int := enL enCall
theorem bdCallS (xs : List VCall) (k : Int) : k ≤ enCallS xs k ∧ enCallS xs k ≤ k + 64 * (szCallS xs : Nat) := enL_bd bdCall xs k
theorem k23 (x : (List VCall)) (hx : x.length ≤ 17592186044416) : ∀ (xs pre y : (List VCall)) (k : Int) (i : Nat), y = pre ++ xs → i = pre.length → y.length = x.length → 0 ≤ k → k + 64 * (szCallS xs : Nat) ≤ 1125899906842624 →
    HH 23 [owCallS x] (xs.length + 1) [true, false, true] (hdS [(0, .rf 0), (1, nI k), (5, nI (i : Int))] [(0, ⟨y.length, 9, goCallS y⟩)] []) = some (nI (enCallS xs k), [owCallS (pre ++ mkCallS xs k)]) := by
  intro xs
  induction xs with
  | nil =>
    intro pre y k i hy hi hl h0 h1
    rw [hstep, h23, bf (by simp [zN, hy, hi])]
    refine bt' (by simp [okT_eq, okU_eq, okV_eq, okW_eq]) ?_
    rw [← hl, hy]; simp [enL, mkL]
  | cons a ys ih =>
    intro pre y k i hy hi hl h0 h1
    have hle : i < y.length := by rw [hy, hi]; simp
    have b := bdCall a k
    have h2 : szCallS (a :: ys) = 1 + szCall a + szCallS ys := sumL_cons
    have h3 : szCall a = szCall a := rfl
    conv at h3 => lhs; unfold szCall szMsg
    have b0 := bdTermS a.Filter (k + 1 + 1 + 1 + 1 + 1 + 1 + 1 + 1)
    have f0 : 0 ≤ k ∧ k ≤ 4611686018427387904 := by constructor <;> omega
    have p4 : 0 ≤ k + 1 + 1 + 1 + 1 ∧ k + 1 + 1 + 1 + 1 ≤ 1125899906842624 := by constructor <;> omega
    have p7 : 0 ≤ k + 1 + 1 + 1 + 1 + 1 + 1 + 1 ∧ k + 1 + 1 + 1 + 1 + 1 + 1 + 1 ≤ 1125899906842624 := by constructor <;> omega
    have p8 : 0 ≤ k + 1 + 1 + 1 + 1 + 1 + 1 + 1 + 1 ∧ k + 1 + 1 + 1 + 1 + 1 + 1 + 1 + 1 + 64 * (szTermS a.Filter : Nat) ≤ 1125899906842624 := by constructor <;> omega
    have r8 : ¬ enTermS a.Filter (k + 1 + 1 + 1 + 1 + 1 + 1 + 1 + 1) < 0 := by omega
    have be : enCall a k = enTermS a.Filter (k + 1 + 1 + 1 + 1 + 1 + 1 + 1 + 1) := rfl
    have pn : 0 ≤ enCall a k ∧ enCall a k + 64 * (szCallS ys : Nat) ≤ 1125899906842624 := by constructor <;> omega
    obtain ⟨w0_0, w0_1, w0_2, w0_3, w0_4, w0_5, w0_6, w0_7⟩ := wch8 (k) f0.1 f0.2
    have c0 : (bif decide (0 ≤ (i : Int)) then decide ((i : Int) < zN y.length) else false) = true := by simp [zN]; omega
    have g : y.getD i zCall = a := getD_mid hy hi
    rw [hstep, h23, bt (by simp [zN]; omega), wrapN (by omega)]
    simp only [Int.toNat_natCast, c0, cond_true, g, w0_0, w0_1, w0_2, w0_3, w0_4, w0_5, w0_6, w0_7]
    refine obind' (v48 (k + 1 + 1 + 1 + 1) p4.1 p4.2) ?_
    refine obind' (v48 (k + 1 + 1 + 1 + 1 + 1 + 1 + 1) p7.1 p7.2) ?_
    refine obind' (kv46 a.Filter (k + 1 + 1 + 1 + 1 + 1 + 1 + 1 + 1) p8.1 p8.2) ?_
    simp only [asI, asS, w0_0, w0_1, w0_2, w0_3, w0_4, w0_5, w0_6, w0_7]
    rw [show a.Filter.length = (mkTermS a.Filter (k + 1 + 1 + 1 + 1 + 1 + 1 + 1 + 1)).length from (mkL_len _ _).symm]
    refine (congrArg (fun G => HH 23 [owCallS x] (ys.length + 1) [true, false, true] (hdS [(0, .rf 0), (1, nI (enCall a k)), (5, nI ((i + 1 : Nat) : Int))] [(0, ⟨y.length, 9, G⟩)] [])) (set_CallS (os := y) (k := i) (v := mkCall a k) hle)).trans ?_
    have := ih (pre ++ [mkCall a k]) (y.set i (mkCall a k)) (enCall a k) (i + 1) (set_mid hy hi) (by simp [hi]) (by simpa using hl) pn.1 pn.2
    rw [List.length_set] at this
    rw [this]
    simp [enL, mkL]
theorem kv23 (x : (List VCall)) (k : Int) (h0 : 0 ≤ k) (h1 : k + 64 * (szCallS x : Nat) ≤ 1125899906842624) : E 23 [.rf 0, nI k] [owCallS x] = some (nI (enCallS x k), [owCallS (mkCallS x k)]) := by
  have hx : x.length ≤ 17592186044416 := by have : x.length ≤ szCallS x := sumL_len (Nat.le_refl _); omega
  refine ev1 (x.length + 1) rfl ?_
  rw [e23]
  exact k23 x hx x [] x k 0 rfl rfl rfl h0 h1
theorem j24 : ∀ (xs pre x : (List VCall)) (k : Int) (i : Nat), x = pre ++ mkCallS xs k → i = pre.length → x.length ≤ 17592186044416 → 0 ≤ k → k + 64 * (szCallS xs : Nat) ≤ 1125899906842624 →
    HH 24 [] (xs.length + 1) [true, false, true] (hdS [(0, slCallS x), (1, nI k), (5, nI (i : Int))] [] []) = some (nI (enCallS xs k), []) := by
  intro xs
  induction xs with
  | nil =>
    intro pre x k i hy hi hl h0 h1
    rw [hstep, h24, bf (by simp [zN, hy, hi, mkL])]
    rfl
  | cons a ys ih =>
    intro pre x k i hy hi hl h0 h1
    have hle : i < x.length := by rw [hy, hi]; simp [mkL]
    have b := bdCall a k
    have h2 : szCallS (a :: ys) = 1 + szCall a + szCallS ys := sumL_cons
    have h3 : szCall a = szCall a := rfl
    conv at h3 => lhs; unfold szCall szMsg
    have b0 := bdTermS a.Filter (k + 1 + 1 + 1 + 1 + 1 + 1 + 1 + 1)
    have f0 : 0 ≤ k ∧ k ≤ 4611686018427387904 := by constructor <;> omega
    have p4 : 0 ≤ k + 1 + 1 + 1 + 1 ∧ k + 1 + 1 + 1 + 1 ≤ 1125899906842624 := by constructor <;> omega
    have p7 : 0 ≤ k + 1 + 1 + 1 + 1 + 1 + 1 + 1 ∧ k + 1 + 1 + 1 + 1 + 1 + 1 + 1 ≤ 1125899906842624 := by constructor <;> omega
    have p8 : 0 ≤ k + 1 + 1 + 1 + 1 + 1 + 1 + 1 + 1 ∧ k + 1 + 1 + 1 + 1 + 1 + 1 + 1 + 1 + 64 * (szTermS a.Filter : Nat) ≤ 1125899906842624 := by constructor <;> omega
    have r8 : ¬ enTermS a.Filter (k + 1 + 1 + 1 + 1 + 1 + 1 + 1 + 1) < 0 := by omega
    have be : enCall a k = enTermS a.Filter (k + 1 + 1 + 1 + 1 + 1 + 1 + 1 + 1) := rfl
    have pn : 0 ≤ enCall a k ∧ enCall a k + 64 * (szCallS ys : Nat) ≤ 1125899906842624 := by constructor <;> omega
    obtain ⟨w0_0, w0_1, w0_2, w0_3, w0_4, w0_5, w0_6, w0_7⟩ := wch8 (k) f0.1 f0.2
    have c0 : (bif decide (0 ≤ (i : Int)) then decide ((i : Int) < zN x.length) else false) = true := by simp [zN]; omega
    have g : x.getD i zCall = mkCall a k := getD_mid (xs := mkCallS ys (enCall a k)) hy hi
    rw [hstep, h24, bt (by simp [zN]; omega), wrapN (by omega)]
    simp only [Int.toNat_natCast, List.length_cons, g, w0_0, w0_1, w0_2, w0_3, w0_4, w0_5, w0_6, w0_7]
    dsimp only [mkCall]
    have nx : HH 24 [] (ys.length + 1) [true, false, true] (hdS [(0, slCallS x), (1, nI (enTermS a.Filter (k + 1 + 1 + 1 + 1 + 1 + 1 + 1 + 1))), (5, nI ((i + 1 : Nat) : Int))] [] []) = some (nI (enCallS (a :: ys) k), []) := ih (pre ++ [mkCall a k]) x (enCall a k) (i + 1) (by rw [hy]; simp [mkL]) (by simp [hi]) hl pn.1 pn.2
    repeat' first
      | with_reducible refine and2_both ?_ ?_
      | with_reducible refine bt' c0 ?_
      | with_reducible refine obind' (v48 (k + 1 + 1 + 1 + 1) p4.1 p4.2) ?_
      | with_reducible refine obind' (v48 (k + 1 + 1 + 1 + 1 + 1 + 1 + 1) p7.1 p7.2) ?_
      | (with_reducible refine obind' (hv47 a.Filter (k + 1 + 1 + 1 + 1 + 1 + 1 + 1 + 1) _ (by first | rfl | (simp [mkL_len]; done)) p8.1 p8.2) ?_; simp only [asI, asS, w0_0, w0_1, w0_2, w0_3, w0_4, w0_5, w0_6, w0_7])
      | with_reducible refine bf' (by simp [asS]) ?_
      | with_reducible exact nx
      | refine bf' (decide_eq_false r8) ?_
theorem hv24 (x : (List VCall)) (k : Int) (nn : Nat) (hn : nn = x.length) (h0 : 0 ≤ k) (h1 : k + 64 * (szCallS x : Nat) ≤ 1125899906842624) : E 24 [.sl nn 9 (gsCallS (mkCallS x k)), nI k] [] = some (nI (enCallS x k), []) := by
  have hx : x.length ≤ 17592186044416 := by have : x.length ≤ szCallS x := sumL_len (Nat.le_refl _); omega
  subst hn
  rw [show x.length = (mkCallS x k).length from (mkL_len _ _).symm]
  refine ev1 (x.length + 1) rfl ?_
  refine (e24 ..).trans ?_
  exact j24 x [] (mkCallS x k) k 0 rfl rfl (by rw [mkL_len]; exact hx) h0 h1
end Go.Fw
