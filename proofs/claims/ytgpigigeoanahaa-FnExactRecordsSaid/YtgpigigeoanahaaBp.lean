/- Values: comparing records; the law of a history's records. -/
import Derived.Test.YtgpigigeoanahaaBn
set_option linter.unusedVariables false
set_option linter.unusedSimpArgs false
set_option maxRecDepth 100000
namespace Go.Fw
open Go.Proofs
theorem w41 (x : VRec) (hb : szRec x ≤ 1048576) : E 41 [slRec x, slRec x] [] = some (.B true, []) := by
  refine ev1 0 rfl ?_
  rw [e41]
  unfold szRec at hb
  refine bf' (by simp) ?_
  refine bf' (by simp) ?_
  refine obind' (w49 x.Call (by omega)) (bf' rfl ?_)
  refine bf' (by simp) ?_
  refine bf' (by simp) ?_
  refine bf' (by simp) ?_
  rfl
theorem m26 (x : (List VRec)) (hb : szRecS x ≤ 420000000) (hz : ∀ j, szRec (x.getD j zRec) ≤ 1048576) : ∀ (m i : Nat), i + m = x.length →
    HH 26 [] (m + 1) [true, true, false, true] (hdS [(0, slRecS x), (1, slRecS x), (5, nI (i : Int))] [] []) = some (.B true, []) := by
  have hlen : x.length ≤ 420000000 := sumL_len hb
  intro m
  induction m with
  | zero => intro i hi; rw [hstep, h26, bf (by simp [zN] <;> omega)]
  | succ m ih =>
    intro i hi
    rw [hstep, h26, bt (by simp [zN] <;> omega), bt (by simp [zN] <;> omega), bt (by simp [zN] <;> omega), wrapN (by omega)]
    simp only [Int.toNat_natCast]
    refine obind' (w41 (x.getD i zRec) (hz i)) (bf' rfl ?_)
    exact ih (i + 1) (by omega)
theorem w26 (x : (List VRec)) (hb : szRecS x ≤ 420000000) (hz : ∀ j, szRec (x.getD j zRec) ≤ 1048576) : E 26 [slRecS x, slRecS x] [] = some (.B true, []) := by
  refine ev1 (x.length + 1) rfl ?_
  rw [e26, bf (by simp)]
  exact m26 x hb hz x.length 0 (by omega)

structure RcV where
  rs : List VRec
  ok : Bool
def recV (ps : List (List VCall)) (ms : List VMark) : RcV := match recordsF ps ms with
  | some s => ⟨s.rs, true⟩
  | none => ⟨[], false⟩
abbrev rvR (h : RcV) : AV := .tup 2 (lstG [owRecS h.rs, .B h.ok])
theorem recR_eq (ps : List (List VCall)) (ms : List VMark) : recR (recordsF ps ms) = rvR (recV ps ms) := by
  unfold recV; cases recordsF ps ms <;> rfl
theorem recV_sz {ps : List (List VCall)} {ms : List VMark} (hp : szCallSS ps ≤ 1048576) : szRecS (recV ps ms).rs ≤ 420000000 := by
  unfold recV
  cases h : recordsF ps ms with
  | none => exact Nat.zero_le _
  | some s => exact (rec_sz hp h).1
theorem recV_x {ps : List (List VCall)} {ms : List VMark} (hp : szCallSS ps ≤ 1048576) (j : Nat) : szRec ((recV ps ms).rs.getD j zRec) ≤ 1048576 := by
  unfold recV
  cases h : recordsF ps ms with
  | none => show szRec (([] : List VRec).getD j zRec) ≤ _; simp [szz]
  | some s => exact (rec_x hp h).sz j
/-- The law of a history's records. -/
theorem v6 (ps : List (List VCall)) (ms : List VMark) (h1 : okCallSS ps) (h2 : okMarkS ms) : E 6 [slCallSS ps, slMarkS ms] [] = some (.B true, []) := by
  refine ev1 0 rfl ?_
  rw [e6]
  have q7 := v7 ps 1048576 h1 (by omega) (by omega)
  by_cases c1 : (szCallSS ps : Int) ≤ 1048576
  case neg => rw [subZ_gt c1] at q7; exact obind' q7 (bt' rfl rfl)
  rw [subZ_le c1] at q7
  refine obind' q7 (bf' (decide_eq_false (by show ¬ (1048576 - (szCallSS ps : Int) < 0); omega)) ?_)
  have q8 := v8 ms (1048576 - (szCallSS ps : Int)) h2 (by omega) (by omega)
  by_cases c2 : (szMarkS ms : Int) ≤ 1048576 - (szCallSS ps : Int)
  case neg => rw [subZ_gt c2] at q8; exact obind' q8 (bt' rfl rfl)
  rw [subZ_le c2] at q8
  refine obind' q8 (bf' (decide_eq_false (by show ¬ (1048576 - (szCallSS ps : Int) - (szMarkS ms : Int) < 0); omega)) ?_)
  have hp : szCallSS ps ≤ 1048576 := by omega
  have hm : szMarkS ms ≤ 1048576 := by omega
  have q10 := v10 ps hp
  have q11 := v11 ms hm
  have bp := bdCallSS ps 1
  have bm := bdMarkS ms (enCallSS ps 1)
  have z := recV_sz (ms := ms) hp
  have z2 := recV_x (ms := ms) hp
  have bl := bdRecS (recV ps ms).rs 1
  have q24 := v24 ps ms hp
  have q25 := v25 ps ms hp
  rw [recR_eq] at q24 q25
  have qe := w26 (recV ps ms).rs z z2
  refine obind' q10 (obind' q11 (obind' q24 (obind' q10 (obind' q11 (obind' q25 ?_)))))
  refine obind' qe (bf' rfl (bf' (by simp) ?_))
  refine obind' q10 (obind' (w13 ps hp) (bf' rfl (obind' q11 (obind' (w14 ms hm) (bf' rfl ?_)))))
  refine obind' (kv20 ps 1 (by omega) (by omega)) (obind' (kv21 ms (enCallSS ps 1) (by omega) (by omega)) (bf' (decide_eq_false (by show ¬ enMarkS ms (enCallSS ps 1) < 0; omega)) ?_))
  refine obind' qe (bf' rfl (bf' (by simp) ?_))
  have q28 := hv28 (recV ps ms).rs 1 _ rfl (by omega) (by omega)
  refine obind' (kv27 (recV ps ms).rs 1 (by omega) (by omega)) (obind' q28 (bf' (decide_eq_false (by show ¬ enRecS _ 1 < 0; omega)) (bf' (by simp) ?_)))
  refine obind' q10 (obind' q11 (obind' q25 ?_))
  refine obind' qe (bf' rfl (bf' (by simp) ?_))
  exact obind' q28 (bf' (decide_eq_false (by show ¬ enRecS _ 1 < 0; omega)) (bf' (by simp) rfl))
end Go.Fw
