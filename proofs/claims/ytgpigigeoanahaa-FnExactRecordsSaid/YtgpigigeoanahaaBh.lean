/- Values: what is told of a history: tellings, waits; orders. -/
import Derived.Test.YtgpigigeoanahaaBg
set_option linter.unusedVariables false
set_option linter.unusedSimpArgs false
set_option maxRecDepth 100000
namespace Go.Fw
open Go.Proofs

def recR : Option WS → AV
  | some s => .tup 2 (lstG [owRecS s.rs, .B true])
  | none => .tup 2 (lstG [owRecS [], .B false])
theorem v24 (ps : List (List VCall)) (ms : List VMark) (hp : szCallSS ps ≤ 1048576) : E 24 [slCallSS ps, slMarkS ms] [] = some (recR (recordsF ps ms), []) := by
  refine ev1 0 rfl ?_
  rw [e24]
  refine obind' (v36 ps ms hp) (bt' (by simp [okU_eq]) ?_)
  cases recordsF ps ms <;> rfl
theorem v25 (ps : List (List VCall)) (ms : List VMark) (hp : szCallSS ps ≤ 1048576) : E 25 [slCallSS ps, slMarkS ms] [] = some (recR (recordsF ps ms), []) := by
  refine ev1 0 rfl ?_
  rw [e25]
  refine obind' (v35 ps ms hp) (bt' (by simp [okU_eq]) ?_)
  cases recordsF ps ms <;> rfl
structure Ty where
  x : Int
  y : Int
  z : Int
def tStep (r : VRec) (a : Int) (t : Ty) : Ty :=
  if ¬ r.Call.A = a then t else if r.Last < 0 then t
  else if r.Call.Op = 1 ∧ r.Code = 0 then ⟨IntKind.i64.wrap (t.x + 1), t.y, t.z⟩
  else if r.Call.Op = 3 ∧ r.Code = 0 then ⟨t.x, IntKind.i64.wrap (t.y + 1), t.z⟩
  else if r.Call.Op = 3 ∧ r.Code = 7 then ⟨t.x, t.y, IntKind.i64.wrap (t.z + 1)⟩ else t
def tallyF (rs : List VRec) (a : Int) : Nat → Nat → Ty → Ty
  | 0, _, t => t
  | k + 1, i, t => tallyF rs a k (i + 1) (tStep (rs.getD i zRec) a t)
abbrev tyR (t : Ty) : AV := .tup 4 (lstG [nI t.x, nI t.y, nI t.z, .B true])
theorem l15 (rs : List VRec) (a : Int) (hr : rs.length ≤ 1048576) : ∀ (k i : Nat) (t : Ty), i + k = rs.length →
    HH 15 [] (k + 1) [true, true, true, true, false, true] (hdS [(2, nI a), (10, .rf 344064), (12, nI t.x), (13, nI t.y), (14, nI t.z), (15, nI (i : Int))] [(344064, ⟨rs.length, 14, goRecS rs⟩)] []) = some (tyR (tallyF rs a k i t), []) := by
  intro k
  induction k with
  | zero => intro i t hi; rw [hstep, h15, bf (by simp [zN] <;> omega)]; rfl
  | succ k ih =>
    intro i t hi
    rw [hstep, h15, bt (by simp [zN] <;> omega), bt (by simp [zN] <;> omega), wrapN (by omega)]
    simp only [Int.toNat_natCast]
    have nx := ih (i + 1) (tStep (rs.getD i zRec) a t) (by omega)
    simp only [tallyF]
    rw [← nx]
    unfold tStep

    by_cases c1 : (rs.getD i zRec).Call.A = a <;> by_cases c2 : (rs.getD i zRec).Last < 0 <;> by_cases c3 : (rs.getD i zRec).Call.Op = 1 <;> by_cases c4 : (rs.getD i zRec).Code = 0 <;> by_cases c5 : (rs.getD i zRec).Call.Op = 3 <;> by_cases c6 : (rs.getD i zRec).Code = 7 <;>
      simp only [c1, c2, c3, c4, c5, c6, decide_true, decide_false, cond_true, cond_false, Bool.not_true, Bool.not_false, if_true, if_false, not_true, not_false_eq_true, and_true, true_and, and_false, false_and, and_self] <;> first | rfl | omega
theorem l16 (rs : List VRec) (a : Int) (hr : rs.length ≤ 1048576) : ∀ (k i : Nat) (t : Ty), i + k = rs.length →
    HH 16 [] (k + 1) [true, true, true, true, false, true] (hdS [(2, nI a), (13, nI t.x), (14, nI t.y), (15, nI t.z), (27, .rf 348160), (28, nI (zN rs.length)), (29, nI (i : Int))] [(348160, ⟨rs.length, 14, goRecS rs⟩)] []) = some (tyR (tallyF rs a k i t), []) := by
  intro k
  induction k with
  | zero => intro i t hi; rw [hstep, h16, bf (by simp [zN] <;> omega)]; rfl
  | succ k ih =>
    intro i t hi
    rw [hstep, h16, bt (by simp [zN] <;> omega), bt (by simp [zN] <;> omega), wrapN (by omega)]
    simp only [Int.toNat_natCast]
    have nx := ih (i + 1) (tStep (rs.getD i zRec) a t) (by omega)
    simp only [tallyF]
    rw [← nx]
    unfold tStep

    by_cases c1 : (rs.getD i zRec).Call.A = a <;> by_cases c2 : (rs.getD i zRec).Last < 0 <;> by_cases c3 : (rs.getD i zRec).Call.Op = 1 <;> by_cases c4 : (rs.getD i zRec).Code = 0 <;> by_cases c5 : (rs.getD i zRec).Call.Op = 3 <;> by_cases c6 : (rs.getD i zRec).Code = 7 <;>
      simp only [c1, c2, c3, c4, c5, c6, decide_true, decide_false, cond_true, cond_false, Bool.not_true, Bool.not_false, if_true, if_false, not_true, not_false_eq_true, and_true, true_and, and_false, false_and, and_self] <;> first | rfl | omega
theorem walk_inv {ps : List (List VCall)} {ms : List VMark} (hp : szCallSS ps ≤ 1048576) : ∀ (k i : Nat) (s s' : WS), WInv ps i s → walkF ps ms k i s = some s' → WInv ps (i + k) s' := by
  intro k
  induction k with
  | zero => intro i s s' h e; simp only [walkF, Option.some.injEq] at e; subst e; exact h
  | succ k ih =>
    intro i s s' h e
    simp only [walkF] at e
    split at e
    · rename_i s1 h1
      have := ih (i + 1) s1 s' (wstep_ok hp h h1) e
      rw [show i + (k + 1) = i + 1 + k by omega]; exact this
    · simp at e
theorem rec_inv {ps : List (List VCall)} {ms : List VMark} (hp : szCallSS ps ≤ 1048576) {s : WS} (h : recordsF ps ms = some s) : WInv ps ms.length s ∧ ms.length ≤ 400 := by
  unfold recordsF at h
  split at h
  · simp at h
  · have := walk_inv hp _ _ _ _ (inv0 ps) h
    rw [Nat.zero_add] at this
    exact ⟨this, by omega⟩
def tallyR (ps : List (List VCall)) (ms : List VMark) (a : Int) : AV := match recordsF ps ms with
  | some s => tyR (tallyF s.rs a s.rs.length 0 ⟨0, 0, 0⟩)
  | none => .tup 4 (lstG [nI 0, nI 0, nI 0, .B false])
theorem v15 (ps : List (List VCall)) (ms : List VMark) (a : Int) (hp : szCallSS ps ≤ 1048576) : E 15 [slCallSS ps, slMarkS ms, nI a] [] = some (tallyR ps ms a, []) := by
  have q := v24 ps ms hp
  unfold tallyR
  cases hr : recordsF ps ms with
  | none =>
    rw [hr] at q
    refine ev1 0 rfl ?_
    rw [e15]
    exact obind' q (bt' rfl rfl)
  | some s =>
    rw [hr] at q
    obtain ⟨h1, h2⟩ := rec_inv hp hr
    have h3 := h1.rs
    refine ev1 (s.rs.length + 1) rfl ?_
    rw [e15]
    exact obind' q (bf' rfl (l15 s.rs a (by omega) s.rs.length 0 ⟨0, 0, 0⟩ (by omega)))
theorem v16 (ps : List (List VCall)) (ms : List VMark) (a : Int) (hp : szCallSS ps ≤ 1048576) : E 16 [slCallSS ps, slMarkS ms, nI a] [] = some (tallyR ps ms a, []) := by
  have q := v35 ps ms hp
  unfold tallyR
  cases hr : recordsF ps ms with
  | none =>
    rw [hr] at q
    refine ev1 0 rfl ?_
    rw [e16]
    exact obind' q (bt' rfl rfl)
  | some s =>
    rw [hr] at q
    obtain ⟨h1, h2⟩ := rec_inv hp hr
    have h3 := h1.rs
    refine ev1 (s.rs.length + 1) rfl ?_
    rw [e16]
    exact obind' q (bf' rfl (l16 s.rs a (by omega) s.rs.length 0 ⟨0, 0, 0⟩ (by omega)))
/-- The law of tellings and waits. -/
theorem v4 (ps : List (List VCall)) (ms : List VMark) (a : Int) (h1 : okCallSS ps) (h2 : okMarkS ms) : E 4 [slCallSS ps, slMarkS ms, nI a] [] = some (.B true, []) := by
  refine ev1 0 rfl ?_
  rw [e4]
  have q7 := v7 ps 1048576 h1 (by omega) (by omega)
  by_cases c1 : (szCallSS ps : Int) ≤ 1048576
  case neg => rw [subZ_gt c1] at q7; exact obind' q7 (bt' rfl rfl)
  rw [subZ_le c1] at q7
  refine obind' q7 (bf' (decide_eq_false (by show ¬ (1048576 - (szCallSS ps : Int) < 0); omega)) ?_)
  have q8 := v8 ms (1048576 - (szCallSS ps : Int)) h2 (by omega) (by omega)
  by_cases c2 : (szMarkS ms : Int) ≤ 1048576 - (szCallSS ps : Int)
  case neg => rw [subZ_gt c2] at q8; exact obind' q8 (bt' rfl rfl)
  rw [subZ_le c2] at q8
  refine obind' q8 (bf' (decide_eq_false (by show ¬ (1048576 - (szCallSS ps : Int) - (szMarkS ms : Int) < 0); omega)) ?_)
  have hp : szCallSS ps ≤ 1048576 := by omega
  have hm : szMarkS ms ≤ 1048576 := by omega
  have q10 := v10 ps hp
  have q11 := v11 ms hm
  refine obind' q10 (obind' q11 (obind' (v15 ps ms a hp) (obind' q10 (obind' q11 (obind' (v16 ps ms a hp) ?_)))))
  refine bf' (by simp) (bf' (by simp) (bf' (by simp) (bf' (by simp) ?_)))
  exact obind' q10 (obind' (w13 ps hp) (bf' rfl (obind' q11 (obind' (w14 ms hm) (bf' rfl rfl)))))
end Go.Fw
