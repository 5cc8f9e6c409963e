/- Values: ranges, bytes of texts, messages, names' parts. -/
import Derived.Test.YtndmnbgcneaggaaGreatDoorV0
import Derived.Test.YtndmnbgcneaggaaGreatDoorKt
set_option linter.unusedVariables false
set_option linter.unusedSimpArgs false
namespace Go.Fw
open Go.Proofs
def inR (a b c : Int) : Bool := decide (b ≤ a) && decide (a ≤ c)
theorem v22 (a b c : Int) : E 22 [nI a, nI b, nI c] [] = some (.B (inR a b c), []) := by
 refine ev1 0 rfl ((e22 ..).trans ?_)
 unfold inR
 cases decide (b ≤ a) <;> rfl
theorem v86 (a b c : Int) : E 86 [nI a, nI b, nI c] [] = some (.B (inR a b c), []) := by
 refine ev1 0 rfl ((e86 ..).trans ?_)
 unfold inR
 cases decide (b ≤ a) <;> rfl
abbrev emp (s : ByteArray) : Bool := s.toList == ByteArray.empty.toList
def allB (p : Int → Bool) (s : ByteArray) : Nat → Nat → Bool
 | 0, _ => true
 | k + 1, i => p (byN s i) && allB p s k (i + 1)
def plainP (x : Int) : Bool := decide (32 ≤ x) && decide (x ≤ 126) && !decide (x = 34)
def lowP (x : Int) : Bool := decide (97 ≤ x) && decide (x ≤ 122)
def nameP (x : Int) : Bool := lowP x || (decide (48 ≤ x) && decide (x ≤ 57))
theorem lt_not (a b : Int) : decide (a < b) = !decide (b ≤ a) := by by_cases h : b ≤ a <;> simp [h] <;> omega
theorem bnd {s : ByteArray} {i : Nat} (h : i < s.size) : (bif decide (0 ≤ (i : Int)) then decide ((i : Int) < zN s.size) else false) = true := by simp [zN]; omega
theorem bndL {n i : Nat} (h : i < n) : (bif decide (0 ≤ (i : Int)) then decide ((i : Int) < zN n) else false) = true := by simp [zN]; omega
theorem l126 (s : ByteArray) (hs : s.size ≤ 4294967296) : ∀ (k i : Nat), i + k = s.size → HH 126 [] (k + 1) [true, true, false, true] (hdS [(0, .S s), (3, nI (i : Int))] [] []) = some (.B (allB plainP s k i), []) := by
 intro k
 induction k with
 | zero => intro i hi; rw [hstep, h126, bf (by simp [zN]; omega)]; rfl
 | succ k ih =>
  intro i hi
  rw [hstep, h126, bt (by simp [zN]; omega)]
  have ih' := ih (i + 1) (by omega)
  simp only [bnd (show i < s.size by omega), cond_true, Int.toNat_natCast, wrapN (show i ≤ 4611686018427387904 by omega), ih']
  simp only [allB, plainP, lt_not]
  generalize decide (32 ≤ byN s i) = c1
  generalize decide (byN s i ≤ 126) = c2
  generalize decide (byN s i = 34) = c3
  cases c1 <;> cases c2 <;> cases c3 <;> simp
def okPl (s : ByteArray) : Bool := decide (s.size ≤ 40) && allB plainP s s.size 0
theorem v126 (s : ByteArray) (hs : s.size ≤ 4294967296) : E 126 [.S s] [] = some (.B (okPl s), []) := by
 refine ev1 (s.size + 1) rfl ((e126 ..).trans ?_)
 unfold okPl
 by_cases h : s.size ≤ 40
 · rw [decide_eq_true h]
   exact bf' (decide_eq_false (by simp only [zN]; omega)) (l126 s hs s.size 0 (by omega))
 · rw [decide_eq_false h]
   exact bt' (decide_eq_true (by simp only [zN]; omega)) rfl
def okMs (m : VMsg) : Bool := if m.Kind = 1 then emp m.Text && inR m.Num (-999999999) 999999999 else if m.Kind = 2 then decide (m.Num = 0) && okPl m.Text else false
theorem v49 (m : VMsg) (hs : m.Text.size ≤ 4294967296) : E 49 [slMsg m] [] = some (.B (okMs m), []) := by
 refine ev1 0 rfl ((e49 ..).trans ?_)
 unfold okMs
 by_cases h : m.Kind = 1
 · rw [if_pos h]
   refine bt' (decide_eq_true h) ?_
   cases he : emp m.Text with
   | true => exact bt' he (obind' (v22 ..) rfl)
   | false => exact bf' he rfl
 · rw [if_neg h]
   refine bf' (decide_eq_false h) ?_
   by_cases h2 : m.Kind = 2
   · rw [if_pos h2]
     refine bt' (decide_eq_true h2) ?_
     by_cases h3 : m.Num = 0
     · rw [decide_eq_true h3]; exact bt' rfl (obind' (v126 _ hs) rfl)
     · rw [decide_eq_false h3]; exact bf' rfl rfl
   · rw [if_neg h2]; exact bf' (decide_eq_false h2) rfl
theorem l155 (x : VMsg) (hs : x.Text.size ≤ 4294967296) : ∀ (k i : Nat), i + k = x.Text.size → HH 155 [] (k + 1) [true, false, true, true, true, true, false, false, true] (hdS [(1, .pb 65 0), (20, nI (zN x.Text.size)), (21, nI (i : Int))] [] [(65, 3, [nI x.Kind, nI x.Num, .S x.Text])]) =
  some (.B (decide (x.Num = 0) && (decide (x.Text.size ≤ 40) && allB plainP x.Text k i)), []) := by
 intro k
 induction k with
 | zero =>
  intro i hi
  rw [hstep, h155, bf (by simp [zN]; omega)]
  have : decide (zN x.Text.size ≤ 40) = decide (x.Text.size ≤ 40) := by simp only [zN]; by_cases h : x.Text.size ≤ 40 <;> simp [h] <;> omega
  rw [this]
  cases decide (x.Num = 0) <;> simp [allB]
 | succ k ih =>
  intro i hi
  rw [hstep, h155, bt (by simp [zN]; omega)]
  have ih' := ih (i + 1) (by omega)
  have hr : IntKind.i64.wrap (byN x.Text i) = byN x.Text i := by
   unfold byN
   have := (((x.Text)[i]?).getD 0).toNat_lt
   rw [wrapS (by simp only [zN]; omega) (by simp only [zN]; omega)]
  simp only [bnd (show i < x.Text.size by omega), cond_true, Int.toNat_natCast, hr, wrapN (show i ≤ 4611686018427387904 by omega), ih', allB, plainP]
  rw [obind (v86 ..)]
  unfold inR
  generalize decide (32 ≤ byN x.Text i) = c1
  generalize decide (byN x.Text i ≤ 126) = c2
  generalize decide (byN x.Text i = 34) = c3
  cases c1 <;> cases c2 <;> cases c3 <;> simp [asB]
theorem v155 (m : VMsg) (hs : m.Text.size ≤ 4294967296) : E 155 [slMsg m] [] = some (.B (okMs m), []) := by
 refine ev1 (m.Text.size + 1) rfl ((e155 ..).trans ?_)
 unfold okMs
 by_cases h : m.Kind = 1
 · rw [if_pos h]
   refine bt' (decide_eq_true h) (obind' (v86 ..) ?_)
   cases he : inR m.Num (-999999999) 999999999 with
   | true => refine bt' rfl ?_; show some (AV.B (emp m.Text), []) = _; cases emp m.Text <;> rfl
   | false => refine bf' rfl ?_; cases emp m.Text <;> rfl
 · rw [if_neg h]
   refine bf' (decide_eq_false h) ?_
   by_cases h2 : m.Kind = 2
   · rw [if_pos h2]
     exact bt' (decide_eq_true h2) (l155 m hs m.Text.size 0 (by omega))
   · rw [if_neg h2]; exact bf' (decide_eq_false h2) rfl
theorem l203 (s : ByteArray) (hs : s.size ≤ 4294967296) : ∀ (k i : Nat), i + k = s.size → HH 203 [] (k + 1) [true, true, false, true] (hdS [(0, .S s), (3, nI (i : Int))] [] []) = some (.B (allB lowP s k i), []) := by
 intro k
 induction k with
 | zero => intro i hi; rw [hstep, h203, bf (by simp [zN]; omega)]; rfl
 | succ k ih =>
  intro i hi
  rw [hstep, h203, bt (by simp [zN]; omega)]
  have ih' := ih (i + 1) (by omega)
  simp only [bnd (show i < s.size by omega), cond_true, Int.toNat_natCast, wrapN (show i ≤ 4611686018427387904 by omega), ih']
  simp only [allB, lowP, lt_not]
  generalize decide (97 ≤ byN s i) = c1
  generalize decide (byN s i ≤ 122) = c2
  cases c1 <;> cases c2 <;> simp
def okPart (s : ByteArray) : Bool := inR (zN s.size) 1 10 && allB lowP s s.size 0
theorem v203 (s : ByteArray) (hs : s.size ≤ 4294967296) : E 203 [.S s] [] = some (.B (okPart s), []) := by
 refine ev1 (s.size + 1) rfl ((e203 ..).trans (obind' (v22 ..) ?_))
 unfold okPart
 cases h : inR (zN s.size) 1 10 with
 | true => exact bf' rfl (l203 s hs s.size 0 (by omega))
 | false => exact bt' rfl rfl
theorem l263 (s : ByteArray) (hs : s.size ≤ 4294967296) : ∀ (k i : Nat), i + k = s.size → HH 263 [] (k + 1) [true, false, true] (hdS [(0, .S s), (5, nI (zN s.size)), (6, nI (i : Int))] [] []) = some (.B (inR (zN s.size) 1 10 && allB lowP s k i), []) := by
 intro k
 induction k with
 | zero =>
  intro i hi
  rw [hstep, h263, bf (by simp [zN]; omega), obind (v86 ..)]
  simp [allB, asB]
 | succ k ih =>
  intro i hi
  rw [hstep, h263, bt (by simp [zN]; omega)]
  have ih' := ih (i + 1) (by omega)
  simp only [bnd (show i < s.size by omega), cond_true, Int.toNat_natCast, wrapN (show i ≤ 4611686018427387904 by omega), ih']
  simp only [allB, lowP, lt_not]
  generalize decide (97 ≤ byN s i) = c1
  generalize decide (byN s i ≤ 122) = c2
  cases c1 <;> cases c2 <;> simp
theorem v263 (s : ByteArray) (hs : s.size ≤ 4294967296) : E 263 [.S s] [] = some (.B (okPart s), []) :=
 ev1 (s.size + 1) rfl ((e263 ..).trans (l263 s hs s.size 0 (by omega)))
theorem l202 (s : ByteArray) (hs : s.size ≤ 4294967296) : ∀ (k i : Nat), i + k = s.size → HH 202 [] (k + 1) [true, true, false, true] (hdS [(0, .S s), (3, nI (i : Int))] [] []) = some (.B (allB nameP s k i), []) := by
 intro k
 induction k with
 | zero => intro i hi; rw [hstep, h202, bf (by simp [zN]; omega)]; rfl
 | succ k ih =>
  intro i hi
  rw [hstep, h202, bt (by simp [zN]; omega)]
  have ih' := ih (i + 1) (by omega)
  simp only [bnd (show i < s.size by omega), cond_true, Int.toNat_natCast, wrapN (show i ≤ 4611686018427387904 by omega), ih']
  simp only [allB, nameP, lowP, lt_not]
  generalize decide (97 ≤ byN s i) = c1
  generalize decide (byN s i ≤ 122) = c2
  generalize decide (48 ≤ byN s i) = c3
  generalize decide (byN s i ≤ 57) = c4
  cases c1 <;> cases c2 <;> cases c3 <;> cases c4 <;> simp
def okPlain (s : ByteArray) : Bool := !emp s && allB nameP s s.size 0
theorem v202 (s : ByteArray) (hs : s.size ≤ 4294967296) : E 202 [.S s] [] = some (.B (okPlain s), []) := by
 refine ev1 (s.size + 1) rfl ((e202 ..).trans ?_)
 unfold okPlain
 cases h : emp s with
 | true => exact bt' h rfl
 | false => exact bf' h (l202 s hs s.size 0 (by omega))
theorem l215 (s : ByteArray) (hs : s.size ≤ 4294967296) : ∀ (k i : Nat), i + k = s.size → HH 215 [] (k + 1) [true, false, true] (hdS [(0, .S s), (5, nI (zN s.size)), (6, nI (i : Int))] [] []) = some (.B (!emp s && allB nameP s k i), []) := by
 intro k
 induction k with
 | zero =>
  intro i hi
  rw [hstep, h215, bf (by simp [zN]; omega), allB, Bool.and_true]
 | succ k ih =>
  intro i hi
  rw [hstep, h215, bt (by simp [zN]; omega)]
  have ih' := ih (i + 1) (by omega)
  simp only [bnd (show i < s.size by omega), cond_true, Int.toNat_natCast, wrapN (show i ≤ 4611686018427387904 by omega), ih']
  simp only [allB, nameP, lowP, lt_not]
  generalize decide (97 ≤ byN s i) = c1
  generalize decide (byN s i ≤ 122) = c2
  generalize decide (48 ≤ byN s i) = c3
  generalize decide (byN s i ≤ 57) = c4
  cases c1 <;> cases c2 <;> cases c3 <;> cases c4 <;> simp
theorem v215 (s : ByteArray) (hs : s.size ≤ 4294967296) : E 215 [.S s] [] = some (.B (okPlain s), []) :=
 ev1 (s.size + 1) rfl ((e215 ..).trans (l215 s hs s.size 0 (by omega)))
end Go.Fw
