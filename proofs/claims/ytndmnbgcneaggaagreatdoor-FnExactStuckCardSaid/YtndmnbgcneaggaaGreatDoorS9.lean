/- Values: rings' parts. -/
import Derived.Test.YtndmnbgcneaggaaGreatDoorS8
set_option linter.unusedVariables false
set_option linter.unusedSimpArgs false
namespace Go.Fw
open Go.Proofs
theorem u_go {f : Nat} {exts : List AV} {p : List Bool} {S : Nat → St} {n : Nat} {r : AV × List AV} (hend : L f exts p (S n) = some r)
  (hstep : ∀ i, i < n → L f exts p (S (i + 1)) = some r → L f exts p (S i) = some r) : L f exts p (S 0) = some r := by
 have key : ∀ (m i : Nat), i + m = n → L f exts p (S i) = some r := by
  intro m
  induction m with
  | zero =>
   intro i hi
   have e : i = n := by omega
   subst e
   exact hend
  | succ m ih =>
   intro i hi
   exact hstep i (by omega) (ih (i + 1) (by omega))
 exact key n 0 (by omega)
def leastI (xs : List VSub) (l : Int) : Nat → Int
 | 0 => l
 | k + 1 => bif decide ((xs.getD k zSub).Cursor < leastI xs l k) then (xs.getD k zSub).Cursor else leastI xs l k
theorem leastI_le (xs : List VSub) (l : Int) : ∀ k, leastI xs l k ≤ l := by
 intro k
 induction k with
 | zero => exact Int.le_refl _
 | succ k ih =>
  show (bif decide ((xs.getD k zSub).Cursor < leastI xs l k) then (xs.getD k zSub).Cursor else leastI xs l k) ≤ l
  by_cases h : (xs.getD k zSub).Cursor < leastI xs l k
  · rw [decide_eq_true h]; simp only [cond_true]; omega
  · rw [decide_eq_false h]; exact ih
def max3 (l d : Int) : Int := bif decide (l < d) then (bif decide (d < 0) then 0 else d) else (bif decide (l < 0) then 0 else l)
theorem max3_eq (l d : Int) : max3 l d = bif decide ((bif decide (d < 0) then 0 else d) < l) then l else bif decide (d < 0) then 0 else d := by
 unfold max3
 by_cases h1 : l < d <;> by_cases h2 : d < 0 <;> by_cases h3 : l < 0 <;> simp only [h1, h2, h3, decide_true, decide_false, cond_true, cond_false]
 · rw [decide_eq_false (by omega)]; rfl
 · omega
 · rw [decide_eq_false (by omega)]; rfl
 · rw [decide_eq_false (by omega)]; rfl
 · rw [decide_eq_false (by omega)]; rfl
 · by_cases h4 : (0 : Int) < l
   · rw [decide_eq_true h4]; rfl
   · rw [decide_eq_false h4]; simp only [cond_false]; omega
 · omega
 · by_cases h4 : d < l
   · rw [decide_eq_true h4]; rfl
   · rw [decide_eq_false h4]; simp only [cond_false]; omega
def oldI (x : VRing) : Int := max3 (leastI x.Subs x.Sent x.Subs.length) (IntKind.i64.wrap (x.Sent - x.Cap))
theorem v193 (x : VRing) (hb : x.Subs.length ≤ 4294967296) : E 193 [slRing x] [] = some (nI (oldI x), []) := by
 refine evK rfl ((e193 ..).trans (u_go (S := fun i : Nat => S193 x (leastI x.Subs x.Sent i) i) (n := x.Subs.length) ?_ (fun i hi hc => ?_)))
 · refine lstep ((h193 ..).trans (bf' (decide_eq_false (by simp only [zN]; omega)) ?_))
   unfold oldI max3
   generalize leastI x.Subs x.Sent x.Subs.length = l
   generalize IntKind.i64.wrap (x.Sent - x.Cap) = d
   cases decide (l < d) <;> cases decide (d < 0) <;> cases decide (l < 0) <;> rfl
 · refine lstep ((h193 ..).trans (bt' (decide_eq_true (by simp only [zN]; omega)) (bt' (bndL' hi) ?_)))
   rw [wrapN (by omega)]
   simp only [Int.toNat_natCast]
   have hs : leastI x.Subs x.Sent (i + 1) = bif decide ((x.Subs.getD i zSub).Cursor < leastI x.Subs x.Sent i) then (x.Subs.getD i zSub).Cursor else leastI x.Subs x.Sent i := rfl
   rw [hs] at hc
   by_cases h : (x.Subs.getD i zSub).Cursor < leastI x.Subs x.Sent i
   · rw [decide_eq_true h] at hc
     exact bt' (decide_eq_true h) (bt' (bndL' hi) hc)
   · rw [decide_eq_false h] at hc
     exact bf' (decide_eq_false h) hc
theorem v221 (x : VRing) (hb : x.Subs.length ≤ 4294967296) : E 221 [slRing x] [] = some (nI (oldI x), []) := by
 refine evK rfl ((e221 ..).trans (u_go (S := fun i : Nat => S221 x x.Subs (leastI x.Subs x.Sent i) (zN x.Subs.length) i) (n := x.Subs.length) ?_ (fun i hi hc => ?_)))
 · refine lstep ((h221 ..).trans (bf' (decide_eq_false (by simp only [zN]; omega)) ?_))
   unfold oldI
   rw [max3_eq]
 · refine lstep ((h221 ..).trans (bt' (decide_eq_true (by simp only [zN]; omega)) (bt' (bndL' hi) ?_)))
   rw [wrapN (by omega)]
   simp only [Int.toNat_natCast]
   exact hc
def atI (x : VRing) (a : Int) : Int := fst1 (fun j => decide ((x.Subs.getD j zSub).Id = a)) x.Subs.length 0
theorem v195 (x : VRing) (a : Int) (hb : x.Subs.length ≤ 4294967296) : E 195 [slRing x, nI a] [] = some (nI (atI x a), []) := by
 refine evK rfl ((e195 ..).trans (u_fst (S := fun i : Nat => S195 x a i) (n := x.Subs.length) (P := fun j => decide ((x.Subs.getD j zSub).Id = a)) ?_ (fun i c hi hc => ?_)))
 · exact lstep ((h195 ..).trans (bf' (decide_eq_false (by simp only [zN]; omega)) rfl))
 · refine lstep ((h195 ..).trans (bt' (decide_eq_true (by simp only [zN]; omega)) (bt' (bndL' hi) ?_)))
   rw [wrapN (by omega)]
   simp only [Int.toNat_natCast]
   cases decide ((x.Subs.getD i zSub).Id = a) with
   | true => rfl
   | false => exact hc
def subB (x : VRing) (s : VSub) : Bool := !decide (s.Start < 0) && (!decide (s.Cursor < s.Start) && (!decide (x.Sent < s.Cursor) && (filtOk s.Filter && (inR s.Got 0 (IntKind.i64.wrap (s.Cursor - s.Start)) && (inR s.Lost 0 (IntKind.i64.wrap (s.Cursor - s.Start)) && (inR s.Passed 0 (IntKind.i64.wrap (s.Cursor - s.Start)) &&
 decide (IntKind.i64.wrap (IntKind.i64.wrap (s.Got + s.Lost) + s.Passed) = IntKind.i64.wrap (s.Cursor - s.Start))))))))
theorem v218 (x : VRing) (s : VSub) (hb : szSub s ≤ 1048576) : E 218 [slRing x, slSub s] [] = RB (subB x s) := by
 unfold szSub at hb
 have hf := smTerms hb
 exact val (evK rfl ((e218 ..).trans (sF (sF (sF (obind' (v165 _ hf.1 hf.2) (sN (obind' (v86 ..) (sP (obind' (v86 ..) (sP (obind' (v86 ..) (sP rfl))))))))))))) rfl
theorem v192 (x : VRing) (s : VSub) (hb : szSub s ≤ 1048576) : E 192 [slRing x, slSub s] [] = RB (inR s.Id 0 (IntKind.i64.wrap (x.Next - 1)) && subB x s) := by
 unfold szSub at hb
 have hf := smTerms hb
 refine val (evK rfl ((e192 ..).trans (obind' (v22 ..) (sN (sF (sF (sF (sF (sF (sF (sP (sP (sP (sP (obind' (v51 _ hf.1 hf.2) rfl))))))))))))))) ?_
 unfold subB inR
 simp only [asB, lt_not, Bool.not_not]
 ac_rfl
theorem appL (os xs : List Int) : (⟨os.length + xs.length, 1, fun i => lstG [nI (bif decide (i < os.length) then os.getD i 0 else xs.getD (i - os.length) 0)]⟩ : Arr) = ⟨(os ++ xs).length, 1, gsIntS (os ++ xs)⟩ := by
 rw [List.length_append]
 show Arr.mk (os.length + xs.length) 1 _ = Arr.mk (os.length + xs.length) 1 _
 congr 1
 funext i
 unfold gsIntS gI
 by_cases hi : i < os.length
 · rw [decide_eq_true hi]
   simp only [cond_true, List.getD_eq_getElem?_getD, List.getElem?_append_left hi]
 · rw [decide_eq_false hi]
   simp only [cond_false, List.getD_eq_getElem?_getD, List.getElem?_append_right (Nat.le_of_not_lt hi)]
theorem v194 (xs : List Int) (hb : xs.length ≤ 4294967296) : E 194 [slIntS xs] [] = some (owIntS xs, []) := by
 refine evK rfl ((e194 ..).trans (bt' (by simp; omega) (bt' okT_eq ?_)))
 have e : (fun i : Nat => lstG [nI (xs.getD (i - 0) 0)]) = gsIntS xs := rfl
 rw [e, Nat.zero_add]
theorem v277 (g : Nat → Nat → AV) (n : Int) (h0 : 0 ≤ n) (h1 : n ≤ 4294967296) : E 277 [.nsl 1 g, nI n] [] = some (owIntS [], []) := by
 refine ev_out rfl ?_
 have e : cfg.outO 277 [.nsl 1 g, nI n] [] = (bif decide (0 ≤ n) && decide (n ≤ 4294967296) then some (owIntS [], ([] : List AV)) else none) := rfl
 rw [e, decide_eq_true h0, decide_eq_true h1]
 rfl
abbrev two (xs ys : List Int) : AV := .sl 2 1 (fun i => lstG [(mrg (decide (i = 0)) (slIntS xs) (mrg (decide (i - 1 = 0)) (slIntS ys) (.own 0 1 fun x => lstG [nI 0]))).sh])
theorem v257 (xs ys : List Int) (hx : xs.length ≤ 1048576) (hy : ys.length ≤ 1048576) : E 257 [two xs ys] [] = some (owIntS (xs ++ ys), []) := by
 have b2 : L 257 [] P257b2 (S257b2 xs ys (xs ++ ys)) = some (owIntS (xs ++ ys), []) := lstep ((h257b2 ..).trans (bt' okT_eq rfl))
 have b1 : L 257 [] P257b1 (S257b1 xs ys xs) = some (owIntS (xs ++ ys), []) := by
  refine lstep ((h257b1 ..).trans (bt' (by simp; omega) ?_))
  rw [appL]
  exact b2
 have b0 : L 257 [] P257b0 (S257b0 xs ys []) = some (owIntS (xs ++ ys), []) := by
  refine lstep ((h257b0 ..).trans (bt' (by simp; omega) ?_))
  rw [appL]
  exact b1
 have w1 : IntKind.i64.wrap (0 + zN xs.length) = zN xs.length := by rw [wrapS] <;> simp only [zN] <;> omega
 have w2 : IntKind.i64.wrap (zN xs.length + zN ys.length) = zN xs.length + zN ys.length := by rw [wrapS] <;> simp only [zN] <;> omega
 have a2 : L 257 [] P257a2 (S257a2 xs ys (zN xs.length + zN ys.length)) = some (owIntS (xs ++ ys), []) :=
  lstep ((h257a2 ..).trans (obind' (v277 _ _ (by simp only [zN]; omega) (by simp only [zN]; omega)) b0))
 have a1 : L 257 [] P257a1 (S257a1 xs ys (zN xs.length)) = some (owIntS (xs ++ ys), []) := by
  refine lstep ((h257a1 ..).trans ?_)
  rw [w2]
  exact bf' (decide_eq_false (by simp only [zN]; omega)) a2
 have a0 : L 257 [] P257a0 (S257a0 xs ys 0) = some (owIntS (xs ++ ys), []) := by
  refine lstep ((h257a0 ..).trans ?_)
  rw [w1]
  exact bf' (decide_eq_false (by simp only [zN]; omega)) a1
 exact evK rfl ((e257 ..).trans a0)
end Go.Fw
