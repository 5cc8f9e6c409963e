/- Values: the first word of a call, cut off and looked up. -/
import Derived.Test.YtailkfoodjgipaaGreatDoorKw
set_option linter.unusedVariables false
set_option linter.unusedSimpArgs false
namespace Go.Fw
open Go.Proofs
theorem l70 (s : ByteArray) (hs : s.size ≤ 1048576) : ∀ (k i : Nat), i + k = s.size →
    HH 69 [] (k + 1) [true, false, true] (hdS [(0, .S s), (4, nI (i : Int))] [] []) = some (.tup 2 (lstG [.S ⟨((dl s).take i ++ ((dl s).drop i).takeWhile (· != 32)).toArray⟩, .S ⟨((((dl s).drop i).dropWhile (· != 32)).drop 1).toArray⟩]), []) := by
  intro k
  induction k with
  | zero =>
    intro i hi
    have e0 : (dl s).drop i = [] := List.drop_eq_nil_of_le (by rw [dl_len]; omega)
    have e1 : (dl s).take i = dl s := List.take_of_length_le (by rw [dl_len]; omega)
    rw [hstep, h70, bf (by simp [zN]; omega), e0, e1, List.takeWhile_nil, List.append_nil]
    rfl
  | succ k ih =>
    intro i hi
    have hi2 : i < s.size := by omega
    obtain ⟨x, ed, eb⟩ := byN_drop hi2
    rw [hstep, h70, bt (by simp [zN]; omega), bt (bnd hi2), Int.toNat_natCast, eb]
    by_cases h : x = 32
    · have d1 : (decide (0 ≤ (i : Int)) && decide ((i : Int) ≤ zN s.size)) = true := by simp [zN]; omega
      have d2 : (decide (0 ≤ IntKind.i64.wrap ((i : Int) + 1)) && decide (IntKind.i64.wrap ((i : Int) + 1) ≤ zN s.size) && decide (zN s.size ≤ zN s.size)) = true := by rw [wrapN (by omega)]; simp [zN]; omega
      refine bt' (decide_eq_true (by rw [h]; rfl)) (bt' d1 (bt' d2 ?_))
      rw [wrapN (by omega), Int.toNat_natCast, show (zN s.size).toNat = s.size by simp [zN], ed, h]
      have a1 : s.extract 0 i = ⟨((dl s).take i ++ (32 :: (dl s).drop (i + 1)).takeWhile (· != 32)).toArray⟩ := by
        refine ba_ext ?_
        rw [ext_data]
        simp [dl]
      have a2 : s.extract (i + 1) s.size = ⟨(((32 :: (dl s).drop (i + 1)).dropWhile (· != 32)).drop 1).toArray⟩ := by
        refine ba_ext ?_
        rw [ext_data, List.take_of_length_le (by rw [List.length_drop]; exact Nat.le_of_eq rfl)]
        simp [dl]
      rw [← a1, ← a2]
    · have hx : ¬ ((x.toNat : Int) = 32) := fun e => h (UInt8.toNat_inj.1 (by show x.toNat = 32; omega))
      refine bf' (decide_eq_false hx) ?_
      rw [wrapN (by omega), ih (i + 1) (by omega), ed]
      have e3 : (dl s).take (i + 1) = (dl s).take i ++ [x] := by
        rw [List.take_add, ed]; rfl
      rw [e3, List.takeWhile_cons_of_pos (p := (· != 32)) (by simpa using h), List.dropWhile_cons_of_pos (p := (· != 32)) (by simpa using h)]
      simp
theorem v70 (s : ByteArray) (hs : s.size ≤ 1048576) : E 69 [.S s] [] = some (.tup 2 (lstG [.S (cut1 32 s), .S (cut2 32 s)]), []) := by
  refine ev1 (s.size + 1) rfl ((e70 ..).trans ?_)
  have := l70 s hs s.size 0 (by omega)
  rw [List.take_zero, List.drop_zero, List.nil_append] at this
  exact this
def ixI : List (List UInt8) → List UInt8 → Nat → Int
  | [], _, _ => -1
  | x :: r, w, i => if w = x then i else ixI r w (i + 1)
theorem l75 (ws : List ByteArray) (s : ByteArray) (hl : ws.length ≤ 4294967296) : ∀ (k i : Nat), i + k = ws.length →
    HH 63 [] (k + 1) [true, false, true] (hdS [(0, slStrS ws), (1, .S s), (7, nI (zN ws.length)), (8, nI (i : Int))] [] []) = some (nI (ixI ((ws.drop i).map dl) (dl s) i), []) := by
  intro k
  induction k with
  | zero =>
    intro i hi
    rw [hstep, h75, bf (by simp [zN]; omega), List.drop_eq_nil_of_le (by omega)]
    rfl
  | succ k ih =>
    intro i hi
    have hi2 : i < ws.length := by omega
    rw [hstep, h75, bt (by simp [zN]; omega), bt (bndL hi2), Int.toNat_natCast, drop_getD (d := ByteArray.empty) hi2, List.map_cons, ixI]
    by_cases h : s = ws.getD i ByteArray.empty
    · rw [if_pos (by rw [h])]
      exact bt' (beqT h) rfl
    · rw [if_neg (fun e => h (dl_inj e))]
      refine bf' (beqF h) ?_
      rw [wrapN (by omega)]
      exact ih (i + 1) (by omega)
theorem v75 (ws : List ByteArray) (s : ByteArray) (hl : ws.length ≤ 4294967296) : E 63 [slStrS ws, .S s] [] = some (nI (ixI (ws.map dl) (dl s) 0), []) :=
  ev1 (ws.length + 1) rfl ((e75 ..).trans (l75 ws s hl ws.length 0 (by omega)))
/-- The words of the kinds of calls, as bytes. -/
def WLs : List (List UInt8) := wordsL.map dl
def KLs : List (List UInt8) := kindsL.map dl
def w19 : List ByteArray := (wordsL.set 9 (bs [112, 117, 116])).drop 1
def opI (l : List UInt8) : Int × Int :=
  if l = [97, 100, 100] then (9, 2) else if l = [106, 111, 105, 110] then (9, 3) else if l = [109, 111, 115, 116] then (9, 4) else if l = [112, 117, 116] then (9, 1) else (ixI (w19.map dl) l 0 + 1, 0)
theorem ixI_rng (xs : List (List UInt8)) (l : List UInt8) : ∀ i : Nat, -1 ≤ ixI xs l i ∧ ixI xs l i < i + xs.length := by
  induction xs with
  | nil => intro i; simp [ixI]; omega
  | cons x r ih =>
    intro i
    rw [ixI]
    split
    · simp only [List.length_cons]; omega
    · have := ih (i + 1)
      simp only [List.length_cons]; omega
theorem opI_rng (l : List UInt8) : 0 ≤ (opI l).1 ∧ (opI l).1 ≤ 19 ∧ 0 ≤ (opI l).2 ∧ (opI l).2 ≤ 4 := by
  unfold opI
  have := ixI_rng (w19.map dl) l 0
  have h19 : (w19.map dl).length = 19 := rfl
  rw [h19] at this
  repeat' split
  all_goals (simp only; omega)
def kd (d : VCall) : Int := if d.Op = 9 then d.B else 0
theorem opI_w : ∀ o, o < 20 → 1 ≤ o → o ≠ 9 → opI (WLs.getD o []) = ((o : Int), 0) := by decide
theorem opI_k : ∀ b, b < 5 → 1 ≤ b → opI (KLs.getD b []) = (9, (b : Int)) := by decide
theorem word1_dl {d : VCall} (h : callOk d = true) : (d.Op = 9 ∧ ∃ b : Nat, 1 ≤ b ∧ b < 5 ∧ d.B = b ∧ dl (word1 d) = KLs.getD b []) ∨ (d.Op ≠ 9 ∧ ∃ o : Nat, 1 ≤ o ∧ o < 20 ∧ o ≠ 9 ∧ d.Op = o ∧ dl (word1 d) = WLs.getD o []) := by
  have ho := callOk_op h
  have hm : ∀ (L : List ByteArray) (n : Nat), dl (L.getD n ByteArray.empty) = (L.map dl).getD n [] := fun L n => by
    simp only [List.getD_eq_getElem?_getD, List.getElem?_map]
    cases L[n]? <;> rfl
  by_cases c : d.Op = 9
  · have hb := (okBody9 ho.2.2.2 c).1
    refine .inl ⟨c, d.B.toNat, by omega, by omega, by omega, ?_⟩
    unfold word1
    rw [if_pos c, hm]; rfl
  · refine .inr ⟨c, d.Op.toNat, by omega, by omega, by omega, by omega, ?_⟩
    unfold word1
    rw [if_neg c, hm]; rfl
theorem v43 (w : ByteArray) : E 33 [.S w] [] = some (.tup 2 (lstG [nI (opI (dl w)).1, nI (opI (dl w)).2]), []) := by
  refine ev1 0 rfl ((e43 ..).trans ?_)
  have dec : ∀ L : List UInt8, (w.toList == (bs L).toList) = decide (dl w = L) := fun L => by
    by_cases h : dl w = L
    · rw [decide_eq_true h]; exact beqT (dl_inj h)
    · rw [decide_eq_false h]; exact beqF (fun e => h (by rw [e]))
  unfold opI
  by_cases h1 : dl w = [97, 100, 100]
  · rw [if_pos h1]; exact bt' ((dec _).trans (decide_eq_true h1)) rfl
  rw [if_neg h1]
  refine bf' ((dec _).trans (decide_eq_false h1)) ?_
  by_cases h2 : dl w = [106, 111, 105, 110]
  · rw [if_pos h2]; exact bt' ((dec _).trans (decide_eq_true h2)) rfl
  rw [if_neg h2]
  refine bf' ((dec _).trans (decide_eq_false h2)) ?_
  by_cases h3 : dl w = [109, 111, 115, 116]
  · rw [if_pos h3]; exact bt' ((dec _).trans (decide_eq_true h3)) rfl
  rw [if_neg h3]
  refine bf' ((dec _).trans (decide_eq_false h3)) ?_
  by_cases h4 : dl w = [112, 117, 116]
  · rw [if_pos h4]; exact bt' ((dec _).trans (decide_eq_true h4)) rfl
  rw [if_neg h4]
  refine bf' ((dec _).trans (decide_eq_false h4)) ?_
  refine obind' ((congrArg (fun g : Nat → Nat → AV => E 63 [AV.sl 19 1 g, .S w] []) ?_).trans (v75 w19 w (by decide))) ?_
  · funext i
    match i with
    | 0 => rfl
    | 1 => rfl
    | 2 => rfl
    | 3 => rfl
    | 4 => rfl
    | 5 => rfl
    | 6 => rfl
    | 7 => rfl
    | 8 => rfl
    | 9 => rfl
    | 10 => rfl
    | 11 => rfl
    | 12 => rfl
    | 13 => rfl
    | 14 => rfl
    | 15 => rfl
    | 16 => rfl
    | 17 => rfl
    | 18 => rfl
    | n + 19 =>
      have e1 : ∀ a b : Nat, a ≠ b → decide (a = b) = false := fun a b h => decide_eq_false h
      have e2 : gsStrS w19 (n + 19) = lstG [.S ByteArray.empty] := by
        unfold gsStrS
        rw [List.getD_eq_getElem?_getD, List.getElem?_eq_none (by show w19.length ≤ n + 19; have : w19.length = 19 := rfl; omega)]
        rfl
      rw [e2]
      simp
  · have := ixI_rng (w19.map dl) (dl w) 0
    have h19 : (w19.map dl).length = 19 := rfl
    rw [h19] at this
    show some (AV.tup 2 (lstG [nI (IntKind.i64.wrap (ixI (w19.map dl) (dl w) 0 + 1)), nI 0]), []) = _
    rw [wrapS (by omega) (by omega)]
theorem opI_ok {d : VCall} (h : callOk d = true) {w : ByteArray} (e : w = word1 d) : (opI (dl w)).1 = d.Op ∧ (opI (dl w)).2 = kd d := by
  rw [e]
  unfold kd
  rcases word1_dl h with ⟨c, b, h1, h2, h3, h4⟩ | ⟨c, o, h1, h2, h3, h4, h5⟩
  · rw [h4, opI_k b h2 h1, if_pos c]; exact ⟨c.symm, h3.symm⟩
  · rw [h5, opI_w o h2 h1 h3, if_neg c]; exact ⟨h4.symm, rfl⟩
/-- The reference's way: the last word of its lists that is alike. -/
def fA (l : List UInt8) : Nat → Nat → Int → Int
  | 0, _, op => op
  | k + 1, i, op => fA l k (i + 1) (if WLs.getD i [] = l then i else op)
def fB (l : List UInt8) : Nat → Nat → Int × Int → Int × Int
  | 0, _, p => p
  | k + 1, i, p => fB l k (i + 1) (if KLs.getD i [] = l then (9, (i : Int)) else p)
def opS (l : List UInt8) : Int × Int := fB l 4 1 (fA l 19 1 0, 0)
theorem opS_w : ∀ o, o < 20 → 1 ≤ o → o ≠ 9 → opS (WLs.getD o []) = ((o : Int), 0) := by decide
theorem opS_k : ∀ b, b < 5 → 1 ≤ b → opS (KLs.getD b []) = (9, (b : Int)) := by decide
theorem opS_ok {d : VCall} (h : callOk d = true) {w : ByteArray} (e : w = word1 d) : (opS (dl w)).1 = d.Op ∧ (opS (dl w)).2 = kd d := by
  rw [e]
  unfold kd
  rcases word1_dl h with ⟨c, b, h1, h2, h3, h4⟩ | ⟨c, o, h1, h2, h3, h4, h5⟩
  · rw [h4, opS_k b h2 h1, if_pos c]; exact ⟨c.symm, h3.symm⟩
  · rw [h5, opS_w o h2 h1 h3, if_neg c]; exact ⟨h4.symm, rfl⟩
theorem fA_rng (l : List UInt8) : ∀ (k i : Nat) (op : Int), i + k = 20 → 0 ≤ op ∧ op ≤ 19 → 0 ≤ fA l k i op ∧ fA l k i op ≤ 19 := by
  intro k
  induction k with
  | zero => intro i op hi h; exact h
  | succ k ih => intro i op hi h; rw [fA]; exact ih (i + 1) _ (by omega) (by split <;> omega)
theorem fB_rng (l : List UInt8) : ∀ (k i : Nat) (p : Int × Int), i + k = 5 → (0 ≤ p.1 ∧ p.1 ≤ 19 ∧ 0 ≤ p.2 ∧ p.2 ≤ 4) → 0 ≤ (fB l k i p).1 ∧ (fB l k i p).1 ≤ 19 ∧ 0 ≤ (fB l k i p).2 ∧ (fB l k i p).2 ≤ 4 := by
  intro k
  induction k with
  | zero => intro i op hi h; exact h
  | succ k ih => intro i op hi h; rw [fB]; exact ih (i + 1) _ (by omega) (by split; (simp only; omega); exact h)
theorem opS_rng (l : List UInt8) : 0 ≤ (opS l).1 ∧ (opS l).1 ≤ 19 ∧ 0 ≤ (opS l).2 ∧ (opS l).2 ≤ 4 :=
  fB_rng l 4 1 _ (by omega) ⟨(fA_rng l 19 1 0 (by omega) (by omega)).1, (fA_rng l 19 1 0 (by omega) (by omega)).2, by simp, by simp⟩
theorem getD_map_dl (L : List ByteArray) (n : Nat) : dl (L.getD n ByteArray.empty) = (L.map dl).getD n [] := by
  simp only [List.getD_eq_getElem?_getD, List.getElem?_map]
  cases L[n]? <;> rfl
theorem v28w : E 26 [] [] = some (owStrS wordsL, []) := by
  refine ev1 0 rfl ((e28 ..).trans (bt' okT_eq ?_))
  refine congrArg (fun g : Nat → Nat → AV => some (AV.own 20 1 g, ([] : List AV))) ?_
  funext i
  match i with
  | 0 => rfl
  | 1 => rfl
  | 2 => rfl
  | 3 => rfl
  | 4 => rfl
  | 5 => rfl
  | 6 => rfl
  | 7 => rfl
  | 8 => rfl
  | 9 => rfl
  | 10 => rfl
  | 11 => rfl
  | 12 => rfl
  | 13 => rfl
  | 14 => rfl
  | 15 => rfl
  | 16 => rfl
  | 17 => rfl
  | 18 => rfl
  | 19 => rfl
  | n + 20 =>
    have e2 : goStrS wordsL (n + 20) = lstG [.S ByteArray.empty] := by
      unfold goStrS gsStrS
      rw [List.getD_eq_getElem?_getD, List.getElem?_eq_none (by show wordsL.length ≤ n + 20; have : wordsL.length = 20 := rfl; omega)]
      rfl
    rw [e2]
    simp
theorem v29w : E 27 [] [] = some (owStrS kindsL, []) := by
  refine ev1 0 rfl ((e29 ..).trans (bt' okT_eq ?_))
  refine congrArg (fun g : Nat → Nat → AV => some (AV.own 5 1 g, ([] : List AV))) ?_
  funext i
  match i with
  | 0 => rfl
  | 1 => rfl
  | 2 => rfl
  | 3 => rfl
  | 4 => rfl
  | n + 5 =>
    have e2 : goStrS kindsL (n + 5) = lstG [.S ByteArray.empty] := by
      unfold goStrS gsStrS
      rw [List.getD_eq_getElem?_getD, List.getElem?_eq_none (by show kindsL.length ≤ n + 5; have : kindsL.length = 5 := rfl; omega)]
      rfl
    rw [e2]
    simp
end Go.Fw
