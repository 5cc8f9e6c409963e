/- Permit's law: its value. -/
import Derived.Test.YtkhfkekbfjkpcaaH5
set_option linter.unusedVariables false
set_option linter.unusedSimpArgs false
namespace Go.Fw
open Go.Proofs
theorem v15g (cs : List Int) : E 15 [.gv cs] [] = some (.B (decide (1048576 < zN cs.length)), []) := ev1 0 rfl (by rw [e15g])
theorem l26 (xs : List Int) (a : Int) (hx : xs.length ≤ 4294967296) : ∀ (k i : Nat), i + k = xs.length →
    HH 26 [] (k + 1) [true, false, true] (hdS [(0, slI xs), (1, nI a), (5, nI (i : Int))] [] []) = some (nI (ixF (fun j => xs.getD j 0) a k i), []) := by
  intro k
  induction k with
  | zero => intro i hi; rw [hstep, h26, bf (by simp [zN]; omega)]; rfl
  | succ k ih =>
    intro i hi
    rw [hstep, h26, bt (by simp [zN]; omega), bt (by simp [zN]; omega), wrapN (by omega)]
    simp only [Int.toNat_natCast, ixF]
    by_cases h : xs.getD i 0 = a
    · rw [bt (decide_eq_true h), if_pos h]
    · rw [bf (decide_eq_false h), if_neg h]; exact ih (i + 1) (by omega)
theorem v26 (xs : List Int) (a : Int) (hx : xs.length ≤ 4294967296) : E 26 [slI xs, nI a] [] = some (nI (ixF (fun j => xs.getD j 0) a xs.length 0), []) := by
  refine ev1 (xs.length + 1) rfl ?_
  rw [e26]; exact l26 xs a hx xs.length 0 (by omega)
abbrev whos (n : NT) : List Int := n.g.map (·.1)
theorem l27 (n : NT) (hg : n.g.length ≤ 1073741824) : ∀ (k i : Nat) (os : List Int), i + k = n.g.length → os.length = i →
    HH 27 [] (k + 1) [true, true, false, true] (hdS [(1, .pb 65 0), (3, .rf 348160), (4, nI (i : Int))] [(348160, ⟨os.length, 1, gI os⟩)] [(65, 6, [.B n.p, slI n.l, slG n.g, nI n.o, nI n.s, nI n.t])]) = some (owI (os ++ (n.g.drop i).map (·.1)), []) := by
  intro k
  induction k with
  | zero =>
    intro i os hi ho
    rw [hstep, h27, bf (by simp [zN]; omega), List.drop_eq_nil_of_le (by omega), List.map_nil, List.append_nil]
    exact bt okT_eq
  | succ k ih =>
    intro i os hi ho
    rw [hstep, h27, bt (by simp [zN]; omega), bt (by simp [zN]; omega), bt (by simp; omega), wrapN (by omega)]
    simp only [Int.toNat_natCast]
    rw [row_app, drop_getD (d := ((0 : Int), false)) (show i < n.g.length by omega)]
    have := ih (i + 1) (os ++ [(n.g.getD i (0, false)).1]) (by omega) (by simp; omega)
    simp only [List.length_append, List.length_singleton, List.append_assoc, List.singleton_append] at this
    exact this
theorem v27 (n : NT) (hg : n.g.length ≤ 1073741824) : E 27 [slN n] [] = some (owI (whos n), []) := by
  refine ev1 (n.g.length + 1) rfl ?_
  rw [e27]
  have z1 : (fun i : Nat => lstG [AV.I IntKind.i64 0]) = gI [] := by funext i; unfold gI; simp
  rw [z1]
  exact l27 n hg n.g.length 0 [] (by omega) rfl
theorem ix_mem (xs : List Int) (a : Int) : 0 ≤ ixF (fun j => xs.getD j 0) a xs.length 0 ↔ a ∈ xs := by
  have h := ix_has (fun j => xs.getD j 0) a xs.length 0
  have h2 := hasF_iff (fun j => xs.getD j 0) a xs.length 0
  constructor
  · intro h0
    rw [decide_eq_true h0] at h
    by_cases hm : a ∈ xs
    · exact hm
    · exfalso
      have := h2.2 fun j _ hj e => hm (by rw [← e]; have hj' : j < xs.length := by omega
                                          simp [List.getD_eq_getElem?_getD, hj'])
      rw [← h] at this; simp at this
  · intro hm
    obtain ⟨j, hj, e⟩ := List.getElem_of_mem hm
    by_cases h0 : 0 ≤ ixF (fun j => xs.getD j 0) a xs.length 0
    · exact h0
    · exfalso
      rw [decide_eq_false h0] at h
      exact (h2.1 h.symm) j (by omega) (by omega) (by simp [List.getD_eq_getElem?_getD, hj, e])
theorem pigeon : ∀ (m : Nat) (lo : Int) (g : List Int), (∀ v : Int, lo < v → v ≤ lo + m → v ∈ g) → m ≤ g.length := by
  intro m
  induction m with
  | zero => intro lo g h; omega
  | succ m ih =>
    intro lo g h
    have hv : lo + ((m + 1 : Nat) : Int) ∈ g := h _ (by omega) (by omega)
    have := ih lo (g.erase (lo + ((m + 1 : Nat) : Int))) fun v h1 h2 => (List.mem_erase_of_ne (by omega)).2 (h v h1 (by omega))
    rw [List.length_erase_of_mem hv] at this
    have : 0 < g.length := List.length_pos_of_mem hv
    omega
abbrev st5 (n b : NT) (x y sp w1 w2 : Int) : St := hdS [(3, .pb 67 0), (11, nI x), (13, .pb 77 0), (14, nI y), (16, nI sp), (17, nI w1), (18, nI w2)] [(843776, ⟨n.l.length, 1, gI n.l⟩), (847872, ⟨n.g.length, 2, gG n.g⟩), (851968, ⟨b.l.length, 1, gI b.l⟩), (856064, ⟨b.g.length, 2, gG b.g⟩)] [(67, 6, [.B n.p, .rf 843776, .rf 847872, nI n.o, nI n.s, nI n.t]), (77, 6, [.B b.p, .rf 851968, .rf 856064, nI b.o, nI b.s, nI b.t])]
/-- The Notify after two tellings. -/
structure Two (n b : NT) : Prop where
  ok : OkN b
  p : b.p = true
  l : b.l = []
  g : b.g = n.g
  s : 1 ≤ b.s
theorem awN_go {b : NT} (h : OkN b) {w : Int} (h0 : 0 ≤ w) (h1 : w ≤ 63) (hl : b.l = []) (hg : w ∉ whos b) (ht : b.t ≠ 1000000000) :
    awN b w = if b.p = true then (⟨false, b.l, b.g, b.o, b.s, IntKind.i64.wrap (b.t + 1)⟩, 0) else (⟨b.p, b.l ++ [w], b.g, b.o, b.s, b.t⟩, 4) := by
  unfold awN
  have e1 : inR w 0 63 = true := by unfold inR; simp; omega
  have e2 : ¬ hasF (fun j => b.l.getD j 0) w b.l.length 0 = true := by rw [hl]; simp [hasF]
  have e3 : ¬ 0 ≤ ixF (whoF b.g) w b.g.length 0 := by
    have := mt (ix_mem (whos b) w).1 hg
    have e : ixF (whoF b.g) w b.g.length 0 = ixF (fun j => (whos b).getD j 0) w (whos b).length 0 := by
      have : whoF b.g = fun j => (whos b).getD j 0 := by
        funext j
        unfold whoF
        simp only [List.getD_eq_getElem?_getD, List.getElem?_map]
        cases b.g[j]? <;> rfl
      rw [this]; simp
    rw [e]; exact this
  rw [if_pos ((okSp_iff b).2 h), if_pos e1, if_neg e2, if_neg e3, if_neg ht]
  split
  · rfl
  · rw [if_neg (by rw [hl]; simp)]
theorem l5b (n b : NT) (hn : n.g.length ≤ 32) (h : Two n b) (w1 : Int) (h1 : 0 ≤ w1) (h1' : w1 ≤ 60) (hw1 : w1 ∉ whos n) (F : Nat) : ∀ (k : Nat) (w2 : Int), w2 + 34 = 61 + k → w2 ≤ 61 → (∀ v, w2 < v → v ≤ 61 → v ∈ w1 :: whos n) →
    HH 5 [] (k + F + 1) [true, true, true, true, true, true, true, true, true, true, false] (st5 n b (-1) (-1) b.s w1 w2) = some (.B true, []) := by
  intro k
  induction k with
  | zero =>
    intro w2 e hle hv
    have := pigeon 34 w2 (w1 :: whos n) (fun v a c => hv v a (by omega))
    simp at this
    omega
  | succ k ih =>
    intro w2 e hle hv
    have hw : IntKind.i64.wrap (w2 - 1) = w2 - 1 := wrapS (by omega) (by omega)
    have q27 := v27 n (by omega)
    have q26 := v26 (whos n) w2 (by simp; omega)
    have hlen : w2 ∈ w1 :: whos n → HH 5 [] (k + F + 1) [true, true, true, true, true, true, true, true, true, true, false] (st5 n b (-1) (-1) b.s w1 (w2 - 1)) = some (.B true, []) := fun hm =>
      ih (w2 - 1) (by omega) (by omega) fun v a c => by
        by_cases ev : v = w2
        · rw [ev]; exact hm
        · exact hv v (by omega) c
    rw [show k + 1 + F + 1 = (k + F + 1) + 1 by omega, hstep, h5b, hw]
    by_cases c1 : w2 = w1
    · exact bt' (decide_eq_true c1) (hlen (by rw [c1]; exact List.mem_cons_self ..))
    refine bf' (decide_eq_false c1) (obind' q27 (obind' q26 ?_))
    by_cases c2 : w2 ∈ whos n
    · exact bt' (decide_eq_true ((ix_mem _ _).2 c2)) (hlen (List.mem_cons_of_mem _ c2))
    refine bf' (decide_eq_false (mt (ix_mem _ _).1 c2)) ?_
    have hb := h.ok
    have hle1 := hb.lle
    have hge1 := hb.gle
    have hs := hb.sum
    rw [if_pos h.p] at hs
    have ho := hb.o
    have ht := hb.t
    have h3 := h.s
    have hones : 0 ≤ onesG b.g := (onesG_pos b.g).1
    have hgw : ∀ w, w ∉ whos n → w ∉ whos b := fun w hw => by unfold whos; rw [h.g]; exact hw
    have a1 := awN_go hb h1 (by omega) h.l (hgw _ hw1) (by omega)
    rw [if_pos h.p] at a1
    have okd := (aw_ok hb w1).1
    rw [a1] at okd
    have wt : IntKind.i64.wrap (b.t + 1) = b.t + 1 := wrapS (by omega) (by omega)
    have a2 := awN_go okd (w := w2) (by omega) (by omega) h.l (hgw _ c2) (by show IntKind.i64.wrap (b.t + 1) ≠ _; rw [wt]; omega)
    rw [if_neg (by simp)] at a2
    have q1 := v23 b w1 (by omega) (by omega)
    rw [a1] at q1
    have q2 := v23 ⟨false, b.l, b.g, b.o, b.s, IntKind.i64.wrap (b.t + 1)⟩ w2 (by show b.l.length ≤ _; omega) (by show b.g.length ≤ _; omega)
    rw [a2] at q2
    refine obind' q1 (obind' q2 (bt' rfl (bt' rfl (bt' h.p (bt' (decide_eq_true rfl) (bt' rfl (bt' rfl (bt' rfl ?_))))))))
    have q18 := v18 [w2] (by simp)
    have e1 : b.l ++ [w2] = [w2] := by rw [h.l]; rfl
    have e2 : (fun i => lstG [AV.I .i64 (bif decide (i = 0) then w2 else 0)]) = gI [w2] := by
      funext i
      unfold gI
      cases i with
      | zero => rfl
      | succ i => simp
    show (Option.bind (E 18 [.sl (b.l ++ [w2]).length 1 (gI (b.l ++ [w2])), .sl 1 1 (fun i => lstG [AV.I .i64 (bif decide (i = 0) then w2 else 0)])] []) fun r13 => some (AV.B (asB r13.fst), [])) = _
    rw [e1, e2]
    exact obind' q18 rfl
theorem l5a (n b : NT) (hn : n.g.length ≤ 32) (h : Two n b) : ∀ (k : Nat) (w1 : Int), w1 + 33 = 60 + k → w1 ≤ 60 → (∀ v, w1 < v → v ≤ 60 → v ∈ whos n) →
    HH 5 [] (k + 40) [true, true, true, true, true, true, true, true, true, false] (st5 n b (-1) (-1) b.s w1 61) = some (.B true, []) := by
  intro k
  induction k with
  | zero =>
    intro w1 e hle hv
    have := pigeon 33 w1 (whos n) (fun v a c => hv v a (by omega))
    simp at this
    omega
  | succ k ih =>
    intro w1 e hle hv
    have hw : IntKind.i64.wrap (w1 - 1) = w1 - 1 := wrapS (by omega) (by omega)
    have q27 := v27 n (by omega)
    have q26 := v26 (whos n) w1 (by simp; omega)
    rw [show k + 1 + 40 = (k + 40) + 1 by omega, hstep, h5, hw]
    refine obind' q27 (obind' q26 ?_)
    by_cases c : w1 ∈ whos n
    · refine bt' (decide_eq_true ((ix_mem _ _).2 c)) ?_
      refine ih (w1 - 1) (by omega) (by omega) fun v a d => ?_
      by_cases ev : v = w1
      · rw [ev]; exact c
      · exact hv v (by omega) d
    · refine bf' (decide_eq_false (mt (ix_mem _ _).1 c)) ?_
      obtain ⟨F, hF⟩ : ∃ F, k + 40 = (34 + F) + 1 := ⟨k + 5, by omega⟩
      rw [hF]
      exact l5b n b hn h w1 (by omega) hle c F 34 61 (by omega) (by omega) (fun v a d => by omega)
theorem two_tell {n : NT} (h : OkN n) (hl : n.l = []) (ho : n.o ≤ 999999998) : ∃ a b : NT, tellN n = (a, -1, 0) ∧ tellN a = (b, -1, 0) ∧ a.l.length ≤ 32 ∧ a.g.length ≤ 32 ∧ Two n b ∧ b.s = (if n.p = true then n.s + 2 else n.s + 1) := by
  have ho0 := h.o
  have hs0 := h.s
  obtain ⟨e1, k1⟩ := tell_ok h (by omega) (fun x => absurd hl x)
  have g1 : giveN (oneUp n) = (⟨true, [], n.g, IntKind.i64.wrap (n.o + 1), if n.p = true then IntKind.i64.wrap (n.s + 1) else n.s, n.t⟩, -1) := by
    unfold giveN
    have : (oneUp n).l = [] := hl
    rw [this]; rfl
  rw [g1] at e1 k1
  have wo : IntKind.i64.wrap (n.o + 1) = n.o + 1 := wrapS (by omega) (by omega)
  have ws : IntKind.i64.wrap (n.s + 1) = n.s + 1 := wrapS (by omega) (by omega)
  rw [wo, ws] at e1 k1
  obtain ⟨e2, k2⟩ := tell_ok k1 (by show n.o + 1 < _; omega) (fun x => absurd rfl x)
  have g2 : giveN (oneUp ⟨true, [], n.g, n.o + 1, if n.p = true then n.s + 1 else n.s, n.t⟩) = (⟨true, [], n.g, IntKind.i64.wrap (n.o + 1 + 1), IntKind.i64.wrap ((if n.p = true then n.s + 1 else n.s) + 1), n.t⟩, -1) := rfl
  rw [g2] at e2 k2
  have ws2 : IntKind.i64.wrap ((if n.p = true then n.s + 1 else n.s) + 1) = (if n.p = true then n.s + 2 else n.s + 1) := by
    split <;> rw [wrapS (by omega) (by omega)] <;> omega
  rw [ws2] at e2 k2
  exact ⟨_, _, e1, e2, Nat.zero_le _, h.gle, ⟨k2, rfl, rfl, rfl, by show 1 ≤ (if n.p = true then n.s + 2 else n.s + 1); split <;> omega⟩, rfl⟩
/-- Permit's law. -/
theorem v5 (cs : List Int) : E 5 [.gv cs] [] = some (.B true, []) := by
  by_cases cb : 1048576 < zN cs.length
  · refine ev1 0 rfl ?_
    rw [e5]
    exact obind' (v15g cs) (bt' (decide_eq_true cb) rfl)
  have hc : cs.length ≤ 4611686018427387904 := by simp only [zN] at cb; omega
  obtain ⟨n, hn, q25⟩ := d25 cs hc
  unfold len2 at hn
  have q24 := v24 n (by omega) (by omega)
  have q11 := v11 n (by omega) (by omega)
  have q9 := v9 n (by omega) (by omega)
  have fin : ∀ r : Int, (some (AV.B (decide (r = r)), ([] : List AV)) : Option (AV × List AV)) = some (.B true, []) := fun r => by rw [decide_eq_true rfl]
  by_cases ok : okSp n = true
  case neg =>
    have ok' : okSp n = false := by cases h : okSp n <;> simp_all
    rw [ok'] at q24
    refine ev1 0 rfl ?_
    rw [e5]
    exact obind' (v15g cs) (bf' (decide_eq_false cb) (obind' q25 (obind' q24 (bt' rfl (obind' q11 (obind' q9 (fin _)))))))
  rw [ok] at q24
  have hok := (okSp_iff n).1 ok
  by_cases cl : 0 < n.l.length
  · refine ev1 0 rfl ?_
    rw [e5]
    exact obind' (v15g cs) (bf' (decide_eq_false cb) (obind' q25 (obind' q24 (bf' rfl (bt' (decide_eq_true (by show (0 : Int) < zN n.l.length; simp only [zN]; omega)) (obind' q11 (obind' q9 (fin _))))))))
  have cl' : ¬ (0 : Int) < zN n.l.length := by simp only [zN]; omega
  have hl : n.l = [] := List.eq_nil_of_length_eq_zero (by omega)
  by_cases co : 999999998 < n.o
  · refine ev1 0 rfl ?_
    rw [e5]
    exact obind' (v15g cs) (bf' (decide_eq_false cb) (obind' q25 (obind' q24 (bf' rfl (bf' (decide_eq_false cl') (bt' (decide_eq_true co) (obind' q11 (obind' q9 (fin _)))))))))
  obtain ⟨a, b, e1, e2, ha1, ha2, h2, hs⟩ := two_tell hok hl (by omega)
  have q11b := v11 a (by omega) (by omega)
  rw [e1] at q11
  rw [e2] at q11b
  have hs0 := hok.s
  have big := l5a n b hok.gle h2 33 60 (by omega) (by omega) (fun v x y => by omega)
  refine ev1 73 rfl ?_
  rw [e5]
  refine obind' (v15g cs) (bf' (decide_eq_false cb) (obind' q25 (obind' q24 (bf' rfl (bf' (decide_eq_false cl') (bf' (decide_eq_false co) (obind' q11 (obind' q11b ?_))))))))
  by_cases hp : n.p = true
  · rw [if_pos hp] at hs
    have w : IntKind.i64.wrap (IntKind.i64.wrap (n.s + 1) + 1) = b.s := by rw [hs, wrapS (x := n.s + 1) (by omega) (by omega), wrapS (by omega) (by omega)]; omega
    refine bt' hp ?_
    show HH 5 [] 73 _ (st5 n b (-1) (-1) (IntKind.i64.wrap (IntKind.i64.wrap (n.s + 1) + 1)) 60 61) = _
    rw [w]; exact big
  · rw [if_neg hp] at hs
    have w : IntKind.i64.wrap (n.s + 1) = b.s := by rw [hs, wrapS (by omega) (by omega)]
    refine bf' (c := n.p) (eq_false_of_ne_true hp) ?_
    show HH 5 [] 73 _ (st5 n b (-1) (-1) (IntKind.i64.wrap (n.s + 1)) 60 61) = _
    rw [w]; exact big
end Go.Fw
