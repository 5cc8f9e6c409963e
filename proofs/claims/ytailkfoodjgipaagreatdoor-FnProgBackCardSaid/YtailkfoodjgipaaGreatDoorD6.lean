/- Values of draws: plans, lists of calls, lines. -/
import Derived.Test.YtailkfoodjgipaaGreatDoorD5
set_option linter.unusedVariables false
set_option linter.unusedSimpArgs false
namespace Go.Fw
open Go.Proofs
theorem w42 {cs : List Int} (hc : codeOk cs) {i h : Int} (hi : 0 ≤ i) {p0 p2 p3 p4 p5 p6 p7 : Nat} {q0 q2 q3 q4 q5 q6 q7 : Nat → Nat → AV} {p1 p8 : Int} :
    Dw cs CallP (E 42 [.pb 0 0, .ag 9 (lstG [.sl p0 1 q0, nI p1, .sl p2 1 q2, .sl p3 1 q3, .sl p4 3 q4, .sl p5 1 q5, .sl p6 1 q6, .sl p7 3 q7, nI p8])] [cur cs i h]) := by
  have qk : ∀ k, k < 7 → 1 ≤ (bif decide (k = 0) then 14 else bif decide (k - 1 = 0) then 15 else bif decide (k - 1 - 1 = 0) then 13 else bif decide (k - 1 - 1 - 1 = 0) then 3 else bif decide (k - 1 - 1 - 1 - 1 = 0) then 1 else bif decide (k - 1 - 1 - 1 - 1 - 1 = 0) then 11 else bif decide (k - 1 - 1 - 1 - 1 - 1 - 1 = 0) then 9 else (0 : Int)) ∧ (bif decide (k = 0) then 14 else bif decide (k - 1 = 0) then 15 else bif decide (k - 1 - 1 = 0) then 13 else bif decide (k - 1 - 1 - 1 = 0) then 3 else bif decide (k - 1 - 1 - 1 - 1 = 0) then 1 else bif decide (k - 1 - 1 - 1 - 1 - 1 = 0) then 11 else bif decide (k - 1 - 1 - 1 - 1 - 1 - 1 = 0) then 9 else (0 : Int)) ≤ 19 := by decide
  have m64 : i64R (-1) := ⟨by omega, by omega⟩
  refine Dw.ev 1 rfl ?_
  rw [de42]
  refine Dw.bind (w41 hc hi) ?_
  rintro _ i1 h1 p1 ⟨x, rfl, xa, xb, xc⟩
  have xc := xc (by omega)
  refine Dw.bind (w20 hc p1) ?_
  rintro _ i2 h2 p2 ⟨b, rfl⟩
  refine Dw.bif (fun _ => ?_) (fun _ => ?_)
  · refine Dw.bind (w21k hc p2 (by decide)) ?_
    rintro _ i3 h3 p3 ⟨k, hk, rfl⟩
    have HO := qk k hk
    refine Dw.bindE (v50 _) ?_
    refine Dw.bif (fun _ => ?_) (fun _ => u42 hc p3 _ _ _ _ _ _ _ _ _ _ _ _ _ _ _ _ _ _ _ _ _ m64 HO 0)
    refine Dw.bif (fun _ => ?_) (fun _ => u42 hc p3 _ _ _ _ _ _ _ _ _ _ _ _ _ _ _ _ _ _ _ _ _ m64 HO 0)
    refine Dw.bind (w20 hc p3) ?_
    rintro _ i4 h4 p4 ⟨b, rfl⟩
    refine Dw.bif (fun _ => ?_) (fun _ => u42 hc p4 _ _ _ _ _ _ _ _ _ _ _ _ _ _ _ _ _ _ _ _ _ m64 HO 0)
    refine Dw.bind (w41 hc p4) ?_
    rintro _ i5 h5 p5 ⟨y, rfl, a, b, _⟩
    exact u42 hc p5 _ _ _ _ _ _ _ _ _ _ _ _ _ _ _ _ _ _ _ _ _ (n64 a b) HO 0
  · have HO : 1 ≤ IntKind.i64.wrap (1 + x) ∧ IntKind.i64.wrap (1 + x) ≤ 19 := by rw [wrapS (by omega) (by omega)]; omega
    refine Dw.bindE (v50 _) ?_
    refine Dw.bif (fun _ => ?_) (fun _ => u42 hc p2 _ _ _ _ _ _ _ _ _ _ _ _ _ _ _ _ _ _ _ _ _ m64 HO 0)
    refine Dw.bif (fun _ => ?_) (fun _ => u42 hc p2 _ _ _ _ _ _ _ _ _ _ _ _ _ _ _ _ _ _ _ _ _ m64 HO 0)
    refine Dw.bind (w20 hc p2) ?_
    rintro _ i4 h4 p4 ⟨b, rfl⟩
    refine Dw.bif (fun _ => ?_) (fun _ => u42 hc p4 _ _ _ _ _ _ _ _ _ _ _ _ _ _ _ _ _ _ _ _ _ m64 HO 0)
    refine Dw.bind (w41 hc p4) ?_
    rintro _ i5 h5 p5 ⟨y, rfl, a, b, _⟩
    exact u42 hc p5 _ _ _ _ _ _ _ _ _ _ _ _ _ _ _ _ _ _ _ _ _ (n64 a b) HO 0
abbrev AnyP (v : AV) : Prop := True
theorem gg {n : Nat} (h : n ≤ 100) : (decide (n + 1 ≤ 4294967296) && true && true && true && true) = true := by simp; omega
theorem u40e {cs : List Int} (hc : codeOk cs) {i h : Int} (hi : 0 ≤ i) {i0 h0 p1 p8 : Int} {n0 : Nat} {x0 : Nat → Int} {n2 : Nat} {x2 : Nat → Bool} {n3 : Nat} {x3 : Nat → Int} {n4 : Nat} {x4 y4 : Nat → Int} {z4 : Nat → ByteArray} {n5 : Nat} {x5 : Nat → ByteArray} {n6 : Nat} {x6 : Nat → Int} (k : Nat) :
    Dw cs AnyP (HH 40 [cur cs i0 h0] (k + 1) P40e (S40e cs i h i0 h0 p1 p8 n0 x0 n2 x2 n3 x3 n4 x4 y4 z4 n5 x5 n6 x6)) := by
  rw [hstep, dh40e]
  simp only [and2_self, okT_eq, okX_eq, cond_true]
  refine Dw.bind (w20 hc hi) ?_
  rintro _ i1 h1 p1 ⟨b, rfl⟩
  refine Dw.bif (fun _ => ?_) (fun _ => ?_)
  · refine Dw.bind (w73 hc p1 1 (by omega)) ?_
    rintro _ i2 h2 p2 ⟨ts, rfl, hl, hs⟩
    exact Dw.ret p2 trivial
  · exact Dw.ret p1 trivial
theorem u40d {cs : List Int} (hc : codeOk cs) {i h : Int} (hi : 0 ≤ i) {i0 h0 p1 p8 : Int} {n0 : Nat} {x0 : Nat → Int} {n2 : Nat} {x2 : Nat → Bool} {n3 : Nat} {x3 : Nat → Int} {n4 : Nat} {x4 y4 : Nat → Int} {z4 : Nat → ByteArray} (hn : n4 ≤ 100) (k : Nat) :
    Dw cs AnyP (HH 40 [cur cs i0 h0] (k + 2) P40d (S40d cs i h i0 h0 p1 p8 n0 x0 n2 x2 n3 x3 n4 x4 y4 z4)) := by
  rw [show k + 2 = k + 1 + 1 from rfl, hstep, dh40d]
  simp only [and2_self, okT_eq, okX_eq, cond_true]
  refine Dw.bind (w20 hc hi) ?_
  rintro _ i1 h1 p1 ⟨b, rfl⟩
  refine Dw.bif (fun _ => ?_) (fun _ => ?_)
  · refine Dw.tru (gg hn) ?_
    refine Dw.bind (w41 hc p1) ?_
    rintro _ i2 h2 p2 ⟨x, rfl, _⟩
    refine Dw.bind (w41 hc p2) ?_
    rintro _ i3 h3 p3 ⟨y, rfl, _⟩
    refine Dw.bind (w20 hc p3) ?_
    rintro _ i4 h4 p4 ⟨b, rfl⟩
    refine Dw.bif (fun _ => ?_) (fun _ => Dw.ret p4 trivial)
    refine Dw.bind (w41 hc p4) ?_
    rintro _ i5 h5 p5 ⟨z, rfl, _⟩
    exact u40e hc p5 k
  · refine Dw.bind (w41 hc p1) ?_
    rintro _ i2 h2 p2 ⟨x, rfl, _⟩
    refine Dw.bind (w41 hc p2) ?_
    rintro _ i3 h3 p3 ⟨y, rfl, _⟩
    refine Dw.bind (w20 hc p3) ?_
    rintro _ i4 h4 p4 ⟨b, rfl⟩
    refine Dw.bif (fun _ => ?_) (fun _ => Dw.ret p4 trivial)
    refine Dw.bind (w41 hc p4) ?_
    rintro _ i5 h5 p5 ⟨z, rfl, _⟩
    exact u40e hc p5 k
theorem u40c {cs : List Int} (hc : codeOk cs) {i h : Int} (hi : 0 ≤ i) {i0 h0 p1 p8 : Int} {n0 : Nat} {x0 : Nat → Int} {n2 : Nat} {x2 : Nat → Bool} {n3 : Nat} {x3 : Nat → Int} (k : Nat) :
    Dw cs AnyP (HH 40 [cur cs i0 h0] (k + 3) P40c (S40c cs i h i0 h0 p1 p8 n0 x0 n2 x2 n3 x3)) := by
  rw [show k + 3 = k + 2 + 1 from rfl, hstep, dh40c]
  simp only [and2_self]
  refine Dw.bind (w41 hc hi) ?_
  rintro _ i1 h1 p1 ⟨x, rfl, _⟩
  exact u40d hc p1 (by omega) k
theorem u40b {cs : List Int} (hc : codeOk cs) {i h : Int} (hi : 0 ≤ i) {i0 h0 p1 p8 : Int} {n0 : Nat} {x0 : Nat → Int} {n2 : Nat} {x2 : Nat → Bool} (h2 : 0 < n2) (h3 : n2 ≤ 100) (k : Nat) :
    Dw cs AnyP (HH 40 [cur cs i0 h0] (k + 4) P40b (S40b cs i h i0 h0 p1 p8 n0 x0 n2 x2)) := by
  rw [show k + 4 = k + 3 + 1 from rfl, hstep, dh40b]
  simp only [and2_self]
  refine Dw.bind (w20 hc hi) ?_
  rintro _ i1 h1 p1 ⟨b, rfl⟩
  refine Dw.bif (fun _ => ?_) (fun _ => ?_)
  · refine Dw.tru (by simp [zN]; omega) (Dw.tru (gg h3) ?_)
    refine Dw.bind (w41 hc p1) ?_
    rintro _ i2 h2 p2 ⟨x, rfl, _⟩
    exact u40c hc p2 k
  · refine Dw.bind (w41 hc p1) ?_
    rintro _ i2 h2 p2 ⟨x, rfl, _⟩
    exact u40c hc p2 k
theorem u40a {cs : List Int} (hc : codeOk cs) {i0 h0 p1 p8 : Int} (n : Nat) (hn : n ≤ 100) : ∀ (k j : Nat) (i h : Int) (n0 : Nat) (x0 : Nat → Int), j + k = n → n0 ≤ j → 0 ≤ i →
    Dw cs AnyP (HH 40 [cur cs i0 h0] (k + 5) P40a (S40a cs i h i0 h0 p1 p8 n0 x0 n j)) := by
  intro k
  induction k with
  | zero =>
    intro j i h n0 x0 hj h0 hi
    rw [show 0 + 5 = 4 + 1 from rfl, hstep, dh40a]
    simp only [and2_self]
    refine Dw.fls (by simp; omega) ?_
    refine Dw.bind (w20 hc hi) ?_
    rintro _ i1 h1 p1 ⟨b, rfl⟩
    exact u40b hc p1 (by omega) (by omega) 0
  | succ k ih =>
    intro j i h n0 x0 hj h0 hi
    rw [show k + 1 + 5 = k + 5 + 1 by omega, hstep, dh40a]
    simp only [and2_self]
    refine Dw.tru (by simp; omega) ?_
    rw [wrapN (by omega)]
    refine Dw.bind (w41 hc hi) ?_
    rintro _ i1 h1 p1 ⟨x, rfl, _⟩
    refine Dw.tru (gg (by omega)) ?_
    exact ih (j + 1) i1 h1 (n0 + 1) _ (by omega) (by omega) p1
theorem w40 {cs : List Int} (hc : codeOk cs) {i h : Int} (hi : 0 ≤ i) (u : Int) : Dw cs AnyP (E 40 [.pb 0 0, nI u] [cur cs i h]) := by
  obtain ⟨_, i1, h1, e1, p1, x, rfl, _⟩ := w41 (n := 2) hc (h := h) hi
  obtain ⟨_, i2, h2, e2, p2, y, rfl, a, b, c⟩ := w41 (n := 4) hc (h := h1) p1
  have hx := c (by omega)
  obtain ⟨m, rfl⟩ := Int.eq_ofNat_of_zero_le a
  refine Dw.ev (m + 5) rfl ?_
  rw [de40]
  refine Dw.bindE e1 (Dw.bindE e2 ?_)
  exact u40a hc m (by omega) m 0 i2 h2 0 (fun _ => 0) (by omega) (by omega) p2
abbrev CallsP (B : Nat) (v : AV) : Prop := ∃ xs, v = owCallS xs ∧ xs.length ≤ B ∧ ∀ c ∈ xs, Fit c
theorem fit_app {xs : List VCall} {c : VCall} (h : ∀ c ∈ xs, Fit c) (hc : Fit c) : ∀ d ∈ xs ++ [c], Fit d := fun d hd => by
  rcases List.mem_append.1 hd with hd | hd
  · exact h d hd
  · rw [List.mem_singleton.1 hd]; exact hc
theorem nlC : (fun i : Nat => lstG [nI 0, nI 0, nI 0, nI 0, AV.S ByteArray.empty, nI 0, nI 0, AV.S ByteArray.empty, AV.own 0 3 fun i => lstG [nI 0, nI 0, AV.S ByteArray.empty]]) = goCallS [] := by
  funext i
  rw [nlT]
  unfold goCallS
  simp
  rfl
theorem app_CallS {os : List VCall} {v : VCall} : (fun i => lstG [nI (bif decide (i < os.length) then (os.getD i zCall).Op else bif decide (i - os.length = 0) then v.Op else 0), nI (bif decide (i < os.length) then (os.getD i zCall).A else bif decide (i - os.length = 0) then v.A else 0), nI (bif decide (i < os.length) then (os.getD i zCall).B else bif decide (i - os.length = 0) then v.B else 0), nI (bif decide (i < os.length) then (os.getD i zCall).Tok else bif decide (i - os.length = 0) then v.Tok else 0), AV.S (bif decide (i < os.length) then (os.getD i zCall).Name else bif decide (i - os.length = 0) then v.Name else ByteArray.empty), nI (bif decide (i < os.length) then (os.getD i zCall).Msg.Kind else bif decide (i - os.length = 0) then v.Msg.Kind else 0), nI (bif decide (i < os.length) then (os.getD i zCall).Msg.Num else bif decide (i - os.length = 0) then v.Msg.Num else 0), AV.S (bif decide (i < os.length) then (os.getD i zCall).Msg.Text else bif decide (i - os.length = 0) then v.Msg.Text else ByteArray.empty), AV.own (bif decide (i < os.length) then ((os.getD i zCall).Filter).length else bif decide (i - os.length = 0) then (v.Filter).length else 0) 3 (fun j0 => lstG [nI (bif decide (i < os.length) then (((os.getD i zCall).Filter).getD j0 zTerm).Op else bif decide (i - os.length = 0) then ((v.Filter).getD j0 zTerm).Op else 0), nI (bif decide (i < os.length) then (((os.getD i zCall).Filter).getD j0 zTerm).Num else bif decide (i - os.length = 0) then ((v.Filter).getD j0 zTerm).Num else 0), AV.S (bif decide (i < os.length) then (((os.getD i zCall).Filter).getD j0 zTerm).Text else bif decide (i - os.length = 0) then ((v.Filter).getD j0 zTerm).Text else ByteArray.empty)])]) = goCallS (os ++ [v]) := by
  funext i
  unfold goCallS
  rw [getD_app]
  by_cases hi : i < os.length
  · simp only [hi, decide_true, cond_true, if_true, gsTermS]; try rfl
  · by_cases h2 : i = os.length
    · have h3 : i - os.length = 0 := by omega
      simp only [hi, h2, Nat.sub_self, Nat.lt_irrefl, decide_true, decide_false, cond_true, cond_false, if_true, if_false, gsTermS]; try rfl
    · have h3 : ¬ i - os.length = 0 := by omega
      simp only [hi, h2, h3, decide_false, cond_false, if_false, gsTermS]; try rfl
end Go.Fw
