/- Values of draws: programs, lines, calls drawn of a code. -/
import Derived.Test.YtailkfoodjgipaaGreatDoorD6
set_option linter.unusedVariables false
set_option linter.unusedSimpArgs false
namespace Go.Fw
open Go.Proofs
theorem u39 {cs : List Int} (hc : codeOk cs) {i0 h0 p1' p8 : Int} {p0 p2 p3 p4 p5 p6 p7 : Nat} {q0 q2 q3 q4 q5 q6 q7 : Nat → Nat → AV} (n : Nat) (hn : n ≤ 10) : ∀ (k j : Nat) (i h : Int) (xs : List VCall), j + k = n → xs.length ≤ j → 0 ≤ i → (∀ c ∈ xs, Fit c) →
    Dw cs (CallsP 10) (HH 39 [cur cs i0 h0] (k + 1) P39 (S39 cs i h i0 h0 p0 p2 p3 p4 p5 p6 p7 q0 q2 q3 q4 q5 q6 q7 p1' p8 xs n j)) := by
  intro k
  induction k with
  | zero =>
    intro j i h xs hj hx hi hf
    rw [hstep, dh39]
    exact Dw.fls (by simp; omega) (Dw.tru okU_eq (Dw.ret hi ⟨xs, rfl, by omega, hf⟩))
  | succ k ih =>
    intro j i h xs hj hx hi hf
    rw [hstep, dh39]
    refine Dw.tru (by simp; omega) ?_
    rw [wrapN (by omega)]
    refine Dw.bind (w42 hc hi) ?_
    rintro _ i1 h1 b1 ⟨c, rfl, hfc, _⟩
    refine Dw.tru (gg (by omega)) ?_
    have nxt : Dw cs (CallsP 10) (HH 39 [cur cs i0 h0] (k + 1) P39 (hdS [(0, .pb 0 0), (4, .pb 68 0), (7, .rf 4096000), (8, nI n), (9, nI ((j + 1 : Nat) : Int))] [(4096000, ⟨xs.length + 1, 9, goCallS (xs ++ [c])⟩)] [(0, 3, [.gv cs, nI i1, nI h1]), (68, 9, [.sl p0 1 q0, nI p1', .sl p2 1 q2, .sl p3 1 q3, .sl p4 3 q4, .sl p5 1 q5, .sl p6 1 q6, .sl p7 3 q7, nI p8])])) := by
      rw [show xs.length + 1 = (xs ++ [c]).length by simp]
      exact ih (j + 1) i1 h1 (xs ++ [c]) (by omega) (by simp; omega) b1 (fit_app hf hfc)
    rw [← app_CallS] at nxt
    exact nxt
theorem w39 {cs : List Int} (hc : codeOk cs) {i h : Int} (hi : 0 ≤ i) {p1 p8 : Int} {p0 p2 p3 p4 p5 p6 p7 : Nat} {q0 q2 q3 q4 q5 q6 q7 : Nat → Nat → AV} :
    Dw cs (CallsP 10) (E 39 [.pb 0 0, .ag 9 (lstG [.sl p0 1 q0, nI p1, .sl p2 1 q2, .sl p3 1 q3, .sl p4 3 q4, .sl p5 1 q5, .sl p6 1 q6, .sl p7 3 q7, nI p8]), nI 6] [cur cs i h]) := by
  obtain ⟨_, i1, h1, e1, b1, x, rfl, a, b, c⟩ := w41 (n := 6) hc (h := h) hi
  have hx := c (by omega)
  obtain ⟨m, rfl⟩ := Int.eq_ofNat_of_zero_le a
  refine Dw.ev (m + 1 + 1) rfl ?_
  rw [de39]
  refine Dw.bindE e1 ?_
  have w : IntKind.i64.wrap (1 + (m : Int)) = ((m + 1 : Nat) : Int) := by rw [wrapS (by omega) (by omega)]; omega
  show Dw cs (CallsP 10) (HH 39 _ _ _ (hdS [(0, AV.pb 0 0), (4, AV.pb 68 0), (7, AV.rf 4096000), (8, nI (IntKind.i64.wrap (1 + (m : Int)))), (9, nI 0)] _ _))
  rw [w, nlC]
  exact u39 hc (m + 1) (by omega) (m + 1) 0 i1 h1 [] (by omega) (by simp) b1 (fun c hc => by simp at hc)
/-- What a function gives that hands no cursor on. -/
def Dz (P : AV → Prop) (X : Option (AV × List AV)) : Prop := ∃ v, X = some (v, []) ∧ P v
theorem Dz.bind {cs : List Int} {Q P : AV → Prop} {x : Option (AV × List AV)} {f : AV × List AV → Option (AV × List AV)} (h : Dw cs Q x) (k : ∀ v i h, 0 ≤ i → Q v → Dz P (f (v, [cur cs i h]))) : Dz P (Option.bind x f) := by
  obtain ⟨v, i, h, e, a, b⟩ := h
  rw [e]; exact k v i h a b
theorem Dz.bindE {P : AV → Prop} {x : Option (AV × List AV)} {r : AV × List AV} {f : AV × List AV → Option (AV × List AV)} (h : x = some r) (k : Dz P (f r)) : Dz P (Option.bind x f) := by rw [h]; exact k
theorem Dz.bif {P : AV → Prop} {c : Bool} {X Y : Option (AV × List AV)} (h1 : c = true → Dz P X) (h2 : c = false → Dz P Y) : Dz P (bif c then X else Y) := by
  cases c
  · exact h2 rfl
  · exact h1 rfl
theorem Dz.tru {P : AV → Prop} {c : Bool} {X Y : Option (AV × List AV)} (h : c = true) (h1 : Dz P X) : Dz P (bif c then X else Y) := by subst h; exact h1
theorem Dz.fls {P : AV → Prop} {c : Bool} {X Y : Option (AV × List AV)} (h : c = false) (h1 : Dz P Y) : Dz P (bif c then X else Y) := by subst h; exact h1
theorem Dz.ret {P : AV → Prop} {v : AV} (hp : P v) : Dz P (some (v, [])) := ⟨v, rfl, hp⟩
theorem Dz.ev {P : AV → Prop} {f : Nat} {args exts : List AV} (k : Nat) (hn : (cfg.nil f && isSl args || cfg.outF f) = false) (h : Dz P (ent Tryz.prog cfg E f (HH f exts k) args exts)) : Dz P (E f args exts) := by
  obtain ⟨v, e, b⟩ := h
  exact ⟨v, ev1 k hn e, b⟩
theorem u13 {cs : List Int} (hc : codeOk cs) : ∀ (k : Nat) (i h : Int) (xs : List VCall), xs.length ≤ 31 → 31 ≤ xs.length + k → 0 ≤ i → (∀ c ∈ xs, Fit c) → Dz (CallsP 40) (HH 13 [] (k + 1) P13 (S13 cs i h xs)) := by
  have z1 : Fit ⟨1, 0, 0, -1, ByteArray.empty, zMsg, []⟩ := ⟨by simp, fun x hx => by simp at hx, ez, ez, z64, z64, (show i64R (-1) from ⟨by omega, by omega⟩)⟩
  intro k
  induction k with
  | zero =>
    intro i h xs hl hk hi hf
    rw [hstep, dh13]
    refine Dz.bind (w41 hc hi) ?_
    rintro _ i1 h1 p1 ⟨x, rfl, a, b, c⟩
    have := c (by omega)
    refine Dz.fls (decide_eq_false ?_) (Dz.tru okU_eq (Dz.ret ⟨xs, rfl, by omega, hf⟩))
    show ¬ zN xs.length < IntKind.i64.wrap (30 + x)
    rw [wrapS (by omega) (by omega)]
    simp only [zN]; omega
  | succ k ih =>
    intro i h xs hl hk hi hf
    rw [hstep, dh13]
    refine Dz.bind (w41 hc hi) ?_
    rintro _ i1 h1 p1 ⟨x, rfl, a, b, c⟩
    refine Dz.bif (fun hlt => ?_) (fun _ => Dz.tru okU_eq (Dz.ret ⟨xs, rfl, by omega, hf⟩))
    have hx2 := c (by omega)
    have hlt : zN xs.length < IntKind.i64.wrap (30 + x) := of_decide_eq_true hlt
    rw [wrapS (by omega) (by omega)] at hlt
    simp only [zN] at hlt
    refine Dz.tru (gg (by omega)) ?_
    have nxt : Dz (CallsP 40) (HH 13 [] (k + 1) P13 (hdS [(3, .pb 70 0), (4, .rf 4096000)] [(4096000, ⟨xs.length + 1, 9, goCallS (xs ++ [⟨1, 0, 0, -1, ByteArray.empty, zMsg, []⟩])⟩)] [(70, 3, [.gv cs, nI i1, nI h1])])) := by
      rw [show xs.length + 1 = (xs ++ [(⟨1, 0, 0, -1, ByteArray.empty, zMsg, []⟩ : VCall)]).length by simp]
      exact ih i1 h1 _ (by simp; omega) (by simp; omega) p1 (fit_app hf z1)
    rw [← app_CallS] at nxt
    exact nxt
theorem w13 {cs : List Int} (hc : codeOk cs) : Dz (CallsP 40) (E 13 [.gv cs] []) := by
  obtain ⟨h', e18⟩ := w18 cs hc
  have z0 : Fit zCall := ⟨by simp, fun x hx => by simp at hx, ez, ez, z64, z64, z64⟩
  obtain ⟨v1, i1, h1, q1, p1, _⟩ := w40 (i := 0) hc (h := h') (by omega) 2
  obtain ⟨_, i2, h2, q2, p2, xs, rfl, hl, hf⟩ := w39 (i := i1) hc (h := h1) (p0 := asN (asA v1 0)) (q0 := fun i => lstG [nI (asI (asG (asA v1 0) i 0))]) (p1 := asI (asA v1 1)) (p2 := asN (asA v1 2)) (q2 := fun i => lstG [AV.B (asB (asG (asA v1 2) i 0))]) (p3 := asN (asA v1 3)) (q3 := fun i => lstG [nI (asI (asG (asA v1 3) i 0))]) (p4 := asN (asA v1 4)) (q4 := fun i => lstG [nI (asI (asG (asA v1 4) i 0)), nI (asI (asG (asA v1 4) i 1)), .S (asS (asG (asA v1 4) i 2))]) (p5 := asN (asA v1 5)) (q5 := fun i => lstG [.S (asS (asG (asA v1 5) i 0))]) (p6 := asN (asA v1 6)) (q6 := fun i => lstG [nI (asI (asG (asA v1 6) i 0))]) (p7 := asN (asA v1 7)) (q7 := fun i => lstG [.sl (asN (asG (asA v1 7) i 0)) 1 (fun i_1 => lstG [nI (asI (asG (asG (asA v1 7) i 0) i_1 0))]), nI (asI (asG (asA v1 7) i 1)), vslTermS (asG (asA v1 7) i 2)]) (p8 := asI (asA v1 8)) p1
  have K := u13 hc
  refine Dz.ev 32 rfl ?_
  rw [de13]
  refine Dz.bindE e18 (Dz.bindE q1 (Dz.bindE q2 ?_))
  refine Dz.bind (w20 hc p2) ?_
  rintro _ i3 h3 p3 ⟨b, rfl⟩
  -- the loop, from any list on
  have go : ∀ (ys : List VCall), ys.length ≤ 20 → (∀ c ∈ ys, Fit c) → ∀ i h, 0 ≤ i → Dz (CallsP 40) (HH 13 [] 32 P13 (S13 cs i h ys)) := fun ys hy hfy i h hi => K 31 i h ys (by omega) (by omega) hi hfy
  refine Dz.bif (fun _ => ?_) (fun _ => ?_)
  · refine Dz.tru (gg (by show xs.length ≤ 100; omega)) ?_
    refine Dz.bind (w20 hc p3) ?_
    rintro _ i4 h4 p4 ⟨b, rfl⟩
    refine Dz.bif (fun _ => ?_) (fun _ => ?_)
    · have nxt : Dz (CallsP 40) (HH 13 [] 32 P13 (hdS [(3, .pb 70 0), (4, .rf 4096000)] [(4096000, ⟨xs.length + 1, 9, goCallS (xs ++ [zCall])⟩)] [(70, 3, [.gv cs, nI i4, nI h4])])) := by
        rw [show xs.length + 1 = (xs ++ [zCall]).length by simp]
        exact go (xs ++ [zCall]) (by simp; omega) (fit_app hf z0) i4 h4 p4
      rw [← app_CallS] at nxt
      exact nxt
    · refine Dz.tru okU_eq ?_
      have nxt : Dz (CallsP 40) (some (.own (xs.length + 1) 9 (goCallS (xs ++ [zCall])), [])) := by
        rw [show xs.length + 1 = (xs ++ [zCall]).length by simp]
        exact Dz.ret ⟨xs ++ [zCall], rfl, by simp; omega, fit_app hf z0⟩
      rw [← app_CallS] at nxt
      exact nxt
  · refine Dz.bind (w20 hc p3) ?_
    rintro _ i4 h4 p4 ⟨b, rfl⟩
    refine Dz.bif (fun _ => ?_) (fun _ => ?_)
    · exact go xs (by omega) hf i4 h4 p4
    · exact Dz.tru okU_eq (Dz.ret ⟨xs, rfl, by omega, hf⟩)
end Go.Fw
