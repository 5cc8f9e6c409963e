/- Values of draws: each gives something, within its bounds; what it gives exactly is of no account. -/
import Derived.Test.YtailkfoodjgipaaGreatDoorKw
import Derived.Test.YtailkfoodjgipaaGreatDoorD1
set_option linter.unusedVariables false
set_option linter.unusedSimpArgs false
namespace Go.Fw
open Go.Proofs
abbrev P18 : List Bool := [true, true, false, true]
abbrev S18 (cs : List Int) (h i : Int) : St := hdS [(0, .gv cs), (3, nI h), (4, nI i)] [] []
abbrev P73 : List Bool := [true, true, true, false, true]
abbrev S73 (cs : List Int) (i h : Int) (i0 h0 : Int) (ts : List VTerm) (n j : Int) : St := hdS [(0, .pb 0 0), (5, .rf 4096000), (6, nI n), (7, nI j)] [(4096000, ⟨ts.length, 3, gsTermS ts⟩)] [(0, 3, [.gv cs, nI i, nI h])]
abbrev P40a : List Bool := [true, true, true, false, true]
abbrev S40a (cs : List Int) (i h : Int) (i0 h0 : Int) (p1 p8 : Int) (n0 : Nat) (x0 : Nat → Int) (n j : Int) : St := hdS [(0, .pb 0 0), (4, .pb 68 0), (5, .pb 69 0), (6, nI n), (7, nI j)] [(4096000, ⟨n0, 1, fun k => lstG [nI (x0 k)]⟩)] [(0, 3, [.gv cs, nI i, nI h]), (68, 9, [.nsl 1 (fun _ => lstG [nI 0]), nI 0, .nsl 1 (fun _ => lstG [.B false]), .nsl 1 (fun _ => lstG [nI 0]), .nsl 3 (fun _ => lstG [nI 0, nI 0, .S ByteArray.empty]), .nsl 1 (fun _ => lstG [.S ByteArray.empty]), .nsl 1 (fun _ => lstG [nI 0]), .nsl 3 (fun _ => lstG [.own 0 1 (fun _ => lstG [nI 0]), nI 0, .own 0 3 (fun _ => lstG [nI 0, nI 0, .S ByteArray.empty])]), nI 0]), (69, 9, [.rf 4096000, nI p1, .nsl 1 (fun _ => lstG [.B false]), .nsl 1 (fun _ => lstG [nI 0]), .nsl 3 (fun _ => lstG [nI 0, nI 0, .S ByteArray.empty]), .nsl 1 (fun _ => lstG [.S ByteArray.empty]), .nsl 1 (fun _ => lstG [nI 0]), .nsl 3 (fun _ => lstG [.own 0 1 (fun _ => lstG [nI 0]), nI 0, .own 0 3 (fun _ => lstG [nI 0, nI 0, .S ByteArray.empty])]), nI p8])]
abbrev P40b : List Bool := [true, true, true, true, false]
abbrev S40b (cs : List Int) (i h : Int) (i0 h0 : Int) (p1 p8 : Int) (n0 : Nat) (x0 : Nat → Int) (n2 : Nat) (x2 : Nat → Bool) : St := hdS [(0, .pb 0 0), (4, .pb 68 0), (5, .pb 69 0)] [(4096000, ⟨n0, 1, fun k => lstG [nI (x0 k)]⟩), (4104192, ⟨n2, 1, fun k => lstG [.B (x2 k)]⟩)] [(0, 3, [.gv cs, nI i, nI h]), (68, 9, [.nsl 1 (fun _ => lstG [nI 0]), nI 0, .nsl 1 (fun _ => lstG [.B false]), .nsl 1 (fun _ => lstG [nI 0]), .nsl 3 (fun _ => lstG [nI 0, nI 0, .S ByteArray.empty]), .nsl 1 (fun _ => lstG [.S ByteArray.empty]), .nsl 1 (fun _ => lstG [nI 0]), .nsl 3 (fun _ => lstG [.own 0 1 (fun _ => lstG [nI 0]), nI 0, .own 0 3 (fun _ => lstG [nI 0, nI 0, .S ByteArray.empty])]), nI 0]), (69, 9, [.rf 4096000, nI p1, .rf 4104192, .nsl 1 (fun _ => lstG [nI 0]), .nsl 3 (fun _ => lstG [nI 0, nI 0, .S ByteArray.empty]), .nsl 1 (fun _ => lstG [.S ByteArray.empty]), .nsl 1 (fun _ => lstG [nI 0]), .nsl 3 (fun _ => lstG [.own 0 1 (fun _ => lstG [nI 0]), nI 0, .own 0 3 (fun _ => lstG [nI 0, nI 0, .S ByteArray.empty])]), nI p8])]
abbrev P40c : List Bool := [true, true, true, true, true, true, false]
abbrev S40c (cs : List Int) (i h : Int) (i0 h0 : Int) (p1 p8 : Int) (n0 : Nat) (x0 : Nat → Int) (n2 : Nat) (x2 : Nat → Bool) (n3 : Nat) (x3 : Nat → Int) : St := hdS [(0, .pb 0 0), (4, .pb 68 0), (5, .pb 69 0)] [(4096000, ⟨n0, 1, fun k => lstG [nI (x0 k)]⟩), (4104192, ⟨n2, 1, fun k => lstG [.B (x2 k)]⟩), (4108288, ⟨n3, 1, fun k => lstG [nI (x3 k)]⟩)] [(0, 3, [.gv cs, nI i, nI h]), (68, 9, [.nsl 1 (fun _ => lstG [nI 0]), nI 0, .nsl 1 (fun _ => lstG [.B false]), .nsl 1 (fun _ => lstG [nI 0]), .nsl 3 (fun _ => lstG [nI 0, nI 0, .S ByteArray.empty]), .nsl 1 (fun _ => lstG [.S ByteArray.empty]), .nsl 1 (fun _ => lstG [nI 0]), .nsl 3 (fun _ => lstG [.own 0 1 (fun _ => lstG [nI 0]), nI 0, .own 0 3 (fun _ => lstG [nI 0, nI 0, .S ByteArray.empty])]), nI 0]), (69, 9, [.rf 4096000, nI p1, .rf 4104192, .rf 4108288, .nsl 3 (fun _ => lstG [nI 0, nI 0, .S ByteArray.empty]), .nsl 1 (fun _ => lstG [.S ByteArray.empty]), .nsl 1 (fun _ => lstG [nI 0]), .nsl 3 (fun _ => lstG [.own 0 1 (fun _ => lstG [nI 0]), nI 0, .own 0 3 (fun _ => lstG [nI 0, nI 0, .S ByteArray.empty])]), nI p8])]
abbrev P40d : List Bool := [true, true, true, true, true, true, true, false]
abbrev S40d (cs : List Int) (i h : Int) (i0 h0 : Int) (p1 p8 : Int) (n0 : Nat) (x0 : Nat → Int) (n2 : Nat) (x2 : Nat → Bool) (n3 : Nat) (x3 : Nat → Int) (n4 : Nat) (x4 y4 : Nat → Int) (z4 : Nat → ByteArray) : St := hdS [(0, .pb 0 0), (4, .pb 68 0), (5, .pb 69 0)] [(4096000, ⟨n0, 1, fun k => lstG [nI (x0 k)]⟩), (4104192, ⟨n2, 1, fun k => lstG [.B (x2 k)]⟩), (4108288, ⟨n3, 1, fun k => lstG [nI (x3 k)]⟩), (4112384, ⟨n4, 3, fun k => lstG [nI (x4 k), nI (y4 k), .S (z4 k)]⟩)] [(0, 3, [.gv cs, nI i, nI h]), (68, 9, [.nsl 1 (fun _ => lstG [nI 0]), nI 0, .nsl 1 (fun _ => lstG [.B false]), .nsl 1 (fun _ => lstG [nI 0]), .nsl 3 (fun _ => lstG [nI 0, nI 0, .S ByteArray.empty]), .nsl 1 (fun _ => lstG [.S ByteArray.empty]), .nsl 1 (fun _ => lstG [nI 0]), .nsl 3 (fun _ => lstG [.own 0 1 (fun _ => lstG [nI 0]), nI 0, .own 0 3 (fun _ => lstG [nI 0, nI 0, .S ByteArray.empty])]), nI 0]), (69, 9, [.rf 4096000, nI p1, .rf 4104192, .rf 4108288, .rf 4112384, .nsl 1 (fun _ => lstG [.S ByteArray.empty]), .nsl 1 (fun _ => lstG [nI 0]), .nsl 3 (fun _ => lstG [.own 0 1 (fun _ => lstG [nI 0]), nI 0, .own 0 3 (fun _ => lstG [nI 0, nI 0, .S ByteArray.empty])]), nI p8])]
abbrev P40e : List Bool := [true, true, true, true, true, true, true, true, true, true, true, false, true, false, true, false]
abbrev S40e (cs : List Int) (i h : Int) (i0 h0 : Int) (p1 p8 : Int) (n0 : Nat) (x0 : Nat → Int) (n2 : Nat) (x2 : Nat → Bool) (n3 : Nat) (x3 : Nat → Int) (n4 : Nat) (x4 y4 : Nat → Int) (z4 : Nat → ByteArray) (n5 : Nat) (x5 : Nat → ByteArray) (n6 : Nat) (x6 : Nat → Int) : St := hdS [(0, .pb 0 0), (4, .pb 68 0), (5, .pb 69 0)] [(4096000, ⟨n0, 1, fun k => lstG [nI (x0 k)]⟩), (4104192, ⟨n2, 1, fun k => lstG [.B (x2 k)]⟩), (4108288, ⟨n3, 1, fun k => lstG [nI (x3 k)]⟩), (4112384, ⟨n4, 3, fun k => lstG [nI (x4 k), nI (y4 k), .S (z4 k)]⟩), (4116480, ⟨n5, 1, fun k => lstG [.S (x5 k)]⟩), (4120576, ⟨n6, 1, fun k => lstG [nI (x6 k)]⟩)] [(0, 3, [.gv cs, nI i, nI h]), (68, 9, [.nsl 1 (fun _ => lstG [nI 0]), nI 0, .nsl 1 (fun _ => lstG [.B false]), .nsl 1 (fun _ => lstG [nI 0]), .nsl 3 (fun _ => lstG [nI 0, nI 0, .S ByteArray.empty]), .nsl 1 (fun _ => lstG [.S ByteArray.empty]), .nsl 1 (fun _ => lstG [nI 0]), .nsl 3 (fun _ => lstG [.own 0 1 (fun _ => lstG [nI 0]), nI 0, .own 0 3 (fun _ => lstG [nI 0, nI 0, .S ByteArray.empty])]), nI 0]), (69, 9, [.rf 4096000, nI p1, .rf 4104192, .rf 4108288, .rf 4112384, .rf 4116480, .rf 4120576, .nsl 3 (fun _ => lstG [.own 0 1 (fun _ => lstG [nI 0]), nI 0, .own 0 3 (fun _ => lstG [nI 0, nI 0, .S ByteArray.empty])]), nI p8])]
abbrev P42 : List Bool := [true, true, true, true, false, false]
abbrev S42 (cs : List Int) (i h : Int) (i0 h0 : Int) (p0 p2 p3 p4 p5 p6 p7 : Nat) (q0 q2 q3 q4 q5 q6 q7 : Nat → Nat → AV) (p1 p8 : Int) (op tok o : Int) : St := hdS [(0, .pb 0 0), (3, .pb 67 0), (4, .pb 68 0), (5, .pb 69 0), (36, nI o)] [] [(0, 3, [.gv cs, nI i, nI h]), (67, 9, [.sl p0 1 q0, nI p1, .sl p2 1 q2, .sl p3 1 q3, .sl p4 3 q4, .sl p5 1 q5, .sl p6 1 q6, .sl p7 3 q7, nI p8]), (68, 9, [nI 0, nI 0, nI 0, nI 0, .S ByteArray.empty, nI 0, nI 0, .S ByteArray.empty, .nsl 3 (fun _ => lstG [nI 0, nI 0, .S ByteArray.empty])]), (69, 9, [nI op, nI 0, nI 0, nI tok, .S ByteArray.empty, nI 0, nI 0, .S ByteArray.empty, .nsl 3 (fun _ => lstG [nI 0, nI 0, .S ByteArray.empty])])]
abbrev P39 : List Bool := [true, true, true, false, true]
abbrev S39 (cs : List Int) (i h : Int) (i0 h0 : Int) (p0 p2 p3 p4 p5 p6 p7 : Nat) (q0 q2 q3 q4 q5 q6 q7 : Nat → Nat → AV) (p1 p8 : Int) (xs : List VCall) (n j : Int) : St := hdS [(0, .pb 0 0), (4, .pb 68 0), (7, .rf 4096000), (8, nI n), (9, nI j)] [(4096000, ⟨xs.length, 9, goCallS xs⟩)] [(0, 3, [.gv cs, nI i, nI h]), (68, 9, [.sl p0 1 q0, nI p1, .sl p2 1 q2, .sl p3 1 q3, .sl p4 3 q4, .sl p5 1 q5, .sl p6 1 q6, .sl p7 3 q7, nI p8])]
abbrev P13 : List Bool := [true, true, true, true, false, true, false]
abbrev S13 (cs : List Int) (i h : Int) (xs : List VCall) : St := hdS [(3, .pb 70 0), (4, .rf 4096000)] [(4096000, ⟨xs.length, 9, goCallS xs⟩)] [(70, 3, [.gv cs, nI i, nI h])]
abbrev P67 : List Bool := [true, true, false, true]
abbrev S67 (xs ys : List VTerm) (j : Int) : St := hdS [(0, slTermS xs), (1, slTermS ys), (5, nI j)] [] []
abbrev P4 : List Bool := [true, true, true, true, true, true, true, true, true, true, true, true, false, true]
abbrev S4 (cs : List Int) (s : ByteArray) (xs ys : List VCall) (j : Int) : St := hdS [(3, .rf 4096000), (6, .S s), (8, .rf 4100096), (12, nI j)] [(4096000, ⟨xs.length, 9, goCallS xs⟩), (4100096, ⟨ys.length, 9, goCallS ys⟩)] []

abbrev cur (cs : List Int) (i h : Int) : AV := .nbx 3 (lstG [.gv cs, nI i, nI h])
/-- A draw: it gives a value of a kind, and the cursor goes on. -/
def Dw (cs : List Int) (P : AV → Prop) (X : Option (AV × List AV)) : Prop := ∃ v i h, X = some (v, [cur cs i h]) ∧ 0 ≤ i ∧ P v
theorem Dw.bind {cs : List Int} {Q P : AV → Prop} {x : Option (AV × List AV)} {f : AV × List AV → Option (AV × List AV)} (h : Dw cs Q x) (k : ∀ v i h, 0 ≤ i → Q v → Dw cs P (f (v, [cur cs i h]))) : Dw cs P (Option.bind x f) := by
  obtain ⟨v, i, h, e, a, b⟩ := h
  rw [e]; exact k v i h a b
theorem Dw.bif {cs : List Int} {P : AV → Prop} {c : Bool} {X Y : Option (AV × List AV)} (h1 : c = true → Dw cs P X) (h2 : c = false → Dw cs P Y) : Dw cs P (bif c then X else Y) := by
  cases c
  · exact h2 rfl
  · exact h1 rfl
theorem Dw.tru {cs : List Int} {P : AV → Prop} {c : Bool} {X Y : Option (AV × List AV)} (h : c = true) (h1 : Dw cs P X) : Dw cs P (bif c then X else Y) := by subst h; exact h1
theorem Dw.fls {cs : List Int} {P : AV → Prop} {c : Bool} {X Y : Option (AV × List AV)} (h : c = false) (h1 : Dw cs P Y) : Dw cs P (bif c then X else Y) := by subst h; exact h1
theorem Dw.ret {cs : List Int} {P : AV → Prop} {v : AV} {i h : Int} (hi : 0 ≤ i) (hp : P v) : Dw cs P (some (v, [cur cs i h])) := ⟨v, i, h, rfl, hi, hp⟩
theorem Dw.ev {cs : List Int} {P : AV → Prop} {f : Nat} {args exts : List AV} (k : Nat) (hn : (cfg.nil f && isSl args || cfg.outF f) = false) (h : Dw cs P (ent Tryz.prog cfg E f (HH f exts k) args exts)) : Dw cs P (E f args exts) := by
  obtain ⟨v, i, h, e, a, b⟩ := h
  exact ⟨v, i, h, ev1 k hn e, a, b⟩
theorem Dw.mono {cs : List Int} {P Q : AV → Prop} {X : Option (AV × List AV)} (h : Dw cs P X) (hp : ∀ v, P v → Q v) : Dw cs Q X := by
  obtain ⟨v, i, h, e, a, b⟩ := h
  exact ⟨v, i, h, e, a, hp v b⟩
theorem Dw.bindE {cs : List Int} {P : AV → Prop} {x : Option (AV × List AV)} {r : AV × List AV} {f : AV × List AV → Option (AV × List AV)} (h : x = some r) (k : Dw cs P (f r)) : Dw cs P (Option.bind x f) := by rw [h]; exact k
theorem andW (x : BitVec 64) (m : Nat) (h : m < 9223372036854775808) : 0 ≤ IntKind.i64.wrap (zN (x &&& BitVec.ofInt 64 (m : Int)).toNat) ∧ IntKind.i64.wrap (zN (x &&& BitVec.ofInt 64 (m : Int)).toNat) ≤ (m : Int) := by
  have e : (BitVec.ofInt 64 (m : Int)).toNat = m := by rw [BitVec.toNat_ofInt]; omega
  have h1 : (x &&& BitVec.ofInt 64 (m : Int)).toNat ≤ m := by
    rw [BitVec.toNat_and, e]; exact Nat.and_le_right
  rw [IntKind.wrap_i64]
  simp only [zN]
  omega
theorem wrap_rng (x : Int) : i64R (IntKind.i64.wrap x) := by
  rw [IntKind.wrap_i64]
  unfold i64R
  omega
abbrev codeOk (cs : List Int) : Prop := cs.length ≤ 4611686018427387904
theorem w74 {cs : List Int} (hc : codeOk cs) {i h : Int} (hi : 0 ≤ i) : Dw cs (fun v => ∃ x, v = nI x ∧ 0 ≤ x ∧ x ≤ 255) (E 74 [.pb 0 0] [cur cs i h]) := by
  by_cases c : i < zN cs.length
  · have w : IntKind.i64.wrap (i + 1) = i + 1 := by rw [IntKind.wrap_i64]; simp only [zN] at c; unfold codeOk at hc; omega
    have hb : (bif decide (0 ≤ i) then decide (i < zN cs.length) else false) = true := by rw [decide_eq_true hi, decide_eq_true c]; rfl
    have key : ∃ (x : BitVec 64) (h' : Int), E 74 [.pb 0 0] [cur cs i h] = some (nI (IntKind.i64.wrap (zN (x &&& BitVec.ofInt 64 255).toNat)), [cur cs (IntKind.i64.wrap (i + 1)) h']) :=
      ⟨_, _, ev1 0 rfl ((de74 ..).trans (and2_both (bt' (decide_eq_true c) (bt' hb rfl)) (bt' (decide_eq_true c) (bt' hb rfl))))⟩
    obtain ⟨x, h', q⟩ := key
    exact ⟨_, _, h', q, (by rw [w]; omega), _, rfl, (andW x 255 (by decide)).1, (andW x 255 (by decide)).2⟩
  · have key : ∃ (x : BitVec 64) (h' : Int), E 74 [.pb 0 0] [cur cs i h] = some (nI (IntKind.i64.wrap (zN (x &&& BitVec.ofInt 64 255).toNat)), [cur cs i h']) :=
      ⟨_, _, ev1 0 rfl ((de74 ..).trans (and2_both (bf' (decide_eq_false c) rfl) (bf' (decide_eq_false c) rfl)))⟩
    obtain ⟨x, h', q⟩ := key
    exact ⟨_, _, h', q, hi, _, rfl, (andW x 255 (by decide)).1, (andW x 255 (by decide)).2⟩
theorem w41 {cs : List Int} (hc : codeOk cs) {n i h : Int} (hi : 0 ≤ i) : Dw cs (fun v => ∃ x, v = nI x ∧ 0 ≤ x ∧ x ≤ 4294967295 ∧ (0 < n → x < n)) (E 41 [.pb 0 0, nI n] [cur cs i h]) := by
  refine Dw.ev 0 rfl ?_
  rw [de41]
  by_cases c : n ≤ 0
  · exact Dw.tru (decide_eq_true c) (Dw.ret hi ⟨0, rfl, by omega, by omega, by omega⟩)
  have hz : (!decide (n = 0)) = true := by simp; omega
  refine Dw.fls (decide_eq_false c) ?_
  by_cases c2 : n ≤ 256
  · refine Dw.tru (decide_eq_true c2) (Dw.bind (w74 hc hi) ?_)
    rintro _ i1 h1 p1 ⟨x, rfl, a, b⟩
    refine Dw.tru hz (Dw.ret p1 ⟨x.tmod n, rfl, Int.tmod_nonneg _ a, ?_, fun _ => ?_⟩)
    · rw [Int.tmod_eq_emod_of_nonneg a]; have := Int.emod_lt_of_pos x (show 0 < n by omega); omega
    · rw [Int.tmod_eq_emod_of_nonneg a]; exact Int.emod_lt_of_pos _ (by omega)
  · refine Dw.fls (decide_eq_false c2) (Dw.bind (w74 hc hi) ?_)
    rintro _ i1 h1 p1 ⟨x1, rfl, a1, b1⟩
    refine Dw.bind (w74 hc p1) ?_
    rintro _ i2 h2 p2 ⟨x2, rfl, a2, b2⟩
    refine Dw.bind (w74 hc p2) ?_
    rintro _ i3 h3 p3 ⟨x3, rfl, a3, b3⟩
    refine Dw.bind (w74 hc p3) ?_
    rintro _ i4 h4 p4 ⟨x4, rfl, a4, b4⟩
    have w : IntKind.i64.wrap (IntKind.i64.wrap (IntKind.i64.wrap (IntKind.i64.wrap (x1 * 16777216) + IntKind.i64.wrap (x2 * 65536)) + IntKind.i64.wrap (x3 * 256)) + x4) = x1 * 16777216 + x2 * 65536 + x3 * 256 + x4 := by
      simp only [IntKind.wrap_i64]; omega
    have b : 0 ≤ x1 * 16777216 + x2 * 65536 + x3 * 256 + x4 := by omega
    refine Dw.tru hz (Dw.ret p4 ⟨(x1 * 16777216 + x2 * 65536 + x3 * 256 + x4).tmod n, ?_, Int.tmod_nonneg _ b, ?_, fun _ => ?_⟩)
    · rw [← w]; rfl
    · have h1 := Int.emod_lt_of_pos (x1 * 16777216 + x2 * 65536 + x3 * 256 + x4) (show 0 < n by omega)
      have h2 := Int.emod_nonneg (x1 * 16777216 + x2 * 65536 + x3 * 256 + x4) (show n ≠ 0 by omega)
      have h3 := Int.mul_ediv_add_emod (x1 * 16777216 + x2 * 65536 + x3 * 256 + x4) n
      have h4 : 0 ≤ n * ((x1 * 16777216 + x2 * 65536 + x3 * 256 + x4) / n) := Int.mul_nonneg (by omega) (Int.ediv_nonneg b (by omega))
      rw [Int.tmod_eq_emod_of_nonneg b]; omega
    · rw [Int.tmod_eq_emod_of_nonneg b]; exact Int.emod_lt_of_pos _ (by omega)
theorem w20 {cs : List Int} (hc : codeOk cs) {n i h : Int} (hi : 0 ≤ i) : Dw cs (fun v => ∃ b, v = .B b) (E 20 [.pb 0 0, nI n] [cur cs i h]) := by
  refine Dw.ev 0 rfl ?_
  rw [de20]
  refine Dw.bind (w41 hc hi) ?_
  rintro _ i1 h1 p1 ⟨x, rfl, _⟩
  exact Dw.ret p1 ⟨_, rfl⟩
theorem w21 {cs : List Int} (hc : codeOk cs) {i h : Int} (hi : 0 ≤ i) {n : Nat} {q : Nat → Int} (hn : 0 < n) : Dw cs (fun v => ∃ k, v = nI (q k)) (E 21 [.pb 0 0, .sl n 1 (fun k => lstG [nI (q k)])] [cur cs i h]) := by
  refine Dw.ev 0 rfl ?_
  rw [de21]
  refine Dw.bind (w41 hc hi) ?_
  rintro _ i1 h1 p1 ⟨x, rfl, a, b, c⟩
  have := c (by simp only [zN]; omega)
  exact Dw.tru (by show (bif decide (0 ≤ x) then decide (x < zN n) else false) = true; rw [decide_eq_true a, decide_eq_true this]; rfl) (Dw.ret p1 ⟨_, rfl⟩)
theorem w21k {cs : List Int} (hc : codeOk cs) {i h : Int} (hi : 0 ≤ i) {n : Nat} {q : Nat → Int} (hn : 0 < n) : Dw cs (fun v => ∃ k, k < n ∧ v = nI (q k)) (E 21 [.pb 0 0, .sl n 1 (fun k => lstG [nI (q k)])] [cur cs i h]) := by
  refine Dw.ev 0 rfl ?_
  rw [de21]
  refine Dw.bind (w41 hc hi) ?_
  rintro _ i1 h1 p1 ⟨x, rfl, a, b, c⟩
  have := c (by simp only [zN]; omega)
  exact Dw.tru (by show (bif decide (0 ≤ x) then decide (x < zN n) else false) = true; rw [decide_eq_true a, decide_eq_true this]; rfl) (Dw.ret p1 ⟨x.toNat, by simp only [zN] at this; omega, rfl⟩)
theorem w68 {cs : List Int} (hc : codeOk cs) {i h : Int} (hi : 0 ≤ i) {n : Nat} {q : Nat → ByteArray} (hn : 0 < n) : Dw cs (fun v => ∃ k, v = .S (q k)) (E 68 [.pb 0 0, .sl n 1 (fun k => lstG [.S (q k)])] [cur cs i h]) := by
  refine Dw.ev 0 rfl ?_
  rw [de68]
  refine Dw.bind (w41 hc hi) ?_
  rintro _ i1 h1 p1 ⟨x, rfl, a, b, c⟩
  have := c (by simp only [zN]; omega)
  exact Dw.tru (by show (bif decide (0 ≤ x) then decide (x < zN n) else false) = true; rw [decide_eq_true a, decide_eq_true this]; rfl) (Dw.ret p1 ⟨_, rfl⟩)
theorem szb {c : Bool} {x y : ByteArray} {n : Nat} (h1 : x.size ≤ n) (h2 : y.size ≤ n) : (bif c then x else y).size ≤ n := by cases c <;> assumption
/-- The cursor's beginning. -/
theorem u18 (cs : List Int) (hc : codeOk cs) : ∀ (k i : Nat) (h : Int), i + k = cs.length → ∃ h', HH 18 [] (k + 1) P18 (S18 cs h i) = some (cur cs 0 h', []) := by
  unfold codeOk at hc
  intro k
  induction k with
  | zero =>
    intro i h hi
    exact ⟨h, by rw [hstep, dh18, bf (by simp [zN] <;> omega)]⟩
  | succ k ih =>
    intro i h hi
    rw [hstep, dh18, bt (by simp [zN] <;> omega)]
    by_cases c : (i : Int) < 4000
    · rw [bt (decide_eq_true c), bt (by simp [zN] <;> omega), wrapN (by omega)]
      exact ih (i + 1) _ (by omega)
    · exact ⟨h, by rw [bf (decide_eq_false c)]⟩
theorem w18 (cs : List Int) (hc : codeOk cs) : ∃ h', E 18 [.gv cs] [] = some (cur cs 0 h', []) := by
  obtain ⟨h', q⟩ := u18 cs hc cs.length 0 (IntKind.i64.wrap (98098 + zN cs.length)) (by omega)
  exact ⟨h', ev1 (cs.length + 1) rfl ((de18 ..).trans q)⟩
abbrev MsgP (v : AV) : Prop := ∃ m, v = slMsg m ∧ m.Text.size ≤ 100
theorem w75 {cs : List Int} (hc : codeOk cs) {i h : Int} (hi : 0 ≤ i) : Dw cs MsgP (E 75 [.pb 0 0] [cur cs i h]) := by
  have hz : ByteArray.empty.size ≤ 100 := by decide
  refine Dw.ev 0 rfl ?_
  rw [de75]
  refine Dw.bind (w20 hc hi) ?_
  rintro _ i1 h1 p1 ⟨b, rfl⟩
  refine Dw.bif (fun _ => ?_) (fun _ => ?_)
  · refine Dw.bind (w68 hc p1 (by decide)) ?_
    rintro _ i2 h2 p2 ⟨k, rfl⟩
    refine Dw.ret p2 ⟨⟨2, 0, _⟩, rfl, ?_⟩
    repeat' apply szb
    all_goals decide
  · refine Dw.bind (w41 hc p1) ?_
    rintro _ i2 h2 p2 ⟨x, rfl, _⟩
    refine Dw.bind (w20 hc p2) ?_
    rintro _ i3 h3 p3 ⟨b, rfl⟩
    refine Dw.bif (fun _ => ?_) (fun _ => ?_)
    · refine Dw.bind (w21 hc p3 (by decide)) ?_
      rintro _ i4 h4 p4 ⟨k, rfl⟩
      exact Dw.ret p4 ⟨⟨1, _, ByteArray.empty⟩, rfl, hz⟩
    · exact Dw.ret p3 ⟨⟨1, _, ByteArray.empty⟩, rfl, hz⟩
abbrev TermP (v : AV) : Prop := ∃ t, v = slTerm t ∧ t.Text.size ≤ 100
theorem w90 {cs : List Int} (hc : codeOk cs) {i h : Int} (hi : 0 ≤ i) : Dw cs TermP (E 90 [.pb 0 0] [cur cs i h]) := by
  have hz : ByteArray.empty.size ≤ 100 := by decide
  refine Dw.ev 0 rfl ?_
  rw [de90]
  refine Dw.bind (w41 hc hi) ?_
  rintro _ i1 h1 p1 ⟨x, rfl, _⟩
  refine Dw.bif (fun _ => Dw.ret p1 ⟨⟨1, 0, ByteArray.empty⟩, rfl, hz⟩) (fun _ => ?_)
  refine Dw.bif (fun _ => Dw.ret p1 ⟨⟨2, 0, ByteArray.empty⟩, rfl, hz⟩) (fun _ => ?_)
  refine Dw.bif (fun _ => Dw.ret p1 ⟨⟨3, 0, ByteArray.empty⟩, rfl, hz⟩) (fun _ => ?_)
  refine Dw.bif (fun _ => ?_) (fun _ => ?_)
  · refine Dw.bind (w41 hc p1) ?_
    rintro _ i2 h2 p2 ⟨y, rfl, _⟩
    exact Dw.ret p2 ⟨⟨4, _, ByteArray.empty⟩, rfl, hz⟩
  refine Dw.bif (fun _ => ?_) (fun _ => ?_)
  · refine Dw.bind (w41 hc p1) ?_
    rintro _ i2 h2 p2 ⟨y, rfl, _⟩
    exact Dw.ret p2 ⟨⟨5, _, ByteArray.empty⟩, rfl, hz⟩
  refine Dw.bif (fun _ => ?_) (fun _ => ?_)
  · refine Dw.bind (w68 hc p1 (by decide)) ?_
    rintro _ i2 h2 p2 ⟨k, rfl⟩
    refine Dw.ret p2 ⟨⟨6, 0, _⟩, rfl, ?_⟩
    repeat' apply szb
    all_goals decide
  · refine Dw.bind (w68 hc p1 (by decide)) ?_
    rintro _ i2 h2 p2 ⟨k, rfl⟩
    refine Dw.ret p2 ⟨⟨7, 0, _⟩, rfl, ?_⟩
    repeat' apply szb
    all_goals decide
theorem bif2 {α γ : Type} {d : α} (f : α → γ) (ts : List α) (a b : α) (i : Nat) : (bif decide (i < ts.length) then f (ts.getD i d) else bif decide (i - ts.length = 0) then f a else bif decide (i - ts.length - 1 = 0) then f b else f d) = f ((ts ++ [a, b]).getD i d) := by
  by_cases h : i < ts.length
  · rw [decide_eq_true h, cond_true, List.getD_eq_getElem?_getD, List.getD_eq_getElem?_getD, List.getElem?_append_left h]
  · rw [decide_eq_false h, cond_false, List.getD_eq_getElem?_getD (l := ts ++ [a, b]), List.getElem?_append_right (by omega)]
    generalize i - ts.length = j
    match j with
    | 0 => rfl
    | 1 => rfl
    | j + 2 => simp
theorem app2_TermS {os : List VTerm} {v w : VTerm} : (fun i => lstG [nI (bif decide (i < os.length) then (os.getD i zTerm).Op else bif decide (i - os.length = 0) then v.Op else bif decide (i - os.length - 1 = 0) then w.Op else 0), nI (bif decide (i < os.length) then (os.getD i zTerm).Num else bif decide (i - os.length = 0) then v.Num else bif decide (i - os.length - 1 = 0) then w.Num else 0), AV.S (bif decide (i < os.length) then (os.getD i zTerm).Text else bif decide (i - os.length = 0) then v.Text else bif decide (i - os.length - 1 = 0) then w.Text else ByteArray.empty)]) = goTermS (os ++ [v, w]) := by
  funext i
  have h1 := bif2 (d := zTerm) VTerm.Op os v w i
  have h2 := bif2 (d := zTerm) VTerm.Num os v w i
  have h3 := bif2 (d := zTerm) VTerm.Text os v w i
  unfold goTermS gsTermS
  rw [← h1, ← h2, ← h3]
abbrev FilP (v : AV) : Prop := ∃ ts, v = owTermS ts ∧ ts.length ≤ 12 ∧ small ts
theorem small_app2 {xs : List VTerm} {t u : VTerm} (h : small xs) (ht : t.Text.size ≤ 1048576) (hu : u.Text.size ≤ 1048576) : small (xs ++ [t, u]) := fun x hx => by
  rcases List.mem_append.1 hx with hx | hx
  · exact h x hx
  · simp at hx
    rcases hx with rfl | rfl
    · exact ht
    · exact hu
theorem u73 {cs : List Int} (hc : codeOk cs) (i0 h0 : Int) (n : Nat) (hn : n ≤ 5) : ∀ (k j : Nat) (i h : Int) (ts : List VTerm), j + k = n → 0 ≤ i → ts.length ≤ 2 * j → small ts →
    Dw cs FilP (HH 73 [cur cs i0 h0] (k + 1) P73 (S73 cs i h i0 h0 ts n j)) := by
  have hz : ByteArray.empty.size ≤ 1048576 := by decide
  intro k
  induction k with
  | zero =>
    intro j i h ts hj hi ht hs
    rw [hstep, dh73]
    exact Dw.fls (by simp; omega) (Dw.fls (by simp [zN]; omega) (Dw.tru okT_eq (Dw.ret hi ⟨ts, rfl, by omega, hs⟩)))
  | succ k ih =>
    intro j i h ts hj hi ht hs
    rw [hstep, dh73]
    refine Dw.tru (by simp; omega) ?_
    rw [wrapN (by omega)]
    have nxt1 : ∀ (t : VTerm) (i h : Int), 0 ≤ i → t.Text.size ≤ 1048576 → Dw cs FilP (HH 73 [cur cs i0 h0] (k + 1) P73 (hdS [(0, .pb 0 0), (5, .rf 4096000), (6, nI n), (7, nI ((j + 1 : Nat) : Int))] [(4096000, ⟨ts.length + 1, 3, goTermS (ts ++ [t])⟩)] [(0, 3, [.gv cs, nI i, nI h])])) := fun t i h hi hx => by
      have := ih (j + 1) i h (ts ++ [t]) (by omega) hi (by simp; omega) (small_app hs hx)
      rw [show ts.length + 1 = (ts ++ [t]).length by simp]
      exact this
    have nxt2 : ∀ (t u : VTerm) (i h : Int), 0 ≤ i → t.Text.size ≤ 1048576 → u.Text.size ≤ 1048576 → Dw cs FilP (HH 73 [cur cs i0 h0] (k + 1) P73 (hdS [(0, .pb 0 0), (5, .rf 4096000), (6, nI n), (7, nI ((j + 1 : Nat) : Int))] [(4096000, ⟨ts.length + 2, 3, goTermS (ts ++ [t, u])⟩)] [(0, 3, [.gv cs, nI i, nI h])])) := fun t u i h hi hx hu => by
      have := ih (j + 1) i h (ts ++ [t, u]) (by omega) hi (by simp; omega) (small_app2 hs hx hu)
      rw [show ts.length + 2 = (ts ++ [t, u]).length by simp]
      exact this
    refine Dw.bif (fun _ => ?_) (fun _ => ?_)
    · refine Dw.bind (w90 hc hi) ?_
      rintro _ i1 h1 p1 ⟨t, rfl, ht1⟩
      refine Dw.tru (by simp; omega) ?_
      have := nxt1 t i1 h1 p1 (by omega)
      rw [← app_TermS] at this
      exact this
    · refine Dw.bind (w41 hc hi) ?_
      rintro _ i1 h1 p1 ⟨x, rfl, _⟩
      refine Dw.bif (fun _ => ?_) (fun _ => ?_)
      · refine Dw.tru (by simp; omega) ?_
        have := nxt1 ⟨8, 0, ByteArray.empty⟩ i1 h1 p1 hz
        rw [← app_TermS] at this
        exact this
      refine Dw.bif (fun _ => ?_) (fun _ => ?_)
      · refine Dw.bind (w90 hc p1) ?_
        rintro _ i2 h2 p2 ⟨t, rfl, ht1⟩
        refine Dw.tru (by simp; omega) ?_
        have := nxt2 t ⟨9, 0, ByteArray.empty⟩ i2 h2 p2 (by omega) hz
        rw [← app2_TermS] at this
        exact this
      · refine Dw.bind (w90 hc p1) ?_
        rintro _ i2 h2 p2 ⟨t, rfl, ht1⟩
        refine Dw.tru (by simp; omega) ?_
        have := nxt2 t ⟨10, 0, ByteArray.empty⟩ i2 h2 p2 (by omega) hz
        rw [← app2_TermS] at this
        exact this
theorem w73 {cs : List Int} (hc : codeOk cs) {i h : Int} (hi : 0 ≤ i) (n : Nat) (hn : n ≤ 2) : Dw cs FilP (E 73 [.pb 0 0, nI (n : Int)] [cur cs i h]) := by
  obtain ⟨_, i1, h1, e, p1, x, rfl, a, b, c⟩ := w41 (n := (n : Int) + 1) hc (h := h) hi
  have hx := c (by omega)
  obtain ⟨m, rfl⟩ := Int.eq_ofNat_of_zero_le a
  refine Dw.ev (m + 1) rfl ?_
  rw [de73, nlT, wrapS (by omega) (by omega)]
  exact Dw.bindE e (u73 hc i h m (by omega) m 0 i1 h1 [] (by omega) p1 (by simp) (fun x hx => by simp at hx))
end Go.Fw
