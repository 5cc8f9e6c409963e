/- Values of draws: a call. -/
import Derived.Test.YtailkfoodjgipaaGreatDoorD4
import Derived.Test.YtailkfoodjgipaaGreatDoorL2
set_option linter.unusedVariables false
set_option linter.unusedSimpArgs false
namespace Go.Fw
open Go.Proofs
abbrev CallP (v : AV) : Prop := ∃ c, v = .ag 9 (lstG (cellsC c)) ∧ Fit c ∧ c.Filter.length ≤ 100
theorem leafC {cs : List Int} {i h : Int} {op a b t mk mn : Int} {nm mt : ByteArray} (fs : List VTerm) (hi : 0 ≤ i) (hA : i64R a) (hB : i64R b) (hT : i64R t) (hn : nm.size ≤ 1048576) (hm : mt.size ≤ 1048576) (hf : fs.length ≤ 100) (hs : small fs) :
    Dw cs CallP (some (.ag 9 (lstG [nI op, nI a, nI b, nI t, .S nm, nI mk, nI mn, .S mt, owTermS fs]), [cur cs i h])) :=
  Dw.ret hi ⟨⟨op, a, b, t, nm, ⟨mk, mn, mt⟩, fs⟩, rfl, ⟨by show fs.length ≤ _; omega, hs, hn, hm, hA, hB, hT⟩, hf⟩
theorem leafM {cs : List Int} {i h : Int} {a b : Int} {t : ByteArray} (hi : 0 ≤ i) (ht : t.size ≤ 200) : Dw cs (fun v => ∃ m, v = slMsg m ∧ m.Text.size ≤ 200) (some (.ag 3 (lstG [nI a, nI b, .S t]), [cur cs i h])) := Dw.ret hi ⟨⟨a, b, t⟩, rfl, ht⟩
theorem nlO : (AV.own 0 3 fun i : Nat => lstG [nI 0, nI 0, AV.S ByteArray.empty]) = owTermS [] := by rw [nlT]; rfl
theorem z64 : i64R 0 := ⟨by omega, by omega⟩
theorem n64 {x : Int} (h0 : 0 ≤ x) (h1 : x ≤ 4294967295) : i64R x := ⟨by omega, by omega⟩
theorem ez : ByteArray.empty.size ≤ 1048576 := by decide
theorem w43 {cs : List Int} (hc : codeOk cs) {i h : Int} (hi : 0 ≤ i) : Dw cs (fun v => ∃ m, v = slMsg m ∧ m.Text.size ≤ 200) (E 43 [.pb 0 0] [cur cs i h]) := by
  have e1 : ∀ c : UInt8, (bs [c]).size = 1 := fun _ => rfl
  refine Dw.ev 0 rfl ?_
  rw [de43]
  refine Dw.bind (w75 hc hi) ?_
  rintro _ i1 h1 p1 ⟨m, rfl, hm⟩
  refine Dw.bind (w20 hc p1) ?_
  rintro _ i2 h2 p2 ⟨b, rfl⟩
  refine Dw.bif (fun _ => ?_) (fun _ => Dw.ret p2 ⟨m, rfl, by omega⟩)
  refine Dw.bind (w41 hc p2) ?_
  rintro _ i3 h3 p3 ⟨x, rfl, _⟩
  refine Dw.bif (fun _ => ?_) (fun _ => ?_)
  · refine Dw.bind (w41 hc p3) ?_
    rintro _ i4 h4 p4 ⟨y, rfl, _⟩
    exact leafM p4 (by show m.Text.size ≤ 200; omega)
  refine Dw.bif (fun _ => ?_) (fun _ => ?_)
  · refine Dw.bind (w21 hc p3 (by decide)) ?_
    rintro _ i4 h4 p4 ⟨k, rfl⟩
    exact leafM p4 (by show m.Text.size ≤ 200; omega)
  refine Dw.bif (fun _ => ?_) (fun _ => ?_)
  · refine Dw.tru (decide_eq_true (by show m.Text.size + 1 ≤ _; omega)) (Dw.ret p3 ⟨⟨m.Kind, m.Num, m.Text ++ bs [34]⟩, rfl, ?_⟩)
    show (m.Text ++ bs [34]).size ≤ 200
    rw [ByteArray.size_append, e1]; omega
  refine Dw.bif (fun _ => ?_) (fun _ => ?_)
  · refine Dw.tru (decide_eq_true (by show m.Text.size + 1 ≤ _; omega)) (Dw.ret p3 ⟨⟨m.Kind, m.Num, m.Text ++ bs [10]⟩, rfl, ?_⟩)
    show (m.Text ++ bs [10]).size ≤ 200
    rw [ByteArray.size_append, e1]; omega
  · exact leafM p3 (by decide)
theorem u42 {cs : List Int} (hc : codeOk cs) {i h : Int} (hi : 0 ≤ i) (i0 h0 : Int) (p0 p2 p3 p4 p5 p6 p7 : Nat) (q0 q2 q3 q4 q5 q6 q7 : Nat → Nat → AV) (p1 p8 : Int) (op tok o : Int) (ht : i64R tok) (ho : 1 ≤ o ∧ o ≤ 19) (k : Nat) :
    Dw cs CallP (HH 42 [cur cs i0 h0] (k + 1) P42 (S42 cs i h i0 h0 p0 p2 p3 p4 p5 p6 p7 q0 q2 q3 q4 q5 q6 q7 p1 p8 op tok o)) := by
  rw [hstep]
  have hcases : o = 1 ∨ o = 2 ∨ o = 3 ∨ o = 4 ∨ o = 5 ∨ o = 6 ∨ o = 7 ∨ o = 8 ∨ o = 9 ∨ o = 10 ∨ o = 11 ∨ o = 12 ∨ o = 13 ∨ o = 14 ∨ o = 15 ∨ o = 16 ∨ o = 17 ∨ o = 18 ∨ o = 19 := by omega
  rcases hcases with e | e | e | e | e | e | e | e | e | e | e | e | e | e | e | e | e | e | e <;> subst e
  · rw [dh42o1]
    try simp only [nlO]
    refine Dw.bind (w41 hc hi) ?_
    rintro _ i1 h1 p1 ⟨x, rfl, a, b, _⟩
    exact Dw.tru okTb (leafC [] p1 (n64 a b) z64 ht ez ez (by simp) (fun x hx => by simp at hx))
  · rw [dh42o2]
    try simp only [nlO]
    refine Dw.bind (w41 hc hi) ?_
    rintro _ i1 h1 p1 ⟨x, rfl, a, b, _⟩
    exact Dw.tru okTb (leafC [] p1 (n64 a b) z64 ht ez ez (by simp) (fun x hx => by simp at hx))
  · rw [dh42o3]
    try simp only [nlO]
    refine Dw.bind (w41 hc hi) ?_
    rintro _ i1 h1 p1 ⟨x, rfl, a, b, _⟩
    exact Dw.tru okTb (leafC [] p1 (n64 a b) z64 ht ez ez (by simp) (fun x hx => by simp at hx))
  · rw [dh42o4]
    try simp only [nlO]
    refine Dw.bind (w41 hc hi) ?_
    rintro _ i1 h1 p1 ⟨x, rfl, a, b, _⟩
    exact Dw.tru okTb (leafC [] p1 (n64 a b) z64 ht ez ez (by simp) (fun x hx => by simp at hx))
  · rw [dh42o5]
    try simp only [nlO]
    refine Dw.bind (w41 hc hi) ?_
    rintro _ i1 h1 p1 ⟨x, rfl, a, b, _⟩
    exact Dw.tru okTb (leafC [] p1 (n64 a b) z64 ht ez ez (by simp) (fun x hx => by simp at hx))
  · rw [dh42o6]
    try simp only [nlO]
    refine Dw.bind (w41 hc hi) ?_
    rintro _ i1 h1 p1 ⟨x, rfl, a, b, _⟩
    exact Dw.tru okTb (leafC [] p1 (n64 a b) z64 ht ez ez (by simp) (fun x hx => by simp at hx))
  · rw [dh42o7]
    try simp only [nlO]
    refine Dw.bind (w41 hc hi) ?_
    rintro _ i1 h1 p1 ⟨x, rfl, a, b, _⟩
    exact Dw.tru okTb (leafC [] p1 z64 (wrap_rng _) ht ez ez (by simp) (fun x hx => by simp at hx))
  · rw [dh42o8]
    try simp only [nlO]
    exact Dw.tru okTb (leafC [] hi z64 z64 ht ez ez (by simp) (fun x hx => by simp at hx))
  · rw [dh42o9]
    try simp only [nlO]
    refine Dw.bind (w41 hc hi) ?_
    rintro _ i1 h1 p1 ⟨x, rfl, a, b, _⟩
    refine Dw.bind (w41 hc p1) ?_
    rintro _ i2 h2 p2 ⟨y, rfl, _⟩
    refine Dw.bind (w75 hc p2) ?_
    rintro _ i3 h3 p3 ⟨m, rfl, hm⟩
    refine Dw.bind (w20 hc p3) ?_
    rintro _ i4 h4 p4 ⟨bb, rfl⟩
    refine Dw.bif (fun _ => ?_) (fun _ => ?_)
    · exact Dw.tru okTb (leafC [] p4 (n64 a b) ⟨by omega, by omega⟩ ht ez (by show m.Text.size ≤ _; omega) (by simp) (fun x hx => by simp at hx))
    · exact Dw.tru okTb (leafC [] p4 (n64 a b) (wrap_rng _) ht ez (by show m.Text.size ≤ _; omega) (by simp) (fun x hx => by simp at hx))
  · rw [dh42o10]
    try simp only [nlO]
    refine Dw.bind (w41 hc hi) ?_
    rintro _ i1 h1 p1 ⟨x, rfl, a, b, _⟩
    exact Dw.tru okTb (leafC [] p1 (n64 a b) z64 ht ez ez (by simp) (fun x hx => by simp at hx))
  · rw [dh42o11]
    try simp only [nlO]
    refine Dw.bind (w41 hc hi) ?_
    rintro _ i1 h1 p1 ⟨x, rfl, a, b, _⟩
    exact Dw.tru okTb (leafC [] p1 (n64 a b) z64 ht ez ez (by simp) (fun x hx => by simp at hx))
  · rw [dh42o12]
    try simp only [nlO]
    refine Dw.bind (w41 hc hi) ?_
    rintro _ i1 h1 p1 ⟨x, rfl, a, b, _⟩
    exact Dw.tru okTb (leafC [] p1 (n64 a b) z64 ht ez ez (by simp) (fun x hx => by simp at hx))
  · rw [dh42o13]
    try simp only [nlO]
    refine Dw.bind (w68 hc hi (by decide)) ?_
    rintro _ i1 h1 p1 ⟨x, rfl⟩
    refine Dw.bind (w75 hc p1) ?_
    rintro _ i3 h3 p3 ⟨m, rfl, hm⟩
    refine Dw.tru okTb (leafC [] p3 z64 z64 ht ?_ (by show m.Text.size ≤ _; omega) (by simp) (fun x hx => by simp at hx))
    repeat' apply szb
  
    all_goals decide
  · rw [dh42o14]
    try simp only [nlO]
    refine Dw.bind (w41 hc hi) ?_
    rintro _ i1 h1 p1 ⟨x, rfl, a, b, _⟩
    refine Dw.bind (w73 hc p1 2 (by omega)) ?_
    rintro _ i2 h2 p2 ⟨ts, rfl, hl, hs⟩
    refine Dw.bind (w41 hc p2) ?_
    rintro _ i3 h3 p3 ⟨y, rfl, a2, b2, _⟩
    exact Dw.tru okTb (leafC ts p3 (n64 a b) (n64 a2 b2) ht ez ez (by omega) hs)
  · rw [dh42o15]
    try simp only [nlO]
    refine Dw.bind (w41 hc hi) ?_
    rintro _ i1 h1 p1 ⟨x, rfl, a, b, _⟩
    exact Dw.tru okTb (leafC [] p1 z64 (n64 a b) ht ez ez (by simp) (fun x hx => by simp at hx))
  · rw [dh42o16]
    try simp only [nlO]
    refine Dw.bind (w41 hc hi) ?_
    rintro _ i1 h1 p1 ⟨x, rfl, a, b, _⟩
    exact Dw.tru okTb (leafC [] p1 z64 (n64 a b) ht ez ez (by simp) (fun x hx => by simp at hx))
  · rw [dh42o17]
    try simp only [nlO]
    refine Dw.bind (w41 hc hi) ?_
    rintro _ i1 h1 p1 ⟨x, rfl, a, b, _⟩
    exact Dw.tru okTb (leafC [] p1 (n64 a b) z64 ht ez ez (by simp) (fun x hx => by simp at hx))
  · rw [dh42o18]
    try simp only [nlO]
    refine Dw.bind (w41 hc hi) ?_
    rintro _ i1 h1 p1 ⟨x, rfl, a, b, _⟩
    exact Dw.tru okTb (leafC [] p1 (n64 a b) z64 ht ez ez (by simp) (fun x hx => by simp at hx))
  · rw [dh42o19]
    try simp only [nlO]
    refine Dw.bind (w41 hc hi) ?_
    rintro _ i1 h1 p1 ⟨x, rfl, a, b, _⟩
    refine Dw.bind (w41 hc p1) ?_
    rintro _ i2 h2 p2 ⟨y, rfl, a2, b2, _⟩
    exact Dw.tru okTb (leafC [] p2 (wrap_rng _) (n64 a2 b2) ht ez ez (by simp) (fun x hx => by simp at hx))
end Go.Fw
