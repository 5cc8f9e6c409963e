/- Values of draws: calls and lines drawn of a code; the law of a call's text. -/
import Derived.Test.YtailkfoodjgipaaGreatDoorD7
set_option linter.unusedVariables false
set_option linter.unusedSimpArgs false
namespace Go.Fw
open Go.Proofs
theorem u67 (xs : List VTerm) (hl : xs.length ≤ 4294967296) : ∀ (k j : Nat), j + k = xs.length → HH 67 [] (k + 1) P67 (S67 xs xs j) = some (.B true, []) := by
  intro k
  induction k with
  | zero => intro j hj; rw [hstep, dh67, bf (by simp [zN]; omega)]
  | succ k ih =>
    intro j hj
    rw [hstep, dh67, bt (by simp [zN]; omega), bt (bndL (by omega)), bt (bndL (by omega)), wrapN (by omega), bf (by simp)]
    exact ih (j + 1) (by omega)
theorem w10 (c : VCall) (hf : c.Filter.length ≤ 4294967296) : E 10 [slCall c, slCall c] [] = some (.B true, []) := by
  have q : E 67 [slTermS c.Filter, slTermS c.Filter] [] = some (.B true, []) := ev1 (c.Filter.length + 1) rfl ((de67 ..).trans (bf' (by simp) (u67 c.Filter hf _ 0 (by omega))))
  have q2 : E 36 [slCall c, slCall c] [] = some (.B true, []) :=
    ev1 0 rfl ((de36 ..).trans (bt' (by simp) (bt' (by simp) (bt' (by simp) (bt' (by simp) (bt' (by simp) (bt' (by simp) (obind' q rfl))))))))
  exact ev1 0 rfl ((de10 ..).trans (obind' q2 rfl))
theorem w37 {cs : List Int} (hc : codeOk cs) {i h : Int} (hi : 0 ≤ i) : Dw cs (fun v => ∃ s, v = .S s) (E 37 [.pb 0 0] [cur cs i h]) := by
  refine Dw.ev 0 rfl ?_
  rw [de37]
  refine Dw.bind (w40 hc hi 2) ?_
  rintro v1 i1 h1 b1 _
  refine Dw.bind (w42 hc b1) ?_
  rintro _ i2 h2 b2 ⟨c, rfl, hf, hl⟩
  refine Dw.bindE (v8 c hf) ?_
  have hz := callT_size c hf
  refine Dw.bind (w20 hc b2) ?_
  rintro _ i3 h3 b3 ⟨b, rfl⟩
  refine Dw.bif (fun _ => ?_) (fun _ => ?_)
  · refine Dw.bind (w68 hc b3 (by decide)) ?_
    rintro _ i4 h4 b4 ⟨k, rfl⟩
    exact Dw.ret b4 ⟨_, rfl⟩
  · refine Dw.bind (w20 hc b3) ?_
    rintro _ i4 h4 b4 ⟨b, rfl⟩
    refine Dw.bif (fun _ => ?_) (fun _ => Dw.ret b4 ⟨_, rfl⟩)
    refine Dw.bif (fun hp => ?_) (fun _ => Dw.ret b4 ⟨_, rfl⟩)
    have hp : (0 : Int) < zN (callT c).size := of_decide_eq_true hp
    refine Dw.bind (w41 hc b4) ?_
    rintro _ i5 h5 b5 ⟨x, rfl, a, b, d⟩
    have hx : x < zN (callT c).size := d hp
    have w : IntKind.i64.wrap (x + 1) = x + 1 := wrapS (by omega) (by omega)
    refine Dw.tru ?_ (Dw.tru ?_ (Dw.tru ?_ (Dw.ret b5 ⟨_, rfl⟩)))
    · show (decide (0 ≤ x) && decide (x ≤ zN (callT c).size)) = true
      rw [decide_eq_true a, decide_eq_true (by omega)]; rfl
    · show (decide (0 ≤ IntKind.i64.wrap (x + 1)) && decide (IntKind.i64.wrap (x + 1) ≤ zN (callT c).size) && decide (zN (callT c).size ≤ zN (callT c).size)) = true
      rw [w, decide_eq_true (by omega), decide_eq_true (by omega)]; simp
    · have e1 := ext_sz (callT c) 0 x.toNat
      have e2 := ext_sz (callT c) (IntKind.i64.wrap (x + 1)).toNat (zN (callT c).size).toNat
      refine decide_eq_true ?_
      show ((callT c).extract 0 x.toNat).size + ((callT c).extract (IntKind.i64.wrap (x + 1)).toNat (zN (callT c).size).toNat).size ≤ _
      omega
abbrev CallQ (v : AV) : Prop := ∃ c, v = .ag 9 (lstG (cellsC c)) ∧ Fit c
theorem leafZ {op a b t mk mn : Int} {nm mt : ByteArray} (fs : List VTerm) (hA : i64R a) (hB : i64R b) (hT : i64R t) (hn : nm.size ≤ 1048576) (hm : mt.size ≤ 1048576) (hf : fs.length ≤ 4294967296) (hs : small fs) :
    Dz CallQ (some (.ag 9 (lstG [nI op, nI a, nI b, nI t, .S nm, nI mk, nI mn, .S mt, owTermS fs]), [])) :=
  Dz.ret ⟨⟨op, a, b, t, nm, ⟨mk, mn, mt⟩, fs⟩, rfl, ⟨hf, hs, hn, hm, hA, hB, hT⟩⟩
theorem d19 {cs : List Int} (hc : codeOk cs) : Dz CallQ (E 19 [.gv cs] []) := by
  obtain ⟨h', e18⟩ := w18 cs hc
  refine Dz.ev 0 rfl ?_
  rw [de19]
  refine Dz.bindE e18 ?_
  refine Dz.bind (w40 hc (by show (0 : Int) ≤ 0; omega) 2) ?_
  rintro v1 i1 h1 b1 _
  refine Dz.bind (w42 hc b1) ?_
  rintro _ i2 h2 b2 ⟨c, rfl, hf, hl⟩
  refine Dz.bind (w20 hc b2) ?_
  rintro _ i3 h3 b3 ⟨b, rfl⟩
  refine Dz.bif (fun _ => ?_) (fun _ => Dz.tru okTb (leafZ c.Filter hf.hA hf.hB hf.hT hf.hn hf.hm hf.hf hf.hs))
  refine Dz.bind (w41 hc b3) ?_
  rintro _ i4 h4 b4 ⟨x, rfl, _⟩
  refine Dz.bif (fun _ => ?_) (fun _ => ?_)
  · refine Dz.bind (w41 hc b4) ?_
    rintro _ i5 h5 b5 ⟨y, rfl, _⟩
    exact Dz.tru okTb (leafZ c.Filter hf.hA hf.hB hf.hT hf.hn hf.hm hf.hf hf.hs)
  refine Dz.bif (fun _ => Dz.tru okTb (leafZ c.Filter (wrap_rng _) hf.hB hf.hT hf.hn hf.hm hf.hf hf.hs)) (fun _ => ?_)
  refine Dz.bif (fun _ => Dz.tru okTb (leafZ c.Filter hf.hA (wrap_rng _) hf.hT hf.hn hf.hm hf.hf hf.hs)) (fun _ => ?_)
  refine Dz.bif (fun _ => ?_) (fun _ => ?_)
  · refine Dz.bind (w41 hc b4) ?_
    rintro _ i5 h5 b5 ⟨y, rfl, _⟩
    exact Dz.tru okTb (leafZ c.Filter hf.hA hf.hB (wrap_rng _) hf.hn hf.hm hf.hf hf.hs)
  refine Dz.bif (fun _ => Dz.tru okTb (leafZ c.Filter hf.hA hf.hB hf.hT (by decide) hf.hm hf.hf hf.hs)) (fun _ => ?_)
  refine Dz.bif (fun _ => ?_) (fun _ => ?_)
  · refine Dz.bind (w43 hc b4) ?_
    rintro _ i5 h5 b5 ⟨m, rfl, hm⟩
    exact Dz.tru okTb (leafZ c.Filter hf.hA hf.hB hf.hT hf.hn (by show m.Text.size ≤ _; omega) hf.hf hf.hs)
  · refine Dz.tru (gg (by show c.Filter.length ≤ 100; exact hl)) (Dz.tru okTb ?_)
    have nxt : Dz CallQ (some (.ag 9 (lstG [nI c.Op, nI c.A, nI c.B, nI c.Tok, .S c.Name, nI c.Msg.Kind, nI c.Msg.Num, .S c.Msg.Text, .own (c.Filter.length + 1) 3 (goTermS (c.Filter ++ [⟨8, 0, ByteArray.empty⟩]))]), [])) := by
      rw [show c.Filter.length + 1 = (c.Filter ++ [(⟨8, 0, ByteArray.empty⟩ : VTerm)]).length by simp]
      exact leafZ (c.Filter ++ [⟨8, 0, ByteArray.empty⟩]) hf.hA hf.hB hf.hT hf.hn hf.hm (by simp; omega) (small_app hf.hs ez)
    rw [← app_TermS] at nxt
    exact nxt
theorem d6 {cs : List Int} (hc : codeOk cs) : Dz CallQ (E 6 [.gv cs] []) := by
  obtain ⟨h', e18⟩ := w18 cs hc
  obtain ⟨_, e19, c, rfl, hf⟩ := d19 hc
  refine Dz.ev 0 rfl ?_
  rw [de6]
  refine Dz.bindE e18 (Dz.bindE e19 ?_)
  refine Dz.bind (w20 hc (by show (0 : Int) ≤ 0; omega)) ?_
  rintro _ i1 h1 b1 ⟨b, rfl⟩
  refine Dz.bif (fun _ => ?_) (fun _ => Dz.tru okTb (leafZ c.Filter hf.hA hf.hB hf.hT hf.hn hf.hm hf.hf hf.hs))
  refine Dz.bind (w21 hc b1 (by decide)) ?_
  rintro _ i2 h2 b2 ⟨k, rfl⟩
  refine Dz.tru okTb (leafZ c.Filter ?_ hf.hB hf.hT hf.hn hf.hm hf.hf hf.hs)
  have key : ∀ (b : Bool) (x y : Int), i64R x → i64R y → i64R (bif b then x else y) := fun b x y hx hy => by cases b <;> assumption
  exact key _ _ _ ⟨by omega, by omega⟩ (key _ _ _ ⟨by omega, by omega⟩ (key _ _ _ ⟨by omega, by omega⟩ z64))
theorem d11 {cs : List Int} (hc : codeOk cs) : Dz (fun v => ∃ s, v = .S s) (E 11 [.gv cs] []) := by
  obtain ⟨h', e18⟩ := w18 cs hc
  refine Dz.ev 0 rfl ?_
  rw [de11]
  refine Dz.bindE e18 ?_
  refine Dz.bind (w37 hc (by show (0 : Int) ≤ 0; omega)) ?_
  rintro _ i1 h1 b1 ⟨s, rfl⟩
  exact Dz.ret ⟨_, rfl⟩
theorem fitR {c : VCall} {s : ByteArray} (h1 : callB c = true) (h2 : callT c = s) (hs : s.size ≤ 160) : Fit c := by
  obtain ⟨d, _, hf, hd⟩ := v17 s hs
  rw [← hd c h1 h2]; exact hf
/-- The second part of the law: a drawn line that is read. -/
theorem part2 (s : ByteArray) : ∃ y b, E 9 [.S s] [] = rRC y b ∧ E 12 [.S s] [] = rRC y b ∧ (b = true → E 7 [slCall y] [] = some (.tup 2 (lstG [.S s, .B true]), [])) := by
  obtain ⟨y, b, e17, e18, hc, _⟩ := vRead s
  refine ⟨y, b, e18, e17, fun hb => ?_⟩
  rcases hc with ⟨_, h1, h2, h3⟩ | ⟨h, _⟩
  · have q : E 7 [slCall y] [] = some (.tup 2 (lstG [.S (callT y), .B (callB y)]), []) := v10 y (fitR h1 h2 h3)
    rw [h1, h2] at q
    exact q
  · rw [hb] at h; simp at h
theorem c3 (cs : List Int) : E 3 [.gv cs] [] = some (.B true, []) := by
  have q5 : E 5 [.gv cs] [] = some (.B (decide (1048576 < zN cs.length)), []) := ev1 0 rfl (de5 ..)
  by_cases hb : 1048576 < cs.length
  · exact ev1 0 rfl ((de3 ..).trans (obind' q5 (bt' (decide_eq_true (by simp only [zN]; omega)) rfl)))
  have hc : codeOk cs := by unfold codeOk; omega
  obtain ⟨_, q6, c, rfl, hf⟩ := d6 hc
  obtain ⟨_, q11, s, rfl⟩ := d11 hc
  obtain ⟨y, b, q9, q12, q7⟩ := part2 s
  have qi := v10 c hf
  have qs := v8 c hf
  have ebb : ∀ b : Bool, (!b == b) = false := fun b => by cases b <;> rfl
  refine ev1 0 rfl ((de3 ..).trans (obind' q5 (bf' (decide_eq_false (by simp only [zN]; omega)) (obind' q6 (obind' qi (obind' qs (bf' (ebb (callB c)) (bf' (by show (!(callT c).toList == (callT c).toList) = false; simp) ?_))))))))
  have tail : (Option.bind (E 11 [AV.gv cs] []) fun r8 =>
          Option.bind (E 9 [AV.S (asS r8.fst)] []) fun r9 =>
          Option.bind (E 12 [AV.S (asS r8.fst)] []) fun r10 =>
          bif !asB (asA r9.fst 1) then
            (some (AV.B (asB (asA r9.fst 1) == asB (asA r10.fst 1)), []))
          else
            (bif !asB (asA r10.fst 1) then
              (some (AV.B (asB (asA r9.fst 1) == asB (asA r10.fst 1)), []))
            else
              (Option.bind (E 7 [AV.ag 9 (lstG [nI (asI (asA (asA r9.fst 0) 0)), nI (asI (asA (asA r9.fst 0) 1)), nI (asI (asA (asA r9.fst 0) 2)), nI (asI (asA (asA r9.fst 0) 3)), AV.S (asS (asA (asA r9.fst 0) 4)), nI (asI (asA (asA r9.fst 0) 5)), nI (asI (asA (asA r9.fst 0) 6)), AV.S (asS (asA (asA r9.fst 0) 7)), vslTermS (asA (asA r9.fst 0) 8)])] []) fun r13 =>
              some (AV.B ((asS (asA r13.fst 0)).toList == (asS r8.fst).toList), [])))) = some (.B true, ([] : List AV)) := by
    refine obind' q11 (obind' q9 (obind' q12 ?_))
    cases b with
    | false => rfl
    | true =>
      refine bf' rfl (bf' rfl (obind' (q7 rfl) ?_))
      show some (AV.B (s.toList == s.toList), []) = _
      simp
  cases hk : callB c with
  | false => exact bf' rfl tail
  | true =>
    refine bt' rfl ?_
    by_cases hs : (callT c).size ≤ 160
    · obtain ⟨x, b2, e17, e18, _, hcomp⟩ := vRead (callT c)
      obtain ⟨rfl, rfl⟩ := hcomp hs c hk rfl
      have qq := w10 x hf.hf
      exact bt' (decide_eq_true (by show zN (callT x).size ≤ 160; simp only [zN]; omega)) (obind' e18 (bf' rfl (obind' qq (bf' rfl tail))))
    · exact bf' (decide_eq_false (by show ¬ zN (callT c).size ≤ 160; simp only [zN]; omega)) tail
end Go.Fw
