/- Values of the functions that TellOne's law reaches: a telling of one. -/
import Derived.Test.YtkhfkekbfjkpcaaG3
set_option linter.unusedVariables false
set_option linter.unusedSimpArgs false
namespace Go.Fw
open Go.Proofs

theorem row_appG {os : List (Int × Bool)} {v : Int} {b : Bool} : (fun i => lstG [AV.I .i64 (bif decide (i < os.length) then (os.getD i (0, false)).1 else bif decide (i - os.length = 0) then v else 0), AV.B (bif decide (i < os.length) then (os.getD i (0, false)).2 else bif decide (i - os.length = 0) then b else false)]) = gG (os ++ [(v, b)]) := by
  funext i
  unfold gG
  by_cases hi : i < os.length
  · simp [List.getD_eq_getElem?_getD, hi, List.getElem?_append_left hi]
  · by_cases h2 : i - os.length = 0
    · have : i = os.length := by omega
      subst this; simp [List.getD_eq_getElem?_getD]
    · have h3 : (os ++ [(v, b)])[i]? = none := List.getElem?_eq_none (by simp; omega)
      simp [List.getD_eq_getElem?_getD, hi, h2, h3]
theorem row_drop {w : Int} {xs : List Int} : (fun i => lstG [AV.I .i64 (bif decide (i < (zN (w :: xs).length).toNat - 1) then (w :: xs).getD (1 + i) 0 else (w :: xs).getD (w :: xs).length 0)]) = gI xs := by
  funext i
  unfold gI
  have : (zN (w :: xs).length).toNat - 1 = xs.length := by simp [zN]
  rw [this]
  by_cases hi : i < xs.length
  · simp [List.getD_eq_getElem?_getD, hi, Nat.add_comm 1 i]
  · simp [List.getD_eq_getElem?_getD, hi]
def giveN (n : NT) : NT × Int := match n.l with
  | w :: r => (⟨n.p, r, n.g ++ [(w, true)], n.o, n.s, n.t⟩, w)
  | [] => (⟨true, [], n.g, n.o, if n.p = true then IntKind.i64.wrap (n.s + 1) else n.s, n.t⟩, -1)
abbrev boxN (n : NT) : AV := .nbx 6 (lstG [.B n.p, owI n.l, owG n.g, nI n.o, nI n.s, nI n.t])
theorem okT2 : (bif okT then bif okT then true else false else false) = true := by rw [okT_eq]; rfl
theorem okT3 : (bif bif okT then bif okT then true else false else false then true else false) = true := by rw [okT_eq]; rfl
theorem v33 (n : NT) (h1 : n.l.length ≤ 4294967296) (h2 : n.g.length ≤ 4294967295) : E 33 [.ag 6 (lstG [.B n.p, .rf 0, .rf 4096, nI n.o, nI n.s, nI n.t])] [owI n.l, owG n.g] =
    some (.tup 2 (lstG [owN (giveN n).1, nI (giveN n).2]), [.bad, .bad]) := by
  obtain ⟨p, l, g, o, s, t⟩ := n
  refine ev1 0 rfl ?_
  rw [e33]
  simp only at h1 h2 ⊢
  cases l with
  | nil =>
    rw [bf (by simp [zN])]
    cases p
    · rw [bf rfl, bt okT3]; rfl
    · rw [bt rfl, bt okT3]; rfl
  | cons w r =>
    rw [bt (by simp [zN]), bt (by simp [zN]), bt (by simp [zN]; omega), row_drop]
    have hl : (zN (w :: r).length).toNat - 1 = r.length := by simp [zN]
    rw [hl, obind (v62 r (by simp at h1; omega)), bt (by simp; omega), bt okT3, row_appG]
    have e1 : g.length + 1 = (g ++ [(w, true)]).length := by simp
    rw [show ((w :: r).getD 0 0) = w from rfl, e1]
    rfl
theorem v38 (n : NT) (h1 : n.l.length ≤ 4294967296) (h2 : n.g.length ≤ 4294967295) : E 38 [.pb 0 0] [boxN n] = some (nI (giveN n).2, [boxN (giveN n).1]) := by
  obtain ⟨p, l, g, o, s, t⟩ := n
  refine ev1 0 rfl ?_
  rw [e38]
  simp only at h1 h2 ⊢
  cases l with
  | nil =>
    rw [bt (by simp [zN])]
    cases p
    · rw [bf rfl, bt okT2]; rfl
    · rw [bt rfl, bt okT2]; rfl
  | cons w r =>
    rw [bf (by simp [zN]; omega), bt (by simp [zN]), bt (by simp [zN]; omega), bt (by simp; omega), bt okT2, row_drop, row_appG]
    have hl : (zN (w :: r).length).toNat - 1 = r.length := by simp [zN]
    have e1 : g.length + 1 = (g ++ [(w, true)]).length := by simp
    rw [show ((w :: r).getD 0 0) = w from rfl, e1, hl]
    rfl
def oneUp (n : NT) : NT := ⟨n.p, n.l, n.g, IntKind.i64.wrap (n.o + 1), n.s, n.t⟩
def tellN (n : NT) : NT × Int × Int :=
  if okSp n = true then (if 1000000000 ≤ n.o then (n, -1, 2) else if 0 < n.l.length then (if 32 ≤ n.g.length then (n, -1, 2) else ((giveN (oneUp n)).1, (giveN (oneUp n)).2, 0)) else ((giveN (oneUp n)).1, (giveN (oneUp n)).2, 0))
  else (n, -1, 1)
abbrev tel (r : NT × Int × Int) : AV := .tup 3 (lstG [owN r.1, nI r.2.1, nI r.2.2])
theorem v9 (n : NT) (h1 : n.l.length ≤ 4294967295) (h2 : n.g.length ≤ 4294967295) : E 9 [slN n] [] = some (tel (tellN n), []) := by
  refine ev1 0 rfl ?_
  have q1 := v24 n (by omega) (by omega)
  rw [e9, obind (v32 n (by omega) (by omega))]
  unfold tellN
  generalize okSp n = c1 at q1 ⊢
  rw [obind q1]
  cases c1
  · exact bt (c := (bif bif okT then bif okT then true else false else false then true else false)) okT3
  · simp only [asB, Bool.not_true, cond_false, if_true]
    have q2 : E 33 [.ag 6 (lstG [.B (oneUp n).p, .rf 0, .rf 4096, nI (oneUp n).o, nI (oneUp n).s, nI (oneUp n).t])] [owI (oneUp n).l, owG (oneUp n).g] = _ := v33 (oneUp n) (by show n.l.length ≤ _; omega) h2
    by_cases ha : 1000000000 ≤ n.o
    · rw [if_pos ha, bt (decide_eq_true ha)]
      exact bt okT3
    · rw [if_neg ha, bf (decide_eq_false ha)]
      by_cases hb : 0 < n.l.length
      · rw [if_pos hb, bt (by simp [zN]; omega)]
        by_cases hc : 32 ≤ n.g.length
        · rw [if_pos hc, bt (by simp [zN]; omega)]
          exact bt okT3
        · rw [if_neg hc, bf (by simp [zN]; omega)]
          exact (obind q2).trans (bt okT3)
      · rw [if_neg hb, bf (decide_eq_false (by simp only [zN]; omega))]
        exact (obind q2).trans (bt okT3)
theorem ok_bnd {n : NT} (h : okSp n = true) : n.o ≤ 1000000000 ∧ n.g.length ≤ 32 := by
  unfold okSp at h
  simp only [Bool.and_eq_true, decide_eq_true_eq, inR] at h
  exact ⟨h.2.2.2.1.2, h.2.1⟩
theorem v11 (n : NT) (h1 : n.l.length ≤ 4294967295) (h2 : n.g.length ≤ 4294967295) : E 11 [slN n] [] = some (tel (tellN n), []) := by
  refine ev1 0 rfl ?_
  have q1 := v37 n (by omega) (by omega)
  rw [ok_same] at q1
  have hbd := @ok_bnd n
  rw [e11, obind (v36 n (by omega) (by omega))]
  unfold tellN
  generalize okSp n = c1 at q1 hbd ⊢
  rw [obind q1]
  cases c1
  · exact bt okT3
  · obtain ⟨hb1, hb2⟩ := hbd rfl
    simp only [asB, Bool.not_true, cond_false, if_true]
    have q2 : E 38 [.pb 0 0] [boxN (oneUp n)] = _ := v38 (oneUp n) (by show n.l.length ≤ _; omega) h2
    by_cases ha : 1000000000 ≤ n.o
    · rw [if_pos ha, bt (decide_eq_true (by omega))]
      exact bt okT3
    · rw [if_neg ha, bf (decide_eq_false (by omega))]
      by_cases hb : 0 < n.l.length
      · rw [if_pos hb, bt (by simp [zN]; omega)]
        by_cases hc : 32 ≤ n.g.length
        · rw [if_pos hc, bt (by simp [zN]; omega)]
          exact bt okT3
        · rw [if_neg hc, bf (by simp [zN]; omega)]
          exact (obind q2).trans (bt okT3)
      · rw [if_neg hb, bf (decide_eq_false (by simp only [zN]; omega))]
        exact (obind q2).trans (bt okT3)
end Go.Fw
