/- Values of draws of a Notify: what the reference's calls give; only how long its lists become is told. -/
import Derived.Test.YtkhfkekbfjkpcaaH2
import Derived.Test.YtkhfkekbfjkpcaaGe
set_option linter.unusedVariables false
set_option linter.unusedSimpArgs false
namespace Go.Fw
open Go.Proofs
theorem d77 (n : NT) (a : Int) (h1 : n.l.length ≤ 1073741824) (h2 : n.g.length ≤ 1073741824) : ∃ m : NT × Int, m.1.l.length ≤ n.l.length + 1 ∧ m.1.g.length ≤ n.g.length ∧ E 77 [slN n, nI a] [] = some (tel2 m, []) := by
  have q0 := v32 n (by omega) (by omega)
  have q1 := v24 n (by omega) (by omega)
  have q3 := v57 a
  have q4 := v50 n.l a (by omega)
  have q5 := v49 n.g a (by omega)
  have same : ∀ c : Int, (n, c).1.l.length ≤ n.l.length + 1 ∧ (n, c).1.g.length ≤ n.g.length := fun c => ⟨Nat.le_succ _, Nat.le_refl _⟩
  by_cases c1 : okSp n = true
  case neg =>
    refine ⟨(n, 1), (same 1).1, (same 1).2, ev1 0 rfl ?_⟩
    rw [e77]
    have c1' : okSp n = false := by cases h : okSp n <;> simp_all
    rw [c1'] at q1
    exact obind' q0 (obind' q1 (bt' rfl (bt okT3)))
  rw [c1] at q1
  by_cases c2 : inR a 0 63 = true
  case neg =>
    refine ⟨(n, 1), (same 1).1, (same 1).2, ev1 0 rfl ?_⟩
    rw [e77]
    have c2' : inR a 0 63 = false := by cases h : inR a 0 63 <;> simp_all
    rw [c2'] at q3
    exact obind' q0 (obind' q1 (bf' rfl (obind' q3 (bt' rfl (bt okT3)))))
  rw [c2] at q3
  by_cases c3 : hasF (fun j => n.l.getD j 0) a n.l.length 0 = true
  · refine ⟨(n, 5), (same 5).1, (same 5).2, ev1 0 rfl ?_⟩
    rw [e77]
    rw [c3] at q4
    exact obind' q0 (obind' q1 (bf' rfl (obind' q3 (bf' rfl (obind' q4 (bt' rfl (bt okT3)))))))
  have c3' : hasF (fun j => n.l.getD j 0) a n.l.length 0 = false := by cases h : hasF (fun j => n.l.getD j 0) a n.l.length 0 <;> simp_all
  rw [c3'] at q4
  by_cases c4 : 0 ≤ ixF (whoF n.g) a n.g.length 0
  · refine ⟨(n, 5), (same 5).1, (same 5).2, ev1 0 rfl ?_⟩
    rw [e77]
    exact obind' q0 (obind' q1 (bf' rfl (obind' q3 (bf' rfl (obind' q4 (bf' rfl (obind' q5 (bt' (decide_eq_true c4) (bt okT3)))))))))
  by_cases c5 : 1000000000 ≤ n.t
  · refine ⟨(n, 2), (same 2).1, (same 2).2, ev1 0 rfl ?_⟩
    rw [e77]
    exact obind' q0 (obind' q1 (bf' rfl (obind' q3 (bf' rfl (obind' q4 (bf' rfl (obind' q5 (bf' (decide_eq_false c4) (bt' (decide_eq_true c5) (bt okT3))))))))))
  by_cases c6 : n.p = true
  · refine ⟨(⟨false, n.l, n.g, n.o, n.s, IntKind.i64.wrap (n.t + 1)⟩, 0), Nat.le_succ _, Nat.le_refl _, ev1 0 rfl ?_⟩
    rw [e77]
    exact obind' q0 (obind' q1 (bf' rfl (obind' q3 (bf' rfl (obind' q4 (bf' rfl (obind' q5 (bf' (decide_eq_false c4) (bf' (decide_eq_false c5) (bf' (by rw [c6]; rfl) (bt' c6 (bt okT3))))))))))))
  have c6' : n.p = false := by cases h : n.p <;> simp_all
  by_cases c7 : 32 ≤ zN n.l.length
  · refine ⟨(n, 2), (same 2).1, (same 2).2, ev1 0 rfl ?_⟩
    rw [e77]
    exact obind' q0 (obind' q1 (bf' rfl (obind' q3 (bf' rfl (obind' q4 (bf' rfl (obind' q5 (bf' (decide_eq_false c4) (bf' (decide_eq_false c5) (bt' (by rw [c6']; rfl) (bt' (decide_eq_true c7) (bt okT3))))))))))))
  · refine ⟨(⟨n.p, n.l ++ [a], n.g, n.o, n.s, n.t⟩, 4), by simp, Nat.le_refl _, ev1 0 rfl ?_⟩
    rw [e77]
    refine obind' q0 (obind' q1 (bf' rfl (obind' q3 (bf' rfl (obind' q4 (bf' rfl (obind' q5 (bf' (decide_eq_false c4) (bf' (decide_eq_false c5) (bt' (by rw [c6']; rfl) (bf' (decide_eq_false c7) (bf' c6' (bt' ?_ (bt' okT3 ?_))))))))))))))
    · show (decide (n.l.length + 1 ≤ 4294967296) && true && true && true && true) = true
      simp; omega
    · refine congrArg (fun x => some (x, ([] : List AV))) ?_
      show AV.tup 2 (lstG [.ag 6 (lstG [.B n.p, .own (n.l.length + 1) 1 _, owG n.g, nI n.o, nI n.s, nI n.t]), nI 4]) = tel2 (⟨n.p, n.l ++ [a], n.g, n.o, n.s, n.t⟩, 4)
      have e1 : (n.l ++ [a]).length = n.l.length + 1 := by simp
      have e2 : (fun i => lstG [AV.I .i64 (bif decide (i < n.l.length) then n.l.getD i 0 else bif decide (i - n.l.length = 0) then a else 0)]) = gI (n.l ++ [a]) := row_app
      show _ = AV.tup 2 (lstG [.ag 6 (lstG [.B n.p, .own (n.l ++ [a]).length 1 (gI (n.l ++ [a])), owG n.g, nI n.o, nI n.s, nI n.t]), nI 4])
      rw [e1, ← e2]
      rfl
theorem l85 (n : NT) (h1 : n.l.length ≤ 2147483648) : ∀ (k i : Nat) (os : List (Int × Bool)), i + k = n.l.length → os.length + k ≤ 4294967295 →
    HH 85 [] (k + 1) [true, true, true, false, true] (hdS [(1, .pb 65 0), (2, .pb 66 0), (5, .pb 69 0), (6, nI (i : Int))] [(466944, ⟨n.l.length, 1, gI n.l⟩), (471040, ⟨os.length, 2, gG os⟩)]
      [(65, 6, [.B n.p, slI n.l, slG n.g, nI n.o, nI n.s, nI n.t]), (66, 6, [.B false, .nsl 1 (fun _ => lstG [nI 0]), .nsl 2 (fun _ => lstG [nI 0, .B false]), nI 0, nI 0, nI 0]), (69, 6, [.B n.p, .rf 466944, .rf 471040, nI n.o, nI n.s, nI n.t])]) =
      some (tel3 (⟨n.p, [], os ++ (n.l.drop i).map (·, false), n.o, n.s, n.t⟩, n.l, 0), []) := by
  intro k
  induction k with
  | zero =>
    intro i os hi ho
    have hz : (fun i : Nat => lstG [AV.I IntKind.i64 0]) = gI [] := by funext i; unfold gI; simp
    rw [hstep, h85, bf (by simp [zN]; omega), List.drop_eq_nil_of_le (by omega), List.map_nil, List.append_nil, hz]
    refine and2_both ?_ ?_ <;> exact obind' (v62 n.l (by omega)) (bt okT4)
  | succ k ih =>
    intro i os hi ho
    rw [hstep, h85, bt (by simp [zN]; omega), bt (by simp [zN]; omega), wrapN (by omega)]
    simp only [Int.toNat_natCast]
    rw [row_appF, drop_getD (d := (0 : Int)) (show i < n.l.length by omega)]
    have := ih (i + 1) (os ++ [(n.l.getD i 0, false)]) (by omega) (by simp; omega)
    simp only [List.length_append, List.length_singleton, List.append_assoc, List.singleton_append] at this
    refine and2_both ?_ ?_ <;> exact bt' (by simp; omega) this
theorem v85 (n : NT) (h1 : n.l.length ≤ 1073741824) (h2 : n.g.length ≤ 1073741824) : E 85 [slN n] [] = some (tel3 (tellAllN n), []) := by
  refine ev1 (n.l.length + 1) rfl ?_
  have q1 := v24 n (by omega) (by omega)
  have hz : (fun i : Nat => lstG [AV.I IntKind.i64 0]) = gI [] := by funext i; unfold gI; simp
  rw [e85, obind (v32 n (by omega) (by omega))]
  unfold tellAllN
  generalize okSp n = c1 at q1 ⊢
  rw [obind q1]
  cases c1
  · rw [hz]; exact bt' rfl (bt okT4)
  · simp only [asB, Bool.not_true, cond_false, if_true]
    have hw : IntKind.i64.wrap (zN n.l.length + zN n.g.length) = zN n.l.length + zN n.g.length := wrapS (by simp only [zN]; omega) (by simp only [zN]; omega)
    rw [hw]
    by_cases h : 32 < n.l.length + n.g.length
    · rw [if_pos h, bt (decide_eq_true (by simp only [zN]; omega)), hz]
      exact bt okT4
    · rw [if_neg h, bf (decide_eq_false (by simp only [zN]; omega))]
      exact l85 n (by omega) n.l.length 0 n.g (by omega) (by omega)
/-- How long both lists are. -/
def len2 (n : NT) : Nat := n.l.length + n.g.length
theorem len_tell (n : NT) : len2 (tellN n).1 ≤ len2 n := by
  have key : ∀ m : NT, len2 (giveN m).1 ≤ len2 m := fun m => by
    unfold giveN len2
    split
    · rename_i w r hr; rw [hr]; simp; omega
    · rename_i hr; simp [hr]
  unfold tellN
  split
  · split
    · exact Nat.le_refl _
    · split
      · split
        · exact Nat.le_refl _
        · exact key (oneUp n)
      · exact key (oneUp n)
  · exact Nat.le_refl _
theorem len_all (n : NT) : len2 (tellAllN n).1 ≤ len2 n := by
  unfold tellAllN len2
  split
  · split
    · exact Nat.le_refl _
    · simp; omega
  · exact Nat.le_refl _
theorem len_res (n : NT) (a : Int) : len2 (resN n a).1 ≤ len2 n := by
  have key : ∀ k : Nat, len2 (lessG n k) ≤ len2 n := fun k => by unfold lessG len2; simp only [List.length_eraseIdx]; split <;> omega
  unfold resN
  split
  · split
    · exact Nat.le_refl _
    · split
      · exact Nat.le_refl _
      · split
        · split
          · exact Nat.le_refl _
          · unfold len2; simp only [List.length_eraseIdx]; split <;> omega
        · exact key _
  · exact Nat.le_refl _
theorem len_with (n : NT) (a : Int) : len2 (withN n a).1 ≤ len2 n := by
  have key : ∀ k : Nat, len2 (lessG n k) ≤ len2 n := fun k => by unfold lessG len2; simp only [List.length_eraseIdx]; split <;> omega
  have key2 : ∀ m : NT, len2 (giveN m).1 ≤ len2 m := fun m => by
    unfold giveN len2
    split
    · rename_i w r hr; rw [hr]; simp; omega
    · rename_i hr; simp [hr]
  unfold withN
  split
  · split
    · unfold len2; simp only [List.length_erase]; split <;> omega
    · split
      · exact Nat.le_refl _
      · split
        · split
          · exact Nat.le_refl _
          · exact Nat.le_trans (key2 _) (key _)
        · exact key _
  · exact Nat.le_refl _
end Go.Fw
