/- Permit's law: its value. -/
import Derived.Test.YtkhfkekbfjkpcaaH5
set_option linter.unusedVariables false
set_option linter.unusedSimpArgs false
namespace Go.Fw
open Go.Proofs
theorem v15g (cs : List Int) : E 15 [.gv cs] [] = some (.B (decide (1048576 < zN cs.length)), []) := ev1 0 rfl (by rw [e15g])
theorem l26 (xs : List Int) (a : Int) (hx : xs.length ≤ 4294967296) : ∀ (k i : Nat), i + k = xs.length →
    HH 26 [] (k + 1) [true, false, true] (hdS [(0, slI xs), (1, nI a), (5, nI (i : Int))] [] []) = some (nI (ixF (fun j => xs.getD j 0) a k i), []) := by
  intro k
  induction k with
  | zero => intro i hi; rw [hstep, h26, bf (by simp [zN]; omega)]; rfl
  | succ k ih =>
    intro i hi
    rw [hstep, h26, bt (by simp [zN]; omega), bt (by simp [zN]; omega), wrapN (by omega)]
    simp only [Int.toNat_natCast, ixF]
    by_cases h : xs.getD i 0 = a
    · rw [bt (decide_eq_true h), if_pos h]
    · rw [bf (decide_eq_false h), if_neg h]; exact ih (i + 1) (by omega)
theorem v26 (xs : List Int) (a : Int) (hx : xs.length ≤ 4294967296) : E 26 [slI xs, nI a] [] = some (nI (ixF (fun j => xs.getD j 0) a xs.length 0), []) := by
  refine ev1 (xs.length + 1) rfl ?_
  rw [e26]; exact l26 xs a hx xs.length 0 (by omega)
abbrev whos (n : NT) : List Int := n.g.map (·.1)
theorem l27 (n : NT) (hg : n.g.length ≤ 1073741824) : ∀ (k i : Nat) (os : List Int), i + k = n.g.length → os.length = i →
    HH 27 [] (k + 1) [true, true, false, true] (hdS [(1, .pb 65 0), (3, .rf 348160), (4, nI (i : Int))] [(348160, ⟨os.length, 1, gI os⟩)] [(65, 6, [.B n.p, slI n.l, slG n.g, nI n.o, nI n.s, nI n.t])]) = some (owI (os ++ (n.g.drop i).map (·.1)), []) := by
  intro k
  induction k with
  | zero =>
    intro i os hi ho
    rw [hstep, h27, bf (by simp [zN]; omega), List.drop_eq_nil_of_le (by omega), List.map_nil, List.append_nil]
    exact bt okT_eq
  | succ k ih =>
    intro i os hi ho
    rw [hstep, h27, bt (by simp [zN]; omega), bt (by simp [zN]; omega), bt (by simp; omega), wrapN (by omega)]
    simp only [Int.toNat_natCast]
    rw [row_app, drop_getD (d := ((0 : Int), false)) (show i < n.g.length by omega)]
    have := ih (i + 1) (os ++ [(n.g.getD i (0, false)).1]) (by omega) (by simp; omega)
    simp only [List.length_append, List.length_singleton, List.append_assoc, List.singleton_append] at this
    exact this
theorem v27 (n : NT) (hg : n.g.length ≤ 1073741824) : E 27 [slN n] [] = some (owI (whos n), []) := by
  refine ev1 (n.g.length + 1) rfl ?_
  rw [e27]
  have z1 : (fun i : Nat => lstG [AV.I IntKind.i64 0]) = gI [] := by funext i; unfold gI; simp
  rw [z1]
  exact l27 n hg n.g.length 0 [] (by omega) rfl
theorem ix_mem (xs : List Int) (a : Int) : 0 ≤ ixF (fun j => xs.getD j 0) a xs.length 0 ↔ a ∈ xs := by
  have h := ix_has (fun j => xs.getD j 0) a xs.length 0
  have h2 := hasF_iff (fun j => xs.getD j 0) a xs.length 0
  constructor
  · intro h0
    rw [decide_eq_true h0] at h
    by_cases hm : a ∈ xs
    · exact hm
    · exfalso
      have := h2.2 fun j _ hj e => hm (by rw [← e]; have hj' : j < xs.length := by omega
                                          simp [List.getD_eq_getElem?_getD, hj'])
      rw [← h] at this; simp at this
  · intro hm
    obtain ⟨j, hj, e⟩ := List.getElem_of_mem hm
    by_cases h0 : 0 ≤ ixF (fun j => xs.getD j 0) a xs.length 0
    · exact h0
    · exfalso
      rw [decide_eq_false h0] at h
      exact (h2.1 h.symm) j (by omega) (by omega) (by simp [List.getD_eq_getElem?_getD, hj, e])
theorem pigeon : ∀ (m : Nat) (lo : Int) (g : List Int), (∀ v : Int, lo < v → v ≤ lo + m → v ∈ g) → m ≤ g.length := by
  intro m
  induction m with
  | zero => intro lo g h; omega
  | succ m ih =>
    intro lo g h
    have hv : lo + ((m + 1 : Nat) : Int) ∈ g := h _ (by omega) (by omega)
    have := ih lo (g.erase (lo + ((m + 1 : Nat) : Int))) fun v h1 h2 => (List.mem_erase_of_ne (by omega)).2 (h v h1 (by omega))
    rw [List.length_erase_of_mem hv] at this
    have : 0 < g.length := List.length_pos_of_mem hv
    omega
end Go.Fw
