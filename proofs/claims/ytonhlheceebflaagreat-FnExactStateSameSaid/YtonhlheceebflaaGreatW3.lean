/- Values: what the program writes, byte by byte. -/
import Derived.Test.YtonhlheceebflaaGreatV4
import Derived.Test.YtonhlheceebflaaGreatKb
import Derived.Test.YtonhlheceebflaaGreatW2
set_option linter.unusedVariables false
set_option linter.unusedSimpArgs false
namespace Go.Fw
open Go.Proofs
theorem v63p (n : Nat) (h : n ≤ 9223372036854775807) : E 89 [nI (n : Int)] [] = some (.S (digs n), []) := by
  induction n using Nat.strongRecOn with
  | ind n ih =>
    refine evK rfl ((e89 ..).trans (bf' (decide_eq_false (by omega)) (bf' (decide_eq_false (by omega)) ?_)))
    by_cases c : n < 10
    · refine bt' (decide_eq_true (by omega)) ?_
      rw [enc_dig c, digs_lt c]
    · refine bf' (decide_eq_false (by omega)) ?_
      have e1 : IntKind.i64.wrap ((n : Int).tdiv 10) = ((n / 10 : Nat) : Int) := by
        rw [Int.tdiv_eq_ediv_of_nonneg (by omega), wrapS (by omega) (by omega)]; omega
      have e2 : (n : Int).tmod 10 = ((n % 10 : Nat) : Int) := by
        rw [Int.tmod_eq_emod_of_nonneg (by omega)]; omega
      rw [e1, e2]
      have hs := digs_s20 (n := n / 10) (by omega)
      refine obind' (ih (n / 10) (by omega) (by omega)) ?_
      rw [enc_dig (by omega)]
      refine bt' (decide_eq_true ?_) ?_
      · show (digs (n / 10)).size + (b1 _).size ≤ _
        rw [b1_size]; omega
      · show some (AV.S (digs (n / 10) ++ b1 (48 + n % 10)), []) = _
        rw [← digs_ge (by omega)]
theorem v63n (m : Nat) : ∀ n : Int, n.natAbs = m → n < 0 → m ≤ 9223372036854775808 → E 89 [nI n] [] = some (.S (bs [45] ++ digs m), []) := by
  induction m using Nat.strongRecOn with
  | ind m ih =>
    intro n hm h0 h1
    have hb : (bs [45]).size = 1 := rfl
    refine evK rfl ((e89 ..).trans (bt' (decide_eq_true h0) ?_))
    by_cases c : -10 < n
    · have e1 : IntKind.i64.wrap (0 - n) = ((m : Nat) : Int) := by rw [wrapS (by omega) (by omega)]; omega
      have hs := digs_s20 (n := m) (by omega)
      refine bt' (decide_eq_true c) ?_
      rw [e1]
      refine obind' (v63p m (by omega)) (bt' (decide_eq_true ?_) rfl)
      show 1 + (digs m).size ≤ _
      omega
    · refine bf' (decide_eq_false c) (bt' (decide_eq_true h0) ?_)
      have e0 : n = -((m : Nat) : Int) := by omega
      have e1 : IntKind.i64.wrap (n.tdiv 10) = -((m / 10 : Nat) : Int) := by
        rw [e0, Int.neg_tdiv, Int.tdiv_eq_ediv_of_nonneg (by omega), wrapS (by omega) (by omega)]; omega
      have e2 : IntKind.i64.wrap (0 - n.tmod 10) = ((m % 10 : Nat) : Int) := by
        rw [e0, Int.neg_tmod, Int.tmod_eq_emod_of_nonneg (by omega), wrapS (by omega) (by omega)]; omega
      rw [e1, e2]
      have hs := digs_s20 (n := m / 10) (by omega)
      have hs2 := digs_s20 (n := m % 10) (by omega)
      refine obind' (ih (m / 10) (by omega) _ (by omega) (by omega) (by omega)) (obind' (v63p (m % 10) (by omega)) (bt' (decide_eq_true ?_) ?_))
      · show (bs [45] ++ digs (m / 10)).size + (digs (m % 10)).size ≤ _
        rw [ByteArray.size_append, hb]; omega
      · show some (AV.S (bs [45] ++ digs (m / 10) ++ digs (m % 10)), []) = _
        rw [ByteArray.append_assoc, digs_ge (n := m) (by omega), digs_lt (n := m % 10) (by omega)]
theorem v89 (n : Int) (h1 : -9223372036854775808 ≤ n) (h2 : n ≤ 9223372036854775807) : E 89 [nI n] [] = some (.S (txt n), []) := by
  unfold txt
  split
  · exact v63n _ n rfl (by omega) (by omega)
  · have : n = ((n.natAbs : Nat) : Int) := by omega
    rw [this]
    exact v63p _ (by omega)
abbrev NBw (w : ByteArray) : AV := .nbx 1 (lstG [owBy w])
abbrev RW (w : ByteArray) : RES := some (.tup 0 (lstG []), [NBw w])
abbrev rowB (w : ByteArray) : Arr := ⟨w.size, 1, bytG w⟩
theorem get_dl (s : ByteArray) (i : Nat) : s[i]? = (dl s)[i]? := by
  by_cases h : i < s.size
  · rw [getElem?_pos s i h, List.getElem?_eq_getElem (show i < (dl s).length from h)]; rfl
  · rw [getElem?_neg s i h, List.getElem?_eq_none (show (dl s).length ≤ i from Nat.not_lt.1 h)]
theorem byN_app (w s : ByteArray) (i : Nat) : (bif decide (i < w.size) then byN w i else byN s (i - w.size)) = byN (w ++ s) i := by
  have e : ∀ (x : ByteArray) (j : Nat), byN x j = zN (((dl x)[j]?).getD 0).toNat := fun x j => by show zN ((x[j]?).getD 0).toNat = _; rw [get_dl]
  rw [e, e, e, dl_app]
  by_cases h : i < w.size
  · rw [decide_eq_true h, List.getElem?_append_left (show i < (dl w).length from h)]; rfl
  · rw [decide_eq_false h, List.getElem?_append_right (show (dl w).length ≤ i from Nat.not_lt.1 h)]; rfl
theorem byN_one (c : UInt8) (j : Nat) : (bif decide (j = 0) then (zN c.toNat) else 0) = byN (bs [c]) j := by
  show _ = zN (((bs [c])[j]?).getD 0).toNat
  rw [get_dl]
  cases j with
  | zero => rfl
  | succ j => rfl
theorem row_app (w s : ByteArray) : (fun i => lstG [AV.I IntKind.u8 (bif decide (i < w.size) then byN w i else byN s (i - w.size))]) = bytG (w ++ s) := by
  funext i; rw [byN_app]; rfl
theorem sz1 (c : UInt8) : (bs [c]).size = 1 := rfl
theorem arr_app (w s : ByteArray) : (⟨w.size + s.size, 1, fun i => lstG [AV.I IntKind.u8 (bif decide (i < w.size) then byN w i else byN s (i - w.size))]⟩ : Arr) = rowB (w ++ s) := by
  rw [row_app, ← ByteArray.size_append]
theorem arr_sp (w s : ByteArray) : (⟨w.size + 1 + s.size, 1, fun i => lstG [AV.I IntKind.u8 (bif decide (i < w.size + 1) then bif decide (i < w.size) then byN w i else bif decide (i - w.size = 0) then 32 else 0 else byN s (i - (w.size + 1)))]⟩ : Arr) = rowB (w ++ bs [32] ++ s) := by
  have e : w.size + 1 = (w ++ bs [32]).size := by rw [ByteArray.size_append, sz1]
  rw [← arr_app, ← e]
  congr 1
  funext i
  rw [← byN_app, ← byN_one]
  rfl
theorem own_sc (w : ByteArray) : (AV.own (w.size + 1) 1 fun i => lstG [AV.I IntKind.u8 (bif decide (i < w.size) then byN w i else bif decide (i - w.size = 0) then 59 else 0)]) = owBy (w ++ bs [59]) := by
  have e : w.size + 1 = (w ++ bs [59]).size := by rw [ByteArray.size_append, sz1]
  rw [e]
  congr 1
  rw [← row_app]
  funext i
  rw [← byN_one]
  rfl
theorem own_app (w s : ByteArray) : (AV.own (w.size + s.size) 1 fun i => lstG [AV.I IntKind.u8 (bif decide (i < w.size) then byN w i else byN s (i - w.size))]) = owBy (w ++ s) := by
  rw [row_app, ← ByteArray.size_append]
theorem okTb : (bif okT then true else false) = true := by rw [okT_eq]; rfl
theorem lim4 {n : Nat} (h : n ≤ 4294967296) : (decide (n ≤ 4294967296) && true && true && true && true) = true := by simp; omega
theorem bndL {n i : Nat} (h : i < n) : (bif decide (0 ≤ (i : Int)) then decide ((i : Int) < zN n) else false) = true := by simp [zN]; omega
theorem row1 (a : Int) : (fun i : Nat => lstG [nI (bif decide (i = 0) then a else 0)]) = gsIntS [a] := by
  funext i
  match i with
  | 0 => rfl
  | n + 1 => rfl
theorem row2 (a b : Int) : (fun i : Nat => lstG [nI (bif decide (i = 0) then a else bif decide (i - 1 = 0) then b else 0)]) = gsIntS [a, b] := by
  funext i
  match i with
  | 0 => rfl
  | 1 => rfl
  | n + 2 => rfl
theorem v51 (b : Bool) : E 51 [.B b] [] = some (nI (bN b), []) := by
  cases b <;> exact evK rfl ((e51 ..).trans rfl)
theorem u_nums (xs : List Int) (w0 : ByteArray) (hi : ∀ x ∈ xs, i64R x) (hl : xs.length ≤ 4611686018427387904) : ∀ (k i : Nat) (w : ByteArray), i + k = xs.length → (w ++ (wL num1 (xs.drop i) ++ bs [59])).size ≤ 4294967296 →
    L 50 [NBw w0] P50 (S50 xs (zN xs.length) i w w0) = RW (w ++ (wL num1 (xs.drop i) ++ bs [59])) := by
  intro k
  induction k with
  | zero =>
    intro i w h hs
    rw [List.drop_eq_nil_of_le (by omega)] at hs ⊢
    have e0 : wL num1 [] ++ bs [59] = bs [59] := by show ByteArray.empty ++ bs [59] = _; simp
    rw [e0] at hs ⊢
    rw [ByteArray.size_append, sz1] at hs
    refine lstep ((h50 ..).trans (bf' (decide_eq_false (by simp only [zN]; omega)) (bt' (lim4 hs) (bt' okTb ?_))))
    rw [own_sc]
  | succ k ih =>
    intro i w h hs
    have hi2 : i < xs.length := by omega
    have hx := hi _ (getD_mem (d := 0) hi2)
    rw [drop_getD (d := 0) hi2] at hs ⊢
    have e0 : w ++ (wL num1 (xs.getD i 0 :: xs.drop (i + 1)) ++ bs [59]) = w ++ bs [32] ++ txt (xs.getD i 0) ++ (wL num1 (xs.drop (i + 1)) ++ bs [59]) := by
      show w ++ (bs [32] ++ txt (xs.getD i 0) ++ wL num1 (xs.drop (i + 1)) ++ bs [59]) = _
      simp only [ByteArray.append_assoc]
    rw [e0] at hs ⊢
    have hs' := hs
    simp only [ByteArray.size_append, sz1] at hs'
    refine lstep ((h50 ..).trans (bt' (decide_eq_true (by simp only [zN]; omega)) (bt' (bndL hi2) (bt' (lim4 (by omega)) ?_))))
    rw [Int.toNat_natCast]
    refine obind' (v89 _ hx.1 hx.2) (bt' (lim4 (by show w.size + 1 + (txt _).size ≤ _; omega)) ?_)
    rw [arr_sp, wrapN (by omega)]
    exact ih (i + 1) (w ++ bs [32] ++ txt (xs.getD i 0)) (by omega) hs
theorem num1_pos (n : Int) : 1 ≤ (num1 n).size := by rw [ByteArray.size_append, sz1]; omega
theorem wL_len {α : Type} {f : α → ByteArray} (hf : ∀ x, 1 ≤ (f x).size) (xs : List α) : xs.length ≤ (wL f xs).size := by
  induction xs with
  | nil => exact Nat.zero_le _
  | cons x r ih =>
    have := hf x
    show r.length + 1 ≤ (f x ++ wL f r).size
    rw [ByteArray.size_append]; omega
theorem wN_len (xs : List Int) : xs.length ≤ (wN xs).size := by
  have := wL_len num1_pos xs
  unfold wN
  rw [ByteArray.size_append, ByteArray.size_append]; omega
theorem wN_pos (xs : List Int) : 1 ≤ (wN xs).size := by
  unfold wN
  rw [ByteArray.size_append, ByteArray.size_append, sz1]; omega
theorem v_nums (xs : List Int) (w : ByteArray) (hi : ∀ x ∈ xs, i64R x) (hs : (w ++ wN xs).size ≤ 4294967296) : E 50 [.pb 0 0, slIntS xs] [NBw w] = RW (w ++ wN xs) := by
  have hl : xs.length ≤ 4611686018427387904 := by have := wN_len xs; rw [ByteArray.size_append] at hs; omega
  have e0 : w ++ wN xs = w ++ txt (zN xs.length) ++ (wL num1 xs ++ bs [59]) := by unfold wN; simp only [ByteArray.append_assoc]
  rw [e0] at hs ⊢
  have hs' := hs
  simp only [ByteArray.size_append, sz1] at hs'
  refine evK rfl ((e50 ..).trans (obind' (v89 (zN xs.length) (by simp only [zN]; omega) (by simp only [zN]; omega)) (bt' (lim4 (by show w.size + (txt _).size ≤ _; omega)) ?_)))
  rw [arr_app]
  exact u_nums xs w hi hl xs.length 0 (w ++ txt (zN xs.length)) (by omega) hs
/-- The same, of a row told otherwise. -/
theorem v_numsG {n : Nat} {g : Nat → Nat → AV} (xs : List Int) (hg : g = gsIntS xs) (hn : n = xs.length) (w : ByteArray) (hi : ∀ x ∈ xs, i64R x) (hs : (w ++ wN xs).size ≤ 4294967296) :
    E 50 [.pb 0 0, .sl n 1 g] [NBw w] = RW (w ++ wN xs) := by
  subst hg hn; exact v_nums xs w hi hs
theorem v_text (s w : ByteArray) (hs : (w ++ wT s).size ≤ 4294967296) : E 52 [.pb 0 0, .S s] [NBw w] = RW (w ++ wT s) := by
  have e0 : w ++ wT s = w ++ wN [zN s.size] ++ s := by unfold wT; simp only [ByteArray.append_assoc]
  rw [e0] at hs ⊢
  have hs' := hs
  rw [ByteArray.size_append] at hs'
  refine evK rfl ((e52 ..).trans (obind' (v_numsG [zN s.size] (row1 _) rfl w (fun x hx => by rw [List.mem_singleton.1 hx]; exact ⟨by simp only [zN]; omega, by simp only [zN]; omega⟩) (by omega)) (bt' (lim4 hs') (bt' okTb ?_))))
  show some (AV.tup 0 (lstG []), [AV.nbx 1 (lstG [AV.own ((w ++ wN [zN s.size]).size + s.size) 1 fun i => lstG [AV.I IntKind.u8 (bif decide (i < (w ++ wN [zN s.size]).size) then byN (w ++ wN [zN s.size]) i else byN s (i - (w ++ wN [zN s.size]).size))]])]) = _
  rw [own_app]
end Go.Fw
