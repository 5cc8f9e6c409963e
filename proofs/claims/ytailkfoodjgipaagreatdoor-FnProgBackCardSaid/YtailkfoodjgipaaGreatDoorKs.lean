/- Values: numbers as the reference reads them; messages that are read. -/
import Derived.Test.YtailkfoodjgipaaGreatDoorKr
set_option linter.unusedVariables false
set_option linter.unusedSimpArgs false
namespace Go.Fw
open Go.Proofs
theorem v44 (s : ByteArray) (hs : s.size ≤ 1048576) : ∃ n b, E 34 [.S s] [] = rNum n b ∧ numR n ∧ ∀ m, numR m → s = txt m → n = m := by
  obtain ⟨n, b, q, hn, hc⟩ := v76 s hs
  cases b with
  | true => exact ⟨n, _, ev1 0 rfl ((e44 ..).trans (obind' q (bt' rfl rfl))), hn, fun m hm e => (hc m hm e).1⟩
  | false => exact ⟨n, _, ev1 0 rfl ((e44 ..).trans (obind' q (bf' rfl rfl))), hn, fun m hm e => (hc m hm e).1⟩
theorem l71 (t : ByteArray) (b : Bool) (ht : t.size ≤ 9) : ∀ (k i : Nat) (n : Int), i + k = t.size → 0 ≤ n → n < 10 ^ i →
    HH 70 [] (k + 1) [true, true, true, true, true, false, true] (hdS [(0, .S t), (4, .B b), (5, nI n), (6, nI (i : Int))] [] []) =
      (match nf ((dl t).drop i) n with | none => rNum 0 false | some m => rNum (bif b then -m else m) true) := by
  intro k
  induction k with
  | zero =>
    intro i n hi h0 h1
    have hp := pow9 (show i ≤ 9 by omega)
    rw [hstep, h71, bf (by simp [zN]; omega), List.drop_eq_nil_of_le (by rw [dl_len]; omega)]
    simp only [nf]
    cases b with
    | true => rw [show IntKind.i64.wrap (0 - n) = -n by rw [wrapS (by omega) (by omega)]; omega]; rfl
    | false => rfl
  | succ k ih =>
    intro i n hi h0 h1
    have hi2 : i < t.size := by omega
    obtain ⟨x, ed, eb⟩ := byN_drop hi2
    have hp := pow9 (show i ≤ 9 by omega)
    have hx := x.toNat_lt
    rw [hstep, h71, bt (by simp [zN]; omega), bt (bnd hi2), Int.toNat_natCast, eb, ed]
    simp only [nf]
    by_cases c1 : 48 ≤ x.toNat
    · refine bf' (decide_eq_false (by omega)) (bt' (bnd hi2) ?_)
      by_cases c2 : x.toNat ≤ 57
      · refine bf' (decide_eq_false (by omega)) (bt' (bnd hi2) ?_)
        rw [if_pos ⟨c1, c2⟩, u8w c1, wrapN (by omega), wrapS (x := n * 10) (by omega) (by omega), wrapS (by omega) (by omega), Int.mul_comm n 10]
        exact ih (i + 1) _ (by omega) (by omega) (by rw [Int.pow_succ]; omega)
      · rw [if_neg (fun h => c2 h.2)]
        exact bt' (decide_eq_true (by omega)) rfl
    · rw [if_neg (fun h => c1 h.1)]
      exact bt' (decide_eq_true (by omega)) rfl
theorem digs_zero {n : Nat} (h : n = 0) : digs n = bs [48] := by subst h; rw [digs_lt (by omega)]; rfl
theorem byN0 {s : ByteArray} {x : UInt8} {r : List UInt8} (h : dl s = x :: r) : byN s 0 = (x.toNat : Int) := by
  have h1 : 0 < s.size := by rw [← dl_len, h]; simp
  refine (byN_eq s 0 h1 x).2 ?_
  show (dl s)[0]? = _
  rw [h]; rfl
theorem sub71 (t : ByteArray) (bl c0 c1 : Bool) (hc0 : c0 = decide (0 < zN t.size)) (hc1 : c1 = decide (byN t 0 = 48)) : ∃ n b, (Option.bind (E 29 [nI (zN t.size), nI 1, nI 9] []) fun r4 =>
          bif !asB r4.fst then rNum 0 false
          else
            (bif c0 then
              (bif c1 then
                (bif decide (1 < zN t.size) then rNum 0 false
                else
                  (bif bl then rNum 0 false
                  else (HH 70 [] (t.size + 1) [true, true, true, true, true, false, true] (hdS [(0, AV.S t), (4, AV.B bl), (5, nI 0), (6, nI 0)] [] []))))
              else
                (HH 70 [] (t.size + 1) [true, true, true, true, true, false, true] (hdS [(0, AV.S t), (4, AV.B bl), (5, nI 0), (6, nI 0)] [] [])))
            else none)) = rNum n b ∧ numR n ∧ ∀ k : Nat, k ≤ 999999999 → t = digs k → (bl = true → 0 < k) → n = (bif bl then -(k : Int) else k) ∧ b = true := by
  subst hc0 hc1
  cases hi : inR (zN t.size) 1 9 with
  | false =>
    refine ⟨0, false, obind' (v31 ..) (bt' (by show (!inR (zN t.size) 1 9) = true; rw [hi]; rfl) rfl), ⟨by omega, by omega⟩, fun k hk e _ => ?_⟩
    exfalso
    have := digs_len k hk
    rw [e] at hi
    simp only [inR, zN, Bool.and_eq_false_iff, decide_eq_false_iff_not] at hi
    omega
  | true =>
    have hl : 1 ≤ t.size ∧ t.size ≤ 9 := by simp only [inR, zN, Bool.and_eq_true, decide_eq_true_eq] at hi; omega
    have L := l71 t bl hl.2 t.size 0 0 (by omega) (by omega) (by decide)
    rw [List.drop_zero] at L
    obtain ⟨x, ed, eb⟩ := byN_drop (show 0 < t.size by omega)
    rw [List.drop_zero] at ed
    have hp := pow9 hl.2
    have go : ∀ X : Option (AV × List AV), X = HH 70 [] (t.size + 1) [true, true, true, true, true, false, true] (hdS [(0, AV.S t), (4, AV.B bl), (5, nI 0), (6, nI 0)] [] []) → ∃ n b, X = rNum n b ∧ numR n ∧ ∀ k : Nat, k ≤ 999999999 → t = digs k → (bl = true → 0 < k) → n = (bif bl then -(k : Int) else k) ∧ b = true := fun X hX => by
      have LX := hX.trans L
      cases hq : nf (dl t) 0 with
      | none =>
        rw [hq] at LX
        exact ⟨0, false, LX, ⟨by omega, by omega⟩, fun k hk e _ => by rw [e, digs_nf] at hq; simp at hq⟩
      | some v =>
        rw [hq] at LX
        have hb := nf_bd _ 0 0 v (by omega) (by decide) hq
        rw [Nat.zero_add, dl_len] at hb
        refine ⟨_, true, LX, by cases bl <;> exact ⟨by simp only [cond_true, cond_false]; omega, by simp only [cond_true, cond_false]; omega⟩, fun k hk e _ => ?_⟩
        rw [e, digs_nf] at hq
        have := Option.some.inj hq
        rw [← this]
        exact ⟨rfl, rfl⟩
    have e0 : decide (0 < zN t.size) = true := decide_eq_true (by simp only [zN]; omega)
    by_cases c48 : byN t 0 = 48
    · by_cases c1 : 1 < t.size
      · refine ⟨0, false, obind' (v31 ..) (bf' (by show (!inR (zN t.size) 1 9) = false; rw [hi]; rfl) (bt' e0 (bt' (decide_eq_true c48) (bt' (decide_eq_true (by simp only [zN]; omega)) rfl)))), ⟨by omega, by omega⟩, fun k hk e _ => ?_⟩
        exfalso
        by_cases k0 : k = 0
        · rw [e, digs_zero k0] at c1
          have : (bs [48]).size = 1 := rfl
          omega
        · obtain ⟨y, r, ey, hy⟩ := digs_head k (by omega)
          rw [byN0 (x := y) (r := r) (by rw [e, ey])] at c48
          omega
      · cases bl with
        | true =>
          refine ⟨0, false, obind' (v31 ..) (bf' (by show (!inR (zN t.size) 1 9) = false; rw [hi]; rfl) (bt' e0 (bt' (decide_eq_true c48) (bf' (decide_eq_false (by simp only [zN]; omega)) rfl)))), ⟨by omega, by omega⟩, fun k hk e h => ?_⟩
          exfalso
          obtain ⟨y, r, ey, hy⟩ := digs_head k (h rfl)
          rw [byN0 (x := y) (r := r) (by rw [e, ey])] at c48
          omega
        | false => exact go _ (obind' (v31 ..) (bf' (by show (!inR (zN t.size) 1 9) = false; rw [hi]; rfl) (bt' e0 (bt' (decide_eq_true c48) (bf' (decide_eq_false (by simp only [zN]; omega)) (bf' rfl rfl))))))
    · exact go _ (obind' (v31 ..) (bf' (by show (!inR (zN t.size) 1 9) = false; rw [hi]; rfl) (bt' e0 (bf' (decide_eq_false c48) rfl))))
theorem v71 (s : ByteArray) (hs : s.size ≤ 1048576) : ∃ n b, E 70 [.S s] [] = rNum n b ∧ numR n ∧ ∀ m, numR m → s = txt m → n = m ∧ b = true := by
  by_cases c0 : 0 < s.size
  · have e0 : decide (0 < zN s.size) = true := decide_eq_true (by simp only [zN]; omega)
    obtain ⟨x, ed, eb⟩ := byN_drop c0
    rw [List.drop_zero] at ed
    by_cases c45 : byN s 0 = 45
    · have htn : (zN s.size).toNat = s.size := by simp [zN]
      have hK : (decide (1 ≤ zN s.size) && decide (zN s.size ≤ zN s.size)) = true := by
        have : (1 : Int) ≤ zN s.size := by simp only [zN]; omega
        simp [this]
      have hx : x = 45 := by
        have : x.toNat = (45 : UInt8).toNat := by rw [eb] at c45; have : (45 : UInt8).toNat = 45 := rfl; omega
        exact UInt8.toNat_inj.1 this
      have hdt : dl (s.extract 1 s.size) = (dl s).drop 1 := by
        show (s.extract 1 s.size).data.toList = _
        rw [ext_data, List.take_of_length_le (by rw [List.length_drop]; exact Nat.le_of_eq rfl)]
      obtain ⟨n, b, q, hn, hc⟩ := sub71 (s.extract 1 (zN s.size).toNat) (decide (byN s 0 = 45)) _ _ rfl rfl
      rw [decide_eq_true c45] at hc
      refine ⟨n, b, ev1 ((s.extract 1 (zN s.size).toNat).size + 1) rfl ((e71 ..).trans (bt' e0 (bt' e0 (bt' (decide_eq_true c45) (bt' hK q))))), hn, fun m hm e => ?_⟩
      rw [htn] at hc
      have hneg : m < 0 := by
        by_cases h : m < 0
        · exact h
        · exfalso
          rw [txt_pos h] at e
          exact digs_dash m.natAbs ((dl s).drop 1) (by rw [← e, ed, hx]; rfl)
      have ht : s.extract 1 s.size = digs m.natAbs := by
        refine dl_inj ?_
        rw [hdt, e, txt_neg hneg]; rfl
      have := hc m.natAbs (by unfold numR at hm; omega) ht (fun _ => by omega)
      refine ⟨?_, this.2⟩
      have h1 := this.1
      simp only [cond_true] at h1
      omega
    · obtain ⟨n, b, q, hn, hc⟩ := sub71 s (decide (byN s 0 = 45)) _ _ rfl rfl
      rw [decide_eq_false c45] at hc
      refine ⟨n, b, ev1 (s.size + 1) rfl ((e71 ..).trans (bt' e0 (bt' e0 (bf' (decide_eq_false c45) q)))), hn, fun m hm e => ?_⟩
      have hpos : ¬ m < 0 := fun h => by
        rw [e] at c45
        exact c45 (by rw [byN0 (txt_neg h)]; rfl)
      have := hc m.natAbs (by unfold numR at hm; omega) (by rw [e, txt_pos hpos]) (fun h => by simp at h)
      refine ⟨?_, this.2⟩
      have h1 := this.1
      simp only [cond_false] at h1
      omega
  · have hz : s.size = 0 := by omega
    refine ⟨0, false, ev1 0 rfl ((e71 ..).trans (bf' (decide_eq_false (by simp only [zN]; omega)) (obind' (v31 ..) (bt' (by show (!inR (zN s.size) 1 9) = true; rw [hz]; rfl) rfl)))), ⟨by omega, by omega⟩, fun m hm e => ?_⟩
    exfalso
    have hl := digs_len m.natAbs (by unfold numR at hm; omega)
    by_cases h : m < 0
    · have := txt_neg h
      rw [← e] at this
      have : s.size ≥ 1 := by rw [← dl_len, this]; simp
      omega
    · rw [e, txt_pos h] at hz; omega
abbrev rMsg (m : VMsg) (b : Bool) : Option (AV × List AV) := some (.tup 2 (lstG [slMsg m, .B b]), [])
theorem ext_sz (s : ByteArray) (a b : Nat) : (s.extract a b).size ≤ s.size := by
  show (s.extract a b).data.toList.length ≤ s.data.toList.length
  rw [ext_data, List.length_take, List.length_drop]; omega
theorem msg2 {m : VMsg} (h : okMs m = true) (hk : m.Kind ≠ 1) : m.Kind = 2 ∧ m.Num = 0 ∧ okPl m.Text = true := by
  unfold okMs at h
  rw [if_neg hk] at h
  by_cases h2 : m.Kind = 2
  · rw [if_pos h2] at h; simp at h; exact ⟨h2, h.1, h.2⟩
  · rw [if_neg h2] at h; simp at h
theorem msg1 {m : VMsg} (h : okMs m = true) (hk : m.Kind = 1) : m = ⟨1, m.Num, ByteArray.empty⟩ ∧ numR m.Num := by
  have h' := h
  unfold okMs at h
  rw [if_pos hk] at h
  have he : emp m.Text = true := by
    cases hh : emp m.Text with
    | true => rfl
    | false => rw [hh] at h; simp at h
  obtain ⟨K, N, T⟩ := m
  simp only at hk he
  subst hk
  exact ⟨by rw [emp_eq he], okMs_num h' rfl⟩
theorem txt_head (n : Int) : ∃ x r, dl (txt n) = x :: r ∧ x ≠ 34 := by
  by_cases h : n < 0
  · exact ⟨45, _, txt_neg h, by decide⟩
  · rw [txt_pos h]
    cases hd : dl (digs n.natAbs) with
    | nil =>
      exfalso
      have := digs_nf n.natAbs
      by_cases h0 : n.natAbs = 0
      · rw [digs_zero h0] at hd; simp [bs] at hd
      · obtain ⟨x, r, e, _⟩ := digs_head n.natAbs (by omega)
        rw [hd] at e; simp at e
    | cons x r =>
      refine ⟨x, r, rfl, fun e => ?_⟩
      have := digs_all n.natAbs x (by rw [hd]; exact List.mem_cons_self ..)
      rw [e] at this; simp at this
end Go.Fw
