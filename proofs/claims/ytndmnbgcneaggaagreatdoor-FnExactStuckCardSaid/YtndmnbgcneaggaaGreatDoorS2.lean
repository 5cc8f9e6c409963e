/- Values: the parts of a name; patterns. -/
import Derived.Test.YtndmnbgcneaggaaGreatDoorS1
import Derived.Test.YtndmnbgcneaggaaGreatDoorL1
import Derived.Lib.IndexLaws
set_option linter.unusedVariables false
set_option linter.unusedSimpArgs false
namespace Go.Fw
open Go.Proofs
theorem app_StrS {os : List ByteArray} {v : ByteArray} : (fun i => lstG [AV.S (bif decide (i < os.length) then (os.getD i ByteArray.empty) else bif decide (i - os.length = 0) then v else ByteArray.empty)]) = goStrS (os ++ [v]) := by
 funext i
 unfold goStrS gsStrS
 rw [getD_app]
 by_cases hi : i < os.length
 · simp only [hi, decide_true, cond_true, if_true]; try rfl
 · by_cases h2 : i = os.length
   · have h3 : i - os.length = 0 := by omega
     simp only [hi, h2, Nat.sub_self, Nat.lt_irrefl, decide_true, decide_false, cond_true, cond_false, if_true, if_false]; try rfl
   · have h3 : ¬ i - os.length = 0 := by omega
     simp only [hi, h2, h3, decide_false, cond_false, if_false]; try rfl
def pt (s : ByteArray) : Nat → Nat → Nat → List ByteArray
 | 0, _, _ => []
 | k + 1, a, i => if i = s.size ∨ byN s i = 46 then s.extract a i :: pt s k (i + 1) (i + 1) else pt s k a (i + 1)
theorem pt_len (s : ByteArray) : ∀ (k a i : Nat), (pt s k a i).length ≤ k := by
 intro k
 induction k with
 | zero => intro a i; simp [pt]
 | succ k ih =>
  intro a i
  unfold pt
  split
  · simp only [List.length_cons]; have := ih (i + 1) (i + 1); omega
  · have := ih a (i + 1); omega
theorem l201 (s : ByteArray) (hs : s.size ≤ 4294967290) : ∀ (k i a : Nat) (os : List ByteArray), i + k = s.size + 1 → a ≤ i → os.length ≤ i →
  HH 201 [] (k + 1) [true, true, true, false, true] (hdS [(0, .S s), (3, .rf 380928), (4, nI (a : Int)), (5, nI (i : Int))] [(380928, ⟨os.length, 1, gsStrS os⟩)] []) = some (owStrS (os ++ pt s k a i), []) := by
 intro k
 induction k with
 | zero =>
  intro i a os hi ha ho
  rw [hstep, h201, bf (by simp [zN]; omega)]
  have : pt s 0 a i = [] := rfl
  rw [this, List.append_nil]
  exact bt' okT_eq rfl
 | succ k ih =>
  intro i a os hi ha ho
  rw [hstep, h201, bt (by simp [zN]; omega)]
  have hg : (decide (os.length + 1 ≤ 4294967296) && true && true && true && true) = true := by simp; omega
  have hx : (decide (0 ≤ (a : Int)) && decide ((a : Int) ≤ (i : Int)) && decide ((i : Int) ≤ zN s.size)) = true := by simp [zN]; omega
  have e1 : (os ++ [s.extract a i]).length = os.length + 1 := by simp
  have nxt := ih (i + 1) (i + 1) (os ++ [s.extract a i]) (by omega) (by omega) (by omega)
  have nx2 := ih (i + 1) a os (by omega) (by omega) (by omega)
  have cut : HH 201 [] (k + 1) [true, true, true, false, true] (hdS [(0, AV.S s), (3, AV.rf 380928), (4, nI (IntKind.i64.wrap ((i : Int) + 1))), (5, nI (IntKind.i64.wrap ((i : Int) + 1)))] [(380928, ⟨os.length + 1, 1, fun i_1 => lstG [AV.S (bif decide (i_1 < os.length) then os.getD i_1 ByteArray.empty else bif decide (i_1 - os.length = 0) then s.extract (a : Int).toNat (i : Int).toNat else ByteArray.empty)]⟩)] []) = some (owStrS (os ++ s.extract a i :: pt s k (i + 1) (i + 1)), []) := by
   rw [Int.toNat_natCast, Int.toNat_natCast, app_StrS, wrapN (by omega), ← e1]
   rw [nxt, List.append_assoc]; rfl
  by_cases c : i = s.size
  · have hp : pt s (k + 1) a i = s.extract a i :: pt s k (i + 1) (i + 1) := by rw [pt, if_pos (.inl c)]
    rw [hp]
    exact bt' (decide_eq_true (by simp only [zN]; omega)) (bt' hx (bt' hg cut))
  · refine bf' (decide_eq_false (by simp only [zN]; omega)) (bt' (bnd (by omega)) ?_)
    rw [Int.toNat_natCast]
    by_cases d : byN s i = 46
    · have hp : pt s (k + 1) a i = s.extract a i :: pt s k (i + 1) (i + 1) := by rw [pt, if_pos (.inr d)]
      rw [hp]
      exact bt' (decide_eq_true d) (bt' hx (bt' hg cut))
    · have hp : pt s (k + 1) a i = pt s k a (i + 1) := by rw [pt, if_neg (fun h => h.elim c d)]
      rw [hp, wrapN (by omega)]
      exact bf' (decide_eq_false d) nx2
def parts (s : ByteArray) : List ByteArray := pt s (s.size + 1) 0 0
theorem v201 (s : ByteArray) (hs : s.size ≤ 4294967290) : E 201 [.S s] [] = some (owStrS (parts s), []) := by
 refine ev1 (s.size + 2) rfl ((e201 ..).trans ?_)
 have z : (fun i : Nat => lstG [AV.S ByteArray.empty]) = gsStrS [] := by funext i; unfold gsStrS; simp
 rw [z]
 have := l201 s hs (s.size + 1) 0 0 [] (by omega) (by omega) (by simp)
 rw [List.nil_append] at this
 exact this
theorem ba_ext {x y : ByteArray} (h : x.data.toList = y.data.toList) : x = y := by
 obtain ⟨⟨x⟩⟩ := x
 obtain ⟨⟨y⟩⟩ := y
 simp at h; subst h; rfl
theorem byN_eq (s : ByteArray) (i : Nat) (hi : i < s.size) (c : UInt8) : byN s i = (c.toNat : Int) ↔ s.data.toList[i]? = some c := by
 obtain ⟨⟨L⟩⟩ := s
 have hi' : i < L.length := hi
 have e : (ByteArray.mk ⟨L⟩)[i]? = some L[i] := by
  have : (ByteArray.mk ⟨L⟩)[i]? = some ((ByteArray.mk ⟨L⟩)[i]'hi) := getElem?_pos _ _ _
  rw [this]; rfl
 unfold byN
 rw [e]
 simp only [zN, Option.getD_some, List.getElem?_eq_getElem hi', Option.some.injEq]
 constructor
 · intro h; exact UInt8.toNat_inj.1 (by omega)
 · intro h; rw [h]
theorem occ1 (l : List UInt8) (c : UInt8) (j : Nat) : Lib.occAt l [c] j = (l[j]? == some c) := by
 unfold Lib.occAt
 have : l[j]? = (l.drop j)[0]? := by simp
 rw [this]
 cases l.drop j with
 | nil => simp [List.isPrefixOf]
 | cons b r =>
  simp only [List.isPrefixOf, Bool.and_true, List.getElem?_cons_zero]
  by_cases h : c = b
  · subst h; simp
  · simp [h, Ne.symm h]
    rw [Bool.eq_iff_iff]; simp only [beq_iff_eq]; exact eq_comm
theorem ext_data (s : ByteArray) (a b : Nat) : (s.extract a b).data.toList = (s.data.toList.drop a).take (b - a) := Lib.extract_data s a b
abbrev dot : ByteArray := bs [46]
theorem pt_split (s : ByteArray) : ∀ (k i a : Nat), i + k = s.size + 1 → i ≤ s.size → a ≤ i → (∀ j, a ≤ j → j < i → byN s j ≠ 46) →
  pt s k a i = Lib.splitB dot 0 (Lib.countB (s.extract a s.size) dot) (s.extract a s.size) := by
 intro k
 induction k with
 | zero => intro i a hi hs; omega
 | succ k ih =>
  intro i a hi hs ha hd
  have hsz : s.data.toList.length = s.size := rfl
  have hx : (s.extract a s.size).data.toList = s.data.toList.drop a := by
   rw [ext_data, List.take_of_length_le (by rw [List.length_drop, hsz]; omega)]
  have hno : Lib.NoOcc (s.extract a s.size).data.toList [46] (i - a) := by
   intro j hj
   rw [occ1, hx, List.getElem?_drop]
   have := hd (a + j) (by omega) (by omega)
   have := mt (byN_eq s (a + j) (by omega) 46).2 this
   simpa using this
  by_cases c : i = s.size
  · have hp : pt s (k + 1) a i = s.extract a i :: pt s k (i + 1) (i + 1) := by rw [pt, if_pos (.inl c)]
    obtain rfl : k = 0 := by omega
    have hm : Lib.indexB (s.extract a s.size) dot = -1 := by
     refine Lib.index_past (by simp) hno ?_
     rw [hx, List.length_drop, hsz]
     show s.size - a < i - a + 1
     omega
    rw [hp, Lib.countB_miss _ _ hm, Lib.splitB_zero, c]
    rfl
  · by_cases d : byN s i = 46
    · have hp : pt s (k + 1) a i = s.extract a i :: pt s k (i + 1) (i + 1) := by rw [pt, if_pos (.inr d)]
      have hi2 : i < s.size := by omega
      have hh : Lib.indexB (s.extract a s.size) dot = ((i - a : Nat) : Int) := by
       refine Lib.index_hit hno (by rw [hx, List.length_drop, hsz]; omega) ?_
       rw [occ1, hx, List.getElem?_drop, show a + (i - a) = i by omega]
       have := (byN_eq s i hi2 46).1 d
       simpa using this
      have hsx : (s.extract a s.size).size = s.size - a := by
       show (s.extract a s.size).data.toList.length = _
       rw [hx, List.length_drop, hsz]
      have e2 : (s.extract a s.size).extract (i - a + dot.size) (s.extract a s.size).size = s.extract (i + 1) s.size := by
       refine ba_ext ?_
       rw [ext_data (s.extract a s.size), hx, hsx, ext_data s, List.drop_drop, show a + (i - a + dot.size) = i + 1 by show a + (i - a + 1) = i + 1; omega]
       congr 1
       show s.size - a - (i - a + 1) = s.size - (i + 1)
       omega
      have e1 : (s.extract a s.size).extract 0 (i - a + 0) = s.extract a i := by
       refine ba_ext ?_
       rw [ext_data (s.extract a s.size), hx, ext_data s, List.drop_zero]
       rfl
      rw [hp, Lib.countB_hit _ _ (i - a) (by show 1 ≤ 1; omega) hh, Nat.add_comm 1, Lib.splitB_hit _ _ _ _ (i - a) hh, e1, e2]
      congr 1
      exact ih (i + 1) (i + 1) (by omega) (by omega) (by omega) (fun j h1 h2 => by omega)
    · have hp : pt s (k + 1) a i = pt s k a (i + 1) := by rw [pt, if_neg (fun h => h.elim c d)]
      rw [hp]
      refine ih (i + 1) a (by omega) (by omega) (by omega) (fun j h1 h2 => ?_)
      by_cases e : j = i
      · rw [e]; exact d
      · exact hd j h1 (by omega)
theorem parts_split (s : ByteArray) : parts s = Lib.splitB dot 0 (Lib.countB s dot) s := by
 have h := pt_split s (s.size + 1) 0 0 (by omega) (by omega) (by omega) (fun j h1 h2 => by omega)
 have e : s.extract 0 s.size = s := by
  refine ba_ext ?_
  rw [ext_data, List.drop_zero, List.take_of_length_le (show s.data.toList.length ≤ s.size - 0 from Nat.le_of_eq rfl)]
 rw [e] at h
 exact h
theorem parts_len (s : ByteArray) : (parts s).length ≤ s.size + 1 := pt_len s _ _ _
theorem v213 (s : ByteArray) (hs : s.size < 4294967281) : E 213 [.S s, .S dot] [] = some (owStrS (parts s), []) := by
 refine ev_out rfl ?_
 have e : cfg.outO 213 [.S s, .S dot] [] = (bif decide (s.size < 4294967281) && Nat.ble 1 dot.size then some (owStrS (Lib.splitB dot 0 (Lib.countB s dot) s), ([] : List AV)) else none) := rfl
 rw [e, decide_eq_true hs, parts_split]
 rfl
theorem pt_size (s : ByteArray) : ∀ (k a i : Nat) (x : ByteArray), x ∈ pt s k a i → x.size ≤ s.size := by
 intro k
 induction k with
 | zero => intro a i x hx; simp [pt] at hx
 | succ k ih =>
  intro a i x hx
  unfold pt at hx
  split at hx
  · rcases List.mem_cons.1 hx with rfl | hx
    · show (s.extract a i).data.toList.length ≤ s.data.toList.length
      rw [ext_data, List.length_take, List.length_drop]
      omega
    · exact ih _ _ _ hx
  · exact ih _ _ _ hx
def okPat (ps : List ByteArray) (i : Nat) : Bool := ((ps.getD i ByteArray.empty).toList == (bs [42]).toList) || (((ps.getD i ByteArray.empty).toList == (bs [62]).toList) && decide (i + 1 = ps.length)) || okPlain (ps.getD i ByteArray.empty)
def patF (ps : List ByteArray) : Nat → Nat → Bool
 | 0, _ => true
 | k + 1, i => okPat ps i && patF ps k (i + 1)
theorem lastI {n i : Nat} (h : i < n) (hn : n ≤ 4294967296) : decide ((i : Int) = IntKind.i64.wrap (zN n - 1)) = decide (i + 1 = n) := by
 rw [wrapS (by simp only [zN]; omega) (by simp only [zN]; omega)]
 by_cases e : i + 1 = n
 · rw [decide_eq_true e, decide_eq_true (by simp only [zN]; omega)]
 · rw [decide_eq_false e, decide_eq_false (by simp only [zN]; omega)]
theorem l127 (ps : List ByteArray) (hl : ps.length ≤ 4294967296) (hs : ∀ x ∈ ps, x.size ≤ 4294967296) : ∀ (k i : Nat), i + k = ps.length →
  HH 127 [] (k + 1) [true, true, true, false, true] (hdS [(1, .B true), (5, .rf 315392), (6, nI (i : Int))] [(315392, ⟨ps.length, 1, gsStrS ps⟩)] []) = some (.B (patF ps k i), []) := by
 intro k
 induction k with
 | zero => intro i hi; rw [hstep, h127, bf (by simp [zN]; omega)]; rfl
 | succ k ih =>
  intro i hi
  have hi2 : i < ps.length := by omega
  have q := v202 (ps.getD i ByteArray.empty) (hs _ (getD_mem hi2))
  have ih' := ih (i + 1) (by omega)
  rw [hstep, h127, bt (by simp [zN]; omega)]
  simp only [cond_true, bndL hi2, Int.toNat_natCast, q, Option.bind_some, asB, lastI hi2 hl, wrapN (show i ≤ 4611686018427387904 by omega)]
  have ih'' : HH 127 [] (k + 1) [true, true, true, false, true] (hdS [(1, AV.B true), (5, AV.rf 315392), (6, nI ((i + 1 : Nat) : Int))] [(315392, ⟨ps.length, 1, fun i => lstG [AV.S (ps.getD i ByteArray.empty)]⟩)] []) = some (.B (patF ps k (i + 1)), []) := ih'
  rw [ih'']
  show _ = some (AV.B (okPat ps i && patF ps k (i + 1)), [])
  unfold okPat
  generalize ((ps.getD i ByteArray.empty).toList == (bs [42]).toList) = c1
  generalize ((ps.getD i ByteArray.empty).toList == (bs [62]).toList) = c2
  generalize decide (i + 1 = ps.length) = c3
  generalize okPlain (ps.getD i ByteArray.empty) = c4
  cases c1 <;> cases c2 <;> cases c3 <;> cases c4 <;> simp
def okPatS (s : ByteArray) : Bool := inR (zN s.size) 1 24 && patF (parts s) (parts s).length 0
theorem v127 (s : ByteArray) (hs : s.size ≤ 4294967200) : E 127 [.S s, .B true] [] = some (.B (okPatS s), []) := by
 have hp := parts_len s
 refine ev1 ((parts s).length + 1) rfl ((e127 ..).trans (obind' (v22 ..) ?_))
 unfold okPatS
 cases h : inR (zN s.size) 1 24 with
 | true => exact bf' rfl (obind' (v201 s (by omega)) (l127 (parts s) (by omega) (fun x hx => Nat.le_trans (pt_size s _ _ _ x hx) (by omega)) _ 0 (by omega)))
 | false => exact bt' rfl rfl
theorem v50 (s : ByteArray) (hs : s.size ≤ 4294967200) : E 50 [.S s] [] = some (.B (okPatS s), []) :=
 ev1 0 rfl ((e50 ..).trans (obind' (v127 s hs) rfl))
theorem l166 (s : ByteArray) (ps : List ByteArray) (hl : ps.length ≤ 4294967296) (hs : ∀ x ∈ ps, x.size ≤ 4294967296) : ∀ (k i : Nat), i + k = ps.length →
  HH 166 [] (k + 1) [true, true, false, true] (hdS [(0, .S s), (3, .rf 290816), (8, .rf 290816), (9, nI (zN ps.length)), (10, nI (i : Int))] [(290816, ⟨ps.length, 1, gsStrS ps⟩)] []) = some (.B (inR (zN s.size) 1 24 && patF ps k i), []) := by
 intro k
 induction k with
 | zero =>
  intro i hi
  rw [hstep, h166, bf (by simp [zN]; omega), obind (v86 ..)]
  simp [patF, asB]
 | succ k ih =>
  intro i hi
  have hi2 : i < ps.length := by omega
  have q := v215 (ps.getD i ByteArray.empty) (hs _ (getD_mem hi2))
  have ih' := ih (i + 1) (by omega)
  rw [hstep, h166, bt (by simp [zN]; omega)]
  simp only [cond_true, bndL hi2, Int.toNat_natCast, q, Option.bind_some, asB, lastI hi2 hl, wrapN (show i ≤ 4611686018427387904 by omega)]
  have ih'' : HH 166 [] (k + 1) [true, true, false, true] (hdS [(0, AV.S s), (3, AV.rf 290816), (8, AV.rf 290816), (9, nI (zN ps.length)), (10, nI ((i + 1 : Nat) : Int))] [(290816, ⟨ps.length, 1, fun i => lstG [AV.S (ps.getD i ByteArray.empty)]⟩)] []) = some (.B (inR (zN s.size) 1 24 && patF ps k (i + 1)), []) := ih'
  rw [ih'']
  show _ = some (AV.B (inR (zN s.size) 1 24 && (okPat ps i && patF ps k (i + 1))), [])
  unfold okPat
  generalize ((ps.getD i ByteArray.empty).toList == (bs [42]).toList) = c1
  generalize ((ps.getD i ByteArray.empty).toList == (bs [62]).toList) = c2
  generalize decide (i + 1 = ps.length) = c3
  generalize okPlain (ps.getD i ByteArray.empty) = c4
  cases c1 <;> cases c2 <;> cases c3 <;> cases c4 <;> simp
theorem v166 (s : ByteArray) (hs : s.size ≤ 4294967200) : E 166 [.S s] [] = some (.B (okPatS s), []) := by
 have hp := parts_len s
 exact ev1 ((parts s).length + 1) rfl ((e166 ..).trans (obind' (v213 s (by omega)) (l166 s (parts s) (by omega) (fun x hx => Nat.le_trans (pt_size s _ _ _ x hx) (by omega)) _ 0 (by omega))))
end Go.Fw
