/- Values: filters that are read. -/
import Derived.Test.YtailkfoodjgipaaGreatDoorKv
import Derived.Lib.IndexLaws
set_option linter.unusedVariables false
set_option linter.unusedSimpArgs false
namespace Go.Fw
open Go.Proofs
/-- The words of a text between its blanks: from a on, looked at from i on. -/
def pb (s : ByteArray) : Nat → Nat → Nat → List ByteArray
  | 0, _, _ => []
  | k + 1, a, i => if i = s.size ∨ byN s i = 32 then s.extract a i :: pb s k (i + 1) (i + 1) else pb s k a (i + 1)
theorem pb_len (s : ByteArray) : ∀ (k a i : Nat), (pb s k a i).length ≤ k := by
  intro k
  induction k with
  | zero => intro a i; simp [pb]
  | succ k ih =>
    intro a i
    unfold pb
    split
    · simp only [List.length_cons]; have := ih (i + 1) (i + 1); omega
    · have := ih a (i + 1); omega
abbrev blk1 : ByteArray := bs [32]
theorem pb_split (s : ByteArray) : ∀ (k i a : Nat), i + k = s.size + 1 → i ≤ s.size → a ≤ i → (∀ j, a ≤ j → j < i → byN s j ≠ 32) →
    pb s k a i = Lib.splitB blk1 0 (Lib.countB (s.extract a s.size) blk1) (s.extract a s.size) := by
  intro k
  induction k with
  | zero => intro i a hi hs; omega
  | succ k ih =>
    intro i a hi hs ha hd
    have hsz : s.data.toList.length = s.size := rfl
    have hx : (s.extract a s.size).data.toList = s.data.toList.drop a := by
      rw [ext_data, List.take_of_length_le (by rw [List.length_drop, hsz]; omega)]
    have hno : Lib.NoOcc (s.extract a s.size).data.toList [32] (i - a) := by
      intro j hj
      rw [occ1, hx, List.getElem?_drop]
      have := hd (a + j) (by omega) (by omega)
      have := mt (byN_eq s (a + j) (by omega) 32).2 this
      simpa using this
    by_cases c : i = s.size
    · have hp : pb s (k + 1) a i = s.extract a i :: pb s k (i + 1) (i + 1) := by rw [pb, if_pos (.inl c)]
      obtain rfl : k = 0 := by omega
      have hm : Lib.indexB (s.extract a s.size) blk1 = -1 := by
        refine Lib.index_past (by simp) hno ?_
        rw [hx, List.length_drop, hsz]
        show s.size - a < i - a + 1
        omega
      rw [hp, Lib.countB_miss _ _ hm, Lib.splitB_zero, c]
      rfl
    · by_cases d : byN s i = 32
      · have hp : pb s (k + 1) a i = s.extract a i :: pb s k (i + 1) (i + 1) := by rw [pb, if_pos (.inr d)]
        have hi2 : i < s.size := by omega
        have hh : Lib.indexB (s.extract a s.size) blk1 = ((i - a : Nat) : Int) := by
          refine Lib.index_hit hno (by rw [hx, List.length_drop, hsz]; omega) ?_
          rw [occ1, hx, List.getElem?_drop, show a + (i - a) = i by omega]
          have := (byN_eq s i hi2 32).1 d
          simpa using this
        have hsx : (s.extract a s.size).size = s.size - a := by
          show (s.extract a s.size).data.toList.length = _
          rw [hx, List.length_drop, hsz]
        have e2 : (s.extract a s.size).extract (i - a + blk1.size) (s.extract a s.size).size = s.extract (i + 1) s.size := by
          refine ba_ext ?_
          rw [ext_data (s.extract a s.size), hx, hsx, ext_data s, List.drop_drop, show a + (i - a + blk1.size) = i + 1 by show a + (i - a + 1) = i + 1; omega]
          congr 1
          show s.size - a - (i - a + 1) = s.size - (i + 1)
          omega
        have e1 : (s.extract a s.size).extract 0 (i - a + 0) = s.extract a i := by
          refine ba_ext ?_
          rw [ext_data (s.extract a s.size), hx, ext_data s, List.drop_zero]
          rfl
        rw [hp, Lib.countB_hit _ _ (i - a) (by show 1 ≤ 1; omega) hh, Nat.add_comm 1, Lib.splitB_hit _ _ _ _ (i - a) hh, e1, e2]
        congr 1
        exact ih (i + 1) (i + 1) (by omega) (by omega) (by omega) (fun j h1 h2 => by omega)
      · have hp : pb s (k + 1) a i = pb s k a (i + 1) := by rw [pb, if_neg (fun h => h.elim c d)]
        rw [hp]
        refine ih (i + 1) a (by omega) (by omega) (by omega) (fun j h1 h2 => ?_)
        by_cases e : j = i
        · rw [e]; exact d
        · exact hd j h1 (by omega)
def words (s : ByteArray) : List ByteArray := pb s (s.size + 1) 0 0
theorem words_split (s : ByteArray) : words s = Lib.splitB blk1 0 (Lib.countB s blk1) s := by
  have h := pb_split s (s.size + 1) 0 0 (by omega) (by omega) (by omega) (fun j h1 h2 => by omega)
  have e : s.extract 0 s.size = s := by
    refine ba_ext ?_
    rw [ext_data, List.drop_zero, List.take_of_length_le (show s.data.toList.length ≤ s.size - 0 from Nat.le_of_eq rfl)]
  rw [e] at h
  exact h
theorem words_len (s : ByteArray) : (words s).length ≤ s.size + 1 := pb_len s _ _ _
theorem v84b (s : ByteArray) (hs : s.size < 4294967281) : E 78 [.S s, .S blk1] [] = some (owStrS (words s), []) := by
  refine ev_out rfl ?_
  have e : cfg.outO 78 [.S s, .S blk1] [] = (bif decide (s.size < 4294967281) && Nat.ble 1 blk1.size then some (owStrS (Lib.splitB blk1 0 (Lib.countB s blk1) s), ([] : List AV)) else none) := rfl
  rw [e, decide_eq_true hs, words_split]
  rfl
theorem pb_size (s : ByteArray) : ∀ (k a i : Nat) (x : ByteArray), x ∈ pb s k a i → x.size ≤ s.size := by
  intro k
  induction k with
  | zero => intro a i x hx; simp [pb] at hx
  | succ k ih =>
    intro a i x hx
    unfold pb at hx
    split at hx
    · rcases List.mem_cons.1 hx with rfl | hx
      · show (s.extract a i).data.toList.length ≤ s.data.toList.length
        rw [ext_data, List.length_take, List.length_drop]
        omega
      · exact ih _ _ _ hx
    · exact ih _ _ _ hx
/-- A part of a pattern. -/
def spA (acc : List UInt8) : List UInt8 → List (List UInt8)
  | [] => [acc]
  | b :: r => if b = 32 then acc :: spA [] r else spA (acc ++ [b]) r
theorem spA_join (ws : List (List UInt8)) : ∀ (acc w : List UInt8), (∀ x ∈ w :: ws, ∀ b ∈ x, b ≠ 32) → spA acc (w ++ Lib.joinTail [32] ws) = (acc ++ w) :: ws := by
  induction ws with
  | nil =>
    intro acc w h
    induction w generalizing acc with
    | nil => simp [Lib.joinTail, spA]
    | cons b r ih =>
      have hb := h (b :: r) (by simp) b (by simp)
      rw [List.cons_append, spA, if_neg hb, ih (acc ++ [b]) (fun x hx c hc => by
        have : x = r := by simpa using hx
        subst this
        exact h (b :: x) (by simp) c (List.mem_cons_of_mem _ hc))]
      simp
  | cons v ws ihw =>
    intro acc w h
    induction w generalizing acc with
    | nil =>
      rw [List.nil_append]
      show spA acc ([32] ++ v ++ Lib.joinTail [32] ws) = _
      rw [List.append_assoc, List.cons_append, List.nil_append, spA, if_pos rfl, ihw [] v (fun x hx c hc => h x (List.mem_cons_of_mem _ hx) c hc)]
      simp
    | cons b r ih =>
      have hb := h (b :: r) (by simp) b (by simp)
      rw [List.cons_append, spA, if_neg hb, ih (acc ++ [b]) (fun x hx c hc => by
        rcases List.mem_cons.1 hx with rfl | hx
        · exact h (b :: x) (by simp) c (List.mem_cons_of_mem _ hc)
        · exact h x (List.mem_cons_of_mem _ hx) c hc)]
      simp
theorem pb_sp (s : ByteArray) : ∀ (k a i : Nat), i + k = s.size → a ≤ i → (pb s (k + 1) a i).map dl = spA (((dl s).drop a).take (i - a)) ((dl s).drop i) := by
  intro k
  induction k with
  | zero =>
    intro a i hi ha
    have hi : i = s.size := by omega
    have e0 : (dl s).drop i = [] := List.drop_eq_nil_of_le (by rw [dl_len]; omega)
    rw [pb, if_pos (.inl hi), pb, e0]
    show [(s.extract a i).data.toList] = _
    rw [ext_data]; rfl
  | succ k ih =>
    intro a i hi ha
    obtain ⟨x, ed, eb⟩ := byN_drop (show i < s.size by omega)
    rw [pb, ed]
    by_cases h : x = 32
    · have : byN s i = 32 := by rw [eb, h]; rfl
      rw [if_pos (.inr this), List.map_cons, ih (i + 1) (i + 1) (by omega) (by omega), spA, if_pos h, Nat.sub_self, List.take_zero]
      congr 1
      show (s.extract a i).data.toList = _
      rw [ext_data]
    · have : ¬ (i = s.size ∨ byN s i = 32) := by
        rintro (e | e)
        · omega
        · exact h (UInt8.toNat_inj.1 (by rw [eb] at e; show x.toNat = 32; omega))
      rw [if_neg this, ih a (i + 1) (by omega) (by omega), spA, if_neg h]
      congr 1
      have e1 : (dl s).drop a = ((dl s).drop a).take (i - a) ++ (dl s).drop i := by
        have := List.take_append_drop (i - a) ((dl s).drop a)
        rw [List.drop_drop, show a + (i - a) = i by omega] at this
        exact this.symm
      have hl : (((dl s).drop a).take (i - a)).length = i - a := by rw [List.length_take, List.length_drop, dl_len]; omega
      conv => lhs; rw [e1, ed]
      rw [show i + 1 - a = (((dl s).drop a).take (i - a)).length + 1 by omega, List.take_length_add_append]
      simp
theorem map_dl_inj {xs ys : List ByteArray} (h : xs.map dl = ys.map dl) : xs = ys := by
  induction xs generalizing ys with
  | nil => cases ys with
    | nil => rfl
    | cons y ys => simp at h
  | cons x xs ih => cases ys with
    | nil => simp at h
    | cons y ys =>
      simp only [List.map_cons, List.cons.injEq] at h
      rw [dl_inj h.1, ih h.2]
theorem words_join {ws : List ByteArray} (h0 : ws ≠ []) (h : ∀ x ∈ ws, ∀ b ∈ dl x, b ≠ 32) : words ⟨(Lib.join (ws.map (·.data.toList)) [32]).toArray⟩ = ws := by
  refine map_dl_inj ?_
  cases ws with
  | nil => exact absurd rfl h0
  | cons w r =>
    unfold words
    rw [pb_sp _ _ 0 0 (by omega) (by omega)]
    show spA [] (Lib.join (((w :: r)).map (·.data.toList)) [32]) = _
    rw [List.map_cons, Lib.join_cons]
    have := spA_join (r.map dl) [] (dl w) (fun x hx b hb => by
      rcases List.mem_cons.1 hx with rfl | hx
      · exact h w (by simp) b hb
      · obtain ⟨y, hy, rfl⟩ := List.mem_map.1 hx
        exact h y (List.mem_cons_of_mem _ hy) b hb)
    rw [List.nil_append] at this
    exact this
abbrev noBl (s : ByteArray) : Prop := ∀ b ∈ dl s, b ≠ 32
theorem allB_mem {p : Int → Bool} {s : ByteArray} : ∀ (k i : Nat), i + k = s.size → allB p s k i = true → ∀ b ∈ (dl s).drop i, p (b.toNat : Int) = true := by
  intro k
  induction k with
  | zero => intro i hi h b hb; rw [List.drop_eq_nil_of_le (by rw [dl_len]; omega)] at hb; simp at hb
  | succ k ih =>
    intro i hi h b hb
    obtain ⟨x, ed, eb⟩ := byN_drop (show i < s.size by omega)
    unfold allB at h
    simp only [Bool.and_eq_true] at h
    rw [ed] at hb
    rcases List.mem_cons.1 hb with rfl | hb
    · rw [← eb]; exact h.1
    · exact ih (i + 1) (by omega) h.2 b hb
theorem digs_noBl (n : Nat) : noBl (digs n) := fun b hb e => by
  have := digs_all n b hb
  rw [e] at this; simp at this
theorem txt_noBl (n : Int) : noBl (txt n) := fun b hb => by
  by_cases h : n < 0
  · rw [txt_neg h] at hb
    rcases List.mem_cons.1 hb with rfl | hb
    · decide
    · exact digs_noBl _ b hb
  · rw [txt_pos h] at hb
    exact digs_noBl _ b hb
theorem part_noBl {s : ByteArray} (h : okPart s = true) : noBl s := fun b hb e => by
  unfold okPart at h
  simp only [Bool.and_eq_true] at h
  have := allB_mem s.size 0 (by omega) h.2 b (by rw [List.drop_zero]; exact hb)
  rw [e] at this
  exact absurd this (by decide)
theorem WL_noBl : ∀ i, i < 11 → ∀ b ∈ WL i, b ≠ 32 := by decide
theorem term_noBl {u : VTerm} (h : okTm u = true) : noBl (termTxt u) := fun b hb => by
  rw [term_dl h] at hb
  rcases List.mem_append.1 hb with hb | hb
  · exact WL_noBl _ (by have := (opN h).2; omega) b hb
  · unfold rs at hb
    by_cases c : u.Op = 4 ∨ u.Op = 5
    · rw [if_pos c] at hb; exact txt_noBl _ b hb
    · rw [if_neg c] at hb
      by_cases c6 : u.Op = 6 ∨ u.Op = 7
      · refine part_noBl ?_ b hb
        rcases c6 with c6 | c6 <;> simp [okTm, isOp, c6] at h <;> exact h.2
      · have : u.Text = ByteArray.empty := by
          rcases term_cases h with ⟨a, x⟩ | ⟨a, x⟩ | ⟨a, x⟩ | ⟨a, x⟩ | ⟨a, x⟩
          · rw [a]
          · rw [a]
          · rw [a]
          · exfalso; have : u.Op = 6 := by rw [a]
            omega
          · exfalso; have : u.Op = 7 := by rw [a]
            omega
        rw [this] at hb
        simp [dl] at hb
abbrev okTms (us : List VTerm) : Prop := ∀ u ∈ us, okTm u = true
theorem filt_words {us : List VTerm} (h : filtOk us = true) (h0 : us ≠ []) : words (filtTxt us) = us.map termTxt ∧ okTms us ∧ filtTxt us ≠ ByteArray.empty := by
  have ho : okTms us := fun u hu => by
    obtain ⟨i, hi, e⟩ := List.getElem_of_mem hu
    have := (filtOk_all h).2 i hi
    rw [List.getD_eq_getElem?_getD, List.getElem?_eq_getElem hi, Option.getD_some, e] at this
    exact this
  refine ⟨?_, ho, ?_⟩
  · unfold filtTxt
    rw [if_pos h, jn_join]
    exact words_join (by simpa using h0) (fun x hx => by
      obtain ⟨u, hu, rfl⟩ := List.mem_map.1 hx
      exact term_noBl (ho u hu))
  · intro e
    have := filt_cons h h0
    rw [e] at this; simp at this
abbrev rFil (ts : List VTerm) (b : Bool) : Option (AV × List AV) := some (.tup 2 (lstG [owTermS ts, .B b]), [])
def fin (s : ByteArray) (ts : List VTerm) : Option (AV × List AV) := bif filtOk ts && decide (filtTxt ts = s) then rFil ts true else rFil [] false
theorem app_TermS {os : List VTerm} {v : VTerm} : (fun i => lstG [nI (bif decide (i < os.length) then (os.getD i zTerm).Op else bif decide (i - os.length = 0) then v.Op else 0), nI (bif decide (i < os.length) then (os.getD i zTerm).Num else bif decide (i - os.length = 0) then v.Num else 0), AV.S (bif decide (i < os.length) then (os.getD i zTerm).Text else bif decide (i - os.length = 0) then v.Text else ByteArray.empty)]) = goTermS (os ++ [v]) := by
  funext i
  unfold goTermS gsTermS
  rw [getD_app]
  by_cases hi : i < os.length
  · simp only [hi, decide_true, cond_true, if_true]; try rfl
  · by_cases h2 : i = os.length
    · have h3 : i - os.length = 0 := by omega
      simp only [hi, h2, Nat.sub_self, Nat.lt_irrefl, decide_true, decide_false, cond_true, cond_false, if_true, if_false]; try rfl
    · have h3 : ¬ i - os.length = 0 := by omega
      simp only [hi, h2, h3, decide_false, cond_false, if_false]; try rfl
theorem nlT : (fun i : Nat => lstG [nI 0, nI 0, AV.S ByteArray.empty]) = goTermS [] := by funext i; unfold goTermS gsTermS; simp
theorem fin_ok (s : ByteArray) (ts : List VTerm) (r : Option (AV × List AV)) (hr : r = some (.tup 2 (lstG [.S (filtTxt ts), .B (filtOk ts)]), [])) : (Option.bind r fun r1 =>
    bif !asB (asA r1.fst 1) then
      (bif bif okT then true else false then
        (some (AV.tup 2 (lstG [AV.own 0 3 fun i => lstG [nI 0, nI 0, AV.S ByteArray.empty], AV.B false]), []))
      else
        (none))
    else
      (bif !(asS (asA r1.fst 0)).toList == s.toList then
        (bif bif okT then true else false then
          (some (AV.tup 2 (lstG [AV.own 0 3 fun i => lstG [nI 0, nI 0, AV.S ByteArray.empty], AV.B false]), []))
        else
          (none))
      else
        (bif bif okT then true else false then
          (some (AV.tup 2 (lstG [owTermS ts, AV.B true]), []))
        else
          (none)))) = fin s ts := by
  subst hr
  rw [okTb, nlT]
  show (bif !filtOk ts then rFil [] false else (bif !((filtTxt ts).toList == s.toList) then rFil [] false else rFil ts true)) = _
  unfold fin
  cases filtOk ts with
  | false => rfl
  | true =>
    by_cases e : filtTxt ts = s
    · rw [beqT e, decide_eq_true e]; rfl
    · rw [beqF e, decide_eq_false e]; rfl
theorem small_app {xs : List VTerm} {t : VTerm} (h : small xs) (ht : t.Text.size ≤ 1048576) : small (xs ++ [t]) := fun x hx => by
  rcases List.mem_append.1 hx with hx | hx
  · exact h x hx
  · rw [List.mem_singleton.1 hx]; exact ht
theorem l78 (s : ByteArray) (ws : List ByteArray) (hl : ws.length ≤ 1048577) (hw : ∀ x ∈ ws, x.size ≤ 1048576) : ∀ (k i : Nat) (ts : List VTerm), i + k = ws.length → ts.length = i → small ts →
    ∃ t2, HH 66 [] (k + 1) [true, true, true, false, true] (hdS [(0, .S s), (4, .rf 368640), (15, .rf 323584), (16, nI (zN ws.length)), (17, nI (i : Int))] [(368640, ⟨ts.length, 3, gsTermS ts⟩), (323584, ⟨ws.length, 1, gsStrS ws⟩)] []) = fin s (ts ++ t2) ∧ t2.length = k ∧ small (ts ++ t2) ∧ ∀ us, okTms us → us.map termTxt = ws.drop i → t2 = us := by
  intro k
  induction k with
  | zero =>
    intro i ts hi ht hs
    refine ⟨[], ?_, rfl, by rw [List.append_nil]; exact hs, fun us hu e => ?_⟩
    · rw [hstep, h78, bf (by simp [zN]; omega), List.append_nil]
      exact fin_ok s ts _ (v65 ts (by omega) hs)
    · rw [List.drop_eq_nil_of_le (by omega), List.map_eq_nil_iff] at e
      exact e.symm
  | succ k ih =>
    intro i ts hi ht hs
    have hi2 : i < ws.length := by omega
    have hx := hw _ (getD_mem (d := ByteArray.empty) hi2)
    obtain ⟨t, q, hb, hc⟩ := v92 (ws.getD i ByteArray.empty) hx
    have e1 : (ts ++ [t]).length = ts.length + 1 := by simp
    obtain ⟨t2, h, h2, h3, h4⟩ := ih (i + 1) (ts ++ [t]) (by omega) (by omega) (small_app hs (Nat.le_trans hb hx))
    refine ⟨t :: t2, ?_, by simp [h2], by rw [List.append_assoc] at h3; exact h3, fun us hu e => ?_⟩
    · rw [hstep, h78, bt (by simp [zN]; omega), bt (bndL hi2), Int.toNat_natCast]
      refine obind' q (bt' (by simp; omega) ?_)
      rw [wrapN (by omega)]
      rw [e1, List.append_assoc] at h
      refine Eq.trans ?_ h
      exact congrArg (fun g => HH 66 [] (k + 1) [true, true, true, false, true] (hdS [(0, .S s), (4, .rf 368640), (15, .rf 323584), (16, nI (zN ws.length)), (17, nI ((i + 1 : Nat) : Int))] [(368640, ⟨ts.length + 1, 3, g⟩), (323584, ⟨ws.length, 1, gsStrS ws⟩)] [])) app_TermS
    · rw [drop_getD (d := ByteArray.empty) hi2] at e
      cases us with
      | nil => simp at e
      | cons u us =>
        simp only [List.map_cons, List.cons.injEq] at e
        rw [hc u (hu u (by simp)) e.1.symm, h4 us (fun x hx => hu x (List.mem_cons_of_mem _ hx)) e.2]
abbrev FOk (s : ByteArray) (ts : List VTerm) : Prop := ts.length ≤ s.size + 1 ∧ small ts ∧ ∀ fs, filtOk fs = true → s = filtTxt fs → ts = fs
theorem filt_e : filtTxt [] = ByteArray.empty := emp_eq filt_nil
theorem v78 (s : ByteArray) (hs : s.size ≤ 1048576) : ∃ ts b, E 66 [.S s] [] = rFil ts b ∧ FOk s ts := by
  by_cases he : s = ByteArray.empty
  · refine ⟨[], true, ev1 0 rfl ((e78 ..).trans (bt' (beqT he) (bt' okTb ?_))), by simp, fun x hx => by simp at hx, fun fs hf e => ?_⟩
    · rw [nlT]; rfl
    · by_cases h0 : fs = []
      · exact h0.symm
      · exact absurd (e.symm.trans he) (filt_words hf h0).2.2
  · have hwl := words_len s
    obtain ⟨t2, h, h2, h3, h4⟩ := l78 s (words s) (by omega) (fun x hx => Nat.le_trans (pb_size s _ _ _ x hx) hs) (words s).length 0 [] (by omega) rfl (fun x hx => by simp at hx)
    rw [List.nil_append] at h h3
    have q : E 66 [.S s] [] = fin s t2 := by
      have ex : ∃ X, fin s t2 = some X := by
        unfold fin
        cases (filtOk t2 && decide (filtTxt t2 = s)) <;> exact ⟨_, rfl⟩
      obtain ⟨X, eX⟩ := ex
      rw [eX] at h ⊢
      refine ev1 ((words s).length + 1) rfl ((e78 ..).trans (bf' (beqF he) (obind' (v84b s (by omega)) ?_)))
      rw [nlT]
      exact h
    have comp : ∀ fs, filtOk fs = true → s = filtTxt fs → t2 = fs := fun fs hf e => by
      have h0 : fs ≠ [] := fun e0 => he (by rw [e, e0]; exact filt_e)
      obtain ⟨a, b, c⟩ := filt_words hf h0
      exact h4 fs b (by rw [List.drop_zero, e]; exact a.symm)
    by_cases hb : filtOk t2 && decide (filtTxt t2 = s)
    · refine ⟨t2, true, ?_, by omega, h3, comp⟩
      rw [q]; unfold fin; rw [hb]; rfl
    · refine ⟨[], false, ?_, by simp, fun x hx => by simp at hx, fun fs hf e => ?_⟩
      · rw [q]; unfold fin; rw [eq_false_of_ne_true hb]; rfl
      · exfalso
        have := comp fs hf e
        apply hb
        rw [this, hf, ← e]; simp
theorem l73 (s : ByteArray) (hs : s.size ≤ 144) (he : s ≠ ByteArray.empty) : ∀ (k i a : Nat) (ts : List VTerm), i + k = s.size + 1 → a ≤ i → ts.length ≤ i → small ts →
    ∃ fs b, HH 72 [] (k + 1) [true, true, true, true, false, true] (hdS [(0, .S s), (4, .rf 458752), (5, nI (a : Int)), (6, nI (i : Int))] [(458752, ⟨ts.length, 3, gsTermS ts⟩)] []) = rFil fs b ∧ fs.length ≤ s.size + 1 ∧ small fs ∧ ∀ us, okTms us → us.map termTxt = pb s k a i → rFil fs b = fin s (ts ++ us) := by
  intro k
  induction k with
  | zero =>
    intro i a ts hi ha ht hsm
    have q := fin_ok s ts _ (v33 ts (by omega) hsm)
    have run : HH 72 [] 1 [true, true, true, true, false, true] (hdS [(0, .S s), (4, .rf 458752), (5, nI (a : Int)), (6, nI (i : Int))] [(458752, ⟨ts.length, 3, gsTermS ts⟩)] []) = fin s ts := by
      rw [hstep, h73, bf (by simp [zN]; omega)]
      exact q
    have fz : ∀ us : List VTerm, us.map termTxt = pb s 0 a i → us = [] := fun us e => by
      simp [pb] at e; exact e
    by_cases hb : filtOk ts && decide (filtTxt ts = s)
    · refine ⟨ts, true, by rw [run]; unfold fin; rw [hb]; rfl, by omega, hsm, fun us hu e => ?_⟩
      rw [fz us e, List.append_nil]; unfold fin; rw [hb]; rfl
    · refine ⟨[], false, by rw [run]; unfold fin; rw [eq_false_of_ne_true hb]; rfl, by simp, fun x hx => by simp at hx, fun us hu e => ?_⟩
      rw [fz us e, List.append_nil]; unfold fin; rw [eq_false_of_ne_true hb]; rfl
  | succ k ih =>
    intro i a ts hi ha ht hsm
    have he2 : (!s.toList == ByteArray.empty.toList) = true := by rw [beqF he]; rfl
    have d1 : (decide (0 ≤ (a : Int)) && decide ((a : Int) ≤ (i : Int)) && decide ((i : Int) ≤ zN s.size)) = true := by simp [zN]; omega
    have hxs : (s.extract a i).size ≤ s.size := ext_sz ..
    obtain ⟨t, b, q, hb, hc⟩ := v89 (s.extract a i) (by omega)
    have e1 : (ts ++ [t]).length = ts.length + 1 := by simp
    -- a word's end
    have cut : pb s (k + 1) a i = s.extract a i :: pb s k (i + 1) (i + 1) → ∃ fs b', (Option.bind (E 89 [AV.S (s.extract (a : Int).toNat (i : Int).toNat)] []) fun r6 =>
              bif !asB (asA r6.fst 1) then
                (bif bif okT then true else false then
                  (some (AV.tup 2 (lstG [AV.own 0 3 fun i => lstG [nI 0, nI 0, AV.S ByteArray.empty], AV.B false]), []))
                else
                  (none))
              else
                (bif decide (ts.length + 1 ≤ 4294967296) && true && true && true && true then
                  (HH 72 [] (k + 1) [true, true, true, true, false, true] (hdS [(0, AV.S s), (4, AV.rf 458752), (5, nI (IntKind.i64.wrap ((i : Int) + 1))), (6, nI (IntKind.i64.wrap ((i : Int) + 1)))] [(458752, ⟨ts.length + 1, 3, fun i => lstG [nI (bif decide (i < ts.length) then (ts.getD i zTerm).Op else bif decide (i - ts.length = 0) then asI (asA (asA r6.fst 0) 0) else 0), nI (bif decide (i < ts.length) then (ts.getD i zTerm).Num else bif decide (i - ts.length = 0) then asI (asA (asA r6.fst 0) 1) else 0), AV.S (bif decide (i < ts.length) then (ts.getD i zTerm).Text else bif decide (i - ts.length = 0) then asS (asA (asA r6.fst 0) 2) else ByteArray.empty)]⟩)] []))
                else
                  (none))) = rFil fs b' ∧ fs.length ≤ s.size + 1 ∧ small fs ∧ ∀ us, okTms us → us.map termTxt = pb s (k + 1) a i → rFil fs b' = fin s (ts ++ us) := fun hp => by
      rw [Int.toNat_natCast, Int.toNat_natCast]
      cases b with
      | false =>
        refine ⟨[], false, obind' q (bt' rfl (bt' okTb (by rw [nlT]; rfl))), by simp, fun x hx => by simp at hx, fun us hu e => ?_⟩
        rw [hp] at e
        cases us with
        | nil => simp at e
        | cons u us =>
          simp only [List.map_cons, List.cons.injEq] at e
          have := (hc u (hu u (by simp)) e.1.symm).2
          simp at this
      | true =>
        have hb' : t.Text.size ≤ (s.extract a i).size := hb
        obtain ⟨fs, b', h, h2, h3, h4⟩ := ih (i + 1) (i + 1) (ts ++ [t]) (by omega) (by omega) (by omega) (small_app hsm (by omega))
        refine ⟨fs, b', obind' q (bf' rfl (bt' (by simp; omega) ?_)), h2, h3, fun us hu e => ?_⟩
        · rw [wrapN (by omega)]
          rw [e1] at h
          refine Eq.trans ?_ h
          exact congrArg (fun g => HH 72 [] (k + 1) [true, true, true, true, false, true] (hdS [(0, .S s), (4, .rf 458752), (5, nI ((i + 1 : Nat) : Int)), (6, nI ((i + 1 : Nat) : Int))] [(458752, ⟨ts.length + 1, 3, g⟩)] [])) app_TermS
        · rw [hp] at e
          cases us with
          | nil => simp at e
          | cons u us =>
            simp only [List.map_cons, List.cons.injEq] at e
            have h5 := h4 us (fun x hx => hu x (List.mem_cons_of_mem _ hx)) e.2
            rw [h5, (hc u (hu u (by simp)) e.1.symm).1, List.append_assoc]
            rfl
    rw [hstep, h73, bt (by simp [zN]; omega), bt he2]
    by_cases c : i = s.size
    · have hp : pb s (k + 1) a i = s.extract a i :: pb s k (i + 1) (i + 1) := by rw [pb, if_pos (.inl c)]
      rw [bf (by simp [zN]; omega), bt d1]
      exact cut hp
    · rw [bt (by simp [zN]; omega), bt (bnd (show i < s.size by omega))]
      by_cases d : byN s i = 32
      · have hp : pb s (k + 1) a i = s.extract a i :: pb s k (i + 1) (i + 1) := by rw [pb, if_pos (.inr d)]
        rw [bf (by rw [Int.toNat_natCast, decide_eq_true d]; rfl), bt d1]
        exact cut hp
      · have hp : pb s (k + 1) a i = pb s k a (i + 1) := by rw [pb, if_neg (fun h => h.elim c d)]
        rw [bt (by rw [Int.toNat_natCast, decide_eq_false d]; rfl), wrapN (by omega), hp]
        exact ih (i + 1) a ts (by omega) (by omega) (by omega) hsm
theorem termTxt_12 {t : VTerm} (h : okTm t = true) : (termTxt t).size ≤ 11 := by
  have e1 : ∀ c : UInt8, (bs [c]).size = 1 := fun _ => rfl
  rw [term_rs h, ByteArray.size_append]
  unfold rs
  rcases term_cases h with ⟨a, x⟩ | ⟨a, x⟩ | ⟨a, x⟩ | ⟨a, x⟩ | ⟨a, x⟩
  · have h1 := wd_size t.Op
    rw [if_neg (by omega), a]
    show (wd t.Op).size + ByteArray.empty.size ≤ _
    have : ByteArray.empty.size = 0 := rfl
    omega
  · rw [a]
    have := txt_size10 x.1 x.2
    show 1 + (txt t.Num).size ≤ _
    omega
  · rw [a]
    have := txt_size10 x.1.1 x.1.2
    show 1 + (txt t.Num).size ≤ _
    omega
  · have hp : okPart t.Text = true := by
      have ho : t.Op = 6 := by rw [a]
      simp [okTm, isOp, ho] at h; exact h.2
    unfold okPart inR zN at hp
    simp at hp
    rw [a]
    show 1 + t.Text.size ≤ _
    omega
  · have hp : okPart t.Text = true := by
      have ho : t.Op = 7 := by rw [a]
      simp [okTm, isOp, ho] at h; exact h.2
    unfold okPart inR zN at hp
    simp at hp
    rw [a]
    show 1 + t.Text.size ≤ _
    omega
theorem jn_size12 (ts : List VTerm) : ∀ (k i : Nat) (s : ByteArray), i + k ≤ ts.length → (∀ j, i ≤ j → j < i + k → okTm (ts.getD j zTerm) = true) → (jn ts k i s).size ≤ s.size + k * 12 := by
  intro k
  induction k with
  | zero => intro i s hi h; simp [jn]
  | succ k ih =>
    intro i s hi h
    unfold jn
    have h1 := ih (i + 1) ((if 0 < i then s ++ bs [32] else s) ++ termTxt (ts.getD i zTerm)) (by omega) (fun j a b => h j (by omega) (by omega))
    have h2 := termTxt_12 (h i (by omega) (by omega))
    have h3 : (if 0 < i then s ++ bs [32] else s).size ≤ s.size + 1 := by
      split
      · rw [ByteArray.size_append]; exact Nat.le_of_eq rfl
      · omega
    rw [ByteArray.size_append] at h1
    omega
theorem filt_144 {fs : List VTerm} (h : filtOk fs = true) : (filtTxt fs).size ≤ 144 := by
  have ho := filtOk_all h
  unfold filtTxt
  rw [if_pos h]
  have := jn_size12 fs fs.length 0 ByteArray.empty (by omega) (fun j a b => ho.2 j (by omega))
  have hz : ByteArray.empty.size = 0 := rfl
  omega
theorem rFil_inj {xs ys : List VTerm} {a b : Bool} (h : rFil xs a = rFil ys b) : xs = ys := by
  have h := (Prod.mk.inj (Option.some.inj h)).1
  injection h with _ h
  have h := congrFun h 0
  have h : owTermS xs = owTermS ys := h
  injection h with h1 _ h2
  refine list_ext_getD (d := zTerm) h1 (fun i hi => ?_)
  have hg := congrFun h2 i
  have g0 : nI (xs.getD i zTerm).Op = nI (ys.getD i zTerm).Op := congrFun hg 0
  have g1 : nI (xs.getD i zTerm).Num = nI (ys.getD i zTerm).Num := congrFun hg 1
  have g2 : AV.S (xs.getD i zTerm).Text = AV.S (ys.getD i zTerm).Text := congrFun hg 2
  injection g0 with _ g0
  injection g1 with _ g1
  injection g2 with g2
  generalize xs.getD i zTerm = x at *
  generalize ys.getD i zTerm = y at *
  obtain ⟨a1, a2, a3⟩ := x
  obtain ⟨b1, b2, b3⟩ := y
  simp only at g0 g1 g2
  rw [g0, g1, g2]
theorem v73 (s : ByteArray) (hs : s.size ≤ 1048576) : ∃ ts b, E 72 [.S s] [] = rFil ts b ∧ FOk s ts := by
  by_cases h144 : 144 < s.size
  · refine ⟨[], false, ev1 0 rfl ((e73 ..).trans (bt' (decide_eq_true (by show (144 : Int) < zN s.size; simp only [zN]; omega)) (bt' okTb (by rw [nlT]; rfl)))), by simp, fun x hx => by simp at hx, fun fs hf e => ?_⟩
    have := filt_144 hf
    rw [← e] at this
    omega
  have d : decide (144 < zN s.size) = false := decide_eq_false (by simp only [zN]; omega)
  by_cases he : s = ByteArray.empty
  · refine ⟨[], true, ev1 1 rfl ((e73 ..).trans (bf' d ?_)), by simp, fun x hx => by simp at hx, fun fs hf e => ?_⟩
    · rw [nlT]
      have q := fin_ok s [] _ (v33 [] (by simp) (fun x hx => by simp at hx))
      show HH 72 [] 1 [true, true, true, true, false, true] (hdS [(0, AV.S s), (4, AV.rf 458752), (5, nI 0), (6, nI 0)] [(458752, ⟨([] : List VTerm).length, 3, gsTermS []⟩)] []) = _
      rw [hstep, h73, bt (by simp [zN]), bf (by rw [beqT he]; rfl), q]
      unfold fin
      rw [filtOk_nil, filt_e, he]; simp
    · by_cases h0 : fs = []
      · exact h0.symm
      · exact absurd (e.symm.trans he) (filt_words hf h0).2.2
  · obtain ⟨fs, b, h, h2, h3, h4⟩ := l73 s (by omega) he (s.size + 1) 0 0 [] (by omega) (by omega) (by simp) (fun x hx => by simp at hx)
    refine ⟨fs, b, ev1 (s.size + 2) rfl ((e73 ..).trans (bf' d (by rw [nlT]; exact h))), h2, h3, fun us hf e => ?_⟩
    have h0 : us ≠ [] := fun e0 => he (by rw [e, e0]; exact filt_e)
    obtain ⟨a, b2, c⟩ := filt_words hf h0
    have := h4 us b2 (by rw [e]; exact a.symm)
    rw [List.nil_append] at this
    unfold fin at this
    rw [hf, decide_eq_true e.symm] at this
    exact rFil_inj this
end Go.Fw
