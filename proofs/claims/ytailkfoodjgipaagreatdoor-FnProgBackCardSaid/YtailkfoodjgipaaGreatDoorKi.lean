/- Values: the texts of filters. -/
import Derived.Test.YtailkfoodjgipaaGreatDoorKh
set_option linter.unusedVariables false
set_option linter.unusedSimpArgs false
namespace Go.Fw
open Go.Proofs
/-- The word of a term's kind. -/
def wd (n : Int) : ByteArray :=
  if n = 1 then bs [97, 108, 108] else if n = 2 then bs [110, 117, 109] else if n = 3 then bs [116, 101, 120, 116] else if n = 4 then bs [60] else if n = 5 then bs [37] else if n = 6 then bs [94] else if n = 7 then bs [126] else if n = 8 then bs [33] else if n = 9 then bs [38] else bs [124]
theorem v54 (n : Int) (h1 : 1 ≤ n) (h2 : n ≤ 10) : E 61 [nI n] [] = some (.S (wd n), []) := by
  refine ev1 0 rfl ((e54 ..).trans ?_)
  rcases op_cases n with h | h | h | h | h | h | h | h | h | h | ⟨h1, h2, h3, h4, h5, h6, h7, h8, h9, h10⟩
  all_goals first | (subst h; rfl) | omega
theorem wd_size (n : Int) : (wd n).size ≤ 4 := by
  unfold wd
  repeat' split
  all_goals decide
theorem wd_txt {t : VTerm} (h : okTm t = true) : termTxt t = if t.Op = 4 ∨ t.Op = 5 then wd t.Op ++ t.Text ++ txt t.Num else wd t.Op ++ t.Text := by
  have he : ∀ n : Int, t.Op = n → (n = 1 ∨ n = 2 ∨ n = 3 ∨ n = 4 ∨ n = 5 ∨ n = 8 ∨ n = 9 ∨ n = 10) → t.Text = ByteArray.empty := fun n e hn => by
    refine emp_eq ?_
    rcases hn with rfl | rfl | rfl | rfl | rfl | rfl | rfl | rfl <;> simp [okTm, isOp, e] at h <;> simp [h]
  rcases op_cases t.Op with e | e | e | e | e | e | e | e | e | e | ⟨h1, h2, h3, h4, h5, h6, h7, h8, h9, h10⟩
  · rw [he _ e (by omega)]; simp [termTxt, wd, e]
  · rw [he _ e (by omega)]; simp [termTxt, wd, e]
  · rw [he _ e (by omega)]; simp [termTxt, wd, e]
  · rw [he _ e (by omega)]; simp [termTxt, wd, e]
  · rw [he _ e (by omega)]; simp [termTxt, wd, e]
  · simp [termTxt, wd, e]
  · simp [termTxt, wd, e]
  · rw [he _ e (by omega)]; simp [termTxt, wd, e]
  · rw [he _ e (by omega)]; simp [termTxt, wd, e]
  · rw [he _ e (by omega)]; simp [termTxt, wd, e]
  · have := okTm_op h; omega
theorem leaf33 (t : VTerm) (s0 : ByteArray) (bb : Bool) (hb : bb = true) (NEXT : ByteArray → Option (AV × List AV)) (h : okTm t = true) (hs : s0.size ≤ 4000000000) (ht : t.Text.size ≤ 1048576) :
    (Option.bind (E 61 [nI t.Op] []) fun r6 =>
      bif decide (s0.size + (asS r6.fst).size ≤ 4294967296) then
        (bif decide ((s0 ++ asS r6.fst).size + t.Text.size ≤ 4294967296) then
          (bif bb then
            (bif decide (t.Op = 4) then
              (bif bb then
                (Option.bind (E 30 [nI t.Num] []) fun r12 =>
                bif decide ((s0 ++ asS r6.fst ++ t.Text).size + (asS r12.fst).size ≤ 4294967296) then NEXT (s0 ++ asS r6.fst ++ t.Text ++ asS r12.fst) else none)
              else none)
            else
              (bif bb then
                (bif decide (t.Op = 5) then
                  (bif bb then
                    (Option.bind (E 30 [nI t.Num] []) fun r14 =>
                    bif decide ((s0 ++ asS r6.fst ++ t.Text).size + (asS r14.fst).size ≤ 4294967296) then NEXT (s0 ++ asS r6.fst ++ t.Text ++ asS r14.fst) else none)
                  else none)
                else NEXT (s0 ++ asS r6.fst ++ t.Text))
              else none))
          else none)
        else none)
      else none) = NEXT (s0 ++ termTxt t) := by
  subst hb
  have ho := okTm_op h
  have hw := wd_size t.Op
  have hx := @wd_txt t h
  have hn := @okTm_num t h
  have z2 : (s0 ++ wd t.Op).size ≤ 4000000004 := by rw [ByteArray.size_append]; omega
  have z3 : (s0 ++ wd t.Op ++ t.Text).size ≤ 4010000000 := by rw [ByteArray.size_append]; omega
  refine obind' (v54 _ ho.1 ho.2) (bt' (decide_eq_true (by show s0.size + (wd t.Op).size ≤ _; omega)) (bt' (decide_eq_true (by show (s0 ++ wd t.Op).size + _ ≤ _; omega)) (bt' rfl ?_)))
  by_cases c4 : t.Op = 4
  · rw [if_pos (.inl c4)] at hx
    have := txt_size10 (hn (.inl c4)).1 (hn (.inl c4)).2
    refine bt' (decide_eq_true c4) (bt' rfl (obind' (v32 _ (hn (.inl c4)).1 (hn (.inl c4)).2) (bt' (decide_eq_true (by show (s0 ++ wd t.Op ++ t.Text).size + (txt t.Num).size ≤ _; omega)) ?_)))
    show NEXT (s0 ++ wd t.Op ++ t.Text ++ txt t.Num) = _
    rw [hx, ByteArray.append_assoc, ByteArray.append_assoc, ByteArray.append_assoc]
  · refine bf' (decide_eq_false c4) (bt' rfl ?_)
    by_cases c5 : t.Op = 5
    · rw [if_pos (.inr c5)] at hx
      have := txt_size10 (hn (.inr c5)).1 (hn (.inr c5)).2
      refine bt' (decide_eq_true c5) (bt' rfl (obind' (v32 _ (hn (.inr c5)).1 (hn (.inr c5)).2) (bt' (decide_eq_true (by show (s0 ++ wd t.Op ++ t.Text).size + (txt t.Num).size ≤ _; omega)) ?_)))
      show NEXT (s0 ++ wd t.Op ++ t.Text ++ txt t.Num) = _
      rw [hx, ByteArray.append_assoc, ByteArray.append_assoc, ByteArray.append_assoc]
    · rw [if_neg (fun e => e.elim c4 c5)] at hx
      refine bf' (decide_eq_false c5) ?_
      show NEXT (s0 ++ wd t.Op ++ t.Text) = _
      rw [hx, ByteArray.append_assoc]
def jn (ts : List VTerm) : Nat → Nat → ByteArray → ByteArray
  | 0, _, s => s
  | k + 1, i, s => jn ts k (i + 1) ((if 0 < i then s ++ bs [32] else s) ++ termTxt (ts.getD i zTerm))
theorem l33 (ts : List VTerm) (hl : ts.length ≤ 12) (hs : small ts) : ∀ (k i : Nat) (s : ByteArray), i + k = ts.length → (∀ j, i ≤ j → j < i + k → okTm (ts.getD j zTerm) = true) → s.size ≤ i * 1048600 →
    HH 31 [] (k + 1) [true, true, true, false, true] (hdS [(0, slTermS ts), (4, .S s), (5, nI (i : Int))] [] []) = some (.tup 2 (lstG [.S (jn ts k i s), .B true]), []) := by
  intro k
  induction k with
  | zero => intro i s hi ho hz; rw [hstep, h33, bf (by simp [zN]; omega)]; rfl
  | succ k ih =>
    intro i s hi ho hz
    have hi2 : i < ts.length := by omega
    have hok := ho i (by omega) (by omega)
    have ht := hs _ (getD_mem (d := zTerm) hi2)
    have htt := termTxt_size hok ht
    have e32 : (bs [32]).size = 1 := rfl
    have q : ∀ s0 : ByteArray, s0.size ≤ i * 1048600 + 1 → HH 31 [] (k + 1) [true, true, true, false, true] (hdS [(0, slTermS ts), (4, AV.S (s0 ++ termTxt (ts.getD i zTerm))), (5, nI (IntKind.i64.wrap ((i : Int) + 1)))] [] []) = some (.tup 2 (lstG [.S (jn ts k (i + 1) (s0 ++ termTxt (ts.getD i zTerm))), .B true]), []) := fun s0 h0 => by
      rw [wrapN (by omega)]
      exact ih (i + 1) _ (by omega) (fun j h1 h2 => ho j (by omega) (by omega)) (by rw [ByteArray.size_append, Nat.add_mul]; omega)
    rw [hstep, h33, bt (by simp [zN]; omega)]
    show _ = some (AV.tup 2 (lstG [.S (jn ts k (i + 1) ((if 0 < i then s ++ bs [32] else s) ++ termTxt (ts.getD i zTerm))), .B true]), [])
    have hb := bndL hi2
    rw [Int.toNat_natCast]
    by_cases c : 0 < i
    · rw [if_pos c]
      have hz2 : (s ++ bs [32]).size ≤ i * 1048600 + 1 := by rw [ByteArray.size_append, e32]; omega
      have L := leaf33 (ts.getD i zTerm) (s ++ bs [32]) _ hb (fun x => HH 31 [] (k + 1) [true, true, true, false, true] (hdS [(0, slTermS ts), (4, AV.S x), (5, nI (IntKind.i64.wrap ((i : Int) + 1)))] [] [])) hok (by omega) ht
      refine bt' (decide_eq_true (by omega)) (bt' (decide_eq_true (by omega)) (bt' hb (bt' hb (and2_both ?_ ?_))))
      · exact L.trans (q _ hz2)
      · exact L.trans (q _ hz2)
    · rw [if_neg c]
      have L := leaf33 (ts.getD i zTerm) s _ hb (fun x => HH 31 [] (k + 1) [true, true, true, false, true] (hdS [(0, slTermS ts), (4, AV.S x), (5, nI (IntKind.i64.wrap ((i : Int) + 1)))] [] [])) hok (by omega) ht
      refine bf' (decide_eq_false (by omega)) (bt' hb (bt' hb (and2_both ?_ ?_)))
      · exact L.trans (q s (Nat.le_succ_of_le hz))
      · exact L.trans (q s (Nat.le_succ_of_le hz))
def filtTxt (ts : List VTerm) : ByteArray := if filtOk ts = true then jn ts ts.length 0 ByteArray.empty else ByteArray.empty
theorem filtOk_all {ts : List VTerm} (h : filtOk ts = true) : ts.length ≤ 12 ∧ ∀ j, j < ts.length → okTm (ts.getD j zTerm) = true := by
  unfold filtOk at h
  simp only [Bool.and_eq_true, decide_eq_true_eq] at h
  exact ⟨h.1, fun j hj => ff_all _ _ _ h.2 j (by omega) (by omega)⟩
theorem v33 (ts : List VTerm) (hl : ts.length ≤ 4294967296) (hs : small ts) : E 31 [slTermS ts] [] = some (.tup 2 (lstG [.S (filtTxt ts), .B (filtOk ts)]), []) := by
  refine ev1 (ts.length + 1) rfl ((e33 ..).trans (obind' (v53 ts hl hs) ?_))
  unfold filtTxt
  cases h : filtOk ts with
  | false => exact bt' rfl rfl
  | true =>
    have ho := filtOk_all h
    exact bf' rfl (l33 ts ho.1 hs ts.length 0 ByteArray.empty (by omega) (fun j h1 h2 => ho.2 j (by omega)) (by show 0 ≤ _; omega))
theorem jn_size (ts : List VTerm) (hs : small ts) : ∀ (k i : Nat) (s : ByteArray), i + k ≤ ts.length → (∀ j, i ≤ j → j < i + k → okTm (ts.getD j zTerm) = true) → (jn ts k i s).size ≤ s.size + k * 1048600 := by
  intro k
  induction k with
  | zero => intro i s hi ho; show s.size ≤ _; omega
  | succ k ih =>
    intro i s hi ho
    have hok := ho i (by omega) (by omega)
    have htt := termTxt_size hok (hs _ (getD_mem (d := zTerm) (show i < ts.length by omega)))
    have e32 : (bs [32]).size = 1 := rfl
    have := ih (i + 1) ((if 0 < i then s ++ bs [32] else s) ++ termTxt (ts.getD i zTerm)) (by omega) (fun j h1 h2 => ho j (by omega) (by omega))
    unfold jn
    rw [ByteArray.size_append] at this
    have h3 : (if 0 < i then s ++ bs [32] else s).size ≤ s.size + 1 := by
      split
      · rw [ByteArray.size_append, e32]; omega
      · omega
    rw [Nat.add_mul]
    omega
theorem filtTxt_size (ts : List VTerm) (hs : small ts) : (filtTxt ts).size ≤ 12583200 := by
  unfold filtTxt
  split
  · rename_i h
    have ho := filtOk_all h
    have := jn_size ts hs ts.length 0 ByteArray.empty (by omega) (fun j h1 h2 => ho.2 j (by omega))
    have hz : ByteArray.empty.size = 0 := rfl
    omega
  · show 0 ≤ _; omega
theorem jn_tail (ts : List VTerm) : ∀ (k i : Nat) (s : ByteArray), i + k = ts.length → 1 ≤ i → (jn ts k i s).data.toList = s.data.toList ++ Lib.joinTail [32] (((ts.drop i).map termTxt).map (·.data.toList)) := by
  intro k
  induction k with
  | zero => intro i s hi h1; rw [List.drop_eq_nil_of_le (by omega)]; simp [jn, Lib.joinTail]
  | succ k ih =>
    intro i s hi h1
    rw [drop_getD (d := zTerm) (show i < ts.length by omega)]
    unfold jn
    rw [ih (i + 1) _ (by omega) (by omega), if_pos (by omega), dapp, dapp]
    simp [Lib.joinTail]
theorem jn_join (ts : List VTerm) : jn ts ts.length 0 ByteArray.empty = ⟨(Lib.join ((ts.map termTxt).map (·.data.toList)) [32]).toArray⟩ := by
  refine ba_ext ?_
  cases ts with
  | nil => rfl
  | cons t r =>
    have e : jn (t :: r) (t :: r).length 0 ByteArray.empty = jn (t :: r) r.length 1 (termTxt t) := by
      show jn (t :: r) r.length 1 ((if 0 < 0 then _ else ByteArray.empty) ++ termTxt t) = _
      rw [if_neg (by omega), ByteArray.empty_append]
    rw [e, jn_tail (t :: r) r.length 1 _ (by simp; omega) (by omega)]
    simp only [List.drop_succ_cons, List.drop_zero, List.map_cons]
    rw [Lib.join_cons]
theorem strsOf_gs (ws : List ByteArray) : strsOf ws.length (gsStrS ws) = ws := by
  refine list_ext_getD (d := ByteArray.empty) (by simp [strsOf]) (fun i hi => ?_)
  have hi2 : i < ws.length := by simpa [strsOf] using hi
  simp [strsOf, List.getD_eq_getElem?_getD, hi2, gsStrS, lstG, asS]
theorem v38 (ws : List ByteArray) (p : ByteArray) (hn : ws.length ≤ 140737488355328) (hl : (Lib.join (ws.map (·.data.toList)) p.data.toList).length ≤ 140737488355328) :
    E 24 [slStrS ws, .S p] [] = some (.S ⟨(Lib.join (ws.map (·.data.toList)) p.data.toList).toArray⟩, []) := by
  refine ev_out rfl ?_
  have e : cfg.outO 24 [slStrS ws, .S p] [] = (bif Nat.ble ws.length 140737488355328 && (List.range ws.length).all (fun i => isSt (gsStrS ws i 0)) && decide ((Lib.join ((strsOf ws.length (gsStrS ws)).map (·.data.toList)) p.data.toList).length ≤ 140737488355328) then some (.S ⟨(Lib.join ((strsOf ws.length (gsStrS ws)).map (·.data.toList)) p.data.toList).toArray⟩, ([] : List AV)) else none) := rfl
  rw [e, strsOf_gs, decide_eq_true hl, Nat.ble_eq_true_of_le hn]
  have : (List.range ws.length).all (fun i => isSt (gsStrS ws i 0)) = true := List.all_eq_true.2 fun i _ => rfl
  rw [this]
  rfl
theorem l65 (ts : List VTerm) (hl : ts.length ≤ 12) (hs : small ts) (hz : (Lib.join ((ts.map termTxt).map (·.data.toList)) [32]).length ≤ 140737488355328) : ∀ (k i : Nat) (ws : List ByteArray), i + k = ts.length → (∀ j, i ≤ j → j < i + k → okTm (ts.getD j zTerm) = true) → ws.length = i → ws ++ (ts.drop i).map termTxt = ts.map termTxt →
    HH 53 [] (k + 1) [true, true, true, false, true] (hdS [(4, .rf 348160), (11, slTermS ts), (12, nI (zN ts.length)), (13, nI (i : Int))] [(348160, ⟨ws.length, 1, gsStrS ws⟩)] []) = some (.tup 2 (lstG [.S ⟨(Lib.join ((ts.map termTxt).map (·.data.toList)) [32]).toArray⟩, .B true]), []) := by
  intro k
  induction k with
  | zero =>
    intro i ws hi ho hw he
    rw [List.drop_eq_nil_of_le (by omega), List.map_nil, List.append_nil] at he
    subst he
    rw [hstep, h65, bf (by simp [zN]; omega)]
    exact obind' (v38 (ts.map termTxt) (bs [32]) (by simp; omega) hz) rfl
  | succ k ih =>
    intro i ws hi ho hw he
    have hi2 : i < ts.length := by omega
    have hok := ho i (by omega) (by omega)
    have q := v86 (ts.getD i zTerm) hok (hs _ (getD_mem hi2))
    rw [hstep, h65, bt (by simp [zN]; omega), bt (bndL hi2), Int.toNat_natCast]
    refine obind' q (bt' (by simp; omega) ?_)
    rw [wrapN (by omega)]
    have e1 : (ws ++ [termTxt (ts.getD i zTerm)]).length = ws.length + 1 := by simp
    have := ih (i + 1) (ws ++ [termTxt (ts.getD i zTerm)]) (by omega) (fun j h1 h2 => ho j (by omega) (by omega)) (by rw [e1, hw]) (by
      rw [List.append_assoc, ← he, drop_getD (d := zTerm) hi2]; rfl)
    rw [e1] at this
    have e2 : (fun i_1 => lstG [AV.S (bif decide (i_1 < ws.length) then (ws.getD i_1 ByteArray.empty) else bif decide (i_1 - ws.length = 0) then termTxt (ts.getD i zTerm) else ByteArray.empty)]) = goStrS (ws ++ [termTxt (ts.getD i zTerm)]) := app_StrS
    show HH 53 [] (k + 1) _ (hdS _ [(348160, ⟨ws.length + 1, 1, fun i_1 => lstG [AV.S (bif decide (i_1 < ws.length) then (ws.getD i_1 ByteArray.empty) else bif decide (i_1 - ws.length = 0) then termTxt (ts.getD i zTerm) else ByteArray.empty)]⟩)] []) = _
    rw [e2]
    exact this
theorem v65 (ts : List VTerm) (hl : ts.length ≤ 4294967296) (hs : small ts) : E 53 [slTermS ts] [] = some (.tup 2 (lstG [.S (filtTxt ts), .B (filtOk ts)]), []) := by
  refine ev1 (ts.length + 1) rfl ((e65 ..).trans (obind' (v57 ts hl hs) ?_))
  have hsz := filtTxt_size ts hs
  unfold filtTxt at hsz ⊢
  cases h : filtOk ts with
  | false => exact bt' rfl rfl
  | true =>
    have ho := filtOk_all h
    rw [h, if_pos rfl, jn_join] at hsz
    refine bf' rfl ?_
    have z : (fun i : Nat => lstG [AV.S ByteArray.empty]) = gsStrS [] := by funext i; unfold gsStrS; simp
    rw [z, if_pos rfl, jn_join]
    have hz : (Lib.join ((ts.map termTxt).map (·.data.toList)) [32]).length ≤ 140737488355328 := by
      have : (ByteArray.mk (Lib.join ((ts.map termTxt).map (·.data.toList)) [32]).toArray).size = (Lib.join ((ts.map termTxt).map (·.data.toList)) [32]).length := by simp [ByteArray.size]
      omega
    exact l65 ts ho.1 hs hz ts.length 0 [] (by omega) (fun j h1 h2 => ho.2 j (by omega)) rfl (by simp)
end Go.Fw
