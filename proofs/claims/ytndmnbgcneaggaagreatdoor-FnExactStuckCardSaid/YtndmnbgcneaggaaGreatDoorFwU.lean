/- The by-value interpreter: operations on temporaries are what the model's are. The by-value interpreter: loads, addresses, parts: as the model's. The by-value interpreter: loads and stores are what the model's are. The by-value interpreter: stores are what the model's are. The by-value interpreter: one cell of a row stored. The by-value interpreter: one cell of a row stored: the invariant. The by-value interpreter: stores are what the model's are. The by-value interpreter: addresses, slices, indices: as the model's. The by-value interpreter: operators, fields, lengths, new variables: as the model's. The by-value interpreter: new rows; what is appended. The by-value interpreter: structs and slices that are built. The by-value interpreter: slices that are made, and that grow. The by-value interpreter: what is appended. -/
import Derived.Test.YtndmnbgcneaggaaGreatDoorFwH
import Derived.Laws.StructEq
import Derived.Great.BuildSlice
import Derived.Great.FillDense
import Derived.Deep.AppendSrc
import Derived.Deep.Upon
set_option linter.unusedVariables false
set_option linter.unusedSectionVars false
set_option linter.unusedSimpArgs false
namespace Go.Fw
variable [Tok]
omit [Tok] in
theorem K2_some {R : Type} {c : Bool} {x : Option R} {r : R} (h : K2 c x = some r) : c = true ∧ x = some r := by
 cases c
 · simp [K2] at h
 · exact ⟨rfl, h⟩
section
variable {c : Cx} {gh : Gh} {ar : ArT} {bx : BxT} {w : World} {P : Program}
theorem cCell_TR {z : AV} {v : Value} : TR c.sh gh ar bx w (cCell z v) v := by
 cases v with
 | int k n => rfl
 | bool x => rfl
 | string x => rfl
 | pointer a => cases a <;> first | rfl | trivial
 | slice a n m =>
  cases a with
  | some a => trivial
  | none =>
   cases n with
   | succ n => trivial
   | zero =>
    cases m with
    | succ m => trivial
    | zero =>
     simp only [cCell]
     cases z <;> first | rfl | trivial
 | _ => trivial
theorem all_oneCell {cs : Array Value} (h : cs.all (fun v => v.oneCell') = true) (j : Nat) (hj : j < cs.size) : (cs.getD j undef).oneCell' = true := by
 simp only [Array.all_eq_true] at h
 have := h j hj
 simpa [Array.getD_eq_getD_getElem?, hj] using this
theorem cVal_TR {t : TypeId} {v : Value} : TR c.sh gh ar bx w (cVal P t v) v := by
 cases v with
 | agg cs =>
  simp only [cVal]
  cases hall : cs.all (fun v => v.oneCell')
  · trivial
  · exact ⟨cs, rfl, rfl, fun j hj => ⟨all_oneCell hall j hj, cCell_TR⟩⟩
 | slice a n m =>
  cases a with
  | some a => trivial
  | none =>
   cases n with
   | succ n => trivial
   | zero =>
    cases m with
    | succ m => trivial
    | zero =>
     simp only [cVal]
     split
     · rfl
     · trivial
 | int k n => rfl
 | bool x => rfl
 | string x => rfl
 | pointer a => cases a <;> first | rfl | trivial
 | _ => trivial
theorem get_TR {nt : Nat} {st : St} {a : Act} (h : Inv c gh nt st a w) (t : TypeId) (x : Operand) : TR c.sh gh st.ar st.bx w (st.get P t x) (a.eval x) := by
 cases x with
 | tmp d => exact h.temps d
 | const v => exact cVal_TR
 | func f => exact ⟨#[], rfl, rfl, fun j hj => absurd hj (by simp)⟩
 | global g => trivial
theorem TR_I {k : IntKind} {n : Int} {v : Value} (h : TR c.sh gh ar bx w (.I k n) v) : v = .int k n := h
theorem TR_B {x : Bool} {v : Value} (h : TR c.sh gh ar bx w (.B x) v) : v = .bool x := h
theorem TR_S {x : ByteArray} {v : Value} (h : TR c.sh gh ar bx w (.S x) v) : v = .string x := h
def BinRun (P : Program) (w : World) (op : BinOp) (t : TypeId) (xo yo : Operand) (u v z : Value) : Prop :=
 (do eqGuard op t xo yo u v; binOp op t u v : Sem Value).run P w = .ok z w
theorem eqGuard_run {op : BinOp} {t : TypeId} {xo yo : Operand} {u v : Value} (h1 : ∀ cs, u ≠ .agg cs) (h2 : u ≠ .nilIface) : (eqGuard op t xo yo u v).run P w = .ok () w := by
 unfold eqGuard
 cases u <;> first | exact absurd rfl h2 | exact absurd rfl (h1 _) | (cases op <;> simp)
theorem equalIn_bool (d : Nat) {t : TypeId} {a b : Bool} (hu : P.underlying t = some .bool) : (Op.equalIn (d + 1) t (.bool a) (.bool b)).run P w = .ok (a == b) w := by
 unfold Op.equalIn
 simp only [Sem.run_bind, run_underlying hu, Result.andThen_ok, Sem.run_pure]
theorem equal_bool {t : TypeId} {a b : Bool} (hu : P.underlying t = some .bool) : (Op.equal t (.bool a) (.bool b)).run P w = .ok (a == b) w := equalIn_bool 9999 hu
theorem equalIn_slice_nil (d : Nat) {t e : TypeId} {a : Option Addr} {n m n' m' : Nat} (hu : P.underlying t = some (.slice e)) : (Op.equalIn (d + 1) t (.slice a n m) (.slice none n' m')).run P w = .ok a.isNone w := by
 unfold Op.equalIn
 cases a <;> simp only [Sem.run_bind, run_underlying hu, Result.andThen_ok, Sem.run_pure, Option.isNone_none, Option.isNone_some]
theorem equal_slice_nil {t e : TypeId} {a : Option Addr} {n m n' m' : Nat} (hu : P.underlying t = some (.slice e)) : (Op.equal t (.slice a n m) (.slice none n' m')).run P w = .ok a.isNone w := equalIn_slice_nil 9999 hu
theorem eqS_run {d : Nat} {t : TypeId} {x y : AV} {u v : Value} (hk : okS2 P t x y = true) (hx : TR c.sh gh ar bx w x u) (hy : TR c.sh gh ar bx w y v) : (Op.equalIn (d + 1) t u v).run P w = .ok (eqS x y) w ∧ u.oneCell' = true ∧ v.oneCell' = true := by
 unfold okS2 at hk
 split at hk
 · split at hk
   · rename_i hu
     have hx' : u = _ := hx
     have hy' : v = _ := hy
     subst hx' hy'
     have := eq_of_beq hk
     subst this
     exact ⟨run_equalIn_int w d t _ _ _ _ hu, rfl, rfl⟩
   · simp at hk
 · split at hk
   · rename_i hu
     have hx' : u = _ := hx
     have hy' : v = _ := hy
     subst hx' hy'
     exact ⟨run_equalIn_bool' w d t _ _ hu, rfl, rfl⟩
   · simp at hk
 · split at hk
   · rename_i hu
     have hx' : u = _ := hx
     have hy' : v = _ := hy
     subst hx' hy'
     exact ⟨run_equalIn_string w d t _ _ hu, rfl, rfl⟩
   · simp at hk
 · simp at hk
theorem part_sc {t : TypeId} {x y : AV} {xs : Array Value} {off : Nat} {v : Value} (hk : okS2 P t x y = true) (hx : xs[off]? = some v) : (part t xs off).run P w = .ok v w := by
 unfold okS2 at hk
 split at hk
 · split at hk
   · rename_i hu; simp [part, isAgg, run_underlying hu, hx]
   · simp at hk
 · split at hk
   · rename_i hu; simp [part, isAgg, run_underlying hu, hx]
   · simp at hk
 · split at hk
   · rename_i hu; simp [part, isAgg, run_underlying hu, hx]
   · simp at hk
 · simp at hk
theorem eqFl_run {d n : Nat} {g h : Nat → AV} {xs ys : Array Value} (hs1 : xs.size = n) (hs2 : ys.size = n) (hx : ∀ j, j < n → TR c.sh gh ar bx w (g j) (xs.getD j undef)) (hy : ∀ j, j < n → TR c.sh gh ar bx w (h j) (ys.getD j undef)) :
  ∀ fs : List Field, okFl P n g h fs = true → (Op.eqFields (d + 1) xs ys fs).run P w = .ok (eqFl g h fs) w := by
 intro fs
 induction fs with
 | nil => intro _; simp [Op.eqFields, eqFl, Sem.run_pure]
 | cons f fs ih =>
  intro hk
  simp only [okFl, Bool.and_eq_true] at hk
  obtain ⟨⟨⟨k1, k2⟩, k3⟩, k4⟩ := hk
  have hlt : f.offset < n := Nat.le_of_ble_eq_true k2
  have hn : f.name ≠ "_" := by simpa using k1
  have e1 : xs[f.offset]? = some (xs.getD f.offset undef) := by simp [Array.getD_eq_getD_getElem?, hs1, hlt]
  have e2 : ys[f.offset]? = some (ys.getD f.offset undef) := by simp [Array.getD_eq_getD_getElem?, hs2, hlt]
  have q := (eqS_run (d := d) k3 (hx _ hlt) (hy _ hlt)).1
  simp only [Op.eqFields, hn, ne_eq, not_false_eq_true, if_true, Sem.run_bind, part_sc k3 e1, part_sc k3 e2, q, Result.andThen_ok, eqFl]
  cases hb : eqS (g f.offset) (h f.offset) with
  | true => simp only [Bool.not_true, Bool.false_eq_true, if_false, Bool.true_and]; exact ih k4
  | false => simp [Sem.run_pure]
theorem binK_sound {R : Type} {op : BinOp} {t : TypeId} {x y : AV} {K : AV → Option R} {r : R} {u v : Value} (xo yo : Operand) (e : binK P op t x y K = some r)
  (hx : TR c.sh gh ar bx w x u) (hy : TR c.sh gh ar bx w y v) : ∃ z vz, K z = some r ∧ BinRun P w op t xo yo u v vz ∧ ∀ gh ar bx, TR c.sh gh ar bx w z vz := by
 unfold binK at e
 split at e
 case h_30 => simp at e
 case h_28 | h_29 =>
  obtain ⟨xs, rfl, hs1, hx⟩ := hx
  obtain ⟨ys, rfl, hs2, hy⟩ := hy
  split at e
  · rename_i fs hu
    obtain ⟨hk, e'⟩ := K2_some e
    clear e
    simp only [Bool.and_eq_true] at hk
    obtain ⟨⟨⟨k1, k2⟩, k3⟩, k4⟩ := hk
    have hf : P.fieldsOf t = fs := by simp [Program.fieldsOf, hu]
    have ht : P.underlying t = some (.struct (P.fieldsOf t)) := by rw [hf]; exact hu
    have hm := Nat.eq_of_beq_eq_true k1
    subst hm
    have q := eqFl_run (d := 9998) hs1 hs2 (fun j hj => (hx j hj).2) (fun j hj => (hy j hj).2) fs.toList k4
    refine ⟨_, .bool _, e', ?_, fun _ _ _ => rfl⟩
    unfold BinRun
    rw [Sem.run_bind, run_eqGuard_agg w _ t _ _ _ _ (by simpa using k3), Result.andThen_ok]
    first
     | (rw [run_eql_struct, run_equalIn_agg w 9999 t _ _ ht (by simpa using k2), hf, q]; rfl)
     | (rw [run_neq_struct, run_equalIn_agg w 9999 t _ _ ht (by simpa using k2), hf, q]; rfl)
  · simp at e
 case h_26 =>
  obtain ⟨xa, cap, rfl, _⟩ := hx
  have hy' : v = .slice none 0 0 := hy
  subst hy'
  split at e
  · rename_i e2 hu
    refine ⟨_, .bool false, e, ?_, fun _ _ _ => rfl⟩
    unfold BinRun
    rw [Sem.run_bind, eqGuard_run (by simp) (by simp), Result.andThen_ok]
    unfold binOp
    simp only [Sem.run_bind, equal_slice_nil hu, Result.andThen_ok, Sem.run_pure, Option.isNone_some]
  · simp at e
 case h_27 =>
  have hx' : u = .slice none 0 0 := hx
  have hy' : v = .slice none 0 0 := hy
  subst hx' hy'
  split at e
  · rename_i e2 hu
    refine ⟨_, .bool true, e, ?_, fun _ _ _ => rfl⟩
    unfold BinRun
    rw [Sem.run_bind, eqGuard_run (by simp) (by simp), Result.andThen_ok]
    unfold binOp
    simp only [Sem.run_bind, equal_slice_nil hu, Result.andThen_ok, Sem.run_pure, Option.isNone_none]
  · simp at e
 case h_17 | h_18 =>
  have hx' := TR_B hx; have hy' := TR_B hy; subst hx' hy'
  split at e
  · rename_i hu
    refine ⟨_, _, e, ?_, fun _ _ _ => rfl⟩
    unfold BinRun
    rw [Sem.run_bind, eqGuard_run (by simp) (by simp), Result.andThen_ok]
    unfold binOp
    simp only [Sem.run_bind, equal_bool hu, Result.andThen_ok, Sem.run_pure]
  · simp at e
 case h_19 =>
  have hx' := TR_S hx; have hy' := TR_S hy; subst hx' hy'
  obtain ⟨hk, e⟩ := K2_some e
  refine ⟨_, _, e, ?_, fun _ _ _ => rfl⟩
  have hk' : _ ≤ LIM := of_decide_eq_true hk
  unfold BinRun
  rw [Sem.run_bind, eqGuard_run (by simp) (by simp), Result.andThen_ok]
  unfold binOp
  have hmax : IntKind.i64.max = 9223372036854775807 := by decide
  have : ∀ n : Nat, n ≤ LIM → ¬ (n : Int) > 9223372036854775807 := fun n hn => by unfold LIM at hn; omega
  simp only [Op.stringOp, hmax, this _ hk', if_false, Sem.run_pure]
 case h_20 | h_21 | h_22 | h_23 | h_24 | h_25 =>
  have hx' := TR_S hx; have hy' := TR_S hy; subst hx' hy'
  refine ⟨_, _, e, ?_, fun _ _ _ => rfl⟩
  unfold BinRun
  rw [Sem.run_bind, eqGuard_run (by simp) (by simp), Result.andThen_ok]
  unfold binOp
  simp only [Op.stringOp, Sem.run_pure]
 all_goals
  have hx' := TR_I hx; have hy' := TR_I hy; subst hx' hy'
  obtain ⟨hk, e⟩ := K2_some e
  refine ⟨_, _, e, ?_, fun _ _ _ => rfl⟩
  unfold BinRun
  rw [Sem.run_bind, eqGuard_run (by simp) (by simp), Result.andThen_ok]
  simp only [Bool.and_eq_true, beq_iff_eq, Bool.not_eq_true', decide_eq_false_iff_not, decide_eq_true_eq] at hk
  unfold binOp
 case h_1 | h_2 =>
  have : ¬ (_ : Int) < 0 := Int.not_lt.2 hk
  simp only [Op.shift, this, if_false, Sem.run_pure]
 case h_6 | h_7 =>
  obtain ⟨rfl, hk⟩ := hk
  simp only [ne_eq, not_true_eq_false, if_false, Op.intDiv, hk, Sem.run_pure]
 all_goals
  subst hk
  simp only [ne_eq, not_true_eq_false, if_false, Op.intArith, Op.intBits, Op.intCmp, Sem.run_pure]
 all_goals first | rfl | (congr 2; simp [bne, Int.beq_eq_decide_eq]) | skip
end
end Go.Fw
namespace Go.Fw
variable [Tok]
section
variable {c : Cx} {gh : Gh} {nt : Nat} {st : St} {a : Act} {w : World} {P : Program} {R : Type} {r : R}
theorem wp_val {o : Oper} {Kc : Act → World → Prop} {Q : Exit → Act → World → Prop} {v : Value} {w' : World} (hr : (execOp a.eval o).run P w = .ok (.value v) w') (h : Kc (a.put o.dst v) w') : o.wp P a w Kc Q := by
 unfold Oper.wp; rw [hr]; exact h
theorem wp_skip' {o : Oper} {Kc : Act → World → Prop} {Q : Exit → Act → World → Prop} {w' : World} (hr : (execOp a.eval o).run P w = .ok .skip w') (h : Kc (a.put o.dst undef) w') : o.wp P a w Kc Q := by
 unfold Oper.wp; rw [hr]; exact h
theorem pickAV_TR {x : Bool} {y z : AV} {u v : Value} (hy : TR c.sh gh st.ar st.bx w y u) (hz : TR c.sh gh st.ar st.bx w z v) : TR c.sh gh st.ar st.bx w (pickAV x y z) (if x then u else v) := by
 unfold pickAV
 split
 · have h1 := TR_B hy; have h2 := TR_B hz; subst h1 h2
   cases x <;> rfl
 · have h1 := TR_B hy; subst h1
   cases x
   · trivial
   · rfl
 · have h2 := TR_B hz; subst h2
   cases x
   · rfl
   · trivial
 · trivial
theorem cellsOf_eq {t : TypeId} {i : TypeInfo} (h : P.info? t = some i) : P.cellsOf t = i.size := by simp [Program.cellsOf, h]
theorem fieldAt_run {t : TypeId} {f off fs : Nat} {ft : TypeId} {ad : Addr} (hs : ad.spot = none) (hf : fieldOf P t f = some (off, fs, ft)) (h0 : 0 < fs) :
  (Instr.fieldAt t (.pointer (some ad)) f).run P w = .ok (.pointer (some ⟨ad.block, ad.off + off, none⟩)) w := by
 unfold fieldOf at hf
 split at hf
 · rename_i fss hu
   split at hf
   · rename_i x hx
     simp only [Option.some.injEq, Prod.mk.injEq] at hf
     obtain ⟨rfl, rfl, rfl⟩ := hf
     unfold Program.cellsOf at h0
     cases hi : P.info? x.type with
     | none => rw [hi] at h0; simp at h0
     | some i =>
      rw [hi] at h0
      simp only [Option.map_some, Option.getD_some] at h0
      have hne : ¬ i.size = 0 := by omega
      unfold Instr.fieldAt
      simp only [Sem.run_bind, run_underlying hu, Result.andThen_ok, hx]
      simp only [Instr.sureAddr, fieldPlace, sizeOf, typeInfo, Sem.run_bind, run_program, Result.andThen_ok, hi, Sem.run_pure, hne, if_false, add_eq hs]
   · simp at hf
 · simp at hf
theorem loadAt_run {t : TypeId} {ad : Addr} (hs : ad.spot = none) (f : Nat → Value) (hc : ∀ j, j < P.cellsOf t → cellAt w ad.block (ad.off + j) = some (f j)) (hsz : isAggT P t = false → 0 < P.cellsOf t)
  (hu : ∃ d, P.underlying t = some d) (hi : ∃ i, P.info? t = some i) :
  (Instr.loadAt t (.pointer (some ad))).run P w = .ok (if isAggT P t then .agg ((List.range (P.cellsOf t)).map f).toArray else f 0) w := by
 obtain ⟨d, hu⟩ := hu
 obtain ⟨i, hi⟩ := hi
 have hadd : ∀ j, ad.add j = ⟨ad.block, ad.off + j, none⟩ := fun j => add_eq hs j
 have hagg : (isAgg t).run P w = .ok (isAggT P t) w := by
  unfold isAgg isAggT
  rw [Sem.run_bind, run_underlying hu, Result.andThen_ok, hu]
  cases d <;> rfl
 unfold Instr.loadAt loadVar
 simp only [Instr.sureAddr, Sem.run_bind, Sem.run_pure, Result.andThen_ok, hagg, Sem.run_ite]
 cases ht : isAggT P t with
 | true =>
  simp only [if_true, Sem.run_bind, sizeOf, typeInfo, run_program, Result.andThen_ok, hi, Sem.run_pure]
  rw [run_loadCells w ad i.size f (fun j hj => by rw [hadd]; exact hc j (by rw [cellsOf_eq hi]; exact hj))]
  simp only [Result.andThen_ok, Sem.run_pure, cellsOf_eq hi]
 | false =>
  have h0 := hc 0 (hsz ht)
  have had : ad = ⟨ad.block, ad.off + 0, none⟩ := by cases ad; simp at hs; subst hs; rfl
  have : w.cell? ad = some (f 0) := by rw [had]; exact h0
  simp only [run_load, this, Bool.false_eq_true, if_false]
theorem valOf_TR {t : TypeId} {g : Nat → AV} {f : Nat → Value} {ar : ArT} {bx : BxT} (h : ∀ j, j < P.cellsOf t → (f j).oneCell' = true ∧ TR c.sh gh ar bx w (g j) (f j)) (hsz : isAggT P t = false → 0 < P.cellsOf t) :
  TR c.sh gh ar bx w (valOf P t g) (if isAggT P t then .agg ((List.range (P.cellsOf t)).map f).toArray else f 0) := by
 unfold valOf
 cases ht : isAggT P t with
 | true =>
  refine ⟨_, rfl, by simp, fun j hj => ?_⟩
  have : (((List.range (P.cellsOf t)).map f).toArray).getD j undef = f j := by simp [Array.getD_eq_getD_getElem?, hj]
  rw [this]; exact h j hj
 | false => exact (h 0 (hsz ht)).2
theorem RS_oneCell {w : World} {ok : Cells} {x : AV} {v : Value} (h : RS w ok x v) : v.oneCell' = true := by
 cases x with
 | sl n sz g => obtain ⟨A, cap, rfl, _⟩ := h; rfl
 | sln n sz g => obtain ⟨A, cap, rfl, _⟩ := h; rfl
 | sp sz g => obtain ⟨a, rfl, _⟩ := h; rfl
 | clo f n g => obtain ⟨vs, rfl, _⟩ := h; rfl
 | I k n => have h' : v = _ := h; subst h'; rfl
 | B n => have h' : v = _ := h; subst h'; rfl
 | S n => have h' : v = _ := h; subst h'; rfl
 | nlp => have h' : v = _ := h; subst h'; rfl
 | nsl _ _ => have h' : v = _ := h; subst h'; rfl
 | gv bs => obtain ⟨_, _, _, A, cap, e, _⟩ := h; rw [e]; rfl
 | bad => exact h
 | _ => exact h.elim
theorem RO_oneCell {w w0 : World} {ok : Cells} {x : AV} {v : Value} {F : Cells} (h : RO w (RS w0 ok) x v F) (hb : x ≠ .bad) : v.oneCell' = true := by
 cases x with
 | own n sz g => obtain ⟨A, cap, rfl, _⟩ := h; rfl
 | bad => exact absurd rfl hb
 | _ => exact RS_oneCell h
end
end Go.Fw
namespace Go.Fw
variable [Tok]
section
variable {c : Cx} {gh : Gh} {nt : Nat} {st : St} {a : Act} {w : World} {P : Program} {R : Type} {r : R}
theorem tyOk_iff {t : TypeId} (h : tyOk P t = true) : (∃ i, P.info? t = some i) ∧ (∃ d, P.underlying t = some d) ∧ 0 < P.cellsOf t := by
 unfold tyOk at h
 simp only [Bool.and_eq_true] at h
 exact ⟨Option.isSome_iff_exists.1 h.1.1, Option.isSome_iff_exists.1 h.1.2, Nat.le_of_ble_eq_true h.2⟩
theorem szAt_own {A : Arr} {p : List (Nat × Nat)} {j : Nat} (h : j < A.szAt p) : p = [] ∨ ∃ n' sz' h', atP A.g p = .own n' sz' h' ∧ sz' = A.szAt p := by
 unfold Arr.szAt at h ⊢
 cases p with
 | nil => exact .inl rfl
 | cons q r =>
  simp only at h ⊢
  cases he : atP A.g (q :: r) with
  | own n sz g => exact .inr ⟨_, _, _, rfl, rfl⟩
  | _ => rw [he] at h; simp at h
theorem place_cell {w : World} {sh : AV → Value → Prop} : ∀ (p : List (Nat × Nat)) {n sz : Nat} {g : Nat → Nat → AV} {A : Option Addr} {cap : Nat} {F : Cells} {i j : Nat} {ad : Addr},
  RO w sh (.own n sz g) (.slice A n cap) F → placeV w A n sz g p i j (.pointer (some ad)) → (p = [] ∨ ∃ n' sz' h, atP g p = .own n' sz' h) →
  ∃ v F', cellAt w ad.block ad.off = some v ∧ F ad.block ad.off ∧ frozAt w ad.block ad.off = false ∧ RO w sh (atP g (p ++ [(i, j)])) v F' ∧ (∀ b o, F' b o → F b o) ∧ pathV w A n sz g (p ++ [(i, j)]) v ∧ ad.spot = none ∧
   (∀ k, j + k < (Arr.mk n sz g).szAt p → placeV w A n sz g p i (j + k) (.pointer (some ⟨ad.block, ad.off + k, none⟩))) := by
 intro p
 induction p with
 | nil =>
  intro n sz g A cap F i j ad hr hp _
  obtain ⟨hi, hj, ad', rfl, e⟩ := hp
  obtain rfl : ad = _ := by simpa using e
  obtain ⟨A1, cap1, e, h1, h2, h3⟩ := hr
  obtain ⟨rfl, rfl⟩ : some ad' = A1 ∧ cap = cap1 := by simpa using e
  rcases h3 with h3 | ⟨y, ey, hs, hcs, Fs, hf1, hf2, hf3⟩
  · omega
  obtain rfl : ad' = y := by simpa using ey
  obtain ⟨v, hv, hro⟩ := hf3 i hi j hj
  have hc := hcs _ (cell_lt hi hj h1)
  refine ⟨v, Fs i j, hv, hc.1, hc.2.2, by simpa [atP] using hro, fun b o hb => (hf1 i j b o hi hj hb).1, ⟨hi, hj, ad', rfl, hv⟩, rfl, fun k hk => ⟨hi, hk, ad', rfl, ?_⟩⟩
  simp only [Nat.add_assoc]
 | cons ij p ih =>
  obtain ⟨i0, j0⟩ := ij
  intro n sz g A cap F i j ad hr hp hat
  have hat : ∃ n' sz' h, atP g ((i0, j0) :: p) = .own n' sz' h := by rcases hat with hat | hat; exact absurd hat (by simp); exact hat
  obtain ⟨hi, hj, ad1, rfl, n3, sz3, h3', A3, cap3, hg, hc, hpl', hat', hatc, hatn⟩ := place_down hp hat
  obtain ⟨A1, cap1, e, h1, h2, h3⟩ := hr
  obtain ⟨rfl, rfl⟩ : some ad1 = A1 ∧ cap = cap1 := by simpa using e
  rcases h3 with h3 | ⟨y, ey, hs, hcs, Fs, hf1, hf2, hf3⟩
  · omega
  obtain rfl : ad1 = y := by simpa using ey
  obtain ⟨u0, hu0, hro0⟩ := hf3 i0 hi j0 hj
  rw [hc] at hu0
  obtain rfl : _ = u0 := by simpa using hu0
  rw [hg] at hro0
  obtain ⟨v, F', hv, hF, hfz, hro, hsub, hpv, hsp, hmore⟩ := ih hro0 hpl' hat'
  have hatq : atP g ((i0, j0) :: p ++ [(i, j)]) = atP h3' (p ++ [(i, j)]) := by
   cases p with
   | nil => simp [atP, hg]
   | cons a b => simp [atP, hg]
  refine ⟨v, F', hv, (hf1 _ _ _ _ hi hj hF).1, hfz, by rw [hatq]; exact hro, fun b o hb => (hf1 _ _ b o hi hj (hsub b o hb)).1, ?_, hsp, fun k hk => place_up hg hi hj hc (hmore k ?_)⟩
  · obtain ⟨q1, q2, hq⟩ : ∃ q1 q2, p ++ [(i, j)] = q1 :: q2 := by cases p with
     | nil => exact ⟨_, _, rfl⟩
     | cons a b => exact ⟨_, _, rfl⟩
    show pathV w (some ad1) n sz g ((i0, j0) :: (p ++ [(i, j)])) v
    rw [hq] at hpv ⊢
    exact ⟨hi, hj, ad1, rfl, _, hc, by rw [hg]; exact ⟨_, _, rfl, hpv⟩⟩
  · cases p with
    | nil => simpa [Arr.szAt, atP, hg] using hk
    | cons a b => simpa [Arr.szAt, atP, hg] using hk
theorem ldc_TR {id : Nat} {A : Arr} {p : List (Nat × Nat)} {v : Value} {F : Cells} (e : st.ar id = some A) (hr : RO w c.sh (atP A.g p) v F) (hp : pathV w (gh.hd id).1 A.n A.sz A.g p v) :
  TR c.sh gh st.ar st.bx w (ldc id p (atP A.g p)) v := by
 cases hx : atP A.g p with
 | own n sz g =>
  intro A' n' sz' g' e' _
  rw [e] at e'
  obtain rfl := Option.some.inj e'
  exact hp
 | I k n => rw [hx] at hr; exact hr
 | B k => rw [hx] at hr; exact hr
 | S k => rw [hx] at hr; exact hr
 | sl n sz g => rw [hx] at hr; exact hr
 | nlp => rw [hx] at hr; exact hr
 | _ => trivial
theorem loadK_sound {t : TypeId} {x : AV} {u : Value} {K : AV → Option R} (h : Inv c gh nt st a w) (e : loadK P st t x K = some r) (hx : TR c.sh gh st.ar st.bx w x u) :
  ∃ y v, K y = some r ∧ (Instr.loadAt t u).run P w = .ok v w ∧ TR c.sh gh st.ar st.bx w y v := by
 unfold loadK at e
 split at e
 · rename_i b o
   split at e
   · rename_i sz g hB
     obtain ⟨hk, e⟩ := K2_some e
     simp only [Bool.and_eq_true] at hk
     obtain ⟨hi, hu, hpos⟩ := tyOk_iff hk.1
     have hle : o + P.cellsOf t ≤ sz := Nat.le_of_ble_eq_true hk.2
     obtain ⟨hsp, hbx⟩ := h.mem.boxes b sz g hB
     have hv := hx (sz, g) hB
     subst hv
     let f : Nat → Value := fun j => (cellAt w (gh.ba b).block ((gh.ba b).off + (o + j))).getD undef
     have hf : ∀ j, j < P.cellsOf t → cellAt w (gh.ba b).block ((gh.ba b).off + o + j) = some (f j) ∧ (f j).oneCell' = true ∧ TR c.sh gh st.ar st.bx w (g (o + j)) (f j) := fun j hj => by
      obtain ⟨v, h1, h2, h3, h4⟩ := hbx (o + j) (by omega)
      have : f j = v := by simp only [f, h1]; rfl
      rw [this, Nat.add_assoc]; exact ⟨h1, h3, h4⟩
     refine ⟨_, _, e, loadAt_run rfl f (fun j hj => (hf j hj).1) (fun _ => hpos) hu hi, valOf_TR (fun j hj => ⟨(hf j hj).2.1, (hf j hj).2.2⟩) (fun _ => hpos)⟩
   · simp at e
 · rename_i id p i j
   split at e
   · rename_i A hA
     obtain ⟨hk, e⟩ := K2_some e
     simp only [Bool.and_eq_true, List.all_eq_true, List.mem_range] at hk
     obtain ⟨hi, hu, hpos⟩ := tyOk_iff hk.1.1
     have hle : j + P.cellsOf t ≤ A.szAt p := Nat.le_of_ble_eq_true hk.1.2
     have hat := szAt_own (A := A) (p := p) (j := j) (by omega)
     have hat' : p = [] ∨ ∃ n' sz' h, atP A.g p = .own n' sz' h := hat.imp (fun h => h) fun ⟨n', sz', h', e, _⟩ => ⟨n', sz', h', e⟩
     have hpl := hx A hA
     obtain ⟨ad, rfl⟩ : ∃ ad, u = .pointer (some ad) := by
      cases p with
      | nil => obtain ⟨_, _, ad, _, rfl⟩ := hpl; exact ⟨_, rfl⟩
      | cons q r =>
       rcases hat' with hat' | ⟨n', sz', h', e'⟩
       · simp at hat'
       · obtain ⟨_, _, ad, _, _, rfl⟩ := hpl n' sz' h' e'; exact ⟨_, rfl⟩
     have hrow := h.mem.rows id A hA
     obtain ⟨_, _, _, _, _, _, _, _, hsp, hmore⟩ := place_cell p hrow hpl hat'
     have hcell : ∀ k, k < P.cellsOf t → ∃ v F', cellAt w ad.block (ad.off + k) = some v ∧ RO w c.sh (atP A.g (p ++ [(i, j + k)])) v F' ∧ pathV w (gh.hd id).1 A.n A.sz A.g (p ++ [(i, j + k)]) v := fun k hk' => by
      obtain ⟨v, F', h1, _, _, h2, _, h3, _⟩ := place_cell p hrow (hmore k (by show j + k < A.szAt p; omega)) hat'
      exact ⟨v, F', h1, h2, h3⟩
     let f : Nat → Value := fun k => (cellAt w ad.block (ad.off + k)).getD undef
     have hf : ∀ k, k < P.cellsOf t → cellAt w ad.block (ad.off + k) = some (f k) ∧ (f k).oneCell' = true ∧ TR c.sh gh st.ar st.bx w (ldc id (p ++ [(i, j + k)]) (atP A.g (p ++ [(i, j + k)]))) (f k) := fun k hk' => by
      obtain ⟨v, F', h1, h2, h3⟩ := hcell k hk'
      have : f k = v := by simp only [f, h1]; rfl
      rw [this]
      refine ⟨h1, RO_oneCell h2 ?_, ldc_TR hA h2 h3⟩
      have := hk.2 k hk'
      intro e0; rw [e0] at this; simp [AV.known] at this
     exact ⟨_, _, e, loadAt_run hsp f (fun k hk' => (hf k hk').1) (fun _ => hpos) hu hi, valOf_TR (fun k hk' => ⟨(hf k hk').2.1, (hf k hk').2.2⟩) (fun _ => hpos)⟩
   · simp at e
 · rename_i sz g
   obtain ⟨hk, e⟩ := K2_some e
   simp only [Bool.and_eq_true] at hk
   obtain ⟨hi, hu, hpos⟩ := tyOk_iff hk.1
   have hle : P.cellsOf t ≤ sz := Nat.le_of_ble_eq_true hk.2
   obtain ⟨ad, rfl, hsp, hcs⟩ := hx
   let f : Nat → Value := fun k => (cellAt w ad.block (ad.off + k)).getD undef
   have hf : ∀ k, k < P.cellsOf t → cellAt w ad.block (ad.off + k) = some (f k) ∧ (f k).oneCell' = true ∧ TR c.sh gh st.ar st.bx w (g k) (f k) := fun k hk' => by
    obtain ⟨hok, v, h1, h2⟩ := hcs k (by omega)
    have h1' : cellAt w ad.block (ad.off + k) = some v := by rw [(h.mem.keep _ _ hok.1 hok.2).1]; exact h1
    have : f k = v := by simp only [f, h1']; rfl
    rw [this]
    refine ⟨h1', RS_oneCell h2, ?_⟩
    exact RS_TR _ h2
   exact ⟨_, _, e, loadAt_run hsp f (fun k hk' => (hf k hk').1) (fun _ => hpos) hu hi, valOf_TR (fun k hk' => ⟨(hf k hk').2.1, (hf k hk').2.2⟩) (fun _ => hpos)⟩
 · simp at e
end
end Go.Fw
namespace Go.Fw
variable [Tok]
theorem setCells_spec (b : Nat) : ∀ (vs : List Value) (o : Nat) (w : World), (∀ j, j < vs.length → ∃ u, cellAt w b (o + j) = some u) →
  (∀ j v, vs[j]? = some v → cellAt (w.setCells b o vs) b (o + j) = some v) ∧ Chg w (w.setCells b o vs) (fun x y => x = b ∧ o ≤ y ∧ y < o + vs.length) ∧ (∀ x y, frozAt (w.setCells b o vs) x y = frozAt w x y) := by
 intro vs
 induction vs with
 | nil => intro o w _; exact ⟨fun j v h => by simp at h, Chg.refl w _, fun _ _ => rfl⟩
 | cons v vs ih =>
  intro o w hc
  have hw : w.setCells b o (v :: vs) = (w.setCell ⟨b, o, none⟩ v).setCells b (o + 1) vs := rfl
  rw [hw]
  obtain ⟨h1, h2, h3⟩ := ih (o + 1) (w.setCell ⟨b, o, none⟩ v) (fun j hj => by
   obtain ⟨u, hu⟩ := hc (j + 1) (by simp; omega)
   rw [cellAt_setCell, if_neg (by omega)]
   exact ⟨u, by rw [← hu]; congr 1; omega⟩)
  have hs := setCell_chg w b o v
  refine ⟨fun j x hj => ?_, ⟨Nat.le_trans hs.size h2.size, fun x y hx hd => ?_, fun x hx hd => ?_, hs.io.trans h2.io⟩, fun x y => (h3 x y).trans (frozAt_setCell ..)⟩
  · cases j with
    | zero =>
     simp at hj; subst hj
     have hsz := setCell_size w ⟨b, o, none⟩ v
     obtain ⟨u, hu⟩ := hc 0 (by simp)
     have hb : b < w.heap.size := by
      by_cases hb : b < w.heap.size
      · exact hb
      · unfold cellAt World.cell? at hu
        simp only [Array.getElem?_eq_none (Nat.le_of_not_lt hb)] at hu
        simp at hu
     have := (h2.cell b o (by rw [hsz]; exact hb) (by omega)).1
     show cellAt _ b o = _
     rw [this, cellAt_setCell, if_pos ⟨rfl, rfl⟩]
     rw [Nat.add_zero] at hu
     rw [hu]; rfl
    | succ j =>
     have := h1 j x (by simpa using hj)
     rw [← this]; congr 1; omega
  · have hd' : ¬ (x = b ∧ o ≤ y ∧ y < o + vs.length + 1) := by simpa [Nat.add_assoc] using hd
    have e1 := hs.cell x y hx (by omega)
    have e2 := h2.cell x y (Nat.lt_of_lt_of_le hx hs.size) (by omega)
    exact ⟨e2.1.trans e1.1, e2.2.trans e1.2⟩
  · have hne : x ≠ b := fun e => hd o ⟨e, by omega, by simp⟩
    have e1 := hs.blk x hx (fun y e => hne e.1)
    have e2 := h2.blk x (Nat.lt_of_lt_of_le hx hs.size) (fun y e => hne e.1)
    exact e2.trans e1
section
variable {c : Cx} {gh : Gh} {nt : Nat} {st : St} {a : Act} {w : World} {P : Program} {R : Type} {r : R}
theorem sure_oneCell {x : AV} {v : Value} (hI : Inv c gh nt st a w) (h : st.sure x = true) (hx : TR c.sh gh st.ar st.bx w x v) : v.oneCell' = true := by
 cases x with
 | rf id => obtain ⟨A, e⟩ := Option.isSome_iff_exists.1 h; rw [hx A e]; rfl
 | rs id p m => obtain ⟨A, e⟩ := Option.isSome_iff_exists.1 h; obtain ⟨_, A', rfl, _⟩ := hx A e; rfl
 | pb b o => obtain ⟨B, e⟩ := Option.isSome_iff_exists.1 h; rw [hx B e]; rfl
 | rn id p =>
  simp only [St.sure] at h
  split at h
  · rename_i n sz g he
    obtain ⟨A, e, he⟩ := Option.map_eq_some_iff.1 he
    have hp := hx A n sz g e he
    obtain ⟨F', hr, _⟩ := RO_path p (hI.mem.rows id A e) he hp
    obtain ⟨A', cap, rfl, _⟩ := hr
    rfl
  · simp at h
 | pe id p i j =>
  simp only [St.sure] at h
  cases p with
  | nil =>
   obtain ⟨A, e⟩ := Option.isSome_iff_exists.1 h
   obtain ⟨_, _, ad, _, rfl⟩ := hx A e; rfl
  | cons q r =>
   simp only at h
   split at h
   · rename_i n sz g he
     obtain ⟨A, e, he⟩ := Option.map_eq_some_iff.1 he
     obtain ⟨_, _, ad, _, _, rfl⟩ := hx A e n sz g he; rfl
   · simp at h
 | clo f n g => obtain ⟨vs, rfl, _⟩ := hx; rfl
 | I k n => exact RS_oneCell hx
 | B n => exact RS_oneCell hx
 | S n => exact RS_oneCell hx
 | nlp => exact RS_oneCell hx
 | nsl _ _ => exact RS_oneCell hx
 | sl _ _ _ => exact RS_oneCell hx
 | sln _ _ _ => exact RS_oneCell hx
 | sp _ _ => exact RS_oneCell hx
 | gv _ => exact RS_oneCell hx
 | _ => simp [St.sure] at h
end
end Go.Fw
namespace Go.Fw
variable [Tok]
theorem cell_ne {i j i' j' sz : Nat} (hj : j < sz) (hj' : j' < sz) (h : ¬ (i = i' ∧ j = j')) : i * sz + j ≠ i' * sz + j' := by
 intro e
 apply h
 have h1 : (i * sz + j) / sz = i := by rw [Nat.mul_comm, Nat.mul_add_div (by omega)]; simp [Nat.div_eq_of_lt hj]
 have h2 : (i' * sz + j') / sz = i' := by rw [Nat.mul_comm, Nat.mul_add_div (by omega)]; simp [Nat.div_eq_of_lt hj']
 have hi : i = i' := by rw [← h1, ← h2, e]
 subst hi
 exact ⟨rfl, by omega⟩
theorem pathV_store {w w' : World} {sh : AV → Value → Prop} {x : AV} (hx : x.notOwn = true) {q : Nat × Nat} {ad : Addr} : ∀ (p2 p : List (Nat × Nat)) {n sz : Nat} {g : Nat → Nat → AV} {A : Option Addr} {cap : Nat} {F : Cells} {v : Value} {n' sz' : Nat} {h' : Nat → Nat → AV},
  RO w sh (.own n sz g) (.slice A n cap) F → placeV w A n sz g p q.1 q.2 (.pointer (some ad)) → (p = [] ∨ ∃ n' sz' h, atP g p = .own n' sz' h) →
  (∀ b o, F b o → ¬ (b = ad.block ∧ o = ad.off) → cellAt w' b o = cellAt w b o ∧ frozAt w' b o = frozAt w b o) →
  pathV w A n sz g p2 v → atP (setP g (p ++ [q]) x) p2 = .own n' sz' h' → pathV w' A n sz (setP g (p ++ [q]) x) p2 v := by
 intro p2
 induction p2 with
 | nil => intro p n sz g A cap F v n' sz' h' _ _ _ _ hp _; exact hp.elim
 | cons ij p2 ih =>
  obtain ⟨i, j⟩ := ij
  intro p n sz g A cap F v n' sz' h' hr hpl hat hag hp2 hown
  obtain ⟨ad1, rfl, hi, hj⟩ : ∃ ad1, A = some ad1 ∧ i < n ∧ j < sz := by
   cases p2 with
   | nil => obtain ⟨hi, hj, ad1, rfl, _⟩ := hp2; exact ⟨_, rfl, hi, hj⟩
   | cons _ _ => obtain ⟨hi, hj, ad1, rfl, _⟩ := hp2; exact ⟨_, rfl, hi, hj⟩
  have hr' := hr
  obtain ⟨A1, cap1, e, h1, h2, h3⟩ := hr
  obtain ⟨rfl, rfl⟩ : some ad1 = A1 ∧ cap = cap1 := by simpa using e
  rcases h3 with h3 | ⟨y, ey, hs, hcs, Fs, hf1, hf2, hf3⟩
  · omega
  obtain rfl : ad1 = y := by simpa using ey
  have hcell := hcs _ (cell_lt hi hj h1)
  obtain ⟨u0, hu0, hro0⟩ := hf3 i hi j hj
  have key : ¬ (ad1.block = ad.block ∧ ad1.off + (i * sz + j) = ad.off) ∧
    ((∃ p' n3 sz3 h3 A3 cap3, p = (i, j) :: p' ∧ g i j = .own n3 sz3 h3 ∧ u0 = .slice A3 n3 cap3 ∧ setP g (p ++ [q]) x i j = .own n3 sz3 (setP h3 (p' ++ [q]) x) ∧ placeV w A3 n3 sz3 h3 p' q.1 q.2 (.pointer (some ad)) ∧ (p' = [] ∨ ∃ n' sz' h, atP h3 p' = .own n' sz' h))
     ∨ (setP g (p ++ [q]) x i j = g i j ∧ ¬ Fs i j ad.block ad.off)) := by
   cases p with
   | nil =>
    obtain ⟨qi, qj, ad2, e2, e3⟩ := hpl
    obtain rfl : ad1 = ad2 := by simpa using e2
    obtain rfl : ad = _ := by simpa using e3
    have hne : ¬ (i = q.1 ∧ j = q.2) := by
     rintro ⟨rfl, rfl⟩
     cases p2 with
     | nil => simp only [List.nil_append, setP, atP, upd2_self] at hown; rw [hown] at hx; simp [AV.notOwn] at hx
     | cons a b => simp only [List.nil_append, setP, atP, upd2_self] at hown; cases x <;> simp [AV.notOwn] at hx <;> simp at hown
    refine ⟨fun e => ?_, .inr ⟨by simp only [List.nil_append, setP]; exact upd2_ne _ _ hne, fun hf => (hf1 i j _ _ hi hj hf).2 ⟨rfl, by simp only; omega, ?_⟩⟩⟩
    · have := e.2
      simp only at this
      exact cell_ne hj qj hne (by omega)
    · have := cell_lt qi qj h1
      simp only; omega
   | cons ij0 p' =>
    obtain ⟨i0, j0⟩ := ij0
    have hat0 : ∃ n' sz' h, atP g ((i0, j0) :: p') = .own n' sz' h := by rcases hat with hat | hat; exact absurd hat (by simp); exact hat
    obtain ⟨hi0, hj0, ad2, e2, n3, sz3, h3, A3, cap3, hg, hc, hpl', hat', _⟩ := place_down hpl hat0
    obtain rfl : ad1 = ad2 := by simpa using e2
    obtain ⟨u3, hu3, hro3⟩ := hf3 i0 hi0 j0 hj0
    rw [hc] at hu3
    obtain rfl : _ = u3 := by simpa using hu3
    rw [hg] at hro3
    obtain ⟨_, _, _, hin, _⟩ := place_cell p' hro3 hpl' hat'
    have hset : setP g ((i0, j0) :: p' ++ [q]) x = upd2 g i0 j0 (.own n3 sz3 (setP h3 (p' ++ [q]) x)) := by
     cases p' with
     | nil => simp [setP, hg]
     | cons a b => simp [setP, hg]
    refine ⟨fun e => (hf1 i0 j0 _ _ hi0 hj0 hin).2 ⟨e.1.symm, by omega, ?_⟩, ?_⟩
    · have := cell_lt hi hj h1; omega
    · by_cases he : i = i0 ∧ j = j0
      · obtain ⟨rfl, rfl⟩ := he
        rw [hc] at hu0
        obtain rfl : _ = u0 := by simpa using hu0
        exact .inl ⟨p', n3, sz3, h3, A3, cap3, rfl, hg, rfl, by rw [hset, upd2_self], hpl', hat'⟩
      · exact .inr ⟨by rw [hset]; exact upd2_ne _ _ he, hf2 i0 j0 i j _ _ hi0 hj0 hi hj (fun e => he ⟨e.1.symm, e.2.symm⟩) hin⟩
  have hkeep := hag _ _ hcell.1 key.1
  cases p2 with
  | nil =>
   obtain ⟨_, _, ad2, e2, hc⟩ := hp2
   obtain rfl : ad1 = ad2 := by simpa using e2
   exact ⟨hi, hj, ad1, rfl, by rw [hkeep.1]; exact hc⟩
  | cons q2 p2' =>
   obtain ⟨_, _, ad2, e2, u, hc, hm⟩ := hp2
   obtain rfl : ad1 = ad2 := by simpa using e2
   rw [hc] at hu0
   obtain rfl : u = u0 := by simpa using hu0
   refine ⟨hi, hj, ad1, rfl, u, by rw [hkeep.1]; exact hc, ?_⟩
   simp only [atP] at hown
   rcases key.2 with ⟨p', n3, sz3, h3, A3, cap3, rfl, hg, rfl, hset, hpl', hat'⟩ | ⟨hset, hnf⟩
   · rw [hset] at hown ⊢
     rw [hg] at hm hro0
     simp only at hown hm ⊢
     obtain ⟨A4, cap4, e4, hpv⟩ := hm
     obtain ⟨rfl, rfl⟩ : A3 = A4 ∧ cap3 = cap4 := by simpa using e4
     exact ⟨A3, cap3, rfl, ih p' hro0 hpl' hat' (fun b o hb hd => hag b o (hf1 i j b o hi hj hb).1 hd) hpv hown⟩
   · rw [hset] at hown ⊢
     cases hgij : g i j with
     | own n3 sz3 h3 =>
      rw [hgij] at hm hro0
      simp only at hm ⊢
      obtain ⟨A4, cap4, rfl, hpv⟩ := hm
      exact ⟨A4, cap4, rfl, pathV_congr _ hro0 (fun b o hb => hag b o (hf1 i j b o hi hj hb).1 (fun e => hnf (by obtain ⟨rfl, rfl⟩ := e; exact hb))) hpv⟩
     | _ => rw [hgij] at hown; simp at hown
end Go.Fw
namespace Go.Fw
variable [Tok]
theorem TR_store {sh : AV → Value → Prop} {gh gh' : Gh} {ar : ArT} {bx : BxT} {w w' : World} {id : Nat} {A : Arr} {x : AV} {p : List (Nat × Nat)} {q : Nat × Nat} {ad : Addr}
  (hhd : gh'.hd = gh.hd) (hba : gh'.ba = gh.ba) (e : ar id = some A)
  (hrow : ∀ k A, ar k = some A → RO w sh (.own A.n A.sz A.g) (.slice (gh.hd k).1 A.n (gh.hd k).2) (gh.fa k))
  (hpl : placeV w (gh.hd id).1 A.n A.sz A.g p q.1 q.2 (.pointer (some ad))) (hat : p = [] ∨ ∃ n' sz' h, atP A.g p = .own n' sz' h)
  (hag : ∀ k A, ar k = some A → ∀ b o, gh.fa k b o → ¬ (b = ad.block ∧ o = ad.off) → cellAt w' b o = cellAt w b o ∧ frozAt w' b o = frozAt w b o)
  (hoth : ∀ k A, ar k = some A → k ≠ id → ¬ gh.fa k ad.block ad.off) (y : AV) :
  ∀ {v : Value}, (x.notOwn = true ∨ ∃ z : AV, y = z.killN id) → TR sh gh ar bx w y v → TR sh gh' (upd ar id (some ⟨A.n, A.sz, setP A.g (p ++ [q]) x⟩)) bx w' y v := by
 have key : ∀ k B, upd ar id (some ⟨A.n, A.sz, setP A.g (p ++ [q]) x⟩) k = some B → (k = id ∧ B = ⟨A.n, A.sz, setP A.g (p ++ [q]) x⟩) ∨ (k ≠ id ∧ ar k = some B) := fun k B hk => by
  by_cases ek : k = id
  · subst ek; rw [upd_self] at hk; exact .inl ⟨rfl, by simpa using hk.symm⟩
  · rw [upd_ne _ _ ek] at hk; exact .inr ⟨ek, hk⟩
 have hagk : ∀ k B, ar k = some B → k ≠ id → Agree w w' (gh.fa k) := fun k B eB ek b o hb => hag k B eB b o hb (fun ⟨e1, e2⟩ => hoth k B eB ek (by subst e1 e2; exact hb))
 induction y with
 | rf k =>
  intro v hk h B hB
  rw [hhd]
  rcases key k B hB with ⟨rfl, rfl⟩ | ⟨ek, hB⟩
  · exact h A e
  · exact h B hB
 | rs k a m =>
  intro v hk h B hB
  rw [hhd]
  rcases key k B hB with ⟨rfl, rfl⟩ | ⟨ek, hB⟩
  · exact h A e
  · exact h B hB
 | rn k p2 =>
  intro v hk h B n sz g hB hown
  rw [hhd]
  rcases key k B hB with ⟨rfl, rfl⟩ | ⟨ek, hB⟩
  · have hx : x.notOwn = true := by
     rcases hk with hk | ⟨z, hz⟩
     · exact hk
     · exfalso
       cases z with
       | rn k' p3 =>
        simp only [AV.killN] at hz
        by_cases e1 : k' = k
        · subst e1; simp at hz
        · rw [beq_ne e1] at hz; simp at hz; exact e1 hz.1.symm
       | pe k' p3 i j =>
        simp only [AV.killN] at hz
        cases hb : (Nat.beq k' k && !p3.isEmpty) <;> rw [hb] at hz <;> simp at hz
       | _ => simp [AV.killN] at hz
    obtain ⟨h0, e0⟩ := atP_setP hx (p ++ [q]) p2 hown
    exact pathV_store hx p2 p (hrow k A e) hpl hat (hag k A e) (h A n sz h0 e e0) hown
  · exact pathV_congr _ (hrow k B hB) (hagk k B hB ek) (h B n sz g hB hown)
 | pe k p2 i j =>
  intro v hk h B hB
  rw [hhd]
  rcases key k B hB with ⟨rfl, rfl⟩ | ⟨ek, hB⟩
  · have h' := h A e
    cases p2 with
    | nil => exact h'
    | cons p20 p2' =>
     have hx : x.notOwn = true := by
      rcases hk with hk | ⟨z, hz⟩
      · exact hk
      · exfalso
        cases z with
        | rn k' p3 =>
         simp only [AV.killN] at hz
         cases hb : (Nat.beq k' k) <;> rw [hb] at hz <;> simp at hz
        | pe k' p3 i j =>
         simp only [AV.killN] at hz
         cases hb : (Nat.beq k' k && !p3.isEmpty)
         · rw [hb] at hz
           simp at hz
           obtain ⟨rfl, rfl, _⟩ := hz
           simp at hb
         · rw [hb] at hz; simp at hz
        | _ => simp [AV.killN] at hz
     intro n' sz' h3 hown
     obtain ⟨h0, e0⟩ := atP_setP hx (p ++ [q]) (p20 :: p2') hown
     obtain ⟨hi, hj, ad', cap, hp, hv⟩ := h' n' sz' h0 e0
     exact ⟨hi, hj, ad', cap, pathV_store hx (p20 :: p2') p (hrow k A e) hpl hat (hag k A e) hp hown, hv⟩
  · exact placeV_congr _ (hrow k B hB) (hagk k B hB ek) (h B hB)
 | ag sz g ih =>
  rintro v hk ⟨vs, rfl, hs, hv⟩
  refine ⟨vs, rfl, hs, fun j hj => ⟨(hv j hj).1, ih j ?_ (hv j hj).2⟩⟩
  rcases hk with hk | ⟨z, hz⟩
  · exact .inl hk
  · cases z with
    | ag sz' g' => simp only [AV.killN, AV.ag.injEq] at hz; exact .inr ⟨g' j, by rw [hz.2]⟩
    | rn k p2 => simp only [AV.killN] at hz; cases hb : Nat.beq k id <;> rw [hb] at hz <;> simp at hz
    | pe k p2 i j => simp only [AV.killN] at hz; cases hb : (Nat.beq k id && !p2.isEmpty) <;> rw [hb] at hz <;> simp at hz
    | _ => simp [AV.killN] at hz
 | tup sz g ih =>
  rintro v hk ⟨vs, rfl, hs, hv⟩
  refine ⟨vs, rfl, hs, fun j hj => ih j ?_ (hv j hj)⟩
  rcases hk with hk | ⟨z, hz⟩
  · exact .inl hk
  · cases z with
    | tup sz' g' => simp only [AV.killN, AV.tup.injEq] at hz; exact .inr ⟨g' j, by rw [hz.2]⟩
    | rn k p2 => simp only [AV.killN] at hz; cases hb : Nat.beq k id <;> rw [hb] at hz <;> simp at hz
    | pe k p2 i j => simp only [AV.killN] at hz; cases hb : (Nat.beq k id && !p2.isEmpty) <;> rw [hb] at hz <;> simp at hz
    | _ => simp [AV.killN] at hz
 | clo f sz g ih =>
  rintro v hk ⟨vs, rfl, hs, hv⟩
  refine ⟨vs, rfl, hs, fun j hj => ih j ?_ (hv j hj)⟩
  rcases hk with hk | ⟨z, hz⟩
  · exact .inl hk
  · cases z with
    | clo f' sz' g' => simp only [AV.killN, AV.clo.injEq] at hz; exact .inr ⟨g' j, by rw [hz.2.2]⟩
    | rn k p2 => simp only [AV.killN] at hz; cases hb : Nat.beq k id <;> rw [hb] at hz <;> simp at hz
    | pe k p2 i j => simp only [AV.killN] at hz; cases hb : (Nat.beq k id && !p2.isEmpty) <;> rw [hb] at hz <;> simp at hz
    | _ => simp [AV.killN] at hz
 | pb b o => intro v hk h B hB; rw [hba]; exact h B hB
 | _ => intro v hk h; exact h
theorem live_setA {st : St} {id : Nat} {A : Arr} {A' : Arr} (e : st.ar id = some A) (r : Nat ⊕ Nat) : live (st.setA id (some A')).ar (st.setA id (some A')).bx r ↔ live st.ar st.bx r := by
 rcases r with k | b
 · by_cases ek : k = id
   · subst ek
     show (upd st.ar k (some A') k).isSome ↔ (st.ar k).isSome
     rw [upd_self, e]; simp
   · show (upd st.ar id (some A') k).isSome ↔ (st.ar k).isSome
     rw [upd_ne _ _ ek]
 · exact Iff.rfl
structure Stored (c : Cx) (gh gh' : Gh) (nt : Nat) (st st' : St) (a : Act) (w w' : World) (F' : Cells) : Prop where
 inv : Inv c gh' nt st' a w'
 hd : gh'.hd = gh.hd
 ba : gh'.ba = gh.ba
 bx : st'.bx = st.bx
 free : ∀ FL, Free c gh st.ar st.bx w FL → (∀ b o, FL b o → ¬ F' b o) → Free c gh' st'.ar st'.bx w' FL
 agree : ∀ FL, Free c gh st.ar st.bx w FL → Agree w w' FL
theorem storeCell {c : Cx} {gh : Gh} {nt : Nat} {st : St} {a : Act} {w : World} {id : Nat} {A : Arr} {x : AV} {p : List (Nat × Nat)} {q : Nat × Nat} {ad : Addr} {u : Value} {F' : Cells}
  (h : Inv c gh nt st a w) (e : st.ar id = some A) (hpl : placeV w (gh.hd id).1 A.n A.sz A.g p q.1 q.2 (.pointer (some ad))) (hat : p = [] ∨ ∃ n' sz' h, atP A.g p = .own n' sz' h)
  (hsp : ad.spot = none) (hone : u.oneCell' = true) (hx : RO w c.sh x u F') (hfr : Free c gh st.ar st.bx w F')
  (hQt : ∀ t, x.notOwn = true ∨ ∃ z : AV, st.t t = z.killN id) (hQb : ∀ b B, st.bx b = some B → ∀ o, x.notOwn = true ∨ ∃ z : AV, B.2 o = z.killN id) :
  ∃ gh', Stored c gh gh' nt st (st.setA id (some ⟨A.n, A.sz, setP A.g (p ++ [q]) x⟩)) a w (w.setCell ad u) F' ∧ gh.fa id ad.block ad.off ∧
   (∀ k v, placeV w (gh.hd id).1 A.n A.sz A.g p q.1 k v → placeV (w.setCell ad u) (gh.hd id).1 A.n A.sz (setP A.g (p ++ [q]) x) p q.1 k v) ∧
   (p = [] ∨ ∃ n' sz' h, atP (setP A.g (p ++ [q]) x) p = .own n' sz' h ∧ ∃ h0, atP A.g p = .own n' sz' h0) := by
 have had : ad = ⟨ad.block, ad.off, none⟩ := by cases ad; simp at hsp; subst hsp; rfl
 have hrow := h.mem.rows id A e
 have hl : live st.ar st.bx (.inl id) := by simp [live, e]
 obtain ⟨_, _, hcA, hinF0, _⟩ := place_cell p hrow hpl hat
 have hcell : ∀ b o, cellAt (w.setCell ad u) b o = if b = ad.block ∧ o = ad.off then (cellAt w b o).map (fun _ => u) else cellAt w b o := fun b o => by
  rw [had, cellAt_setCell]
 have hsame : ∀ b o, ¬ (b = ad.block ∧ o = ad.off) → cellAt (w.setCell ad u) b o = cellAt w b o ∧ frozAt (w.setCell ad u) b o = frozAt w b o := fun b o hn => ⟨by rw [hcell, if_neg hn], frozAt_setCell ..⟩
 have hnotF : ∀ b o, F' b o → ¬ (b = ad.block ∧ o = ad.off) := fun b o hb => by
  rintro ⟨rfl, rfl⟩; exact (hfr _ _ hb).1 (.inl id) hl hinF0
 obtain ⟨hinF, ⟨X, _, hX, hro⟩, hmore, hat'⟩ := RO_setP (w' := w.setCell ad u) (D := fun b o => b = ad.block ∧ o = ad.off) (F' := F') (x := x) (Z := fun _ => True) (q := q) (ad := ad) p hrow hpl hat
  (fun b o _ hd => hsame b o hd) (fun b o hd => hd) (fun Fij _ hfz ⟨v, hv, _⟩ => by
   refine ⟨fun _ _ => False, F', u, fun _ _ h => h.elim, fun _ _ hb => .inr hb, by rw [hcell, if_pos ⟨rfl, rfl⟩, hv]; rfl, by rw [frozAt_setCell]; exact hfz, hone, RO_congr _ (fun b o hb => hsame b o (hnotF b o hb)) hx, trivial⟩)
  (fun b o hb hb' => (hfr b o hb).1 (.inl id) hl hb')
 refine ⟨⟨gh.hd, upd gh.fa id (fun b o => gh.fa id b o ∨ F' b o), gh.ba⟩, ?_, hinF, hmore, hat'⟩
 have hro' : RO (w.setCell ad u) c.sh (.own A.n A.sz (setP A.g (p ++ [q]) x)) (.slice (gh.hd id).1 A.n (gh.hd id).2) (fun b o => gh.fa id b o ∨ F' b o) := RO_mono _ (fun b o hb => hb.imp (fun h => h.1) (fun h => h)) hro
 have hT : ∀ y v, (x.notOwn = true ∨ ∃ z : AV, y = z.killN id) → TR c.sh gh st.ar st.bx w y v →
   TR c.sh ⟨gh.hd, upd gh.fa id (fun b o => gh.fa id b o ∨ F' b o), gh.ba⟩ (st.setA id (some ⟨A.n, A.sz, setP A.g (p ++ [q]) x⟩)).ar (st.setA id (some ⟨A.n, A.sz, setP A.g (p ++ [q]) x⟩)).bx (w.setCell ad u) y v :=
  fun y v hk t => TR_store (gh := gh) (gh' := ⟨gh.hd, upd gh.fa id (fun b o => gh.fa id b o ∨ F' b o), gh.ba⟩) rfl rfl e h.mem.rows hpl hat (fun _ _ _ b o _ hn => hsame b o hn) (fun k B eB ek hf => h.mem.disj (.inl id) (.inl k) _ _ (fun e => ek (by simpa using e.symm)) hl (by simp [live, eB]) hinF0 hf) y hk t
 have hlv : ∀ r, live (st.setA id (some ⟨A.n, A.sz, setP A.g (p ++ [q]) x⟩)).ar (st.setA id (some ⟨A.n, A.sz, setP A.g (p ++ [q]) x⟩)).bx r → live st.ar st.bx r := fun r hr => (live_setA e r).1 hr
 have hfp : ∀ r b o, fp ⟨gh.hd, upd gh.fa id (fun b o => gh.fa id b o ∨ F' b o), gh.ba⟩ (st.setA id (some ⟨A.n, A.sz, setP A.g (p ++ [q]) x⟩)).bx r b o → fp gh st.bx r b o ∨ F' b o := by
  rintro (k | b') b o hf
  · by_cases ek : k = id
    · subst ek
      have hf' : upd gh.fa k (fun b o => gh.fa k b o ∨ F' b o) k b o := hf
      rw [upd_self] at hf'; exact hf'
    · have hf' : upd gh.fa id (fun b o => gh.fa id b o ∨ F' b o) k b o := hf
      rw [upd_ne _ _ ek] at hf'; exact .inl hf'
  · exact .inl hf
 refine ⟨⟨h.defers, h.size, fun t => hT _ _ (hQt t) (h.temps t), ?_, ⟨h.fix.hd, h.fix.ba, (h.fix.weaken (ar' := upd st.ar id (some ⟨A.n, A.sz, setP A.g (p ++ [q]) x⟩)) (fun k B e' => by
         by_cases ek : k = id
         · subst ek; rw [upd_self] at e'; obtain rfl := Option.some.inj e'; exact ⟨A, e, rfl, rfl⟩
         · rw [upd_ne _ _ ek] at e'; exact ⟨B, e', rfl, rfl⟩) (fun b B e => ⟨B, e, rfl⟩)).n, h.fix.z⟩⟩, rfl, rfl, rfl, fun FL hFL hd b o hb => ?_, fun FL hFL b o hb => hsame b o ?_⟩
 · refine h.mem.gen (D := fun b o => b = ad.block ∧ o = ad.off) (G := F') (· = .inl id) (by rw [had]; exact setCell_chg _ _ _ _) (fun b o hd => .inl ⟨.inl id, rfl, hl, ?_⟩) (fun b o hb => ⟨fun r _ hlr => (hfr b o hb).1 r hlr, ?_, (hfr b o hb).2.2⟩) ?_ ?_ ?_ ?_ ?_ ?_
   · obtain ⟨rfl, rfl⟩ := hd; exact hinF0
   · rw [setCell_size]; exact (hfr b o hb).2.1
   · intro k B hk e'
     have ek : k ≠ id := fun e => hk (by rw [e])
     have e'' : upd st.ar id (some ⟨A.n, A.sz, setP A.g (p ++ [q]) x⟩) k = some B := e'
     rw [upd_ne _ _ ek] at e''
     exact ⟨e'', rfl, upd_ne _ _ ek⟩
   · intro b sz g _ e'
     exact ⟨g, e', rfl, fun o _ v _ t => hT _ _ (hQb b _ e' o) t⟩
   · intro k B hk e'
     obtain rfl : k = id := by simpa using hk
     have e'' : upd st.ar k (some ⟨A.n, A.sz, setP A.g (p ++ [q]) x⟩) k = some B := e'
     rw [upd_self] at e''
     obtain rfl := Option.some.inj e''
     simp only [upd_self]; exact hro'
   · intro b sz g hk; simp at hk
   · rintro r b o rfl hlr hf
     rcases hfp _ b o hf with hf | hf
     · exact .inl ⟨_, rfl, hl, hf⟩
     · exact .inr hf
   · rintro r r' b o rfl rfl hn; exact absurd rfl hn
 · refine ⟨fun r hr hf => ?_, by rw [setCell_size]; exact (hFL b o hb).2.1, (hFL b o hb).2.2⟩
   rcases hfp r b o hf with hf | hf
   · exact (hFL b o hb).1 r (hlv r hr) hf
   · exact hd b o hb hf
 · rintro ⟨rfl, rfl⟩; exact (hFL _ _ hb).1 (.inl id) hl hinF0
end Go.Fw
namespace Go.Fw
variable [Tok]
theorem TR_killN {sh : AV → Value → Prop} {gh : Gh} {ar : ArT} {bx : BxT} {w : World} (id : Nat) (x : AV) :
  ∀ {v : Value}, TR sh gh ar bx w x v → TR sh gh ar bx w (x.killN id) v := by
 induction x with
 | rn k p => intro v h; exact cond_TR _ h
 | pe k p i j => intro v h; exact cond_TR _ h
 | ag sz g ih => rintro v ⟨vs, rfl, hs, hv⟩; exact ⟨vs, rfl, hs, fun j hj => ⟨(hv j hj).1, ih j (hv j hj).2⟩⟩
 | tup sz g ih => rintro v ⟨vs, rfl, hs, hv⟩; exact ⟨vs, rfl, hs, fun j hj => ih j (hv j hj)⟩
 | clo f sz g ih => rintro v ⟨vs, rfl, hs, hv⟩; exact ⟨vs, rfl, hs, fun j hj => ih j (hv j hj)⟩
 | _ => intro v h; exact h
theorem upd_upd {α : Type} (f : Nat → α) (i : Nat) (x y : α) : upd (upd f i x) i y = upd f i y := by
 funext k
 by_cases e : k = i
 · subst e; simp [upd_self]
 · simp [upd_ne _ _ e]
theorem setA_setA (st : St) (id : Nat) (x y : Option Arr) : (st.setA id x).setA id y = st.setA id y := by
 simp [St.setA, upd_upd]
theorem storeCells_sound {c : Cx} {nt : Nat} {a : Act} {id : Nat} {p : List (Nat × Nat)} {i : Nat} {bl : Nat} : ∀ (l : List AV) (vs : List Value) {gh : Gh} {st : St} {w : World} {A : Arr} {j of : Nat} {Fs : Nat → Cells},
  Inv c gh nt st a w → st.ar id = some A → vs.length = l.length →
  (∀ k, k < l.length → placeV w (gh.hd id).1 A.n A.sz A.g p i (j + k) (.pointer (some ⟨bl, of + k, none⟩))) → (p = [] ∨ ∃ n' sz' h, atP A.g p = .own n' sz' h) →
  (∀ k, k < l.length → (vs.getD k undef).oneCell' = true) → (∀ k, k < l.length → RO w c.sh (lstG l k) (vs.getD k undef) (Fs k)) → (∀ k, k < l.length → Free c gh st.ar st.bx w (Fs k)) → (∀ k m b o, k < l.length → m < l.length → k ≠ m → Fs k b o → ¬ Fs m b o) →
  (∀ t, l.all AV.notOwn = true ∨ ∃ z : AV, st.t t = z.killN id) → (∀ b B, st.bx b = some B → ∀ o, l.all AV.notOwn = true ∨ ∃ z : AV, B.2 o = z.killN id) →
  ∃ gh', Inv c gh' nt (st.setA id (some ⟨A.n, A.sz, wrL A.g p i j l⟩)) a (w.setCells bl of vs) := by
 intro l
 induction l with
 | nil =>
  intro vs gh st w A j of Fs h e hl _ _ _ _ _ _ _ _
  have : vs = [] := by simpa using hl
  subst this
  refine ⟨gh, ?_⟩
  have : st.setA id (some ⟨A.n, A.sz, wrL A.g p i j []⟩) = st := by
   simp only [St.setA, wrL]
   congr 1
   funext k
   by_cases ek : k = id
   · subst ek; rw [upd_self, e]
   · rw [upd_ne _ _ ek]
  rw [this]; exact h
 | cons x l ih =>
  intro vs gh st w A j of Fs h e hl hpl hat hone hx hfr hap hQt hQb
  cases vs with
  | nil => simp at hl
  | cons v vs =>
   have hpl0 := hpl 0 (by simp)
   simp only [Nat.add_zero] at hpl0
   have hx0 := hx 0 (by simp)
   obtain ⟨gh1, hs, hin, hmore, hat'⟩ := storeCell (q := (i, j)) (ad := ⟨bl, of, none⟩) (u := v) h e hpl0 hat rfl (by simpa using hone 0 (by simp)) hx0 (hfr 0 (by simp))
    (fun t => (hQt t).imp (fun h => by rw [lstG_zero]; simp only [List.all_cons, Bool.and_eq_true] at h; exact h.1) (fun h => h)) (fun b B eB o => (hQb b B eB o).imp (fun h => by rw [lstG_zero]; simp only [List.all_cons, Bool.and_eq_true] at h; exact h.1) (fun h => h))
   rw [lstG_zero] at hs hmore hat'
   have e1 : (st.setA id (some ⟨A.n, A.sz, setP A.g (p ++ [(i, j)]) x⟩)).ar id = some ⟨A.n, A.sz, setP A.g (p ++ [(i, j)]) x⟩ := upd_self _ _ _
   obtain ⟨gh2, hI⟩ := ih vs (j := j + 1) (of := of + 1) (Fs := fun k => Fs (k + 1)) hs.inv e1 (by simpa using hl)
    (fun k hk => by
     have := hmore (j + (k + 1)) _ (hpl (k + 1) (by simp; omega))
     rw [hs.hd]
     rw [show j + 1 + k = j + (k + 1) by omega, show of + 1 + k = of + (k + 1) by omega]
     exact this)
    (hat'.imp (fun h => h) (fun ⟨n', sz', h', e, _⟩ => ⟨n', sz', h', e⟩))
    (fun k hk => by simpa using hone (k + 1) (by simp; omega))
    (fun k hk => by
     have h1 := hx (k + 1) (by simp; omega)
     rw [lstG_succ] at h1
     exact RO_congr _ (hs.agree _ (hfr (k + 1) (by simp; omega))) (by simpa using h1))
    (fun k hk => hs.free _ (hfr (k + 1) (by simp; omega)) (fun b o hb => hap (k + 1) 0 b o (by simp; omega) (by simp) (by omega) hb))
    (fun k m b o hk hm hkm => hap (k + 1) (m + 1) b o (by simp; omega) (by simp; omega) (by omega))
    (fun t => (hQt t).imp (fun h => by simp only [List.all_cons, Bool.and_eq_true] at h; exact h.2) (fun h => h))
    (fun b B eB o => (hQb b B eB o).imp (fun h => by simp only [List.all_cons, Bool.and_eq_true] at h; exact h.2) (fun h => h))
   refine ⟨gh2, ?_⟩
   rw [setA_setA] at hI
   exact hI
section
variable {c : Cx} {gh : Gh} {nt : Nat} {st : St} {a : Act} {w : World} {P : Program} {R : Type} {r : R}
theorem cells_TR {x : AV} {v : Value} (h : Inv c gh nt st a w) (hs : st.sureA x = true) (hx : TR c.sh gh st.ar st.bx w x v) :
  v.cells.size = x.cellsN ∧ ∀ j, j < x.cellsN → (v.cells.getD j undef).oneCell' = true ∧ TR c.sh gh st.ar st.bx w (x.cellsG j) (v.cells.getD j undef) := by
 by_cases hag : ∃ sz g, x = .ag sz g
 · obtain ⟨sz, g, rfl⟩ := hag
   obtain ⟨vs, rfl, hsz, hv⟩ := hx
   exact ⟨hsz, hv⟩
 · have e1 : st.sureA x = st.sure x := by cases x <;> first | rfl | exact absurd ⟨_, _, rfl⟩ hag
   have e2 : x.cellsN = 1 := by cases x <;> first | rfl | exact absurd ⟨_, _, rfl⟩ hag
   have e3 : x.cellsG = fun _ => x := by cases x <;> first | rfl | exact absurd ⟨_, _, rfl⟩ hag
   rw [e1] at hs
   have h1 := sure_oneCell h hs hx
   have e4 : v.cells = #[v] := by cases v <;> first | rfl | simp [Value.oneCell'] at h1
   rw [e2, e3, e4]
   refine ⟨rfl, fun j hj => ?_⟩
   obtain rfl : j = 0 := by omega
   exact ⟨h1, hx⟩
theorem storeAt_run {t : TypeId} {ad : Addr} {v : Value} {i : TypeInfo} (hs : ad.spot = none) (hi : P.info? t = some i) (hsz : v.cells.size = P.cellsOf t)
  (hc : ∀ j, j < v.cells.size → (cellAt w ad.block (ad.off + j)).isSome = true ∧ frozAt w ad.block (ad.off + j) = false) (h1 : ∀ j, j < v.cells.size → (v.cells.getD j undef).oneCell' = true) :
  (Instr.storeAt t (.pointer (some ad)) v).run P w = .ok () (w.setCells ad.block ad.off v.cells.toList) := by
 have had : ad = ⟨ad.block, ad.off, none⟩ := by cases ad; simp at hs; subst hs; rfl
 have := run_storeCells_cells (P := P) ad.block ad.off v.cells.toList 0 w (fun j hj => by simpa using (hc j (by simpa using hj)).1) (fun j hj => by simpa using (hc j (by simpa using hj)).2)
  (fun v' hv => by
   obtain ⟨j, hj, rfl⟩ := List.mem_iff_getElem.1 hv
   have := h1 j (by simpa using hj)
   simpa [Array.getD_eq_getD_getElem?, show j < v.cells.size by simpa using hj] using this)
 rw [← had] at this
 have hsz' : v.cells.size = i.size := by rw [hsz, cellsOf_eq hi]
 simp only [Nat.add_zero] at this
 simp [Instr.storeAt, Instr.sureAddr, storeVar, sizeOf, typeInfo, hi, hsz', this]
theorem storeK_sound {t : TypeId} {pt x : AV} {u v : Value} {K : St → Option R} (h : Inv c gh nt st a w) (e : storeK P st t pt x K = some r) (hp : TR c.sh gh st.ar st.bx w pt u) (hx : TR c.sh gh st.ar st.bx w x v) :
  ∃ st' gh' w', K st' = some r ∧ (Instr.storeAt t u v).run P w = .ok () w' ∧ Inv c gh' nt st' a w' := by
 unfold storeK at e
 obtain ⟨hk, e⟩ := K2_some e
 simp only [Bool.and_eq_true] at hk
 obtain ⟨⟨i, hi⟩, hu, hpos⟩ := tyOk_iff hk.1.1
 have hN : x.cellsN = P.cellsOf t := beq_eq.1 hk.1.2
 obtain ⟨hsz, hcs⟩ := cells_TR h hk.2 hx
 cases pt with
 | pb b o =>
  simp only at e
  split at e
  · rename_i sz g hB
    obtain ⟨hle, e⟩ := K2_some e
    have hle : o + P.cellsOf t ≤ sz := Nat.le_of_ble_eq_true hle
    have hv := hp (sz, g) hB
    subst hv
    obtain ⟨hsp, hbx⟩ := h.mem.boxes b sz g hB
    have hlv : live st.ar st.bx (.inr b) := by simp [live, hB]
    refine ⟨_, gh, _, e, storeAt_run rfl hi (by rw [hsz, hN]) (fun j hj => ?_) (fun j hj => (hcs j (by omega)).1), ?_⟩
    · obtain ⟨v', h1, h2, _⟩ := hbx (o + j) (by omega)
      simp only [Nat.add_assoc]
      exact ⟨by rw [h1]; rfl, h2⟩
    · obtain ⟨hs1, hs2, hs3⟩ := setCells_spec (gh.ba b).block v.cells.toList ((gh.ba b).off + o) w (fun j hj => by
       obtain ⟨v', h1, _⟩ := hbx (o + j) (by simp at hj; omega)
       exact ⟨v', by rw [Nat.add_assoc]; exact h1⟩)
      have hlen : v.cells.toList.length = P.cellsOf t := by simp; omega
      rw [hlen] at hs2
      have hD : ∀ b' o', (b' = (gh.ba b).block ∧ (gh.ba b).off + o ≤ o' ∧ o' < (gh.ba b).off + o + P.cellsOf t) → fp gh st.bx (.inr b) b' o' := by
       rintro b' o' ⟨rfl, h1, h2⟩; exact ⟨(sz, g), hB, rfl, by omega, by simp only; omega⟩
      have hag : ∀ r, r ≠ .inr b → live st.ar st.bx r → Agree w _ (fp gh st.bx r) := fun r hr hlr b' o' hf =>
       hs2.cell b' o' (h.mem.mine r b' o' hlr hf).1 (fun hd => h.mem.disj r (.inr b) b' o' hr hlr hlv hf (hD _ _ hd))
      have hbx' : ∀ k B, (st.setB b (some (sz, fun j => bif Nat.ble o j && Nat.blt j (o + P.cellsOf t) then x.cellsG (j - o) else g j))).bx k = some B → ∃ B', st.bx k = some B' := fun k B hk => by
       by_cases ek : k = b
       · subst ek; exact ⟨_, hB⟩
       · have hk' : upd st.bx b _ k = some B := hk
         rw [upd_ne _ _ ek] at hk'; exact ⟨B, hk'⟩
      have hT : ∀ y v', TR c.sh gh st.ar st.bx w y v' → TR c.sh gh st.ar (st.setB b (some (sz, fun j => bif Nat.ble o j && Nat.blt j (o + P.cellsOf t) then x.cellsG (j - o) else g j))).bx (w.setCells (gh.ba b).block ((gh.ba b).off + o) v.cells.toList) y v' :=
       fun y v' t' => TR_weaken (fun _ _ e => e) hbx' y (TR_congr h.mem.rows (fun id A eA => hag (.inl id) (by simp) (by simp [live, eA])) y t')
      refine ⟨h.defers, h.size, fun t' => hT _ _ (h.temps t'), ?_, h.fix.weaken (fun id A e => ⟨A, e, rfl, rfl⟩) (fun k B e => by
       by_cases ek : k = b
       · subst ek
         have e' : upd st.bx k _ k = some B := e
         rw [upd_self] at e'
         obtain rfl := Option.some.inj e'
         exact ⟨_, hB, rfl⟩
       · have e' : upd st.bx b _ k = some B := e
         rw [upd_ne _ _ ek] at e'
         exact ⟨B, e', rfl⟩)⟩
      refine h.mem.gen (D := _) (G := fun _ _ => False) (· = .inr b) hs2 (fun b' o' hd => .inl ⟨.inr b, rfl, hlv, hD b' o' hd⟩) (fun _ _ h => h.elim) ?_ ?_ ?_ ?_ ?_ ?_
      · intro id A _ eA; exact ⟨eA, rfl, rfl⟩
      · intro k sz' g' hk e'
        have ek : k ≠ b := fun e => hk (by rw [e])
        have e'' : upd st.bx b _ k = some (sz', g') := e'
        rw [upd_ne _ _ ek] at e''
        exact ⟨g', e'', rfl, fun o _ v _ t => hT _ _ t⟩
      · intro id A hk; simp at hk
      · intro k sz' g' hk e'
        obtain rfl : k = b := by simpa using hk
        have e'' : upd st.bx k _ k = some (sz', g') := e'
        rw [upd_self] at e''
        obtain ⟨rfl, rfl⟩ : sz = sz' ∧ _ = g' := by simpa using e''
        refine ⟨hsp, fun m hm => ?_⟩
        obtain ⟨v0, h1, h2, h3, h4⟩ := hbx m hm
        by_cases hin : o ≤ m ∧ m < o + P.cellsOf t
        · have hmo : m - o < x.cellsN := by omega
          have hc := hs1 (m - o) (v.cells.getD (m - o) undef) (by simp [Array.getD_eq_getD_getElem?, show m - o < v.cells.size by omega])
          refine ⟨_, by rw [← hc]; congr 1; omega, by rw [hs3]; exact h2, (hcs _ hmo).1, ?_⟩
          have hb : (Nat.ble o m && Nat.blt m (o + P.cellsOf t)) = true := by rw [Bool.and_eq_true]; exact ⟨Nat.ble_eq_true_of_le hin.1, Nat.ble_eq_true_of_le hin.2⟩
          simp only [hb, cond_true]
          exact hT _ _ (hcs _ hmo).2
        · have hb : (Nat.ble o m && Nat.blt m (o + P.cellsOf t)) = false := by
           rw [Bool.eq_false_iff]; intro hb; rw [Bool.and_eq_true] at hb
           exact hin ⟨Nat.le_of_ble_eq_true hb.1, Nat.le_of_ble_eq_true hb.2⟩
          have := hs2.cell _ ((gh.ba k).off + m) (h.mem.mine (.inr k) _ ((gh.ba k).off + m) hlv ⟨(sz, g), hB, rfl, by omega, by simp only; omega⟩).1 (by rintro ⟨_, _, _⟩; omega)
          refine ⟨v0, by rw [this.1]; exact h1, by rw [hs3]; exact h2, h3, ?_⟩
          simp only [hb, cond_false]
          exact hT _ _ h4
      · rintro r b' o' rfl hlr ⟨B, eB, hin⟩
        have eB' : upd st.bx b _ b = some B := eB
        rw [upd_self] at eB'
        obtain rfl := Option.some.inj eB'
        exact .inl ⟨_, rfl, hlv, (sz, g), hB, hin⟩
      · rintro r r' b' o' rfl rfl hn; exact absurd rfl hn
  · simp at e
 | pe id p i' j =>
  simp only at e
  split at e
  · rename_i l st1 htk
    split at e
    · rename_i A hA
      obtain ⟨hle, e⟩ := K2_some e
      have hle : j + x.cellsN ≤ A.szAt p := Nat.le_of_ble_eq_true hle
      obtain ⟨hlen, gh1, F, hT, Fs, hf1, hf2, hf3⟩ := takeR_range (vs := fun j => v.cells.getD j undef) x.cellsN h .none (fun j hj => (hcs j hj).2) htk
      split at e
      · rename_i st' hw
        have hpl := hT.holds _ _ hp A hA
        have hat := szAt_own (A := A) (p := p) (j := j) (by omega)
        have hat' : p = [] ∨ ∃ n' sz' h, atP A.g p = .own n' sz' h := hat.imp (fun h => h) fun ⟨n', sz', h', e, _⟩ => ⟨n', sz', h', e⟩
        obtain ⟨ad, rfl⟩ : ∃ ad, u = .pointer (some ad) := by
         cases p with
         | nil => obtain ⟨_, _, ad, _, rfl⟩ := hpl; exact ⟨_, rfl⟩
         | cons q r =>
          rcases hat' with hat' | ⟨n', sz', h', e'⟩
          · simp at hat'
          · obtain ⟨_, _, ad, _, _, rfl⟩ := hpl n' sz' h' e'; exact ⟨_, rfl⟩
        have hrow := hT.inv.mem.rows id A hA
        obtain ⟨_, _, _, _, _, _, _, _, hsp, hmore⟩ := place_cell p hrow hpl hat'
        have hpls : ∀ k, k < l.length → placeV w (gh1.hd id).1 A.n A.sz A.g p i' (j + k) (.pointer (some ⟨ad.block, ad.off + k, none⟩)) := fun k hk' => hmore k (by show j + k < A.szAt p; omega)
        have hfree : ∀ k, k < l.length → Free c gh1 st1.ar st1.bx w (Fs k) := fun k hk' => hT.free.mono fun b o hb => .inr (hf1 k b o (by omega) hb)
        have hvl : v.cells.toList.length = l.length := by simp; omega
        have hgd : ∀ k, v.cells.toList.getD k undef = v.cells.getD k undef := fun k => by simp [List.getD_eq_getElem?_getD, Array.getD_eq_getD_getElem?]
        have hrun := storeAt_run (P := P) (w := w) (t := t) hsp hi (by rw [hsz, hN]) (fun k hk' => by
         obtain ⟨v', F', h1, _, h2, _⟩ := place_cell p hrow (hpls k (by omega)) hat'
         exact ⟨by rw [h1]; rfl, h2⟩) (fun j hj => (hcs j (by omega)).1)
        unfold St.wrE at hw
        by_cases hall : l.all AV.notOwn = true
        · rw [hall] at hw
          simp only [cond_true] at hw
          rw [hA] at hw
          obtain rfl := Option.some.inj hw
          obtain ⟨gh2, hI⟩ := storeCells_sound l v.cells.toList hT.inv hA hvl hpls hat' (fun k hk' => by rw [hgd]; exact (hcs k (by omega)).1) (fun k hk' => by rw [hgd]; exact hf3 k (by omega)) hfree (fun k m b o hk' hm' => hf2 k m b o (by omega) (by omega)) (fun _ => .inl hall) (fun _ _ _ _ => .inl hall)
          exact ⟨_, gh2, _, e, hrun, hI⟩
        · rw [Bool.not_eq_true] at hall
          rw [hall] at hw
          simp only [cond_false] at hw
          have hA' : (st1.map (AV.killN id)).ar id = some A := hA
          rw [hA'] at hw
          obtain rfl := Option.some.inj hw
          have hI1 := hT.inv.map (AV.killN id) (fun x v t => TR_killN id x t)
          have hfree' : ∀ k, k < l.length → Free c gh1 (st1.map (AV.killN id)).ar (st1.map (AV.killN id)).bx w (Fs k) := fun k hk' b o hb => by
           have := hfree k hk' b o hb
           refine ⟨fun r hr hf => this.1 r ((live_map _ r).1 hr) ?_, this.2⟩
           have e1 : fp gh1 (st1.map (AV.killN id)).bx r = fp gh1 st1.bx r := fp_map _ r
           rw [e1] at hf; exact hf
          have hQ : ∀ b B, (st1.map (AV.killN id)).bx b = some B → ∀ o, l.all AV.notOwn = true ∨ ∃ z : AV, B.2 o = z.killN id := fun b B eB o => by
           obtain ⟨g', e', hg'⟩ := map_some (b := b) (sz := B.1) (g := B.2) (f := AV.killN id) (bx := st1.bx) eB
           exact .inr ⟨g' o, by rw [hg']⟩
          obtain ⟨gh2, hI⟩ := storeCells_sound l v.cells.toList hI1 hA' hvl hpls hat' (fun k hk' => by rw [hgd]; exact (hcs k (by omega)).1) (fun k hk' => by rw [hgd]; exact hf3 k (by omega)) hfree' (fun k m b o hk' hm' => hf2 k m b o (by omega) (by omega)) (fun t => .inr ⟨_, rfl⟩) hQ
          exact ⟨_, gh2, _, e, hrun, hI⟩
      · simp at e
    · simp at e
  · simp at e
 | _ => simp at e
end
end Go.Fw
namespace Go.Fw
variable [Tok]
section
variable {c : Cx} {gh : Gh} {nt : Nat} {st : St} {a : Act} {w : World} {P : Program} {R : Type} {r : R}
theorem inB_iff {i : Int} {n : Nat} : inB i n = true ↔ 0 ≤ i ∧ i < (n : Int) := by simp [inB]
theorem szOk_iff {e : TypeId} {sz : Nat} (h : szOk P e sz = true) : (∃ i, P.info? e = some i) ∧ sz = P.cellsOf e := by
 unfold szOk at h
 rw [Bool.and_eq_true] at h
 exact ⟨Option.isSome_iff_exists.1 h.1, beq_eq.1 h.2⟩
theorem sizeOf_run {e : TypeId} {i : TypeInfo} (h : P.info? e = some i) : (sizeOf e).run P w = .ok (P.cellsOf e) w := by
 simp [sizeOf, typeInfo, h, cellsOf_eq h]
theorem indexAt_run {t e : TypeId} {ad : Addr} {n cap : Nat} {k : IntKind} {i : Int} (hu : P.underlying t = some (.slice e)) (hi : ∃ x, P.info? e = some x) (h0 : 0 ≤ i) (h1 : i < (n : Int)) :
  (Instr.indexAt t (.slice (some ad) n cap) (.int k i)).run P w = .ok (.pointer (some (ad.add (i.toNat * P.cellsOf e)))) w := by
 obtain ⟨x, hx⟩ := hi
 simp [Instr.indexAt, asIntOf, run_underlying hu, h0, h1, sizeOf_run hx]
omit [Tok] in
theorem and3 {a b c : Bool} (h : a = true) (h' : (b && c) = true) : (a && b && c) = true := by
 subst h; simpa using h'
theorem indexAddrK_sound {t : TypeId} {x : AV} {u v : Value} {i : Int} {k : IntKind} {K : AV → Option R} (h : Inv c gh nt st a w) (e : indexAddrK P st t x i K = some r) (hx : TR c.sh gh st.ar st.bx w x u) (hv : v = .int k i) :
  ∃ y z, K y = some r ∧ (Instr.indexAt t u v).run P w = .ok z w ∧ TR c.sh gh st.ar st.bx w y z := by
 subst hv
 unfold indexAddrK at e
 split at e
 · rename_i el hu
   have shared : ∀ {n sz : Nat} {g : Nat → Nat → AV} {A : Option Addr} {cap : Nat}, (inB i n && szOk P el sz && Nat.blt 0 sz) = true → (n = 0 ∨ ∃ a, A = some a ∧ a.spot = none ∧
     ∀ i, i < n → ∀ j, j < sz → c.ok a.block (a.off + (i * sz + j)) ∧ ∃ u, cellAt c.w0 a.block (a.off + (i * sz + j)) = some u ∧ RS c.w0 c.ok (g i j) u) →
     ∃ z, (Instr.indexAt t (.slice A n cap) (.int k i)).run P w = .ok z w ∧ TR c.sh gh st.ar st.bx w (.sp sz (g i.toNat)) z := by
    intro n sz g A cap hk h2
    simp only [Bool.and_eq_true] at hk
    obtain ⟨h0, h1⟩ := inB_iff.1 hk.1.1
    obtain ⟨hi, hsz⟩ := szOk_iff hk.1.2
    rcases h2 with h2 | ⟨ad, rfl, hs, hc⟩
    · omega
    · refine ⟨_, indexAt_run hu hi h0 h1, _, rfl, by rw [add_eq hs], fun j hj => ?_⟩
      rw [add_eq hs, ← hsz]
      simp only [Nat.add_assoc]
      exact hc i.toNat (by omega) j hj
   cases x with
   | sl n sz g =>
    simp only at e
    obtain ⟨hk1, e⟩ := K2_some e
    obtain ⟨hk2, e⟩ := K2_some e
    have hk := and3 hk2 hk1
    obtain ⟨A, cap, rfl, h1, h2⟩ := hx
    obtain ⟨z, hz, ht⟩ := shared (cap := cap) hk h2
    exact ⟨_, z, e, hz, ht⟩
   | sln n sz g =>
    simp only at e
    obtain ⟨hk1, e⟩ := K2_some e
    obtain ⟨hk2, e⟩ := K2_some e
    have hk := and3 hk2 hk1
    obtain ⟨A, cap, rfl, h1, h2⟩ := hx
    obtain ⟨z, hz, ht⟩ := shared (cap := cap) hk h2
    exact ⟨_, z, e, hz, ht⟩
   | gv bs =>
    simp only at e
    obtain ⟨hk1, e⟩ := K2_some e
    obtain ⟨hk2, e⟩ := K2_some e
    obtain ⟨A, cap, rfl, h1, h2⟩ := RS_gv hx
    obtain ⟨z, hz, ht⟩ := shared (n := bs.length) (sz := 1) (g := gvG bs) (cap := cap) (by rw [hk1, hk2]; rfl) h2
    exact ⟨_, z, e, hz, ht⟩
   | rf id =>
    simp only at e
    split at e
    · rename_i A hA
      obtain ⟨hk1, e⟩ := K2_some e
      obtain ⟨hk2, e⟩ := K2_some e
      have hk := and3 hk2 hk1
      simp only [Bool.and_eq_true] at hk
      obtain ⟨h0, h1⟩ := inB_iff.1 hk.1.1
      obtain ⟨hi, hsz⟩ := szOk_iff hk.1.2
      have hpos : 0 < A.sz := Nat.le_of_ble_eq_true hk.2
      obtain ⟨A1, cap, e1, hn, _, h3⟩ := h.mem.rows id A hA
      obtain ⟨hA1, hcap⟩ : (gh.hd id).1 = A1 ∧ (gh.hd id).2 = cap := by simpa using e1
      rcases h3 with h3 | ⟨ad, ea, hs, _⟩
      · omega
      · rw [hx A hA, hA1, ea]
        refine ⟨_, _, e, indexAt_run hu hi h0 h1, fun A' hA' => ?_⟩
        rw [hA] at hA'
        obtain rfl := Option.some.inj hA'
        exact ⟨by omega, hpos, ad, by rw [hA1, ea], by rw [add_eq hs, ← hsz]; simp⟩
    · simp at e
   | rs id p m =>
    simp only at e
    split at e
    · rename_i A hA
      obtain ⟨hk1, e⟩ := K2_some e
      obtain ⟨hk2, e⟩ := K2_some e
      have hk := and3 hk2 hk1
      simp only [Bool.and_eq_true] at hk
      obtain ⟨h0, h1⟩ := inB_iff.1 hk.1.1
      obtain ⟨hi, hsz⟩ := szOk_iff hk.1.2
      have hpos : 0 < A.sz := Nat.le_of_ble_eq_true hk.2
      obtain ⟨hle, A', rfl, h2⟩ := hx A hA
      obtain ⟨A1, cap, e1, hn, _, h3⟩ := h.mem.rows id A hA
      obtain ⟨hA1, hcap⟩ : (gh.hd id).1 = A1 ∧ (gh.hd id).2 = cap := by simpa using e1
      rcases h2 with h2 | ⟨ad, ea, rfl⟩
      · omega
      · refine ⟨_, _, e, indexAt_run hu hi h0 h1, fun A' hA' => ?_⟩
        rw [hA] at hA'
        obtain rfl := Option.some.inj hA'
        refine ⟨by omega, hpos, ad, ea, ?_⟩
        rw [add_eq rfl, ← hsz, Nat.add_mul]
        simp only [Nat.add_assoc, Nat.add_zero]
    · simp at e
   | rn id p =>
    simp only at e
    split at e
    · rename_i A hA
      split at e
      · rename_i n sz g hat
        obtain ⟨hk1, e⟩ := K2_some e
        obtain ⟨hk2, e⟩ := K2_some e
        have hk := and3 hk2 hk1
        simp only [Bool.and_eq_true] at hk
        obtain ⟨h0, h1⟩ := inB_iff.1 hk.1.1
        obtain ⟨hi, hsz⟩ := szOk_iff hk.1.2
        have hpos : 0 < sz := Nat.le_of_ble_eq_true hk.2
        have hp := hx A n sz g hA hat
        obtain ⟨F', hr, _⟩ := RO_path p (h.mem.rows id A hA) hat hp
        obtain ⟨A1, cap, rfl, hn, _, h3⟩ := hr
        rcases h3 with h3 | ⟨ad, rfl, hs, _⟩
        · omega
        · refine ⟨_, _, e, indexAt_run hu hi h0 h1, fun A' hA' => ?_⟩
          rw [hA] at hA'
          obtain rfl := Option.some.inj hA'
          cases p with
          | nil => exact hp.elim
          | cons q p =>
           intro n' sz' h' e'
           rw [hat] at e'
           obtain ⟨rfl, rfl, rfl⟩ : n = n' ∧ sz = sz' ∧ g = h' := by simpa using e'
           exact ⟨by omega, hpos, ad, cap, hp, by rw [add_eq hs, ← hsz]; simp⟩
      · simp at e
    · simp at e
   | _ => simp at e
 · simp at e
def IvR : Option Value → Option Int → Prop
 | none, none => True
 | some v, some n => ∃ k, v = .int k n
 | _, _ => False
theorem sliceBounds_run {b : Bool} {len cap : Nat} {lo hi : Option Value} {l h : Option Int} (hl : IvR lo l) (hh : IvR hi h) (h0 : 0 ≤ l.getD 0) (h1 : l.getD 0 ≤ h.getD len) (h2 : h.getD len ≤ (cap : Int)) :
  (Instr.sliceBounds b len cap lo hi none).run P w = .ok ((l.getD 0).toNat, (h.getD len).toNat, cap) w := by
 cases l with
 | none =>
  cases lo with
  | some _ => exact hl.elim
  | none =>
   cases h with
   | none =>
    cases hi with
    | some _ => exact hh.elim
    | none => simp [Instr.sliceBounds]
   | some h =>
    cases hi with
    | none => exact hh.elim
    | some _ =>
     obtain ⟨k, rfl⟩ := hh
     simp only [Option.getD_none, Option.getD_some] at h0 h1 h2
     simp [Instr.sliceBounds, run_sliceBound, h1, h2]
 | some l =>
  cases lo with
  | none => exact hl.elim
  | some _ =>
   obtain ⟨k, rfl⟩ := hl
   simp only [Option.getD_some] at h0 h1
   cases h with
   | none =>
    cases hi with
    | some _ => exact hh.elim
    | none =>
     simp only [Option.getD_none] at h1 h2
     simp [Instr.sliceBounds, run_sliceBound, h0, h1]
   | some h =>
    cases hi with
    | none => exact hh.elim
    | some _ =>
     obtain ⟨k', rfl⟩ := hh
     simp only [Option.getD_some] at h1 h2
     have h3 : 0 ≤ h := by omega
     have e : (h.toNat : Int) = h := Int.toNat_of_nonneg h3
     simp [Instr.sliceBounds, run_sliceBound, h0, h1, h2, h3, e]
theorem bndK_some {lo hi : Int} {n : Nat} {x : Option R} (e : bndK lo hi n x = some r) : (0 ≤ lo ∧ lo ≤ hi ∧ hi ≤ (n : Int)) ∧ x = some r := by
 obtain ⟨hk, e⟩ := K2_some e
 simp only [Bool.and_eq_true, decide_eq_true_eq] at hk
 exact ⟨⟨hk.1.1, hk.1.2, hk.2⟩, e⟩
theorem sliceAt_run {t e : TypeId} {A : Option Addr} {n cap : Nat} {lo hi : Option Value} {l h : Option Int} (hu : P.underlying t = some (.slice e)) (hi' : ∃ x, P.info? e = some x) (hl : IvR lo l) (hh : IvR hi h)
  (h0 : 0 ≤ l.getD 0) (h1 : l.getD 0 ≤ h.getD n) (h2 : h.getD n ≤ (cap : Int)) :
  (Instr.sliceAt t (.slice A n cap) lo hi none).run P w = .ok (.slice (if cap = (l.getD 0).toNat then A else A.map (·.add ((l.getD 0).toNat * P.cellsOf e))) ((h.getD n).toNat - (l.getD 0).toNat) (cap - (l.getD 0).toNat)) w := by
 obtain ⟨x, hx⟩ := hi'
 simp [Instr.sliceAt, Instr.slice, run_underlying hu, sliceBounds_run hl hh h0 h1 h2, sizeOf_run hx]
theorem sliceK_sound {t : TypeId} {x : AV} {u : Value} {l h : Option Int} {lo hi : Option Value} {K : AV → Option R} (hI : Inv c gh nt st a w) (e : sliceK P st t x l h K = some r) (hx : TR c.sh gh st.ar st.bx w x u) (hl : IvR lo l) (hh : IvR hi h) :
  ∃ y z, K y = some r ∧ (Instr.sliceAt t u lo hi none).run P w = .ok z w ∧ TR c.sh gh st.ar st.bx w y z := by
 unfold sliceK at e
 split at e
 · rename_i hu
   cases x with
   | S s =>
    simp only at e
    obtain ⟨⟨h0, h1, h2⟩, e⟩ := bndK_some e
    have := TR_S hx
    subst this
    refine ⟨_, _, e, ?_, rfl⟩
    simp [Instr.sliceAt, Instr.slice, run_underlying hu, sliceBounds_run hl hh h0 h1 h2]
   | _ => simp at e
 · rename_i el hu
   cases x with
   | sl n sz g =>
    simp only at e
    obtain ⟨hk, e⟩ := K2_some e
    obtain ⟨hi', hsz⟩ := szOk_iff hk
    obtain ⟨A, cap, rfl, ⟨hn, hnl⟩, h2⟩ := hx
    have main : ∀ {g' : Nat → Nat → AV}, 0 ≤ l.getD 0 → l.getD 0 ≤ h.getD n → h.getD n ≤ (n : Int) → (∀ i j, i < (h.getD n).toNat - (l.getD 0).toNat → g' i j = g ((l.getD 0).toNat + i) j) →
      TR c.sh gh st.ar st.bx w (.sl ((h.getD n).toNat - (l.getD 0).toNat) sz g') (.slice (if cap = (l.getD 0).toNat then A else A.map (·.add ((l.getD 0).toNat * P.cellsOf el))) ((h.getD n).toNat - (l.getD 0).toNat) (cap - (l.getD 0).toNat)) := by
     intro g' h0 h1 h3 hg
     refine ⟨_, _, rfl, ⟨by omega, fun hA => ?_⟩, ?_⟩
     · split at hA
       · omega
       · have := hnl (by simpa using hA)
         omega
     by_cases hz : (h.getD n).toNat - (l.getD 0).toNat = 0
     · exact .inl hz
     · right
       rcases h2 with h2 | ⟨ad, rfl, hs, hc⟩
       · omega
       · have hne : ¬ cap = (l.getD 0).toNat := by omega
         rw [if_neg hne]
         refine ⟨_, rfl, by simp only; rw [add_eq hs], fun i hi j hj => ?_⟩
         have := hc ((l.getD 0).toNat + i) (by omega) j hj
         simp only
         rw [add_eq hs, hg i j hi, ← hsz]
         simp only [Nat.add_mul, Nat.add_assoc] at this ⊢
         exact this
    cases h with
    | none =>
     simp only at e
     obtain ⟨⟨h0, h1, h3⟩, e⟩ := bndK_some e
     refine ⟨_, _, e, sliceAt_run hu hi' hl hh h0 (by simpa using h1) (by simp; omega), ?_⟩
     exact main h0 (by simpa using h1) (by simp) (fun i j _ => rfl)
    | some h =>
     simp only at e
     obtain ⟨⟨h0, h1, h3⟩, e⟩ := bndK_some e
     refine ⟨_, _, e, sliceAt_run hu hi' hl hh h0 (by simpa using h1) (by simp; omega), ?_⟩
     exact main h0 (by simpa using h1) (by simpa using h3) (fun i j hi => by
      have : i < h.toNat - (l.getD 0).toNat := hi
      simp [this, mrg_true])
   | rf id =>
    simp only at e
    split at e
    · rename_i A hA
      obtain ⟨hk, e⟩ := K2_some e
      obtain ⟨hi', hsz⟩ := szOk_iff hk
      obtain ⟨⟨h0, h1, h3⟩, e⟩ := bndK_some e
      obtain ⟨A1, cap, e1, hn, _, h4⟩ := hI.mem.rows id A hA
      obtain ⟨hA1, hcap⟩ : (gh.hd id).1 = A1 ∧ (gh.hd id).2 = cap := by simpa using e1
      rw [hx A hA]
      refine ⟨_, _, e, sliceAt_run hu hi' hl hh h0 h1 (by omega), fun A' hA' => ?_⟩
      rw [hA] at hA'
      obtain rfl := Option.some.inj hA'
      refine ⟨by omega, _, rfl, ?_⟩
      by_cases hz : (gh.hd id).2 - (l.getD 0).toNat = 0
      · exact .inl hz
      · right
        rcases h4 with h4 | ⟨ad, ea, hs, _⟩
        · omega
        · rw [if_neg (by omega), hA1, ea]
          exact ⟨ad, rfl, by simp only [Option.map_some]; rw [add_eq hs, hsz]⟩
    · simp at e
   | rs id p m =>
    simp only at e
    split at e
    · rename_i A hA
      obtain ⟨hk, e⟩ := K2_some e
      obtain ⟨hi', hsz⟩ := szOk_iff hk
      obtain ⟨⟨h0, h1, h3⟩, e⟩ := bndK_some e
      obtain ⟨hle, A', rfl, h2⟩ := hx A hA
      obtain ⟨A1, cap, e1, hn, _, h4⟩ := hI.mem.rows id A hA
      obtain ⟨hA1, hcap⟩ : (gh.hd id).1 = A1 ∧ (gh.hd id).2 = cap := by simpa using e1
      refine ⟨_, _, e, sliceAt_run hu hi' hl hh h0 h1 (by omega), fun A'' hA' => ?_⟩
      rw [hA] at hA'
      obtain rfl := Option.some.inj hA'
      refine ⟨by omega, _, by rw [Nat.sub_sub], ?_⟩
      by_cases hz : (gh.hd id).2 - (p + (l.getD 0).toNat) = 0
      · exact .inl hz
      · right
        rcases h2 with h2 | ⟨ad, ea, rfl⟩
        · omega
        · rw [if_neg (by omega)]
          refine ⟨ad, ea, ?_⟩
          simp only [Option.map_some]
          rw [add_eq rfl, hsz, Nat.add_mul]
          simp only [Nat.add_assoc]
    · simp at e
   | _ => simp at e
 · simp at e
end
end Go.Fw
namespace Go.Fw
variable [Tok]
section
variable {c : Cx} {gh : Gh} {nt : Nat} {st : St} {a : Act} {w : World} {P : Program} {R : Type} {r : R}
theorem unAV_run {op : UnOp} {x : AV} {v : Value} (hk : (unAV op x).known = true) (hx : TR c.sh gh st.ar st.bx w x v) :
  ∃ z, (Op.unary op v).run P w = .ok z w ∧ TR c.sh gh st.ar st.bx w (unAV op x) z := by
 unfold unAV at hk ⊢
 split at hk
 · have := TR_B hx; subst this
   exact ⟨_, by simp [Op.unary], rfl⟩
 · have := TR_I hx; subst this
   exact ⟨_, by simp [Op.unary, Op.intArith]; rfl, by show _ = _; simp⟩
 · simp [AV.known] at hk
theorem convert_run {src dst : TypeId} {d : TypeDesc} {k k' : IntKind} {n : Int} (hs : P.underlying src = some d) (hd : P.underlying dst = some (.int k)) :
  (convert src dst (.int k' n)).run P w = .ok (.int k (k.wrap n)) w := by
 simp [convert, run_underlying hs, run_underlying hd, Conv.intToInt]
theorem field_run {t : TypeId} {f off fs : Nat} {ft : TypeId} {cs : Array Value} (hf : fieldOf P t f = some (off, fs, ft)) (hle : off + fs ≤ cs.size) (ht : tyOk P ft = true) :
  (Instr.field t (.agg cs) f).run P w = .ok (if isAggT P ft then .agg ((List.range (P.cellsOf ft)).map fun j => cs.getD (off + j) undef).toArray else cs.getD (off + 0) undef) w := by
 obtain ⟨⟨i, hi⟩, ⟨d, hd⟩, hpos⟩ := tyOk_iff ht
 unfold fieldOf at hf
 split at hf
 · rename_i fss hu
   split at hf
   · rename_i x hx
     simp only [Option.some.injEq, Prod.mk.injEq] at hf
     obtain ⟨rfl, rfl, rfl⟩ := hf
     have hag : (isAgg x.type).run P w = .ok (isAggT P x.type) w := by
      unfold isAgg isAggT
      rw [hd]
      simp only [Sem.run_bind, run_underlying hd, Result.andThen_ok]
      cases d <;> rfl
     unfold Instr.field
     simp only [Sem.run_bind, run_underlying hu, Result.andThen_ok, hx, part, asAgg, Sem.run_pure, hag]
     cases hb : isAggT P x.type with
     | true =>
      simp only [if_true, Sem.run_bind, sizeOf_run hi, Result.andThen_ok, Sem.run_pure]
      congr 2
      apply Array.ext
      · simp; omega
      · intro j h1 h2
        simp at h1 h2
        simp [Array.getD_eq_getD_getElem?, show x.offset + j < cs.size by omega]
     | false =>
      have : x.offset < cs.size := by omega
      simp [this, Array.getD_eq_getD_getElem?]
   · simp at hf
 · simp at hf
theorem rowsOf_len {x : AV} {v : Value} {A : Arr} (h : Inv c gh nt st a w) (e : st.rowsOf x = some A) (hx : TR c.sh gh st.ar st.bx w x v) : ∃ ad cap, v = .slice ad A.n cap := by
 cases x with
 | nsl sz g =>
  simp only [St.rowsOf, Option.some.injEq] at e; subst e
  have hx' : v = .slice none 0 0 := hx
  exact ⟨_, _, hx'⟩
 | sl n sz g =>
  simp only [St.rowsOf, Option.some.injEq] at e; subst e
  obtain ⟨A, cap, rfl, _⟩ := hx
  exact ⟨_, _, rfl⟩
 | sln n sz g =>
  simp only [St.rowsOf, Option.some.injEq] at e; subst e
  obtain ⟨A, cap, rfl, _⟩ := hx
  exact ⟨_, _, rfl⟩
 | gv bs =>
  simp only [St.rowsOf, Option.some.injEq] at e; subst e
  obtain ⟨_, _, _, A, cap, e, _⟩ := hx
  exact ⟨_, _, e⟩
 | rf id => exact ⟨_, _, hx A e⟩
 | rs id p m =>
  simp only [St.rowsOf, Option.map_eq_some_iff] at e
  obtain ⟨B, hB, rfl⟩ := e
  obtain ⟨_, A', rfl, _⟩ := hx B hB
  exact ⟨_, _, rfl⟩
 | rn id p =>
  simp only [St.rowsOf] at e
  split at e
  · rename_i n sz g hm
    obtain ⟨B, hB, hat⟩ := Option.map_eq_some_iff.1 hm
    simp only [Option.some.injEq] at e; subst e
    obtain ⟨F', hr, _⟩ := RO_path p (h.mem.rows id B hB) hat (hx B n sz g hB hat)
    obtain ⟨A', cap, rfl, _⟩ := hr
    exact ⟨_, _, rfl⟩
  · simp at e
 | _ => simp [St.rowsOf] at e
theorem alloc_heap (w : World) (o : Obj) : (w.alloc o).heap = w.heap.push o := rfl
theorem alloc_ext (w : World) (o : Obj) : Ext w (w.alloc o) := ⟨by rw [alloc_heap]; simp, fun b hb => by rw [alloc_heap, Array.getElem?_push, if_neg (by omega)], rfl, rfl, rfl⟩
theorem alloc_cell (w : World) (cs : Array Value) (t : TypeId) (o : Nat) : cellAt (w.alloc (.cells cs t)) w.heap.size o = cs[o]? := by
 simp [cellAt, World.cell?, alloc_heap]
theorem alloc_froz (w : World) (cs : Array Value) (t : TypeId) (o : Nat) : frozAt (w.alloc (.cells cs t)) w.heap.size o = false := by
 simp [frozAt, World.frozen?, alloc_heap]
theorem new_free (h : Inv c gh nt st a w) {r : Nat ⊕ Nat} {x y : Nat} (hl : live st.ar st.bx r) (hf : fp gh st.bx r x y) : x < w.heap.size := (h.mem.mine r x y hl hf).1
theorem newVar_sound {cs : Array Value} {t : TypeId} {b sz : Nat} {g : Nat → AV} {o : Option Nat} (hlo : c.lim ≤ b) (h : Inv c gh nt st a w) (ho : ∀ k, o = some k → k < nt) (hsz : cs.size = sz)
  (hc : ∀ j, j < sz → (cs.getD j undef).oneCell' = true ∧ TR c.sh gh st.ar st.bx w (g j) (cs.getD j undef)) :
  ∃ gh', Inv c gh' nt ((st.newB b sz g).put o (.pb b 0)) (a.put o (.pointer (some ⟨w.heap.size, 0, none⟩))) (w.alloc (.cells cs t)) := by
 have hI := h.ext (alloc_ext w (.cells cs t))
 have hI' := hI.newB b sz g ⟨w.heap.size, 0, none⟩ rfl (fun j hj => by
   refine ⟨cs.getD j undef, ?_, alloc_froz .., (hc j hj).1, ?_⟩
   · rw [alloc_cell]; simp [Array.getD_eq_getD_getElem?, show j < cs.size by omega]
   · exact TR_congr h.mem.rows (fun id A eA b o hf => (alloc_ext w _).cell (h.mem.mine (.inl id) b o (by simp [live, eA]) hf).1 o) _ (hc j hj).2)
  (fun r x y _ hl hf hin => by
   have := new_free h hl hf
   have := hin.1
   simp only at this
   omega)
  (fun x y hin => by
   obtain ⟨rfl, _⟩ := hin
   exact ⟨by simp only [alloc_heap]; simp, fun hlt => absurd hlt (by have := h.mem.grow; simp only at *; omega)⟩) hlo
 refine ⟨_, hI'.put ho ?_⟩
 intro B hB
 simp [upd_self]
theorem zBox_spec {t : TypeId} {sz : Nat} {g : Nat → AV} (e : zBox P t = some (sz, g)) : ∃ z, (zeroValue t).run P w = .ok z w ∧ z.cells.size = sz ∧ ∀ j, j < sz → (z.cells.getD j undef).oneCell' = true ∧ TR c.sh gh st.ar st.bx w (g j) (z.cells.getD j undef) := by
 unfold zBox at e
 split at e
 · rename_i z hz
   cases hall : z.cells.all (fun v => v.oneCell') with
   | false => rw [hall] at e; simp at e
   | true =>
    rw [hall] at e
    simp only [cond_true, Option.some.injEq, Prod.mk.injEq] at e
    obtain ⟨rfl, rfl⟩ := e
    obtain ⟨i, hi, hz⟩ := Option.bind_eq_some_iff.1 hz
    exact ⟨z, by simp [zeroValue, typeInfo, hi, hz], rfl, fun j hj => ⟨all_oneCell hall j hj, cCell_TR⟩⟩
 · simp at e
end
end Go.Fw
namespace Go.Fw
variable [Tok]
section
variable {c : Cx} {gh : Gh} {nt : Nat} {st : St} {a : Act} {w : World} {P : Program} {R : Type} {r : R}
theorem Free.ext {W : World} {F : Cells} (h : Free c gh st.ar st.bx w F) (he : Ext w W) : Free c gh st.ar st.bx W F := fun x y hx => ⟨(h x y hx).1, Nat.lt_of_lt_of_le (h x y hx).2.1 he.1, (h x y hx).2.2⟩
theorem freshRow {W : World} {bl cap n sz : Nat} {g : Nat → Nat → AV} {Fs : Nat → Nat → Cells} {FB : Cells} (h : Inv c gh nt st a w) (he : Ext w W) (hbl : w.heap.size ≤ bl) (hbl' : bl < W.heap.size) (hn : n ≤ cap) (hsz : 0 < sz)
  (hcells : ∀ k, k < cap * sz → (∃ u, cellAt W bl k = some u ∧ u.oneCell' = true) ∧ frozAt W bl k = false)
  (hel : ∀ i, i < n → ∀ j, j < sz → ∃ u, cellAt W bl (i * sz + j) = some u ∧ RO w c.sh (g i j) u (Fs i j))
  (hFs : ∀ i j b o, i < n → j < sz → Fs i j b o → FB b o)
  (hdis : ∀ i j i' j' b o, i < n → j < sz → i' < n → j' < sz → ¬ (i = i' ∧ j = j') → Fs i j b o → ¬ Fs i' j' b o)
  (hfr : Free c gh st.ar st.bx w FB) :
  Inv c gh nt st a W ∧ Free c gh st.ar st.bx W (fun b o => b = bl ∨ FB b o) ∧ RO W c.sh (.own n sz g) (.slice (some ⟨bl, 0, none⟩) n cap) (fun b o => b = bl ∨ FB b o) := by
 refine ⟨h.ext he, fun x y hx => ?_, some ⟨bl, 0, none⟩, cap, rfl, hn, hsz, .inr ⟨_, rfl, rfl, fun k hk => ?_, Fs, fun i j b o hi hj hb => ?_, hdis, fun i hi j hj => ?_⟩⟩
 · rcases hx with rfl | hx
   · refine ⟨fun r hl hf => ?_, hbl', fun hlt => ?_⟩
     · have := new_free h hl hf; omega
     · have := h.mem.grow; omega
   · exact hfr.ext he x y hx
 · have := hcells k hk
   simp only [Nat.zero_add]
   exact ⟨.inl trivial, this.1, this.2⟩
 · refine ⟨.inr (hFs i j b o hi hj hb), fun hin => ?_⟩
   have := (hfr b o (hFs i j b o hi hj hb)).2.1
   have := hin.1
   simp only at this
   omega
 · obtain ⟨u, hu, hr⟩ := hel i hi j hj
   simp only [Nat.zero_add]
   exact ⟨u, hu, RO_congr _ (fun b o hb => he.cell (hfr b o (hFs i j b o hi hj hb)).2.1 o) hr⟩
theorem zFits_RO {x : AV} {v : Value} (h : zFits x v = true) : v.oneCell' = true ∧ RO w c.sh x v (fun _ _ => False) := by
 unfold zFits at h
 split at h
 · rw [Bool.and_eq_true] at h
   obtain ⟨h1, h2⟩ := h
   have := eq_of_beq h1
   have h2 := of_decide_eq_true h2
   subst this h2
   exact ⟨rfl, rfl⟩
 · have := eq_of_beq h; subst this; exact ⟨rfl, rfl⟩
 · rename_i x y
   rw [Bool.and_eq_true] at h
   have h1 := beq_eq.1 h.1
   have h2 := beq_eq.1 h.2
   have : x = y := by
    apply ByteArray.ext
    have e1 : x.data = #[] := Array.eq_empty_of_size_eq_zero h1
    have e2 : y.data = #[] := Array.eq_empty_of_size_eq_zero h2
    rw [e1, e2]
   subst this
   exact ⟨rfl, rfl⟩
 · exact ⟨rfl, rfl⟩
 · exact ⟨rfl, none, 0, rfl, Nat.le_refl _, Nat.le_of_ble_eq_true h, .inl rfl⟩
 · simp at h
theorem zOk_spec {e : TypeId} (h : zOk P e = true) : ∃ i z, P.info? e = some i ∧ i.zero = some z ∧ z.cells.size = P.cellsOf e ∧ i.size = P.cellsOf e ∧ ∀ j, j < P.cellsOf e → zFits (zc P 12 e j) (z.cells.getD j undef) = true := by
 unfold zOk at h
 split at h
 · rename_i z hz
   obtain ⟨i, hi, hz⟩ := Option.bind_eq_some_iff.1 hz
   rw [Bool.and_eq_true] at h
   exact ⟨i, z, hi, hz, beq_eq.1 h.1, (cellsOf_eq hi).symm, fun j hj => by
    have := List.all_eq_true.1 h.2 j (by simpa using hj)
    exact this⟩
 · simp at h
theorem zero_cell {z : Array Value} {s i j : Nat} (hs : z.size = s) (hj : j < s) : z[(i * s + j) % z.size]! = z.getD j undef := by
 have : (i * s + j) % s = j := by rw [Nat.mul_comm, Nat.mul_add_mod, Nat.mod_eq_of_lt hj]
 rw [hs, this]
 simp [Array.getD_eq_getD_getElem?, hs, hj]
theorem div_lt {k n s : Nat} (hs : 0 < s) (h : k < n * s) : k / s < n ∧ k % s < s ∧ k / s * s + k % s = k :=
 ⟨(Nat.div_lt_iff_lt_mul hs).2 h, Nat.mod_lt _ hs, by rw [Nat.mul_comm]; exact Nat.div_add_mod k s⟩
theorem foldl_cells (off : Nat) (vs : Array Value) (cells : Array Value) : (vs.zipIdx.foldl (fun cs (x : Value × Nat) => cs.setIfInBounds (off + x.2) x.1) cells).size = cells.size ∧
  ∀ k, (vs.zipIdx.foldl (fun cs (x : Value × Nat) => cs.setIfInBounds (off + x.2) x.1) cells)[k]? = if off ≤ k ∧ k < off + vs.size ∧ k < cells.size then vs[k - off]? else cells[k]? := by
 obtain ⟨g1, g2⟩ := Great.foldl_set off vs.toList 0 cells
 have e : vs.zipIdx.foldl (fun cs (x : Value × Nat) => cs.setIfInBounds (off + x.2) x.1) cells = (vs.toList.zipIdx 0).foldl (fun cs (x : Value × Nat) => cs.setIfInBounds (off + x.2) x.1) cells := by
  rw [← Array.foldl_toList, Array.toList_zipIdx]
 rw [e]
 refine ⟨g1, fun k => ?_⟩
 have := g2 k
 simpa using this
end
end Go.Fw
namespace Go.Fw
variable [Tok]
section
variable {c : Cx} {gh : Gh} {nt : Nat} {st : St} {a : Act} {w : World} {P : Program} {R : Type} {r : R}
theorem getD_of {xs ys : Array Value} {i j : Nat} (h : xs[i]? = ys[j]?) : xs.getD i undef = ys.getD j undef := by
 simp [Array.getD_eq_getD_getElem?, h]
theorem fill_TR {t : TypeId} {sz : Nat} {place : Nat → Option (Nat × Nat)} (hp : ∀ f off n ft, fieldOf P t f = some (off, n, ft) → place f = some (off, n)) (h : Inv c gh nt st a w) : ∀ (parts : List (Nat × Operand)) (g g' : Nat → AV) (cells : Array Value),
  cells.size = sz → (∀ j, j < sz → (cells.getD j undef).oneCell' = true ∧ TR c.sh gh st.ar st.bx w (g j) (cells.getD j undef)) → buildG P st t sz g parts = some g' →
  ∃ cells', Instr.fill place cells (parts.map fun ix => (ix.1, a.eval ix.2)) = some cells' ∧ cells'.size = sz ∧ ∀ j, j < sz → (cells'.getD j undef).oneCell' = true ∧ TR c.sh gh st.ar st.bx w (g' j) (cells'.getD j undef) := by
 intro parts
 induction parts with
 | nil =>
  intro g g' cells hs hc e
  simp only [buildG, Option.some.injEq] at e
  subst e
  exact ⟨cells, rfl, hs, hc⟩
 | cons ix l ih =>
  intro g g' cells hs hc e
  simp only [buildG] at e
  split at e
  · rename_i off n ft hf
    cases hk : (st.sureA (st.get P ft ix.2) && Nat.beq (st.get P ft ix.2).cellsN n && Nat.ble (off + n) sz) with
    | false => rw [hk] at e; simp at e
    | true =>
     rw [hk] at e
     simp only [cond_true] at e
     simp only [Bool.and_eq_true] at hk
     have hn : (st.get P ft ix.2).cellsN = n := beq_eq.1 hk.1.2
     have hle : off + n ≤ sz := Nat.le_of_ble_eq_true hk.2
     obtain ⟨hsz, hcs⟩ := cells_TR h hk.1.1 (get_TR h ft ix.2)
     obtain ⟨f1, f2⟩ := foldl_cells off (a.eval ix.2).cells cells
     have hnew : ∀ j, j < sz → (((a.eval ix.2).cells.zipIdx.foldl (fun cs (x : Value × Nat) => cs.setIfInBounds (off + x.2) x.1) cells).getD j undef).oneCell' = true ∧
       TR c.sh gh st.ar st.bx w ((fun j => bif Nat.ble off j && Nat.blt j (off + n) then (st.get P ft ix.2).cellsG (j - off) else g j) j) (((a.eval ix.2).cells.zipIdx.foldl (fun cs (x : Value × Nat) => cs.setIfInBounds (off + x.2) x.1) cells).getD j undef) := fun j hj => by
      simp only
      by_cases hin : off ≤ j ∧ j < off + n
      · have hb : (Nat.ble off j && Nat.blt j (off + n)) = true := by rw [Bool.and_eq_true]; exact ⟨Nat.ble_eq_true_of_le hin.1, Nat.ble_eq_true_of_le hin.2⟩
        have e1 := f2 j
        rw [if_pos ⟨hin.1, by omega, by omega⟩] at e1
        rw [getD_of e1, hb]
        exact hcs (j - off) (by omega)
      · have hb : (Nat.ble off j && Nat.blt j (off + n)) = false := by
         rw [Bool.eq_false_iff]; intro hb; rw [Bool.and_eq_true] at hb
         exact hin ⟨Nat.le_of_ble_eq_true hb.1, Nat.le_of_ble_eq_true hb.2⟩
        have e1 := f2 j
        rw [if_neg (by omega)] at e1
        rw [getD_of e1, hb]
        exact hc j hj
     obtain ⟨cells', h1, h2, h3⟩ := ih _ g' _ (f1.trans hs) hnew e
     refine ⟨cells', ?_, h2, h3⟩
     simp only [List.map_cons, Instr.fill, hp _ _ _ _ hf]
     rw [if_neg (by simp; omega)]
     exact h1
  · simp at e
theorem mapM_places : ∀ (fs : List Field), (∀ f, f ∈ fs → (P.info? f.type).isSome = true) → fs.mapM (fun f => (P.info? f.type).map fun i => (f.offset, i.size)) = some (fs.map fun f => (f.offset, P.cellsOf f.type))
 | [], _ => rfl
 | f :: fs, h => by
  obtain ⟨i, hi⟩ := Option.isSome_iff_exists.1 (h f (by simp))
  have := mapM_places fs (fun g hg => h g (by simp [hg]))
  simp [List.mapM_cons, hi, this, cellsOf_eq hi]
theorem build_sound {t : TypeId} {parts : Array (Nat × Operand)} {sz : Nat} {g0 g : Nat → AV} {fs : Array Field} (h : Inv c gh nt st a w) (hz : zBox P t = some (sz, g0)) (hu : P.underlying t = some (.struct fs))
  (hg : buildG P st t sz g0 parts.toList = some g) (hfs : fs.all (fun f => (P.info? f.type).isSome) = true) :
  ∃ cells, (Instr.build t (parts.map fun (i, x) => (i, a.eval x))).run P w = .ok (.agg cells) w ∧ TR c.sh gh st.ar st.bx w (.ag sz g) (.agg cells) := by
 have hz' := hz
 unfold zBox at hz'
 split at hz'
 · rename_i z hzz
   obtain ⟨i, hi, hzi⟩ := Option.bind_eq_some_iff.1 hzz
   have hpl := mapM_places (P := P) fs.toList (fun f hf => by
    have := Array.all_eq_true_iff_forall_mem.1 hfs f (by simpa using hf)
    simpa using this)
   cases hall : z.cells.all (fun v => v.oneCell') with
   | false => rw [hall] at hz'; simp at hz'
   | true =>
    rw [hall] at hz'
    simp only [cond_true, Option.some.injEq, Prod.mk.injEq] at hz'
    obtain ⟨hs, hg0⟩ := hz'
    obtain ⟨cells, h1, h2, h3⟩ := fill_TR (P := P) (t := t) (sz := sz) (place := fun x => (fs.toList.map fun f => (f.offset, P.cellsOf f.type)).toArray[x]?) (fun f off n ft hf => by
      unfold fieldOf at hf
      rw [hu] at hf
      simp only at hf
      split at hf
      · rename_i x hx
        simp only [Option.some.injEq, Prod.mk.injEq] at hf
        obtain ⟨rfl, rfl, rfl⟩ := hf
        simp [hx]
      · simp at hf) h parts.toList g0 g z.cells hs (fun j hj => by rw [← hg0]; exact ⟨all_oneCell hall j (by omega), cCell_TR⟩) hg
    refine ⟨cells, run_build w t _ cells ?_, _, rfl, h2, h3⟩
    unfold Program.built
    simp only [hi, hu, hzi, hpl]
    rw [← h1]
    simp
 · simp at hz'
structure TookRows (c : Cx) (gh gh' : Gh) (nt : Nat) (st st' : St) (a : Act) (w : World) (FL F : Cells) (sz : Nat) (l : List (List AV)) (vs : List Value) : Prop where
 took : TookL c gh gh' nt st st' a w FL F
 rows : ∃ Fs : Nat → Nat → Cells, (∀ i j b o, i < l.length → j < sz → Fs i j b o → F b o) ∧ (∀ i j i' j' b o, i < l.length → j < sz → i' < l.length → j' < sz → ¬ (i = i' ∧ j = j') → Fs i j b o → ¬ Fs i' j' b o) ∧
  ∀ i, i < l.length → ∀ j, j < sz → ((vs.getD i undef).cells.getD j undef).oneCell' = true ∧ RO w c.sh (lstG (l.getD i []) j) ((vs.getD i undef).cells.getD j undef) (Fs i j)
theorem rowsL_sound {e : TypeId} : ∀ (parts : List (Nat × Operand)) {gh : Gh} {st st' : St} {FL : Cells} {l : List (List AV)}, Inv c gh nt st a w → Free c gh st.ar st.bx w FL → rowsL P e st parts = some (l, st') →
  l.length = parts.length ∧ (∀ ix, ix ∈ parts → (a.eval ix.2).cells.size = P.cellsOf e) ∧ ∃ gh' F, TookRows c gh gh' nt st st' a w FL F (P.cellsOf e) l (parts.map fun ix => a.eval ix.2) := by
 intro parts
 induction parts with
 | nil =>
  intro gh st st' FL l h hFL e
  simp only [rowsL, Option.some.injEq, Prod.mk.injEq] at e
  obtain ⟨rfl, rfl⟩ := e
  exact ⟨rfl, by simp, gh, fun _ _ => False, ⟨⟨h, hFL.mono fun x y hx => hx.elim id False.elim, fun _ _ h => h.elim, .refl, rfl, rfl, rfl⟩,
   fun _ _ _ _ => False, fun _ _ _ _ hi => absurd hi (by simp), fun _ _ _ _ _ _ hi => absurd hi (by simp), fun _ hi => absurd hi (by simp)⟩⟩
 | cons ix ps ih =>
  intro gh st st' FL l h hFL e
  simp only [rowsL] at e
  cases hk : (st.sureA (st.get P ‹TypeId› ix.2) && Nat.beq (st.get P ‹TypeId› ix.2).cellsN (P.cellsOf ‹TypeId›)) with
  | false => rw [hk] at e; simp at e
  | true =>
   rw [hk] at e
   simp only [cond_true] at e
   rw [Bool.and_eq_true] at hk
   have hn := beq_eq.1 hk.2
   obtain ⟨hsz, hcs⟩ := cells_TR h hk.1 (get_TR h _ ix.2)
   split at e
   · rename_i x st1 htk
     split at e
     · rename_i xs st2 hr
       simp only [Option.some.injEq, Prod.mk.injEq] at e
       obtain ⟨rfl, rfl⟩ := e
       obtain ⟨hl, gh1, F1, hT, Fs1, a1, a2, a3⟩ := takeR_range (vs := fun j => (a.eval ix.2).cells.getD j undef) (P.cellsOf ‹TypeId›) h hFL (fun j hj => (hcs j (by omega)).2) htk
       obtain ⟨hl2, hall, gh2, F2, ⟨hT2, Fs2, b1, b2, b3⟩⟩ := ih hT.inv hT.free hr
       refine ⟨by simp [hl2], ?_, gh2, fun b o => F1 b o ∨ F2 b o, ⟨⟨hT2.inv, hT2.free.mono (fun x y hx => ?_), fun b o hb => ?_, hT.holds.trans hT2.holds, hT2.ba.trans hT.ba, hT2.bx.trans hT.bx, hT2.hd.trans hT.hd⟩,
        fun i j => match i with | 0 => Fs1 j | i + 1 => Fs2 i j, ?_, ?_, ?_⟩⟩
       · intro jx hj
         rcases List.mem_cons.1 hj with rfl | hj
         · omega
         · exact hall jx hj
       · rcases hx with hx | hx | hx
         · exact .inl (.inl hx)
         · exact .inl (.inr hx)
         · exact .inr hx
       · rcases hb with hb | hb
         · exact hT.apart b o hb
         · exact fun hf => hT2.apart b o hb (.inl hf)
       · intro i j b o hi hj hb
         cases i with
         | zero => exact .inl (a1 j b o hj hb)
         | succ i => exact .inr (b1 i j b o (by simpa using hi) hj hb)
       · intro i j i' j' b o hi hj hi' hj' hne hb hb'
         cases i with
         | zero =>
          cases i' with
          | zero => exact a2 j j' b o hj hj' (fun e => hne ⟨rfl, e⟩) hb hb'
          | succ i' => exact hT2.apart b o (b1 i' j' b o (by simpa using hi') hj' hb') (.inr (a1 j b o hj hb))
         | succ i =>
          cases i' with
          | zero => exact hT2.apart b o (b1 i j b o (by simpa using hi) hj hb) (.inr (a1 j' b o hj' hb'))
          | succ i' => exact b2 i j i' j' b o (by simpa using hi) hj (by simpa using hi') hj' (fun e => hne ⟨by rw [e.1], e.2⟩) hb hb'
       · intro i hi j hj
         cases i with
         | zero => exact ⟨(hcs j (by omega)).1, a3 j hj⟩
         | succ i => exact b3 i (by simpa using hi) j hj
     · simp at e
   · simp at e
end
end Go.Fw
namespace Go.Fw
variable [Tok]
section
variable {c : Cx} {gh : Gh} {nt : Nat} {st : St} {a : Act} {w : World} {P : Program} {R : Type} {r : R}
theorem zip_parts (ρ : Operand → Value) : ∀ (l : List (Nat × Operand)) (i0 : Nat), l.map (·.1) = (List.range l.length).map (i0 + ·) → l.map (fun ix => (ix.1, ρ ix.2)) = ((l.map fun ix => ρ ix.2).zipIdx i0).map fun x => (x.2, x.1)
 | [], _, _ => rfl
 | ix :: l, i0, h => by
  simp only [List.map_cons, List.length_cons, List.range_succ_eq_map, List.map_map] at h
  have h1 := List.cons.inj h
  simp only [Nat.add_zero] at h1
  simp only [List.map_cons, List.zipIdx_cons]
  rw [zip_parts ρ l (i0 + 1) (by
   rw [h1.2]
   apply List.map_congr_left
   intro k _
   simp only [Function.comp_apply]
   omega), h1.1]
theorem rowsG_lt {d : List AV} : ∀ {l : List (List AV)} {i j : Nat}, i < l.length → rowsG d l i j = lstG (l.getD i []) j := by
 intro l
 induction l with
 | nil => intro i j h; simp at h
 | cons x l ih =>
  intro i j h
  cases i with
  | zero => simp [rowsG, mrg_true]
  | succ i => simp only [rowsG, Nat.add_sub_cancel]; rw [show decide (i + 1 = 0) = false by simp, mrg_false, ih (by simpa using h)]; simp
theorem buildSlice_zero {t e : TypeId} {i : TypeInfo} (hu : P.underlying t = some (.slice e)) (hi : P.info? e = some i) :
  (Instr.buildSlice t 0 #[]).run P w = .ok (.slice (some ⟨w.heap.size, 0, none⟩) 0 0) (w.alloc (.cells #[] e)) := by
 simp [Instr.buildSlice, run_underlying hu, sizeOf, typeInfo, hi, newRow, Instr.fill, Array.range_zero']
theorem buildSlice_none {t e : TypeId} {l : List (List AV)} {st' : St} (h : Inv c gh nt st a w) (hu : P.underlying t = some (.slice e)) (hk : zOk P e = true) (hsz : 0 < P.cellsOf e) (hr : rowsL P e st [] = some (l, st')) :
  ∃ gh' W F v, (Instr.buildSlice t 0 #[]).run P w = .ok v W ∧ Inv c gh' nt st' a W ∧ Free c gh' st'.ar st'.bx W F ∧
   RO W c.sh (.own 0 (P.cellsOf e) (fun i j => lstG (l.getD i []) j)) v F := by
 obtain ⟨i, z, hi, _⟩ := zOk_spec hk
 simp only [rowsL, Option.some.injEq, Prod.mk.injEq] at hr
 obtain ⟨rfl, rfl⟩ := hr
 exact ⟨gh, _, fun _ _ => False, _, buildSlice_zero hu hi, h.ext (alloc_ext w _), .none, some ⟨w.heap.size, 0, none⟩, 0, rfl, Nat.le_refl _, hsz, .inl rfl⟩
theorem buildSlice_sound {t e : TypeId} {len : Nat} {parts : Array (Nat × Operand)} {l : List (List AV)} {st' : St} (h : Inv c gh nt st a w) (hu : P.underlying t = some (.slice e))
  (hk : (Nat.beq parts.size len && Nat.blt 0 (P.cellsOf e) && Nat.ble (len * P.cellsOf e) 16777216 && (parts.toList.map (·.1) == List.range len) && zOk P e) = true) (hr : rowsL P e st parts.toList = some (l, st')) :
  ∃ gh' W F v, (Instr.buildSlice t len (parts.map fun (i, x) => (i, a.eval x))).run P w = .ok v W ∧ Inv c gh' nt st' a W ∧ Free c gh' st'.ar st'.bx W F ∧
   RO W c.sh (.own len (P.cellsOf e) (rowsG ((List.range (P.cellsOf e)).map (zc P 12 e)) l)) v F := by
 simp only [Bool.and_eq_true] at hk
 obtain ⟨⟨⟨⟨hk1, hk3⟩, hk4⟩, hk5⟩, hk6⟩ := hk
 have hlen : parts.size = len := beq_eq.1 hk1
 rcases Nat.eq_zero_or_pos len with h0 | hpos
 · subst h0
   have hp : parts = #[] := Array.eq_empty_of_size_eq_zero hlen
   subst hp
   obtain ⟨gh', W, F, v, h1, h2, h3, A, cap, rfl, h4, h5, h6⟩ := buildSlice_none h hu hk6 (Nat.le_of_ble_eq_true hk3) hr
   refine ⟨gh', W, F, _, by simpa using h1, h2, h3, A, cap, rfl, h4, h5, ?_⟩
   rcases h6 with h6 | ⟨a, e1, hs, hc, Fs, f1, f2, f3⟩
   · exact .inl h6
   · exact .inr ⟨a, e1, hs, hc, Fs, f1, f2, fun i hi => absurd hi (by omega)⟩
 have hsz : 0 < P.cellsOf e := Nat.le_of_ble_eq_true hk3
 have hsmall : len * P.cellsOf e ≤ 16777216 := Nat.le_of_ble_eq_true hk4
 have hidx : parts.toList.map (·.1) = List.range len := eq_of_beq hk5
 obtain ⟨i, z, hi, hz, hzs, his, hzf⟩ := zOk_spec hk6
 obtain ⟨hl, hall, gh', F, ⟨hT, Fs, h1, h2, h3⟩⟩ := rowsL_sound (FL := fun _ _ => False) parts.toList h .none hr
 have hln : l.length = len := by rw [hl]; simp [hlen]
 have hzip := zip_parts a.eval parts.toList 0 (by rw [hidx]; simp [hlen])
 have hm : 0 < len * P.cellsOf e := Nat.mul_pos hpos hsz
 obtain ⟨cells, hf, hcs, hc⟩ := Great.fill_dense hsz (parts.toList.map fun ix => a.eval ix.2) 0 ((Array.range (len * P.cellsOf e)).map (z.cells[· % z.cells.size]!)) (fun v hv => by
   obtain ⟨ix, hx, rfl⟩ := List.mem_map.1 hv
   exact hall ix hx) (by simp [hlen])
 have hrun := run_buildSlice (P := P) w t e len (parts.map fun (i, x) => (i, a.eval x)) cells i z hu hi hz (by rw [his]; omega) (by rw [his]; omega) (by
  rw [his, ← hf]
  congr 1
  rw [← hzip]
  simp)
 have hcell : ∀ k, k < len * P.cellsOf e → cells.getD k undef = ((parts.toList.map fun ix => a.eval ix.2).getD (k / P.cellsOf e) undef).cells.getD (k % P.cellsOf e) undef := fun k hk => by
  obtain ⟨d1, d2, d3⟩ := div_lt hsz hk
  have := hc k
  rw [if_pos ⟨by omega, by simp [hlen]; exact hk⟩] at this
  simp only [Nat.sub_zero] at this
  have hd : k / P.cellsOf e < (parts.toList.map fun ix => a.eval ix.2).length := by simp [hlen]; exact d1
  rw [List.getElem?_eq_getElem hd] at this
  simp only [Option.bind_some] at this
  rw [Array.getD_eq_getD_getElem?, this, Array.getD_eq_getD_getElem?, List.getD_eq_getElem?_getD, List.getElem?_eq_getElem hd]
  rfl
 have hsize : cells.size = len * P.cellsOf e := by rw [hcs]; simp
 have hget : ∀ k, k < len * P.cellsOf e → cells[k]? = some (cells.getD k undef) := fun k hk => by simp [Array.getD_eq_getD_getElem?, hsize, hk]
 have helt : ∀ i, i < len → ∀ j, j < P.cellsOf e → cells.getD (i * P.cellsOf e + j) undef = ((parts.toList.map fun ix => a.eval ix.2).getD i undef).cells.getD j undef := fun i hi j hj => by
  rw [hcell _ (cell_lt hi hj (Nat.le_refl _))]
  have e1 : (i * P.cellsOf e + j) / P.cellsOf e = i := by rw [Nat.mul_comm, Nat.mul_add_div hsz, Nat.div_eq_of_lt hj, Nat.add_zero]
  have e2 : (i * P.cellsOf e + j) % P.cellsOf e = j := by rw [Nat.mul_comm, Nat.mul_add_mod, Nat.mod_eq_of_lt hj]
  rw [e1, e2]
 have hgd : ∀ i j, i < len → rowsG ((List.range (P.cellsOf e)).map (zc P 12 e)) l i j = lstG (l.getD i []) j := fun i j hi => rowsG_lt (by omega)
 have hne : (alloc_ext w (.cells cells e)).1 = (alloc_ext w (.cells cells e)).1 := rfl
 obtain ⟨q1, q2, q3⟩ := freshRow (W := w.alloc (.cells cells e)) (bl := w.heap.size) (cap := len) (n := len) (sz := P.cellsOf e) (g := rowsG ((List.range (P.cellsOf e)).map (zc P 12 e)) l) (Fs := Fs) (FB := F) hT.inv (alloc_ext w _) (Nat.le_refl _) (by rw [alloc_heap]; simp) (Nat.le_refl _) hsz
  (fun k hk => ⟨⟨cells.getD k undef, by rw [alloc_cell]; exact hget k hk, by
   obtain ⟨d1, d2, d3⟩ := div_lt hsz hk
   have := (h3 (k / P.cellsOf e) (by omega) (k % P.cellsOf e) d2).1
   rw [hcell k hk]; exact this⟩, alloc_froz ..⟩)
  (fun i hi j hj => ⟨_, by rw [alloc_cell]; exact hget _ (cell_lt hi hj (Nat.le_refl _)), by rw [helt i hi j hj, hgd i j hi]; exact (h3 i (by omega) j hj).2⟩)
  (fun i j b o hi hj hb => h1 i j b o (by omega) hj hb) (fun i j i' j' b o hi hj hi' hj' => h2 i j i' j' b o (by omega) hj (by omega) hj') (hT.free.mono fun x y hx => .inr hx)
 exact ⟨gh', _, _, _, hrun, q1, q2, q3⟩
theorem makeSlice_sound {t e : TypeId} {n m : Int} {k k' : IntKind} (h : Inv c gh nt st a w) (hu : P.underlying t = some (.slice e))
  (hk : (decide (0 ≤ n) && decide (m ≤ LIM) && decide (n ≤ m) && Nat.blt 0 (P.cellsOf e) && Nat.ble (((P.info? e).map (·.bytes)).getD LIM) 4096 && zOk P e) = true) :
  ∃ W F v, (Instr.makeSlice t (.int k n) (.int k' m)).run P w = .ok v W ∧ Inv c gh nt st a W ∧ Free c gh st.ar st.bx W F ∧ RO W c.sh (.own n.toNat (P.cellsOf e) (zg P e)) v F := by
 simp only [Bool.and_eq_true, decide_eq_true_eq] at hk
 obtain ⟨⟨⟨⟨⟨hk1, hk2⟩, hk3⟩, hk4⟩, hk5⟩, hk6⟩ := hk
 have hsz : 0 < P.cellsOf e := Nat.le_of_ble_eq_true hk4
 obtain ⟨i, z, hi, hz, hzs, his, hzf⟩ := zOk_spec hk6
 have hby : i.bytes ≤ 4096 := by
  have := Nat.le_of_ble_eq_true hk5
  simpa [hi] using this
 have hm : m ≤ 4294967296 := hk2
 have hbytes : (i.bytes : Int) * m ≤ 281474976710656 := by
  have h1 : (i.bytes : Int) * m ≤ 4096 * m := Int.mul_le_mul_of_nonneg_right (by omega) (by omega)
  omega
 have hrun := run_make (P := P) w t e i z hu hi hz k k' n m hk1 hk3 hbytes (by omega)
 rw [his] at hrun
 have hsize : (madeCells z.cells (m.toNat * P.cellsOf e)).size = m.toNat * P.cellsOf e := size_madeCells _ _
 have hget : ∀ x, x < m.toNat * P.cellsOf e → (madeCells z.cells (m.toNat * P.cellsOf e))[x]? = some (z.cells.getD (x % P.cellsOf e) undef) := fun x hx => by
  obtain ⟨d1, d2, d3⟩ := div_lt hsz hx
  have := zero_cell (i := x / P.cellsOf e) hzs d2
  rw [d3] at this
  simp only [madeCells, Array.getElem?_map, Array.getElem?_range, hx]
  simpa using this
 obtain ⟨q1, q2, q3⟩ := freshRow (W := w.alloc (.cells (madeCells z.cells (m.toNat * P.cellsOf e)) e)) (bl := w.heap.size) (cap := m.toNat) (n := n.toNat) (sz := P.cellsOf e) (g := zg P e) (Fs := fun _ _ _ _ => False) (FB := fun _ _ => False) h (alloc_ext w _) (Nat.le_refl _) (by rw [alloc_heap]; simp) (by omega) hsz
  (fun x hx => by
   obtain ⟨d1, d2, d3⟩ := div_lt hsz hx
   exact ⟨⟨_, by rw [alloc_cell]; exact hget x hx, (zFits_RO (w := w) (c := c) (hzf _ d2)).1⟩, alloc_froz ..⟩)
  (fun i hi j hj => by
   have := hget _ (cell_lt hi hj (show n.toNat ≤ m.toNat by omega))
   have e2 : (i * P.cellsOf e + j) % P.cellsOf e = j := by rw [Nat.mul_comm, Nat.mul_add_mod, Nat.mod_eq_of_lt hj]
   rw [e2] at this
   exact ⟨_, by rw [alloc_cell]; exact this, (zFits_RO (hzf j hj)).2⟩)
  (fun _ _ _ _ _ _ h => h) (fun _ _ _ _ _ _ _ _ _ _ _ h => h.elim) .none
 exact ⟨_, _, _, hrun, q1, q2, q3⟩
end
end Go.Fw
namespace Go.Fw
variable [Tok]
section
variable {c : Cx} {gh : Gh} {nt : Nat} {st : St} {a : Act} {w : World} {P : Program} {R : Type} {r : R}
def SrcR (w : World) (sh : AV → Value → Prop) (v : Value) (A : Arr) (Fs : Nat → Nat → Cells) : Prop :=
 ∃ ad cap, v = .slice ad A.n cap ∧ (A.n = 0 ∨ ∃ b, ad = some b ∧ b.spot = none ∧
  ∀ i, i < A.n → ∀ j, j < A.sz → ∃ u, cellAt w b.block (b.off + (i * A.sz + j)) = some u ∧ u.oneCell' = true ∧ RO w sh (A.g i j) u (Fs i j))
theorem RO_noOwn {sh : AV → Value → Prop} {x : AV} {u : Value} {F : Cells} (h : RO w sh x u F) : RO w sh x.noOwn u (fun _ _ => False) := by
 cases x <;> first | exact h | trivial
theorem SrcR.ofRO {sh : AV → Value → Prop} {n sz : Nat} {g : Nat → Nat → AV} {v : Value} {F : Cells} (h : RO w sh (.own n sz g) v F) :
  0 < sz ∧ ∃ Fs : Nat → Nat → Cells, SrcR w sh v ⟨n, sz, g⟩ Fs ∧ (∀ i j b o, i < n → j < sz → Fs i j b o → F b o) ∧ (∀ i j i' j' b o, i < n → j < sz → i' < n → j' < sz → ¬ (i = i' ∧ j = j') → Fs i j b o → ¬ Fs i' j' b o) := by
 obtain ⟨A, cap, rfl, h1, h2, h3⟩ := h
 refine ⟨h2, ?_⟩
 rcases h3 with h3 | ⟨ad, rfl, hs, hc, Fs, f1, f2, f3⟩
 · exact ⟨fun _ _ _ _ => False, ⟨A, cap, rfl, .inl (by show n = 0; omega)⟩, fun _ _ _ _ _ _ h => h.elim, fun _ _ _ _ _ _ _ _ _ _ _ h => h.elim⟩
 · refine ⟨Fs, ⟨_, cap, rfl, .inr ⟨ad, rfl, hs, fun i hi j hj => ?_⟩⟩, fun i j b o hi hj hb => (f1 i j b o hi hj hb).1, f2⟩
   obtain ⟨u, hu, hr⟩ := f3 i hi j hj
   obtain ⟨u', hu', ho⟩ := (hc _ (cell_lt hi hj h1)).2.1
   rw [hu] at hu'
   obtain rfl := Option.some.inj hu'
   exact ⟨u, hu, ho, hr⟩
theorem SrcR.noOwn {sh : AV → Value → Prop} {n sz : Nat} {g : Nat → Nat → AV} {v : Value} {Fs : Nat → Nat → Cells} (h : SrcR w sh v ⟨n, sz, g⟩ Fs) : SrcR w sh v ⟨n, sz, fun i j => (g i j).noOwn⟩ (fun _ _ _ _ => False) := by
 obtain ⟨ad, cap, rfl, h⟩ := h
 refine ⟨ad, cap, rfl, h.imp (fun h => h) fun ⟨b, e, hs, hc⟩ => ⟨b, e, hs, fun i hi j hj => ?_⟩⟩
 obtain ⟨u, h1, h2, h3⟩ := hc i hi j hj
 exact ⟨u, h1, h2, RO_noOwn h3⟩
theorem RS_RO {x : AV} {u : Value} {F : Cells} (hr : RS c.w0 c.ok x u) : RO w c.sh x u F := by
 cases x <;> first | exact hr | exact hr.elim | trivial
theorem SrcR.ofRS {n sz : Nat} {g : Nat → Nat → AV} {A : Option Addr} {cap : Nat} (h : Inv c gh nt st a w)
  (h2 : n = 0 ∨ ∃ a, A = some a ∧ a.spot = none ∧ ∀ i, i < n → ∀ j, j < sz → c.ok a.block (a.off + (i * sz + j)) ∧ ∃ u, cellAt c.w0 a.block (a.off + (i * sz + j)) = some u ∧ RS c.w0 c.ok (g i j) u) :
  SrcR w c.sh (.slice A n cap) ⟨n, sz, g⟩ (fun _ _ _ _ => False) := by
 refine ⟨A, cap, rfl, h2.imp (fun h => h) fun ⟨b, e, hs, hc⟩ => ⟨b, e, hs, fun i hi j hj => ?_⟩⟩
 obtain ⟨hok, u, hu, hr⟩ := hc i hi j hj
 refine ⟨u, by rw [(h.mem.keep _ _ hok.1 hok.2).1]; exact hu, RS_oneCell hr, ?_⟩
 exact RS_RO hr
theorem rows_src {y : AV} {v : Value} {A : Arr} (h : Inv c gh nt st a w) (e : st.rowsOf y = some A) (hy : TR c.sh gh st.ar st.bx w y v) :
  SrcR w c.sh v ⟨A.n, A.sz, fun i j => (A.g i j).noOwn⟩ (fun _ _ _ _ => False) := by
 cases y with
 | nsl sz g =>
  simp only [St.rowsOf, Option.some.injEq] at e; subst e
  have hy' : v = .slice none 0 0 := hy
  exact ⟨_, _, hy', .inl rfl⟩
 | sl n sz g =>
  simp only [St.rowsOf, Option.some.injEq] at e; subst e
  obtain ⟨A, cap, rfl, h1, h2⟩ := hy
  exact (SrcR.ofRS h h2).noOwn
 | sln n sz g =>
  simp only [St.rowsOf, Option.some.injEq] at e; subst e
  obtain ⟨A, cap, rfl, h1, h2⟩ := hy
  exact (SrcR.ofRS h h2).noOwn
 | gv bs =>
  simp only [St.rowsOf, Option.some.injEq] at e; subst e
  obtain ⟨A, cap, rfl, h1, h2⟩ := RS_gv hy
  exact (SrcR.ofRS h h2).noOwn
 | rf id =>
  have e' : st.ar id = some A := e
  rw [hy A e']
  obtain ⟨_, Fs, h1, _⟩ := SrcR.ofRO (h.mem.rows id A e')
  exact h1.noOwn
 | rs id p m =>
  simp only [St.rowsOf, Option.map_eq_some_iff] at e
  obtain ⟨B, hB, rfl⟩ := e
  obtain ⟨h1, A', rfl, h2⟩ := hy B hB
  obtain ⟨_, Fs, h1, _⟩ := SrcR.ofRO (RO_cut (h.mem.rows id B hB) h1 h2)
  exact h1.noOwn
 | rn id p =>
  simp only [St.rowsOf] at e
  split at e
  · rename_i n sz g hm
    obtain ⟨B, hB, hat⟩ := Option.map_eq_some_iff.1 hm
    simp only [Option.some.injEq] at e; subst e
    obtain ⟨F', hr, _⟩ := RO_path p (h.mem.rows id B hB) hat (hy B n sz g hB hat)
    obtain ⟨_, Fs, h1, _⟩ := SrcR.ofRO hr
    exact h1.noOwn
  · simp at e
 | _ => simp [St.rowsOf] at e
theorem giveR_sound {e : TypeId} {y : AV} {v : Value} {B : Arr} {st1 : St} (h : Inv c gh nt st a w) (he : st.giveR P e y = some (B, st1)) (hy : TR c.sh gh st.ar st.bx w y v) :
  0 < B.sz ∧ ∃ gh1 FB Fs, Inv c gh1 nt st1 a w ∧ Free c gh1 st1.ar st1.bx w FB ∧ Holds c gh gh1 st st1 w ∧ SrcR w c.sh v B Fs ∧
   (∀ i j b o, i < B.n → j < B.sz → Fs i j b o → FB b o) ∧ (∀ i j i' j' b o, i < B.n → j < B.sz → i' < B.n → j' < B.sz → ¬ (i = i' ∧ j = j') → Fs i j b o → ¬ Fs i' j' b o) := by
 unfold St.giveR at he
 cases hs : scalT P e with
 | true =>
  rw [hs] at he
  simp only [cond_true] at he
  split at he
  · rename_i A hA
    cases hb : Nat.blt 0 A.sz with
    | false => rw [hb] at he; simp at he
    | true =>
     rw [hb] at he
     simp only [cond_true, Option.some.injEq, Prod.mk.injEq] at he
     obtain ⟨rfl, rfl⟩ := he
     exact ⟨Nat.le_of_ble_eq_true hb, gh, fun _ _ => False, fun _ _ _ _ => False, h, .none, .refl, rows_src h hA hy, fun _ _ _ _ _ _ h => h, fun _ _ _ _ _ _ _ _ _ _ _ h => h.elim⟩
  · simp at he
 | false =>
  rw [hs] at he
  simp only [cond_false] at he
  split at he
  · rename_i n sz g st' ht
    simp only [Option.some.injEq, Prod.mk.injEq] at he
    obtain ⟨rfl, rfl⟩ := he
    obtain ⟨gh1, F, hT⟩ := takeC_sound h (FL := fun _ _ => False) .none hy ht
    obtain ⟨h0, Fs, h1, h2, h3⟩ := SrcR.ofRO hT.own
    exact ⟨h0, gh1, F, Fs, hT.inv, hT.free.mono fun x y hx => .inr hx, hT.holds, h1, h2, h3⟩
  · rename_i n sz g st' ht
    cases hb : Nat.blt 0 sz with
    | false => rw [hb] at he; simp at he
    | true =>
     rw [hb] at he
     simp only [cond_true, Option.some.injEq, Prod.mk.injEq] at he
     obtain ⟨rfl, rfl⟩ := he
     obtain ⟨gh1, F, hT⟩ := takeC_sound h (FL := fun _ _ => False) .none hy ht
     obtain ⟨A, cap, rfl, h1, h2⟩ := hT.own
     exact ⟨Nat.le_of_ble_eq_true hb, gh1, fun _ _ => False, fun _ _ _ _ => False, hT.inv, .none, hT.holds, SrcR.ofRS hT.inv h2, fun _ _ _ _ _ _ h => h, fun _ _ _ _ _ _ _ _ _ _ _ h => h.elim⟩
  · simp at he
theorem SrcR.src {sh : AV → Value → Prop} {v : Value} {B : Arr} {Fs : Nat → Nat → Cells} {tx e' : TypeId} (hk : P.underlying tx = some (.slice e')) (hsz : 0 < B.sz) (h : SrcR w sh v B Fs) :
  ∃ news : List Value, Src P B.sz tx v B.n news w ∧ news.length = B.n * B.sz ∧ (∀ i, i < B.n → ∀ j, j < B.sz → RO w sh (B.g i j) (news.getD (i * B.sz + j) undef) (Fs i j)) ∧ ∀ k, k < news.length → (news.getD k undef).oneCell' = true := by
 obtain ⟨ad, cap, rfl, h⟩ := h
 by_cases hn : B.n = 0
 · refine ⟨[], ?_, by simp [hn], fun i hi => by omega, fun k hk => by simp at hk⟩
   rw [hn]
   cases ad with
   | none => exact Src.ofNil w hk cap
   | some b => exact Src.ofSlice w hk b 0 cap [] (by simp) (fun j u h => by simp at h) (fun u h => by cases h)
 · rcases h with h | ⟨b, rfl, hs, hc⟩
   · exact absurd h hn
   · have hcell : ∀ k, k < B.n * B.sz → ∃ u, cellAt w b.block (b.off + k) = some u ∧ u.oneCell' = true := fun k hk => by
      obtain ⟨d1, d2, d3⟩ := div_lt hsz hk
      obtain ⟨u, hu, ho, _⟩ := hc _ d1 _ d2
      rw [d3] at hu
      exact ⟨u, hu, ho⟩
     have hg : ∀ k, k < B.n * B.sz → ((List.range (B.n * B.sz)).map fun k => (cellAt w b.block (b.off + k)).getD undef)[k]? = cellAt w b.block (b.off + k) := fun k hk => by
      obtain ⟨u, hu, _⟩ := hcell k hk
      simp [hk, hu]
     refine ⟨(List.range (B.n * B.sz)).map fun k => (cellAt w b.block (b.off + k)).getD undef, Src.ofSlice w hk b B.n cap _ (by simp) (fun j u hj => ?_) (fun u hu => ?_), by simp, fun i hi j hj => ?_, fun k hk => ?_⟩
     · have hlt : j < B.n * B.sz := by
        have := (List.getElem?_eq_some_iff.1 hj).1
        simpa using this
       rw [hg j hlt] at hj
       rw [add_eq hs]; exact hj
     · obtain ⟨k, hk, rfl⟩ := List.mem_map.1 hu
       obtain ⟨u, hu, ho⟩ := hcell k (by simpa using hk)
       rw [hu]; exact ho
     · obtain ⟨u, hu, ho, hr⟩ := hc i hi j hj
       rw [List.getD_eq_getElem?_getD, hg _ (cell_lt hi hj (Nat.le_refl _)), hu]
       exact hr
     · obtain ⟨u, hu, ho⟩ := hcell k (by simpa using hk)
       rw [List.getD_eq_getElem?_getD, hg k (by simpa using hk), hu]; exact ho
theorem srcK_sound {e tx : TypeId} {y : AV} {v : Value} {B : Arr} {st1 : St} (h : Inv c gh nt st a w) (he : srcK P st tx e y = some (B, st1)) (hy : TR c.sh gh st.ar st.bx w y v) :
  0 < B.sz ∧ ∃ (gh1 : Gh) (FB : Cells) (Fs : Nat → Nat → Cells), Inv c gh1 nt st1 a w ∧ Free c gh1 st1.ar st1.bx w FB ∧ Holds c gh gh1 st st1 w ∧
   (∃ news : List Value, Src P B.sz tx v B.n news w ∧ news.length = B.n * B.sz ∧ (∀ i, i < B.n → ∀ j, j < B.sz → RO w c.sh (B.g i j) (news.getD (i * B.sz + j) undef) (Fs i j)) ∧ ∀ k, k < news.length → (news.getD k undef).oneCell' = true) ∧
   (∀ i j b o, i < B.n → j < B.sz → Fs i j b o → FB b o) ∧ (∀ i j i' j' b o, i < B.n → j < B.sz → i' < B.n → j' < B.sz → ¬ (i = i' ∧ j = j') → Fs i j b o → ¬ Fs i' j' b o) := by
 unfold srcK at he
 split at he
 · rename_i e' hk
   obtain ⟨h0, gh1, FB, Fs, h1, h2, h3, h4, h5, h6⟩ := giveR_sound h he hy
   exact ⟨h0, gh1, FB, Fs, h1, h2, h3, h4.src hk h0, h5, h6⟩
 · rename_i hk
   split at he
   · rename_i s
     simp only [Option.some.injEq, Prod.mk.injEq] at he
     obtain ⟨rfl, rfl⟩ := he
     have hv : v = .string s := hy
     subst hv
     refine ⟨Nat.one_pos, gh, fun _ _ => False, fun _ _ _ _ => False, h, .none, .refl, ⟨byteCells s, Src.ofString w hk s, by rw [byteCells_length]; simp, fun i hi j hj => ?_, fun k hk' => ?_⟩, fun _ _ _ _ _ _ h => h, fun _ _ _ _ _ _ _ _ _ _ _ h => h.elim⟩
     · have hj0 : j = 0 := by have : j < 1 := hj; omega
       subst hj0
       have hi' : i < s.data.toList.length := by have : i < s.size := hi; simpa using this
       show (byteCells s).getD (i * 1 + 0) undef = .int .u8 ((s[i]?).getD 0).toNat
       have e1 : s[i]? = some s.data.toList[i] := by
        have hs : i < s.size := hi
        rw [getElem?_pos s i hs]
        rfl
       rw [e1]
       unfold byteCells
       rw [Nat.mul_one, Nat.add_zero, List.getD_eq_getElem?_getD, List.getElem?_map, List.getElem?_eq_getElem hi']
       rfl
     · have : k < (byteCells s).length := hk'
       rw [List.getD_eq_getElem?_getD, List.getElem?_eq_getElem this, Option.getD_some]
       exact (Src.ofString w hk s).one _ (List.getElem_mem this)
   · simp at he
 · simp at he
theorem Inv.chgFree {W : World} {D FL : Cells} (h : Inv c gh nt st a w) (hC : Chg w W D) (hD : ∀ b o, D b o → FL b o) (hF : Free c gh st.ar st.bx w FL) : Inv c gh nt st a W ∧ Free c gh st.ar st.bx W FL := by
 have hag : ∀ r, live st.ar st.bx r → Agree w W (fp gh st.bx r) := fun r hl b o hf => hC.cell b o (h.mem.mine r b o hl hf).1 fun hd => (hF b o (hD b o hd)).1 r hl hf
 have hT : ∀ x v, TR c.sh gh st.ar st.bx w x v → TR c.sh gh st.ar st.bx W x v := fun x v t => TR_congr h.mem.rows (fun id A eA => hag (.inl id) (by simp [live, eA])) x t
 refine ⟨⟨h.defers, h.size, fun t => hT _ _ (h.temps t), ?_, h.fix⟩, fun x y hx => ⟨(hF x y hx).1, Nat.lt_of_lt_of_le (hF x y hx).2.1 hC.size, (hF x y hx).2.2⟩⟩
 refine h.mem.gen (D := D) (G := D) (fun _ => False) hC (fun b o hd => .inr hd) (fun x y hd => ⟨fun r _ hl => (hF x y (hD x y hd)).1 r hl, Nat.lt_of_lt_of_le (hF x y (hD x y hd)).2.1 hC.size, (hF x y (hD x y hd)).2.2⟩) ?_ ?_ ?_ ?_ ?_ ?_
 · intro id A _ e; exact ⟨e, rfl, rfl⟩
 · intro b sz g _ e; exact ⟨g, e, rfl, fun o _ v _ t => hT _ _ t⟩
 · intro _ _ h; exact h.elim
 · intro _ _ _ h; exact h.elim
 · intro _ _ _ h; exact h.elim
 · intro _ _ _ _ h; exact h.elim
end
end Go.Fw
