/- The by-value interpreter: what a function gives. -/
import Derived.Test.YtkhfkekbfjkpcaaFxC
set_option linter.unusedVariables false
set_option linter.unusedSectionVars false
set_option linter.unusedSimpArgs false
namespace Go.Fw
variable [Tok]

theorem ow_ow (x : AV) : x.ow.ow = x.ow := by
  induction x with
  | own n sz g ih => simp only [AV.ow]; congr 1; funext i; exact tabG_congr fun j hj => by rw [tabG_lt hj]; exact ih i j
  | ag sz g ih => simp only [AV.ow]; congr 1; exact tabG_congr fun j hj => by rw [tabG_lt hj]; exact ih j
  | nbx sz g ih => simp only [AV.ow]; congr 1; exact tabG_congr fun j hj => by rw [tabG_lt hj]; exact ih j
  | tup sz g ih => simp only [AV.ow]; congr 1; exact tabG_congr fun j hj => by rw [tabG_lt hj]; exact ih j
  | _ => rfl

theorem asG_ow (y : AV) (i j : Nat) : ∃ z : AV, asG y.ow i j = z.ow := by
  cases y with
  | own n sz g =>
    simp only [AV.ow, asG]
    by_cases hj : j < sz
    · exact ⟨g i j, tabG_lt hj⟩
    · exact ⟨.bad, tabG_ge hj⟩
  | _ => exact ⟨.bad, rfl⟩

theorem like_ow (x : AV) : ∀ y : AV, (x.like y.ow).ow = x.like y.ow := by
  induction x with
  | own n sz g ih =>
    intro y
    have hi : ∀ i, tabG sz (fun j => (tabG sz (fun j => (g 0 j).like (asG y.ow i j)) j).ow) = tabG sz (fun j => (g 0 j).like (asG y.ow i j)) := fun i => tabG_congr fun j hj => by
      obtain ⟨z, hz⟩ := asG_ow y i j
      rw [tabG_lt hj, hz]; exact ih 0 j z
    show AV.own (asN y.ow) sz (fun i => tabG sz (fun j => (tabG sz (fun j => (g 0 j).like (asG y.ow i j)) j).ow)) = AV.own (asN y.ow) sz (fun i => tabG sz (fun j => (g 0 j).like (asG y.ow i j)))
    exact congrArg _ (funext hi)
  | _ => intro y; rfl

theorem like_like (x : AV) : ∀ y : AV, x.like (x.like y) = x.like y := by
  induction x with
  | own n sz g ih =>
    intro y
    have hi : ∀ i, tabG sz (fun j => (g 0 j).like (tabG sz (fun j => (g 0 j).like (asG y i j)) j)) = tabG sz (fun j => (g 0 j).like (asG y i j)) := fun i => tabG_congr fun j hj => by rw [tabG_lt hj]; exact ih 0 j _
    show AV.own (asN y) sz (fun i => tabG sz (fun j => (g 0 j).like (tabG sz (fun j => (g 0 j).like (asG y i j)) j))) = AV.own (asN y) sz (fun i => tabG sz (fun j => (g 0 j).like (asG y i j)))
    exact congrArg _ (funext hi)
  | _ => intro y; rfl

section
variable {c : Cx} {gh : Gh} {nt : Nat} {st : St} {a : Act} {w : World} {P : Program} {R : Type} {r : R}

theorem vwC_ow : ∀ (d : Nat) (t : TypeId) (z : AV), vwC P d t ((vwC P d t z).ow) = (vwC P d t z).ow := by
  intro d
  induction d with
  | zero =>
    intro t z
    cases hu : P.underlying t with
    | none => simp only [vwC, hu, AV.ow]
    | some ty => cases ty <;> simp only [vwC, hu, AV.ow, asI, asB, asS]
  | succ d ih =>
    intro t z
    cases hu : P.underlying t with
    | none => simp only [vwC, hu, AV.ow]
    | some ty =>
      cases ty with
      | slice e =>
        have hi : ∀ i, tabG (P.cellsOf e) (fun j => vwC P d (cellT P 12 e j) (tabG (P.cellsOf e) (fun j => (tabG (P.cellsOf e) (fun j => vwC P d (cellT P 12 e j) (asG z i j)) j).ow) j)) =
            tabG (P.cellsOf e) (fun j => (tabG (P.cellsOf e) (fun j => vwC P d (cellT P 12 e j) (asG z i j)) j).ow) := fun i =>
          tabG_congr fun j hj => by rw [tabG_lt hj, tabG_lt hj]; exact ih _ _
        simp only [vwC, hu, AV.ow, asN, asG]
        exact congrArg _ (funext hi)
      | _ => simp only [vwC, hu, AV.ow, asI, asB, asS]

theorem vwP_ow (t : TypeId) (z : AV) : vwP P t ((vwP P t z).ow) = (vwP P t z).ow := by
  unfold vwP
  cases bytT P t with
  | true => rfl
  | false => exact vwC_ow 4 t z
theorem vwA_ow (t : TypeId) (z : AV) : vwA P t ((vwA P t z).ow) = (vwA P t z).ow := by
  have hC := @vwC_ow _ P 4
  unfold vwA
  cases hu : P.underlying t with
  | none => exact hC t z
  | some d =>
    cases d <;> first | exact hC t z | (simp only [AV.ow, asA]; congr 1; exact tabG_congr fun j hj => by rw [tabG_lt hj, tabG_lt hj]; first | exact hC _ _ | exact vwP_ow _ _)

theorem vwR_ow (ts : List TypeId) (z : AV) : vwR P ts ((vwR P ts z).ow) = (vwR P ts z).ow := by
  unfold vwR
  split
  · exact vwA_ow _ z
  · simp only [AV.ow, asA]; congr 1; exact tabG_congr fun j hj => by rw [tabG_lt hj, tabG_lt hj]; exact vwA_ow _ _

theorem vwS_RO {w0 : World} {ok : Cells} {d : Nat} {t : TypeId} {y : AV} {v : Value} {F : Cells} (hk : okS P t y = true) (h : RO w (RS w0 ok) y v F) : RO w (RS w0 ok) (vwC P d t y) v F := by
  unfold okS at hk
  split at hk
  · rename_i k k' n hu
    have := eq_of_beq hk
    subst this
    cases d <;> simp only [vwC, hu] <;> exact h
  · rename_i hu; cases d <;> simp only [vwC, hu] <;> exact h
  · rename_i hu; cases d <;> simp only [vwC, hu] <;> exact h
  · simp at hk
theorem vwC_RO {w0 : World} {ok : Cells} : ∀ (d : Nat) {t : TypeId} {y : AV} {v : Value} {F : Cells}, okC P d t y = true → RO w (RS w0 ok) y v F → RO w (RS w0 ok) (vwC P d t y) v F := by
  intro d
  induction d with
  | zero => intro t y v F hk h; exact vwS_RO hk h
  | succ d ih =>
    intro t y v F hk h
    simp only [okC] at hk
    split at hk
    · rename_i e hu
      split at hk
      · rename_i n sz g
        rw [Bool.and_eq_true] at hk
        have hs := beq_eq.1 hk.1
        subst hs
        have hall := @of_decide_eq_true _ (Classical.propDecidable _) hk.2
        simp only [vwC, hu, asN, asG]
        obtain ⟨A, cap, rfl, h1, h2, h3⟩ := h
        refine ⟨A, cap, rfl, h1, h2, h3.imp (fun h => h) fun ⟨a, e1, hs, hc, Fs, f1, f2, f3⟩ => ⟨a, e1, hs, hc, Fs, f1, f2, fun i hi j hj => ?_⟩⟩
        obtain ⟨u, hu', hr⟩ := f3 i hi j hj
        refine ⟨u, hu', ?_⟩
        show RO w (RS w0 ok) (tabG (P.cellsOf e) (fun j => vwC P d (cellT P 12 e j) (g i j)) j) u (Fs i j)
        rw [tabG_lt hj]
        exact ih (List.all_eq_true.1 (hall i) j (by simpa using hj)) hr
      · simp at hk
    · exact vwS_RO hk h

theorem okS_not {t : TypeId} {y : AV} (hk : okS P t y = true) : (∀ sz g, y ≠ .ag sz g) ∧ (∀ sz g, y ≠ .nbx sz g) ∧ ∀ n g, y ≠ .tup n g := by
  unfold okS at hk
  split at hk <;> simp at hk ⊢
theorem okC_not {d : Nat} {t : TypeId} {y : AV} (hk : okC P d t y = true) : (∀ sz g, y ≠ .ag sz g) ∧ (∀ sz g, y ≠ .nbx sz g) ∧ ∀ n g, y ≠ .tup n g := by
  cases d with
  | zero => exact okS_not hk
  | succ d =>
    simp only [okC] at hk
    split at hk
    · split at hk
      · simp
      · simp at hk
    · exact okS_not hk
theorem vwC_not (d : Nat) (t : TypeId) (y : AV) : (∀ sz g, vwC P d t y ≠ .ag sz g) ∧ (∀ sz g, vwC P d t y ≠ .nbx sz g) ∧ ∀ n g, vwC P d t y ≠ .tup n g := by
  cases d <;> unfold vwC <;> split <;> simp

theorem vwP_RO {w0 : World} {ok : Cells} {t : TypeId} {y : AV} {v : Value} {F : Cells} (hk : okP P t y = true) (h : RO w (RS w0 ok) y v F) : RO w (RS w0 ok) (vwP P t y) v F := by
  unfold okP at hk
  unfold vwP
  cases hb : bytT P t with
  | true =>
    rw [hb] at hk
    cases y <;> first | exact h | (simp [isGv] at hk)
  | false =>
    rw [hb] at hk
    exact vwC_RO 4 hk h
theorem vwA_RV {w0 : World} {ok : Cells} {t : TypeId} {y : AV} {v : Value} {F : Cells} (hk : okA P t y = true) (h : RV w (RS w0 ok) y v F) : RV w (RS w0 ok) (vwA P t y) v F := by
  have hC : okC P 4 t y = true → RV w (RS w0 ok) (vwC P 4 t y) v F := fun hk => by
    obtain ⟨n1, n2, _⟩ := okC_not hk
    have hro : RO w (RS w0 ok) y v F := by
      cases y <;> first | exact h | exact absurd rfl (n1 _ _) | exact absurd rfl (n2 _ _)
    exact RV.of_RO (vwC_RO 4 hk hro) (vwC_not 4 t y).1 (vwC_not 4 t y).2.1
  unfold okA at hk
  unfold vwA
  cases hu : P.underlying t with
  | none => rw [hu] at hk; exact hC hk
  | some d =>
    rw [hu] at hk
    cases d with
    | struct fs =>
      simp only at hk ⊢
      split at hk
      · rename_i sz g
        rw [Bool.and_eq_true] at hk
        have hs := beq_eq.1 hk.1
        subst hs
        obtain ⟨vs, e, hsz, ho, Fs, h1, h2, h3⟩ := h
        exact ⟨vs, e, hsz, ho, Fs, h1, h2, fun j hj => by rw [tabG_lt hj]; exact vwC_RO 4 (List.all_eq_true.1 hk.2 j (by simpa using hj)) (h3 j hj)⟩
      · simp at hk
    | pointer el =>
      simp only at hk ⊢
      split at hk
      · rename_i sz g
        rw [Bool.and_eq_true] at hk
        have hs := beq_eq.1 hk.1
        subst hs
        obtain ⟨ad, e, hsp, hin, vs, hc, Fs, h1, h2, h3⟩ := h
        exact ⟨ad, e, hsp, hin, vs, hc, Fs, h1, h2, fun j hj => by rw [tabG_lt hj]; exact vwP_RO (List.all_eq_true.1 hk.2 j (by simpa using hj)) (h3 j hj)⟩
      · simp at hk
    | _ => exact hC hk

theorem RR_tup {w : World} {sh : AV → Value → Prop} {n : Nat} {g : Nat → AV} {v : Value} {F : Cells} (h : RR w sh (.tup n g) v F) : ∃ vs, v = .tuple vs ∧ vs.size = n ∧ ∃ Fs : Nat → Cells, (∀ j b o, j < n → Fs j b o → F b o) ∧ (∀ j k b o, j < n → k < n → j ≠ k → Fs j b o → ¬ Fs k b o) ∧
      ∀ j, j < n → RV w sh (g j) (vs.getD j undef) (Fs j) := h

theorem RV_RR {w : World} {sh : AV → Value → Prop} {x : AV} {v : Value} {F : Cells} (h : RV w sh x v F) (hn : ∀ n g, x ≠ .tup n g) : RR w sh x v F := by
  cases x <;> first | exact h | exact absurd rfl (hn _ _)

theorem vwA_not_tup (t : TypeId) (y : AV) : ∀ n g, vwA P t y ≠ .tup n g := by
  intro n g
  unfold vwA
  split
  · simp
  · simp
  · exact (vwC_not 4 t y).2.2 n g

theorem okA_not_tup {t : TypeId} {y : AV} (hk : okA P t y = true) : ∀ n g, y ≠ .tup n g := by
  rintro n g rfl
  unfold okA at hk
  cases hu : P.underlying t with
  | none => rw [hu] at hk; exact (okC_not hk).2.2 n g rfl
  | some d =>
    rw [hu] at hk
    cases d with
    | struct fs => simp at hk
    | pointer el => simp at hk
    | _ => exact (okC_not hk).2.2 n g rfl

theorem vwR_RR {w0 : World} {ok : Cells} {ts : List TypeId} {y : AV} {v : Value} {F : Cells} (hk : okR P ts y = true) (h : RR w (RS w0 ok) y v F) : RR w (RS w0 ok) (vwR P ts y) v F := by
  unfold okR at hk
  unfold vwR
  split at hk
  · rename_i t
    have hn := okA_not_tup hk
    have hv : RV w (RS w0 ok) y v F := (not_tup hn (st := ⟨fun _ => .bad, fun _ => none, fun _ => none⟩) (base := 0)).1 h
    exact RV_RR (vwA_RV hk hv) (vwA_not_tup t y)
  · rename_i hts
    split at hk
    · rename_i n g
      rw [Bool.and_eq_true] at hk
      have hn := beq_eq.1 hk.1
      subst hn
      obtain ⟨vs, e, hs, Fs, h1, h2, h3⟩ := RR_tup h
      exact ⟨vs, e, hs, Fs, h1, h2, fun j hj => by rw [tabG_lt hj]; exact vwA_RV (List.all_eq_true.1 hk.2 j (by simpa using hj)) (h3 j hj)⟩
    · simp at hk

theorem like_RO {w0 w1 : World} {ok ok1 : Cells} (ht : RS w1 ok1 (.gv Tok.bs) Tok.val) (x : AV) : ∀ {y : AV} {v : Value} {F : Cells}, x.fit y = true → RO w (RS w0 ok) y v F → RO w (RS w1 ok1) (x.like y.ow) v F := by
  induction x with
  | I k n =>
    intro y v F hk h
    cases y with
    | I k' m => have := eq_of_beq hk; subst this; exact h
    | _ => simp [AV.fit] at hk
  | B b => intro y v F hk h; cases y <;> first | exact h | simp [AV.fit] at hk
  | S b => intro y v F hk h; cases y <;> first | exact h | simp [AV.fit] at hk
  | nlp => intro y v F hk h; cases y <;> first | exact h | simp [AV.fit] at hk
  | gv bs => intro y v F hk h; cases y <;> first | exact RO_ow ht (.gv _) h | simp [AV.fit] at hk
  | own n s g ih =>
    intro y v F hk h
    cases y with
    | own n' s' g' =>
      simp only [AV.fit, Bool.and_eq_true] at hk
      have hs := beq_eq.1 hk.1
      subst hs
      have hall := @of_decide_eq_true _ (Classical.propDecidable _) hk.2
      obtain ⟨A, cap, rfl, h1, h2, h3⟩ := h
      refine ⟨A, cap, rfl, h1, h2, h3.imp (fun h => h) fun ⟨a, e1, hs, hc, Fs, f1, f2, f3⟩ => ⟨a, e1, hs, hc, Fs, f1, f2, fun i hi j hj => ?_⟩⟩
      obtain ⟨u, hu', hr⟩ := f3 i hi j hj
      refine ⟨u, hu', ?_⟩
      show RO w (RS w1 ok1) (tabG s (fun j => (g 0 j).like (tabG s (fun j => (g' i j).ow) j)) j) u (Fs i j)
      rw [tabG_lt hj, tabG_lt hj]
      exact ih 0 j (List.all_eq_true.1 (hall i) j (by simpa using hj)) hr
    | _ => simp [AV.fit] at hk
  | _ => intro y v F hk h; trivial

def resF (tmps : Array Value) : ResultVar → Sem Value
  | .tmp t => pure (tmps.getD t undef)
  | .cell d t => do loadVar t (← asAddr (tmps.getD d undef))
theorem results_eq (fn : Func) (tmps : Array Value) : results fn tmps = (do
    let vs ← fn.results.mapM (resF tmps)
    pure (if h : vs.size = 1 then vs[0] else .tuple vs)) := by
  unfold results
  congr 1

theorem resOf_sound (h : Inv c gh nt st a w) : ∀ (l : List ResultVar) {xs : List AV}, resOf P st l = some xs →
    ∃ vs : List Value, (l.mapM (resF a.tmps)).run P w = .ok vs w ∧ vs.length = xs.length ∧ ∀ j, j < xs.length → TR c.sh gh st.ar st.bx w (lstG xs j) (vs.getD j undef) := by
  intro l
  induction l with
  | nil => intro xs e; simp only [resOf, Option.some.injEq] at e; subst e; exact ⟨[], by simp, rfl, fun j hj => absurd hj (by simp)⟩
  | cons x l ih =>
    intro xs e
    cases x with
    | tmp t =>
      simp only [resOf] at e
      split at e
      · rename_i ys hy
        simp only [Option.some.injEq] at e; subst e
        obtain ⟨vs, h1, h2, h3⟩ := ih hy
        refine ⟨a.tmps.getD t undef :: vs, ?_, by simp [h2], fun j hj => ?_⟩
        · simp only [List.mapM_cons, resF, Sem.run_bind, Sem.run_pure, Result.andThen_ok, h1]
        · cases j with
          | zero => exact h.temps t
          | succ j => exact h3 j (by simpa using hj)
      · simp at e
    | cell d ty =>
      simp only [resOf] at e
      split at e
      · rename_i y hy
        split at e
        · rename_i ys hys
          simp only [Option.some.injEq] at e; subst e
          obtain ⟨vs, h1, h2, h3⟩ := ih hys
          obtain ⟨y', v, ey, hr, ht⟩ := loadK_sound h hy (h.temps d)
          obtain rfl := Option.some.inj ey
          refine ⟨v :: vs, ?_, by simp [h2], fun j hj => ?_⟩
          · have hr' : (do loadVar ty (← asAddr (a.tmps.getD d undef)) : Sem Value).run P w = .ok v w := by
              cases hv : a.tmps.getD d undef with
              | pointer p =>
                rw [hv] at hr
                cases p with
                | none => simp [Instr.loadAt, Instr.sureAddr] at hr
                | some ad => simpa [Instr.loadAt, Instr.sureAddr, asAddr] using hr
              | _ => rw [hv] at hr; simp [Instr.loadAt, Instr.sureAddr] at hr
            simp only [List.mapM_cons, resF, Sem.run_bind, Sem.run_pure, Result.andThen_ok] at hr' ⊢
            rw [hr']
            simp only [Result.andThen_ok, h1]
          · cases j with
            | zero => exact ht
            | succ j => exact h3 j (by simpa using hj)
        · simp at e
      · simp at e

end
end Go.Fw
