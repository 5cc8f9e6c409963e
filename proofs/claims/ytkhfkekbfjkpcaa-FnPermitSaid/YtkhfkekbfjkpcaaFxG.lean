/- The by-value interpreter is sound: what it answers, the model's machine does. -/
import Derived.Test.YtkhfkekbfjkpcaaFxF
import Derived.Test.YtkhfkekbfjkpcaaFxI
set_option linter.unusedVariables false
set_option linter.unusedSectionVars false
set_option linter.unusedSimpArgs false
namespace Go.Fw
variable [Tok]

theorem asA_ow (y : AV) (j : Nat) : ∃ z : AV, asA y.ow j = z.ow := by
  cases y with
  | ag sz g =>
    by_cases hj : j < sz
    · exact ⟨g j, tabG_lt hj⟩
    · exact ⟨.bad, tabG_ge hj⟩
  | nbx sz g =>
    by_cases hj : j < sz
    · exact ⟨g j, tabG_lt hj⟩
    · exact ⟨.bad, tabG_ge hj⟩
  | tup sz g =>
    by_cases hj : j < sz
    · exact ⟨g j, tabG_lt hj⟩
    · exact ⟨.bad, tabG_ge hj⟩
  | _ => exact ⟨.bad, rfl⟩

theorem likeE_norm (e y : AV) : e.likeE (e.likeE y.ow) = e.likeE y.ow ∧ (e.likeE y.ow).ow = e.likeE y.ow := by
  cases e with
  | own n sz g =>
    refine ⟨?_, ?_⟩
    · have h1 := like_like (.own n sz g) y.ow
      simp only [AV.like, asN, asG] at h1
      simp only [AV.likeE, asG]
      have h2 := congrArg asG h1
      simp only [asG] at h2
      rw [h2]
    · have h1 := like_ow (.own n sz g) y
      simp only [AV.like, AV.ow] at h1
      have h2 := congrArg asG h1
      simp only [asG] at h2
      show AV.own n sz (fun i => tabG sz (fun j => (tabG sz (fun j => (g 0 j).like (asG y.ow i j)) j).ow)) = AV.own n sz (fun i => tabG sz (fun j => (g 0 j).like (asG y.ow i j)))
      exact congrArg _ h2
  | nbx sz g =>
    have h1 : ∀ j, ((g j).like (asA y.ow j)).ow = (g j).like (asA y.ow j) := fun j => by
      obtain ⟨z, hz⟩ := asA_ow y j
      rw [hz]; exact like_ow _ _
    refine ⟨?_, ?_⟩
    · simp only [AV.likeE, asA]
      congr 1; exact tabG_congr fun j hj => by rw [tabG_lt hj]; exact like_like _ _
    · simp only [AV.likeE, AV.ow]
      congr 1; exact tabG_congr fun j hj => by rw [tabG_lt hj]; exact h1 j
  | _ => exact ⟨rfl, rfl⟩

theorem likeL_norm : ∀ (es ys : List AV), es.length = ys.length → (likeL es (ys.map AV.ow)).length = es.length ∧ likeL es (likeL es (ys.map AV.ow)) = likeL es (ys.map AV.ow) ∧ ∀ x, x ∈ likeL es (ys.map AV.ow) → x.ow = x := by
  intro es
  induction es with
  | nil => intro ys _; exact ⟨rfl, rfl, fun x hx => by simp [likeL] at hx⟩
  | cons e es ih =>
    intro ys h
    cases ys with
    | nil => simp at h
    | cons y ys =>
      obtain ⟨h1, h2, h3⟩ := ih ys (by simpa using h)
      obtain ⟨n1, n2⟩ := likeE_norm e y
      refine ⟨by simp [likeL, h1], by simp [likeL, n1, h2], fun x hx => ?_⟩
      rcases List.mem_cons.1 hx with rfl | hx
      · exact n2
      · exact h3 x hx

theorem likeG_norm (giv : Bool) (es ys : List AV) (h : es.length = ys.length) : (likeG giv es (ys.map AV.ow)).length = es.length ∧ likeG giv es (likeG giv es (ys.map AV.ow)) = likeG giv es (ys.map AV.ow) ∧ ∀ x, x ∈ likeG giv es (ys.map AV.ow) → x.ow = x := by
  cases giv with
  | true => exact ⟨by simp [likeG], rfl, fun x hx => by simp [likeG] at hx; obtain ⟨_, _, rfl⟩ := hx; rfl⟩
  | false => exact likeL_norm es ys h

section
variable {P : Program}

theorem tupAV_TR {sh : AV → Value → Prop} {gh : Gh} {ar : ArT} {bx : BxT} {w : World} {l : List AV} {vs : List Value} (h2 : vs.length = l.length) (h3 : ∀ j, j < l.length → TR sh gh ar bx w (lstG l j) (vs.getD j undef)) :
    TR sh gh ar bx w (tupAV l) (if h : vs.toArray.size = 1 then vs.toArray[0] else .tuple vs.toArray) := by
  match l, vs, h2, h3 with
  | [], [], _, _ => exact ⟨#[], rfl, rfl, fun j hj => absurd hj (by simp)⟩
  | [y], [v], _, h3 => exact h3 0 (by simp)
  | y :: z :: l, u :: v :: vs, h2, h3 =>
    have hn : ¬ (u :: v :: vs).toArray.size = 1 := by simp
    rw [dif_neg hn]
    refine ⟨_, rfl, by simpa using h2, fun j hj => ?_⟩
    have e1 : (u :: v :: vs).toArray.getD j undef = (u :: v :: vs).getD j undef := by simp [Array.getD_eq_getD_getElem?, List.getD_eq_getElem?_getD]
    rw [e1]; exact h3 j (by simpa using hj)

theorem finish_sound {giv : Bool} {c : Cx} {gh : Gh} {nt : Nat} {st : St} {a : Act} {w w1 : World} {ok1 : Cells} (ht1 : RS w1 ok1 (.gv Tok.bs) Tok.val) {fn : Func} {exts : List AV} {r : AV × List AV} {hv : Nat → Value} (hlim : exts.length ≤ c.lim) (hn : ∀ i x, exts[i]? = some x → NameOk c hv (0 + i) x)
    (h : Inv c gh nt st a w) (e : finish P giv fn exts st = some r) :
    ∃ (v : Value) (F : Cells) (Fe : Nat → Cells), (results fn a.tmps).run P w = .ok v w ∧ r.2.length = exts.length ∧ RR w (RS w1 ok1) (vwR P fn.resultTypes.toList r.1).ow v F ∧
      (∀ i x, (likeG giv exts (r.2.map AV.ow))[i]? = some x → RV w c.sh x (hv i) (Fe i)) ∧ (∀ i m b o, i < r.2.length → m < r.2.length → i ≠ m → Fe i b o → ¬ Fe m b o) ∧
      (∀ i b o, i < r.2.length → Fe i b o → ¬ F b o) ∧ (∀ i b o, i < r.2.length → Fe i b o → b < w.heap.size ∧ (b < c.w0.heap.size → c.M b o)) ∧ ∀ b o, F b o → b < w.heap.size ∧ (b < c.w0.heap.size → c.M b o) := by
  unfold finish at e
  split at e
  · rename_i l hl
    obtain ⟨vs, h1, h2, h3⟩ := resOf_sound h _ hl
    split at e
    · rename_i y st' ht
      cases hok : okR P fn.resultTypes.toList y with
      | false => rw [hok] at e; simp at e
      | true =>
        rw [hok] at e
        simp only [cond_true] at e
        split at e
        · rename_i es he
          simp only [Option.some.injEq] at e
          subst e
          -- the value
          obtain ⟨v, hv1, hv2⟩ : ∃ v, (results fn a.tmps).run P w = .ok v w ∧ TR c.sh gh st.ar st.bx w (tupAV l) v := by
            have hm : (fn.results.mapM (resF a.tmps)).run P w = .ok vs.toArray w := by
              rw [Array.mapM_eq_mapM_toList]
              simp only [map_eq_pure_bind, Sem.run_bind, h1, Result.andThen_ok, Sem.run_pure]
            refine ⟨if h : vs.toArray.size = 1 then vs.toArray[0] else .tuple vs.toArray, ?_, tupAV_TR h2 h3⟩
            rw [results_eq]
            simp only [Sem.run_bind]
            rw [hm]
            simp only [Result.andThen_ok, Sem.run_pure]
          obtain ⟨gh1, F, hT, hrr⟩ := takeR_sound (FL := fun _ _ => False) h .none hv2 ht
          cases giv with
          | true =>
            simp only [exOutG, cond_true, Option.some.injEq] at he
            subst he
            refine ⟨v, F, fun _ _ _ => False, hv1, by simp, RR_ow ht1 (vwR_RR hok hrr), fun i x hi => ?_, fun _ _ _ _ _ _ _ h => h.elim, fun _ _ _ _ h => h.elim, fun _ _ _ _ h => h.elim, fun b o hb => (hT.free b o (.inr hb)).2⟩
            have : x = .bad := by
              simp only [likeG, cond_true, List.getElem?_map, Option.map_eq_some_iff] at hi
              obtain ⟨_, _, rfl⟩ := hi; rfl
            subst this; trivial
          | false =>
          simp only [exOutG, cond_false] at he
          obtain ⟨q1, Fe, q4, q5, q6, q7⟩ := exOut_sound (FL := F) exts (k := 0) (by omega) hT.inv (hT.free.mono fun x y hx => .inr hx) he hn
          refine ⟨v, F, Fe, hv1, q1, RR_ow ht1 (vwR_RR hok hrr), fun i x hi => ?_, q5, q6, q7, fun b o hb => (hT.free b o (.inr hb)).2⟩
          have := q4 i x hi
          rwa [Nat.zero_add] at this
        · simp at e
    · simp at e
  · simp at e

theorem evB_con {C : Cfg} {Γ : Orc} {N f : Nat} {fn : Func} {cd : Code} {args exts : List AV} {r : AV × List AV} (hΓ : OrcOk P C Γ) (hf : P.funcs[f]? = some fn) (hb : fn.body = some cd) (hd : dstOk fn.ntmps cd = true) (hl : args.length ≤ fn.ntmps)
    (e : evB P C Γ N f fn cd args exts = some r) : Con P f args exts r.1 r.2 := by
  unfold evB at e
  intro w M hv Fe vs ht0 h64 hk hH hM hs ha
  obtain ⟨c, gh, hw0, hcM, hlim, hn, hI⟩ := init_inv ht0 h64 hk hH hM hs hl ha
  refine calls_of_wp hf hb ?_
  refine evC_sound hΓ cd _ gh _ _ w _ hd hI e fun ex st' gh' a' w' h' e' => ?_
  have key : (finish P (C.give f) fn exts st').bind (norm P (C.give f) fn exts) = some r → a'.defers = [] ∧ ∃ v, (results fn a'.tmps).run P w' = .ok v w' ∧ (∃ v', Ending.returned v = .returned v' ∧ Chg w w' M ∧ ∃ F Fe', RR w' (RS w (okOf w M)) r.1 v' F ∧
      Handed w' (RS w (okOf w M)) (fun b o => b < w'.heap.size ∧ (b < w.heap.size → M b o)) r.2 hv Fe' ∧ (∀ b o, F b o → b < w'.heap.size ∧ (b < w.heap.size → M b o)) ∧ ∀ k b o, k < r.2.length → Fe' k b o → ¬ F b o) := by
    intro e'
    obtain ⟨r0, e1, en⟩ := Option.bind_eq_some_iff.1 e'
    unfold norm at en
    obtain ⟨hlen, en⟩ := K2_some en
    have hr := (Option.some.inj en).symm
    clear en e' e
    subst hr
    dsimp only
    obtain ⟨v, F, Fe', q1, q2, q3, q4, q5, q6, q7, q8⟩ := finish_sound (w1 := w) (ok1 := okOf w M) ht0 (by rw [hlim]; exact h64) hn h' e1
    have hll := (likeG_norm (C.give f) exts r0.2 q2.symm).1
    rw [← q2] at hll
    have hsh : c.sh = RS w (okOf w M) := by
      show RS c.w0 c.ok = _
      have : c.ok = okOf w M := by
        funext b o
        show (b < c.w0.heap.size ∧ ¬ c.M b o) = _
        rw [hw0, hcM]; rfl
      rw [this, hw0]
    rw [hsh] at q4
    rw [hw0, hcM] at q7 q8
    have hio : Io w w' := by have := h'.mem.io; rw [hw0] at this; exact this
    refine ⟨h'.defers, v, q1, v, rfl, ⟨?_, fun b o hb hm => ?_, fun b hb hm => ?_, hio⟩, F, Fe', q3, ⟨q4, fun k m b o hk hm => q5 k m b o (by omega) (by omega), fun k b o hk hb => q7 k b o (by omega) hb⟩, q8, fun k b o hk hb => q6 k b o (by omega) hb⟩
    · have := h'.mem.grow; rw [hw0] at this; exact this
    · have := h'.mem.keep b o (by rw [hw0]; exact hb) (by rw [hcM]; exact hm); rw [hw0] at this; exact this
    · have := h'.mem.keepB b (by rw [hw0]; exact hb) (by rw [hcM]; exact hm); rw [hw0] at this; exact this
  cases ex with
  | normal => exact key (by rw [← finishN_eq]; exact e')
  | ret => exact key (by rw [← finishN_eq]; exact e')
  | exit id => simp at e'

/-- THE INTERPRETER IS SOUND. -/
theorem evS_ok {C : Cfg} {Γ : Orc} {k : Nat} (ih : OrcOk P C Γ) : OrcOk P C (evS P C Γ k) := by
    have open_ : ∀ f args exts r, evS P C Γ k f args exts = some r → ∃ fn cd, P.funcs[f]? = some fn ∧ fn.body = some cd ∧ (dstOk fn.ntmps cd && Nat.ble args.length fn.ntmps && !(fn.name == "runtime.NumGoroutine")) = true ∧ evB P C Γ k f fn cd args exts = some r := by
      intro f args exts r e
      simp only [evS] at e
      split at e
      · rename_i fn hf
        split at e
        · rename_i cd hb
          obtain ⟨h1, h2⟩ := K2_some e
          exact ⟨fn, cd, hf, hb, h1, h2⟩
        · simp at e
      · simp at e
    have norm_ : ∀ f fn cd args exts r, evB P C Γ k f fn cd args exts = some r → ∃ r0 : AV × List AV, r0.2.length = exts.length ∧ r = ((vwR P fn.resultTypes.toList r0.1).ow, likeG (C.give f) exts (r0.2.map AV.ow)) := by
      intro f fn cd args exts r e
      unfold evB at e
      obtain ⟨ex, st', e⟩ := evC_lin e
      have key : (finish P (C.give f) fn exts st').bind (norm P (C.give f) fn exts) = some r → ∃ r0 : AV × List AV, r0.2.length = exts.length ∧ r = ((vwR P fn.resultTypes.toList r0.1).ow, likeG (C.give f) exts (r0.2.map AV.ow)) := fun e => by
        obtain ⟨r0, e0, e⟩ := Option.bind_eq_some_iff.1 e
        unfold norm at e
        obtain ⟨hlen, e⟩ := K2_some e
        exact ⟨r0, beq_eq.1 hlen, (Option.some.inj e).symm⟩
      cases ex with
      | normal => exact key (by rw [← finishN_eq]; exact e)
      | ret => exact key (by rw [← finishN_eq]; exact e)
      | exit id => simp at e
    refine ⟨fun f args exts r e => ?_, fun f args exts r e => ?_, fun f fn args exts r e hfn => ?_, fun f args exts r e => ?_, fun f args exts r e => ?_⟩
    · obtain ⟨fn, cd, hf, hb, h1, h2⟩ := open_ f args exts r e
      simp only [Bool.and_eq_true, Bool.not_eq_true'] at h1
      exact ⟨fn, hf, by rw [hb]; rfl, h1.2⟩
    · obtain ⟨fn, cd, hf, hb, h1, h2⟩ := open_ f args exts r e
      simp only [Bool.and_eq_true, Bool.not_eq_true'] at h1
      exact evB_con ih hf hb h1.1.1 (Nat.le_of_ble_eq_true h1.1.2) h2
    · obtain ⟨fn', cd, hf, hb, h1, h2⟩ := open_ f args exts r e
      rw [hf] at hfn
      obtain rfl := Option.some.inj hfn
      obtain ⟨r0, _, rfl⟩ := norm_ f _ cd args exts r h2
      exact vwR_ow _ _
    · obtain ⟨fn', cd, hf, hb, h1, h2⟩ := open_ f args exts r e
      obtain ⟨r0, hl, rfl⟩ := norm_ f _ cd args exts r h2
      exact ⟨ow_ow _, (likeG_norm _ exts r0.2 hl.symm).2.2⟩
    · obtain ⟨fn', cd, hf, hb, h1, h2⟩ := open_ f args exts r e
      obtain ⟨r0, hl, rfl⟩ := norm_ f _ cd args exts r h2
      exact ⟨(likeG_norm _ exts r0.2 hl.symm).1, (likeG_norm _ exts r0.2 hl.symm).2.1⟩

theorem RS_nil {w : World} {ok : Cells} {n sz : Nat} {g : Nat → Nat → AV} {v : Value} (h : RS w ok (.sl n sz g) v) : (n = 0 ∧ RS w ok (.nsl sz g) v) ∨ RS w ok (.sln n sz g) v := by
  obtain ⟨A, cap, rfl, ⟨h1, h2⟩, h3⟩ := h
  cases A with
  | none =>
    obtain rfl := h2 rfl
    obtain rfl : n = 0 := by omega
    exact .inl ⟨rfl, rfl⟩
  | some x => exact .inr ⟨x, cap, rfl, h1, h3⟩

theorem clO_ok {C : Cfg} {Γ : Orc} (h : OrcOk P C Γ) : OrcOk P C (clO C Γ) := by
  have open_ : ∀ f args exts r, clO C Γ f args exts = some r → Γ f args exts = some r ∨ ∃ n sz g, args = [.sl n sz g] ∧ Γ f [.sln n sz g] exts = some r ∧ (n = 0 → Γ f [.nsl sz g] exts = some r) := by
    intro f args exts r e
    unfold clO at e
    cases hc : C.nil f with
    | false => rw [hc] at e; exact .inl e
    | true =>
      rw [hc] at e
      simp only [cond_true] at e
      split at e
      · rename_i n sz g
        split at e
        · rename_i r' hr'
          split at e
          · rename_i hn
            obtain rfl := Option.some.inj e
            exact .inr ⟨n, sz, g, rfl, hr', hn⟩
          · simp at e
        · simp at e
      · exact .inl e
  refine ⟨fun f args exts r e => ?_, fun f args exts r e => ?_, fun f fn args exts r e hfn => ?_, fun f args exts r e => ?_, fun f args exts r e => ?_⟩
  · rcases open_ f args exts r e with e | ⟨n, sz, g, rfl, e, _⟩ <;> exact h.fn f _ exts r e
  · rcases open_ f args exts r e with e | ⟨n, sz, g, rfl, e, e0⟩
    · exact h.con f _ exts r e
    · intro w M hv Fe vs h0' h1 h2 h3 h4 h5 h6
      have hx : RS w (okOf w M) (.sl n sz g) (vs.getD 0 undef) := h6 0 (by simp)
      rcases RS_nil hx with ⟨hn, hx⟩ | hx
      · refine h.con f _ exts r (e0 hn) w M hv Fe vs h0' h1 h2 h3 h4 h5 fun j hj => ?_
        obtain rfl : j = 0 := by simpa using hj
        exact hx
      · refine h.con f _ exts r e w M hv Fe vs h0' h1 h2 h3 h4 h5 fun j hj => ?_
        obtain rfl : j = 0 := by simpa using hj
        exact hx
  · rcases open_ f args exts r e with e | ⟨n, sz, g, rfl, e, _⟩ <;> exact h.res f fn _ exts r e hfn
  · rcases open_ f args exts r e with e | ⟨n, sz, g, rfl, e, _⟩ <;> exact h.ow f _ exts r e
  · rcases open_ f args exts r e with e | ⟨n, sz, g, rfl, e, _⟩ <;> exact h.exts f _ exts r e

theorem evF_ok (P : Program) (C : Cfg) : ∀ k, OrcOk P C (evF P C k) := by
  intro k
  induction k with
  | zero => exact ⟨fun _ _ _ _ h => by simp [evF] at h, fun _ _ _ _ h => by simp [evF] at h, fun _ _ _ _ _ h => by simp [evF] at h, fun _ _ _ _ h => by simp [evF] at h, fun _ _ _ _ h => by simp [evF] at h⟩
  | succ k ih => exact clO_ok (evS_ok ih)

end
end Go.Fw
