/- The by-value interpreter: a call. -/
import Derived.Test.YtgpigigeoanahaaFwZ
set_option linter.unusedVariables false
set_option linter.unusedSimpArgs false
namespace Go.Fw

section
variable {c : Cx} {gh : Gh} {nt : Nat} {st : St} {a : Act} {w : World} {P : Program} {R : Type} {r : R}

theorem lent_get {st : St} : ∀ (ys : List (Option AV)) (xs : List AV), ys.length = xs.length → (lent st ys xs).length = xs.length ∧
    ∀ j, j < xs.length → (∃ z, ys[j]? = some (some z) ∧ (lent st ys xs).getD j .bad = z) ∨ (ys[j]? = some none ∧ (lent st ys xs).getD j .bad = st.borA (xs.getD j .bad)) := by
  intro ys
  induction ys with
  | nil => intro xs h; have : xs = [] := by simpa using h.symm
           subst this; exact ⟨rfl, fun j hj => absurd hj (by simp)⟩
  | cons y ys ih =>
    intro xs h
    cases xs with
    | nil => simp at h
    | cons x xs =>
      obtain ⟨h1, h2⟩ := ih xs (by simpa using h)
      cases y with
      | none =>
        refine ⟨by simp [lent, h1], fun j hj => ?_⟩
        cases j with
        | zero => exact .inr ⟨rfl, rfl⟩
        | succ j => exact h2 j (by simpa using hj)
      | some z =>
        refine ⟨by simp [lent, h1], fun j hj => ?_⟩
        cases j with
        | zero => exact .inl ⟨z, rfl, rfl⟩
        | succ j => exact h2 j (by simpa using hj)

theorem likeL_get : ∀ (es ys : List AV), likeL es ys = ys → ∀ (k : Nat) (x : AV), ys[k]? = some x → ∃ e : AV, es[k]? = some e ∧ e.likeE x = x := by
  intro es
  induction es with
  | nil => intro ys h k x hk; have : ys = [] := by simpa [likeL] using h.symm
           subst this; simp at hk
  | cons e es ih =>
    intro ys h k x hk
    cases ys with
    | nil => simp [likeL] at h
    | cons y ys =>
      simp only [likeL, List.headD_cons, List.tail_cons, List.cons.injEq] at h
      cases k with
      | zero => simp at hk; subst hk; exact ⟨e, by simp, h.1⟩
      | succ k => obtain ⟨e', h1, h2⟩ := ih ys h.2 k x (by simpa using hk); exact ⟨e', by simpa using h1, h2⟩

theorem lim_le (c : Cx) : c.lim ≤ 64 := by unfold Cx.lim; cases c.lo <;> simp
theorem aid_lo (c : Cx) (d k : Nat) : c.lim * 4096 ≤ aid d k := by
  have := lim_le c
  unfold aid; omega
theorem bid_lo (c : Cx) (d : Nat) : c.lim ≤ bid d := by
  have := lim_le c
  unfold bid; omega

theorem callK_sound {C : Cfg} {Γ : Orc} {d f : Nat} {xs : List AV} {K : AV → St → Option R} {vs : Array Value} (hΓ : OrcOk P C Γ) (h : Inv c gh nt st a w) (e : callK P C Γ st d f xs K = some r) (hl : vs.size = xs.length)
    (hx : ∀ j, j < xs.length → TR c.sh gh st.ar st.bx w (xs.getD j .bad) (vs.getD j undef)) :
    (∃ fn, P.funcs[f]? = some fn ∧ fn.body.isSome = true ∧ (fn.name == "runtime.NumGoroutine") = false) ∧ Calls P f vs w fun e w' => ∃ v, e = .returned v ∧ ∃ y st' gh', K y st' = some r ∧ Inv c gh' nt st' a w' ∧ TR c.sh gh' st'.ar st'.bx w' y v := by
  unfold callK at e
  split at e
  · rename_i fn hfn
    split at e
    · rename_i ys q hps
      obtain ⟨h64, e⟩ := K2_some e
      have h64 : q.ex.length ≤ 64 := Nat.le_of_ble_eq_true h64
      obtain ⟨rr, hrr, e⟩ := Option.bind_eq_some_iff.1 e
      simp only at e
      obtain ⟨hfit, e⟩ := K2_some e
      have hgd : ∀ j, vs.toList.getD j undef = vs.getD j undef := fun j => by simp [List.getD_eq_getElem?_getD, Array.getD_eq_getD_getElem?]
      obtain ⟨hyl, ghq, hv, Fe, hp, _, hys⟩ := passL_sound (c := c) (gh := gh) (nt := nt) (st := st) (a := a) (w := w) xs (C.mode f) vs.toList (q := ⟨st, [], []⟩) (ghq := gh) (hv := fun _ => undef) (Fe := fun _ _ _ => False)
        ⟨h, rfl, rfl, .refl, .refl st, rfl, fun x hx => by simp at hx, fun k x hk => by simp at hk, fun x y ⟨k, hk, _⟩ => by simp at hk, fun k m b o hk => by simp at hk, fun k bk y hk => by simp at hk⟩
        (by simpa using hl) (fun j hj => by rw [hgd]; exact hx j hj) hps
      have hM : Free c ghq q.st.ar q.st.bx w (Rest q.ex.length Fe) := hp.free
      have hin := RS_in hp.inv hM
      obtain ⟨hll, hlg⟩ := lent_get (st := q.st) ys xs hyl
      have hcon := hΓ.con f _ _ rr hrr w (Rest q.ex.length Fe) hv Fe vs h64 hp.kind
        ⟨fun k x hk => RV_sh hin (hp.ext k x hk), hp.disj, fun k b o hk hb => ⟨k, hk, hb⟩⟩ (fun b o hb => (hM b o hb).2.1) (by rw [hll]; exact hl)
        (fun j hj => by
          rw [hll] at hj
          rcases hlg j hj with ⟨z, h1, h2⟩ | ⟨h1, h2⟩
          · rw [h2]
            have := hys j z h1 (RS w (okOf w (Rest q.ex.length Fe))) hin
            rw [hgd] at this; exact this
          · rw [h2]
            exact borA_sound hp.inv hM (hp.holds _ _ (hx j hj)))
      refine ⟨hΓ.fn f _ _ rr hrr, hcon.mono fun en w' ⟨v, hv', hC, F, Fe', hR, hH, hFb, hFd⟩ => ⟨v, hv', ?_⟩⟩
      obtain ⟨how1, how2⟩ := hΓ.ow f _ _ rr hrr
      obtain ⟨hel, hlike⟩ := hΓ.exts f _ _ rr hrr
      have hres := hΓ.res f fn _ _ rr hrr hfn
      rw [hres] at e
      rw [hres] at hfit
      obtain ⟨hI1, _⟩ := hp.inv.chgFree hC (fun b o hb => hb) hM
      have hG : Free c ghq q.st.ar q.st.bx w' (fun b o => b < w'.heap.size ∧ (b < w.heap.size → Rest q.ex.length Fe b o)) := fun x y hx => by
        refine ⟨fun r hr hf => ?_, hx.1, fun hlt => ?_⟩
        · have hlt := (hp.inv.mem.mine r x y hr hf).1
          exact (hM x y (hx.2 hlt)).1 r hr hf
        · have hlt' := Nat.lt_of_lt_of_le hlt h.mem.grow
          exact (hM x y (hx.2 hlt')).2.2 hlt
      cases hgv : C.give f with
      | true =>
        rw [hgv] at e
        simp only [cond_true] at e
        have hR' := RR_ow (w1 := c.w0) (ok1 := c.ok) hR
        rw [how1] at hR'
        obtain ⟨gh3, h3, t3⟩ := layR_sound (base := aid d 0) (aid_lo c d 0) hI1 hR' hfit (hG.mono hFb)
        exact ⟨_, _, gh3, e, h3, t3⟩
      | false =>
      rw [hgv] at e hlike
      simp only [cond_false] at e
      have hlike : likeL q.ex rr.2 = rr.2 := hlike
      rw [hlike] at e
      have hTold : ToldS c gh st w true ghq q.st a w' := by
        refine ⟨fun t => by rw [hp.sub.t]; exact h.temps t, fun b sz g eb o ho v hv => .inl ?_⟩
        have eb' := hp.sub.bx _ _ eb
        obtain ⟨v0, h1, _, _, h2⟩ := (h.mem.boxes b sz g eb').2 o ho
        have hf : fp ghq q.st.bx (.inr b) (ghq.ba b).block ((ghq.ba b).off + o) := ⟨(sz, g), eb, rfl, by omega, by simp only; omega⟩
        have hlv : live q.st.ar q.st.bx (.inr b) := by simp [live, eb]
        have := (hC.cell _ _ (hp.inv.mem.mine (.inr b) _ _ hlv hf).1 (fun hm => (hM _ _ hm).1 (.inr b) hlv hf)).1
        rw [this, hp.ba, h1] at hv
        obtain rfl := Option.some.inj hv
        exact h2
      have hrel : ∀ i x bk, rr.2[i]? = some x → q.bk[i]? = some bk → RV w' c.sh x (hv i) (Fe' i) ∧ BackOk gh st (hv i) x bk := fun i x bk hi hb => by
        have hm : x ∈ rr.2 := List.mem_of_getElem? hi
        have h1 := RV_ow (w1 := c.w0) (ok1 := c.ok) (hH.rel i x hi)
        rw [how2 x hm] at h1
        refine ⟨h1, ?_⟩
        obtain ⟨y, hy, hly⟩ := likeL_get _ _ hlike i x hi
        have h2 := hp.back i bk y hb hy
        cases bk with
        | box b sz =>
          obtain ⟨q1, q2, g, rfl⟩ := h2
          exact ⟨q1, q2, _, hly.symm⟩
        | arr id n sz =>
          obtain ⟨q1, q2, g, rfl⟩ := h2
          exact ⟨q1, q2, _, hly.symm⟩
      have hbl : q.bk.length = rr.2.length := by rw [hp.len]; exact hel.symm
      obtain ⟨gh1, h1, t1, f1⟩ := backA_sound h.fix rr.2 q.bk (hv := hv) (Fe := Fe') (FL := F) hbl hrel hH.disj hFd hI1 hTold (hG.mono fun b o hb => by
        rcases hb with hb | ⟨k, hk, hb⟩
        · exact hFb b o hb
        · exact hH.mine k b o hk hb)
      obtain ⟨gh2, h2, f2⟩ := backB_sound h.fix (fun b B eb => (h.mem.boxes b B.1 B.2 eb).1) rr.2 q.bk (hv := hv) (Fe := Fe') (FL := F) (base := aid d 2048) (aid_lo c d 2048) hbl hrel hH.disj hFd h1 ⟨t1.t, fun b sz g eb o ho v hv => (t1.b b sz g eb o ho v hv).imp (fun h => h) (fun h => by simp at h)⟩ f1
      have hR' := RR_ow (w1 := c.w0) (ok1 := c.ok) hR
      rw [how1] at hR'
      obtain ⟨gh3, h3, t3⟩ := layR_sound (base := aid d 0) (aid_lo c d 0) h2 hR' hfit f2
      exact ⟨_, _, gh3, e, h3, t3⟩
    · simp at e
  · simp at e

end
end Go.Fw
