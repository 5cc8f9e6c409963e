/- The by-value interpreter: a call. -/
import Derived.Test.YtkhfkekbfjkpcaaFwZ
set_option linter.unusedVariables false
set_option linter.unusedSectionVars false
set_option linter.unusedSimpArgs false
namespace Go.Fw
variable [Tok]

section
variable {c : Cx} {gh : Gh} {nt : Nat} {st : St} {a : Act} {w : World} {P : Program} {R : Type} {r : R}

theorem lent_get {st : St} : ∀ (ys : List (Option AV)) (xs : List AV), ys.length = xs.length → (lent st ys xs).length = xs.length ∧
    ∀ j, j < xs.length → (∃ z, ys[j]? = some (some z) ∧ (lent st ys xs).getD j .bad = z) ∨ (ys[j]? = some none ∧ (lent st ys xs).getD j .bad = st.borA (xs.getD j .bad)) := by
  intro ys
  induction ys with
  | nil => intro xs h; have : xs = [] := by simpa using h.symm
           subst this; exact ⟨rfl, fun j hj => absurd hj (by simp)⟩
  | cons y ys ih =>
    intro xs h
    cases xs with
    | nil => simp at h
    | cons x xs =>
      obtain ⟨h1, h2⟩ := ih xs (by simpa using h)
      cases y with
      | none =>
        refine ⟨by simp [lent, h1], fun j hj => ?_⟩
        cases j with
        | zero => exact .inr ⟨rfl, rfl⟩
        | succ j => exact h2 j (by simpa using hj)
      | some z =>
        refine ⟨by simp [lent, h1], fun j hj => ?_⟩
        cases j with
        | zero => exact .inl ⟨z, rfl, rfl⟩
        | succ j => exact h2 j (by simpa using hj)

theorem likeL_get : ∀ (es ys : List AV), likeL es ys = ys → ∀ (k : Nat) (x : AV), ys[k]? = some x → ∃ e : AV, es[k]? = some e ∧ e.likeE x = x := by
  intro es
  induction es with
  | nil => intro ys h k x hk; have : ys = [] := by simpa [likeL] using h.symm
           subst this; simp at hk
  | cons e es ih =>
    intro ys h k x hk
    cases ys with
    | nil => simp [likeL] at h
    | cons y ys =>
      simp only [likeL, List.headD_cons, List.tail_cons, List.cons.injEq] at h
      cases k with
      | zero => simp at hk; subst hk; exact ⟨e, by simp, h.1⟩
      | succ k => obtain ⟨e', h1, h2⟩ := ih ys h.2 k x (by simpa using hk); exact ⟨e', by simpa using h1, h2⟩

theorem lim_le (c : Cx) : c.lim ≤ 64 := by unfold Cx.lim; cases c.lo <;> simp
theorem aid_lo (c : Cx) (d k : Nat) : c.lim * 4096 ≤ aid d k := by
  have := lim_le c
  unfold aid; omega
theorem bid_lo (c : Cx) (d : Nat) : c.lim ≤ bid d := by
  have := lim_le c
  unfold bid; omega

theorem killN_inv' (id : Nat) (h : Inv c gh nt st a w) : Inv c gh nt (st.map (AV.killN id)) a w := h.map _ fun x v t => TR_killN id x t
theorem setCell_same {w : World} {ad : Addr} {v : Value} (hs : ad.spot = none) (h : cellAt w ad.block ad.off = some v) : w.setCell ad v = w := by
  unfold cellAt World.cell? at h
  have e : w.heap.modify ad.block (fun
      | .cells c elem frozen => .cells (if ad.spot.isSome then c else c.setIfInBounds ad.off v) elem frozen
      | o => o) = w.heap := by
    apply Array.ext_getElem?
    intro i
    rw [Array.getElem?_modify]
    split
    · rename_i hi
      subst hi
      cases hb : w.heap[ad.block]? with
      | none => rfl
      | some o =>
        rw [hb] at h
        cases o with
        | cells c e f =>
          simp only [Option.isSome_none, Bool.false_eq_true, if_false] at h
          have hc : c.setIfInBounds ad.off v = c := by
            apply Array.ext_getElem?
            intro j
            rw [Array.getElem?_setIfInBounds]
            split
            · rename_i hj
              subst hj
              split
              · exact h.symm
              · rename_i hl; rw [Array.getElem?_eq_none (by omega)] at h; simp at h
            · rfl
          simp [hs, hc]
        | _ => simp at h
    · rfl
  unfold World.setCell
  exact congrArg (fun hp => ({ w with heap := hp } : World)) e
theorem upd2_upd2 (g : Nat → Nat → AV) (i j : Nat) (x y : AV) : upd2 (upd2 g i j x) i j y = upd2 g i j y := by
  funext i' j'
  by_cases h : i' = i ∧ j' = j
  · obtain ⟨rfl, rfl⟩ := h; rw [upd2_self, upd2_self]
  · rw [upd2_ne _ _ h, upd2_ne _ _ h, upd2_ne _ _ h]
theorem setP_setP (x y : AV) : ∀ (p : List (Nat × Nat)) (g : Nat → Nat → AV), setP (setP g p x) p y = setP g p y := by
  intro p
  induction p with
  | nil => intro g; rfl
  | cons ij p ih =>
    obtain ⟨i, j⟩ := ij
    intro g
    cases p with
    | nil => simp only [setP]; exact upd2_upd2 _ _ _ _ _
    | cons b bs =>
      simp only [setP]
      rw [upd2_self, upd2_upd2]
      congr 1
      cases g i j with
      | own n sz h => simp only; rw [ih]
      | _ => rfl
theorem atP_pre {x : AV} {qq : Nat × Nat} : ∀ (pre : List (Nat × Nat)) {g : Nat → Nat → AV} {n sz : Nat} {h : Nat → Nat → AV}, atP g pre = .own n sz h → ∃ h', atP (setP g (pre ++ [qq]) x) pre = .own n sz h' := by
  intro pre
  induction pre with
  | nil => intro g n sz h e; simp [atP] at e
  | cons ij pre ih =>
    obtain ⟨i, j⟩ := ij
    intro g n sz h e
    cases pre with
    | nil =>
      simp only [atP] at e
      simp only [List.cons_append, List.nil_append, setP, atP, e]
      exact ⟨_, upd2_self _ _ _ _⟩
    | cons b bs =>
      simp only [atP] at e
      simp only [List.cons_append, setP, atP]
      rw [upd2_self]
      cases hg : g i j with
      | own n3 sz3 h3 =>
        rw [hg] at e
        simp only at e ⊢
        exact ih e
      | _ => rw [hg] at e; simp at e
/-- A row that lies in a row is put back. -/
theorem backI_sound {id n sz : Nat} {pre : List (Nat × Nat)} {qq : Nat × Nat} {g : Nat → Nat → AV} {st0 st' : St} {A : Arr} {ad : Addr} {v : Value} {F' FL : Cells} (h : Inv c gh nt st a w) (e : backI st0 st id (pre ++ [qq]) n sz (.own n sz g) = some st')
    (hA : st0.ar id = some A) (hB : st.ar id = some ⟨A.n, A.sz, setP A.g (pre ++ [qq]) .bad⟩)
    (hs : ad.spot = none) (hc : cellAt w ad.block ad.off = some v ∨ (pre = [] ∨ ∃ n' sz' h, atP (setP A.g (pre ++ [qq]) .bad) pre = .own n' sz' h) → cellAt w ad.block ad.off = some v) (hpl : placeV w (gh.hd id).1 A.n A.sz (setP A.g (pre ++ [qq]) .bad) pre qq.1 qq.2 (.pointer (some ad)))
    (hx : RO w c.sh (.own n sz g) v F') (hF : Free c gh st.ar st.bx w (fun b o => FL b o ∨ F' b o)) (hap : ∀ b o, F' b o → ¬ FL b o) :
    ∃ gh', Inv c gh' nt st' a w ∧ Free c gh' st'.ar st'.bx w FL := by
  unfold backI at e
  rw [hA] at e
  have hrev : (pre ++ [qq]).reverse = qq :: pre.reverse := by simp
  rw [hrev] at e
  simp only [List.reverse_reverse] at e
  cases hok : (pre.reverse.isEmpty || isOwn (atP A.g pre)) with
  | false => rw [hok] at e; simp at e
  | true =>
    rw [hok] at e
    simp only [cond_true, Option.some.injEq] at e
    have hat : pre = [] ∨ ∃ n' sz' h, atP (setP A.g (pre ++ [qq]) .bad) pre = .own n' sz' h := by
      rw [Bool.or_eq_true] at hok
      rcases hok with hok | hok
      · left; simpa using hok
      · right
        cases ha : atP A.g pre with
        | own n' sz' h => obtain ⟨h', e'⟩ := atP_pre (x := .bad) (qq := qq) pre ha; exact ⟨n', sz', h', e'⟩
        | _ => rw [ha] at hok; simp [isOwn] at hok
    have hc := hc (.inr hat)
    have hI := killN_inv' id h
    have hone : v.oneCell' = true := by obtain ⟨A, cap, rfl, _⟩ := hx; rfl
    have hfpm : ∀ r, fp gh (st.map (AV.killN id)).bx r = fp gh st.bx r := fun r => fp_map (gh := gh) _ r
    have hF2 : Free c gh (st.map (AV.killN id)).ar (st.map (AV.killN id)).bx w (fun b o => FL b o ∨ F' b o) := fun x y hxy => ⟨fun r hr hf => (hF x y hxy).1 r ((live_map (ar := st.ar) _ r).1 hr) ((congrFun (congrFun (hfpm r) x) y).mp hf), (hF x y hxy).2⟩
    obtain ⟨gh', hst, _⟩ := storeCell (u := v) (F' := F') (x := .own n sz g) hI (show (st.map (AV.killN id)).ar id = _ from hB) hpl hat hs hone hx (hF2.mono fun b o hb => .inr hb) (fun t => .inr ⟨st.t t, rfl⟩) (fun b B' hb o => by
      obtain ⟨g'', e', hg⟩ := map_some (bx := st.bx) (sz := B'.1) (g := B'.2) hb
      exact .inr ⟨g'' o, by rw [hg]⟩)
    rw [setCell_same hs hc] at hst
    simp only [setP_setP] at hst
    subst e
    exact ⟨gh', hst.inv, hst.free FL (hF2.mono fun b o hb => .inl hb) (fun b o hb hb' => hap b o hb' hb)⟩

theorem callK_sound {C : Cfg} {Γ : Orc} {d f : Nat} {xs : List AV} {K : AV → St → Option R} {vs : Array Value} (hΓ : OrcOk P C Γ) (h : Inv c gh nt st a w) (e : callK P C Γ st d f xs K = some r) (hl : vs.size = xs.length)
    (hx : ∀ j, j < xs.length → TR c.sh gh st.ar st.bx w (xs.getD j .bad) (vs.getD j undef)) :
    (∃ fn, P.funcs[f]? = some fn ∧ fn.body.isSome = true ∧ (fn.name == "runtime.NumGoroutine") = false) ∧ Calls P f vs w fun e w' => ∃ v, e = .returned v ∧ ∃ y st' gh', K y st' = some r ∧ Inv c gh' nt st' a w' ∧ TR c.sh gh' st'.ar st'.bx w' y v := by
  unfold callK at e
  split at e
  · rename_i fn hfn
    split at e
    · rename_i ys q hps
      obtain ⟨h64, e⟩ := K2_some e
      have h64 : q.ex.length ≤ 64 := Nat.le_of_ble_eq_true h64
      obtain ⟨rr, hrr, e⟩ := Option.bind_eq_some_iff.1 e
      simp only at e
      have hgd : ∀ j, vs.toList.getD j undef = vs.getD j undef := fun j => by simp [List.getD_eq_getElem?_getD, Array.getD_eq_getD_getElem?]
      obtain ⟨hyl, ghq, hv, Fe, hp, _, hys⟩ := passL_sound (c := c) (gh := gh) (nt := nt) (st := st) (a := a) (w := w) xs (C.mode f) vs.toList (q := ⟨st, [], []⟩) (ghq := gh) (hv := fun _ => undef) (Fe := fun _ _ _ => False)
        ⟨h, rfl, rfl, .refl, .refl st, rfl, fun x hx => by simp at hx, fun k x hk => by simp at hk, fun x y ⟨k, hk, _⟩ => by simp at hk, fun k m b o hk => by simp at hk, fun k bk y hk => by simp at hk, fun _ => rfl, fun id p n sz h => by simp at h⟩
        (by simpa using hl) (fun j hj => by rw [hgd]; exact hx j hj) hps
      have hM : Free c ghq q.st.ar q.st.bx w (Rest q.ex.length Fe) := hp.free
      have hin := RS_in hp.inv hM
      obtain ⟨hll, hlg⟩ := lent_get (st := q.st) ys xs hyl
      have hcon := hΓ.con f _ _ rr hrr w (Rest q.ex.length Fe) hv Fe vs (hin _ _ c.tok) h64 hp.kind
        ⟨fun k x hk => RV_sh hin (hp.ext k x hk), hp.disj, fun k b o hk hb => ⟨k, hk, hb⟩⟩ (fun b o hb => (hM b o hb).2.1) (by rw [hll]; exact hl)
        (fun j hj => by
          rw [hll] at hj
          rcases hlg j hj with ⟨z, h1, h2⟩ | ⟨h1, h2⟩
          · rw [h2]
            have := hys j z h1 (RS w (okOf w (Rest q.ex.length Fe))) hin
            rw [hgd] at this; exact this
          · rw [h2]
            exact borA_sound hp.inv hM (hp.holds _ _ (hx j hj)))
      refine ⟨hΓ.fn f _ _ rr hrr, hcon.mono fun en w' ⟨v, hv', hC, F, Fe', hR, hH, hFb, hFd⟩ => ⟨v, hv', ?_⟩⟩
      obtain ⟨how1, how2⟩ := hΓ.ow f _ _ rr hrr
      obtain ⟨hel, hlike⟩ := hΓ.exts f _ _ rr hrr
      have hres := hΓ.res f fn _ _ rr hrr hfn
      rw [hres] at e
      obtain ⟨hI1, _⟩ := hp.inv.chgFree hC (fun b o hb => hb) hM
      have hG : Free c ghq q.st.ar q.st.bx w' (fun b o => b < w'.heap.size ∧ (b < w.heap.size → Rest q.ex.length Fe b o)) := fun x y hx => by
        refine ⟨fun r hr hf => ?_, hx.1, fun hlt => ?_⟩
        · have hlt := (hp.inv.mem.mine r x y hr hf).1
          exact (hM x y (hx.2 hlt)).1 r hr hf
        · have hlt' := Nat.lt_of_lt_of_le hlt h.mem.grow
          exact (hM x y (hx.2 hlt')).2.2 hlt
      cases hgv : C.give f with
      | true =>
        rw [hgv] at e
        simp only [cond_true] at e
        obtain ⟨hfit, e⟩ := K2_some e
        have hR' := RR_ow (w1 := c.w0) (ok1 := c.ok) c.tok hR
        rw [how1] at hR'
        obtain ⟨gh3, h3, t3⟩ := layR_sound (base := aid d 0) (aid_lo c d 0) hI1 hR' hfit (hG.mono hFb)
        exact ⟨_, _, gh3, e, h3, t3⟩
      | false =>
      rw [hgv] at e hlike
      simp only [cond_false] at e
      have hlike : likeL q.ex rr.2 = rr.2 := hlike
      rw [hlike] at e
      split at e
      case h_2 => simp at e
      rename_i st1 hbs
      obtain ⟨hfit, e⟩ := K2_some e
      have hTold : ToldS c gh st w true ghq q.st a w' := by
        refine ⟨fun t => by rw [hp.sub.t]; exact h.temps t, fun b sz g eb o ho v hv => .inl ?_⟩
        have eb' := hp.sub.bx _ _ eb
        obtain ⟨v0, h1, _, _, h2⟩ := (h.mem.boxes b sz g eb').2 o ho
        have hf : fp ghq q.st.bx (.inr b) (ghq.ba b).block ((ghq.ba b).off + o) := ⟨(sz, g), eb, rfl, by omega, by simp only; omega⟩
        have hlv : live q.st.ar q.st.bx (.inr b) := by simp [live, eb]
        have := (hC.cell _ _ (hp.inv.mem.mine (.inr b) _ _ hlv hf).1 (fun hm => (hM _ _ hm).1 (.inr b) hlv hf)).1
        rw [this, hp.ba, h1] at hv
        obtain rfl := Option.some.inj hv
        exact h2
      have hrel : ∀ i x bk, rr.2[i]? = some x → q.bk[i]? = some bk → RV w' c.sh x (hv i) (Fe' i) ∧ BackOk w gh st (hv i) x bk := fun i x bk hi hb => by
        have hm : x ∈ rr.2 := List.mem_of_getElem? hi
        have h1 := RV_ow (w1 := c.w0) (ok1 := c.ok) c.tok (hH.rel i x hi)
        rw [how2 x hm] at h1
        refine ⟨h1, ?_⟩
        obtain ⟨y, hy, hly⟩ := likeL_get _ _ hlike i x hi
        have h2 := hp.back i bk y hb hy
        cases bk with
        | box b sz =>
          obtain ⟨q1, q2, g, rfl⟩ := h2
          exact ⟨q1, q2, _, hly.symm⟩
        | arr id n sz =>
          obtain ⟨q1, q2, g, rfl⟩ := h2
          exact ⟨q1, q2, _, hly.symm⟩
        | inn id p n sz =>
          obtain ⟨q1, g, rfl⟩ := h2
          exact ⟨q1, _, hly.symm⟩
      have hbl : q.bk.length = rr.2.length := by rw [hp.len]; exact hel.symm
      have hGF : Free c ghq q.st.ar q.st.bx w' (fun b o => F b o ∨ Rest rr.2.length Fe' b o) := hG.mono fun b o hb => by
        rcases hb with hb | ⟨k, hk, hb⟩
        · exact hFb b o hb
        · exact hH.mine k b o hk hb
      have fin : ∃ gh2, Inv c gh2 nt st1 a w' ∧ Free c gh2 st1.ar st1.bx w' F := by
        unfold backS at hbs
        split at hbs
        · rename_i id p n sz hbk
          have hlen1 : rr.2.length = 1 := by rw [← hbl, hbk]; rfl
          obtain ⟨x, hx1⟩ := List.length_eq_one_iff.1 hlen1
          rw [hx1] at hbs
          simp only [List.headD_cons] at hbs
          obtain ⟨hrv, ⟨ad, pre, qq, rfl, hs1, hs2, hs3⟩, g, rfl⟩ := hrel 0 x (.inn id p n sz) (by rw [hx1]; rfl) (by rw [hbk]; rfl)
          have hag : ∀ k A, q.st.ar k = some A → ∀ b o, ghq.fa k b o → cellAt w' b o = cellAt w b o ∧ frozAt w' b o = frozAt w b o := fun k A hA b o hf => by
            have hlv : live q.st.ar q.st.bx (.inl k) := by simp [live, hA]
            exact hC.cell _ _ (hp.inv.mem.mine (.inl k) b o hlv hf).1 (fun hm => (hM _ _ hm).1 (.inl k) hlv hf)
          have hpe : TR c.sh ghq q.st.ar q.st.bx w (.pe id pre qq.1 qq.2) (.pointer (some ad)) := hp.holds (.pe id pre qq.1 qq.2) _ hs3
          have hpe' : TR c.sh ghq q.st.ar q.st.bx w' (.pe id pre qq.1 qq.2) (.pointer (some ad)) := TR_congr hp.inv.mem.rows hag _ hpe
          obtain ⟨A, hA, hB⟩ := hp.one _ _ _ _ hbk
          have hcell : cellAt w' ad.block ad.off = some (hv 0) ∨ (pre = [] ∨ ∃ n' sz' h, atP (setP A.g (pre ++ [qq]) .bad) pre = .own n' sz' h) → cellAt w' ad.block ad.off = some (hv 0) := by
            rintro (h | hat)
            · exact h
            · obtain ⟨_, _, _, hinF0, _⟩ := place_cell pre (hp.inv.mem.rows id _ hB) (hpe _ hB) hat
              rw [(hag id _ hB _ _ hinF0).1]; exact hs2
          exact backI_sound (F' := Fe' 0) (FL := F) hI1 hbs hA hB hs1 hcell (hpe' _ hB) hrv (hGF.mono fun b o hb => hb.imp (fun h => h) (fun h => ⟨0, by omega, h⟩)) (fun b o hb => hFd 0 b o (by omega) hb)
        · rename_i hnot
          cases hni : q.bk.any Back.isInn with
          | true => rw [hni] at hbs; simp at hbs
          | false =>
            rw [hni] at hbs
            simp only [cond_false, Option.some.injEq] at hbs
            subst hbs
            obtain ⟨gh1, h1, t1, f1⟩ := backA_sound h.fix rr.2 q.bk (hv := hv) (Fe := Fe') (FL := F) hbl hni hrel hH.disj hFd hI1 hTold (hG.mono fun b o hb => by
              rcases hb with hb | ⟨k, hk, hb⟩
              · exact hFb b o hb
              · exact hH.mine k b o hk hb)
            obtain ⟨gh2, h2, f2⟩ := backB_sound h.fix (fun b B eb => (h.mem.boxes b B.1 B.2 eb).1) rr.2 q.bk (hv := hv) (Fe := Fe') (FL := F) (base := aid d 2048) (aid_lo c d 2048) hbl hni hrel hH.disj hFd h1 ⟨t1.t, fun b sz g eb o ho v hv => (t1.b b sz g eb o ho v hv).imp (fun h => h) (fun h => by simp at h)⟩ f1
            exact ⟨gh2, h2, f2⟩
      obtain ⟨gh2, h2, f2⟩ := fin
      have hR' := RR_ow (w1 := c.w0) (ok1 := c.ok) c.tok hR
      rw [how1] at hR'
      obtain ⟨gh3, h3, t3⟩ := layR_sound (base := aid d 0) (aid_lo c d 0) h2 hR' hfit f2
      exact ⟨_, _, gh3, e, h3, t3⟩
    · simp at e
  · simp at e

end
end Go.Fw
