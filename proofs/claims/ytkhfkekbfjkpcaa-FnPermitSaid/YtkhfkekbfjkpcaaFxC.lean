/- The by-value interpreter: code. -/
import Derived.Test.YtkhfkekbfjkpcaaFxK
import Derived.Deep.LoopGhost
set_option linter.unusedVariables false
set_option linter.unusedSectionVars false
set_option linter.unusedSimpArgs false
namespace Go.Fw
variable [Tok]

section
variable {c : Cx} {gh : Gh} {nt : Nat} {st : St} {a : Act} {w : World} {P : Program} {R : Type} {r : R}

/-- A temporary is seen otherwise. -/
theorem Inv.seeT {d : Nat} {x : AV} (h : Inv c gh nt st a w) (hx : TR c.sh gh st.ar st.bx w x (a.tmps.getD d undef)) : Inv c gh nt (st.setT d x) a w := by
  refine ⟨h.defers, h.size, fun t => ?_, h.mem, h.fix⟩
  by_cases e : t = d
  · subst e
    show TR c.sh gh st.ar st.bx w (upd st.t t x t) _
    rw [upd_self]; exact hx
  · show TR c.sh gh st.ar st.bx w (upd st.t d x t) _
    rw [upd_ne _ _ e]; exact h.temps t

theorem put_bad {o : Option Nat} (h : Inv c gh nt st a w) (hd : ∀ k, o = some k → k < nt) : Inv c gh nt (st.put o .bad) (a.put o undef) w := h.put hd (by trivial)

theorem evOps_sound {C : Cfg} {Γ : Orc} {ops : Array Oper} {Q : Exit → Act → World → Prop} (hΓ : OrcOk P C Γ) (hops : ∀ (i : Nat) (o : Oper), ops[i]? = some o → ∀ k, o.dst = some k → k < nt) : ∀ (l : List Nat) {K : St → Option R} {gh : Gh} {st : St} {a : Act} {w : World},
    Inv c gh nt st a w → evOps P C Γ ops l st K = some r → (∀ st' gh' a' w', Inv c gh' nt st' a' w' → K st' = some r → Q .normal a' w') → wpOps P ops Q l a w := by
  intro l
  induction l with
  | nil => intro K gh st a w h e hK; exact hK _ _ _ _ h e
  | cons i rest ih =>
    intro K gh st a w h e hK
    unfold wpOps
    unfold evOps at e
    split at e
    · rename_i hi
      rw [hi]
      exact ih h e hK
    · rename_i o hi
      rw [hi]
      simp only
      have hd := hops i o hi
      split at e
      · rename_i hg
        have hw : Region.wanted o (yielded ops a.tmps) = true := by simp [Region.wanted, hg]
        rw [if_pos hw]
        exact .inl (evOp_sound hΓ h hd e fun st' gh' a' w' h' e' => ih h' e' hK)
      · rename_i j want hg
        split at e
        · rename_i d hdj
          split at e
          · rename_i x hx
            have ht := h.temps d
            rw [hx] at ht
            have ht := TR_B ht
            have hget : a.tmps[d]? = some (.bool x) := by
              rw [Array.getD_eq_getD_getElem?] at ht
              cases hq : a.tmps[d]? with
              | none => rw [hq] at ht; simp [undef] at ht
              | some v => rw [hq] at ht; simp at ht; rw [ht]
            have hy : yielded ops a.tmps j = some x := by simp [yielded, hdj, hget]
            have hI : Inv c gh nt (st.setT d (.B x)) a w := h.seeT (by rw [ht]; rfl)
            cases x with
            | true =>
              simp only [cond_true] at e
              cases want with
              | true =>
                simp only [cond_true] at e
                have hw : Region.wanted o (yielded ops a.tmps) = true := by simp [Region.wanted, hg, hy]
                rw [if_pos hw]
                exact .inl (evOp_sound hΓ hI hd e fun st' gh' a' w' h' e' => ih h' e' hK)
              | false =>
                simp only [cond_false] at e
                have hw : ¬ Region.wanted o (yielded ops a.tmps) = true := by simp [Region.wanted, hg, hy]
                rw [if_neg hw]
                exact ih (put_skip hI hd) e hK
            | false =>
              simp only [cond_false] at e
              cases want with
              | true =>
                simp only [cond_true] at e
                have hw : ¬ Region.wanted o (yielded ops a.tmps) = true := by simp [Region.wanted, hg, hy]
                rw [if_neg hw]
                exact ih (put_skip hI hd) e hK
              | false =>
                simp only [cond_false] at e
                have hw : Region.wanted o (yielded ops a.tmps) = true := by simp [Region.wanted, hg, hy]
                rw [if_pos hw]
                exact .inl (evOp_sound hΓ hI hd e fun st' gh' a' w' h' e' => ih h' e' hK)
          · rename_i g hx
            have hy := tup0_not h hdj hx
            have hw : ¬ Region.wanted o (yielded ops a.tmps) = true := by simp [Region.wanted, hg, hy]
            rw [if_neg hw]
            exact ih (put_skip h hd) e hK
          · simp at e
        · simp at e

/-! ### A loop's head -/
theorem homeG_sound {id : Nat} {x : AV} {v : Value} {st' : St} (h : Inv c gh nt st a w) (hx : TR c.sh gh st.ar st.bx w x v) (e : st.homeG id x = some st') :
    ∃ gh', Inv c gh' nt st' a w ∧ gh'.ba = gh.ba ∧ TR c.sh gh' st'.ar st'.bx w (.rf id) v ∧ (∀ b, (st'.bx b).map (·.1) = (st.bx b).map (·.1)) := by
  unfold St.homeG at e
  split at e
  · rename_i n sz g st1 ht
    obtain ⟨hk, e⟩ := K2_some e
    obtain rfl := Option.some.inj e
    have hid : 262144 ≤ id := Nat.le_of_ble_eq_true hk
    obtain ⟨gh1, F, hT⟩ := takeC_sound (FL := fun _ _ => False) h .none hx ht
    obtain ⟨gh2, l, t⟩ := layC_sound (base := id) (FL := fun _ _ => False) (by have := lim_le c; omega) hT.inv hT.own (hT.free.mono fun x y hx => hx.imp (fun h => h) (fun h => h)) (fun _ _ _ h => h)
    exact ⟨gh2, l.inv, l.ba.trans hT.ba, t, fun b => by rw [l.bxs b, hT.bx]⟩
  · simp at e

theorem home_sound {id : Nat} {x : AV} {v : Value} {st' : St} (h : Inv c gh nt st a w) (hx : TR c.sh gh st.ar st.bx w x v) (e : st.home id x = some st') :
    ∃ gh', Inv c gh' nt st' a w ∧ gh'.ba = gh.ba ∧ TR c.sh gh' st'.ar st'.bx w (.rf id) v ∧ (∀ b, (st'.bx b).map (·.1) = (st.bx b).map (·.1)) := by
  unfold St.home at e
  split at e
  · rename_i k
    cases hb : Nat.beq k id with
    | true =>
      rw [hb] at e
      simp only [cond_true, Option.some.injEq] at e
      subst e
      have := beq_eq.1 hb
      subst this
      exact ⟨gh, h, rfl, hx, fun _ => rfl⟩
    | false =>
      rw [hb] at e
      simp only [cond_false] at e
      exact homeG_sound h hx e
  · exact homeG_sound h hx e

theorem homesT_sound : ∀ (l : List (Nat × Nat)) {gh : Gh} {st st' : St}, Inv c gh nt st a w → st.homesT l = some st' → ∃ gh', Inv c gh' nt st' a w := by
  intro l
  induction l with
  | nil => intro gh st st' h e; simp only [St.homesT, Option.some.injEq] at e; subst e; exact ⟨gh, h⟩
  | cons p l ih =>
    obtain ⟨d, id⟩ := p
    intro gh st st' h e
    simp only [St.homesT] at e
    split at e
    · rename_i st1 h1
      obtain ⟨gh1, h1, _, t1, _⟩ := home_sound h (h.temps d) h1
      exact ih (h1.seeT t1) e
    · simp at e

/-- A box's cell is seen otherwise. -/
theorem Inv.seeB {b sz o : Nat} {cs : Nat → AV} {x : AV} {v : Value} (h : Inv c gh nt st a w) (e : st.bx b = some (sz, cs)) (hv : cellAt w (gh.ba b).block ((gh.ba b).off + o) = some v) (hx : TR c.sh gh st.ar st.bx w x v) :
    Inv c gh nt (st.setB b (some (sz, upd cs o x))) a w := by
  have hw : ∀ (x : AV) (v : Value), TR c.sh gh st.ar st.bx w x v → TR c.sh gh st.ar (upd st.bx b (some (sz, upd cs o x))) w x v := fun y v ht =>
    TR_weaken (fun _ _ e => e) (fun k B e' => by
      by_cases ek : k = b
      · subst ek; exact ⟨_, e⟩
      · rw [upd_ne _ _ ek] at e'; exact ⟨B, e'⟩) y ht
  have hw' : ∀ (y : AV) (v : Value), TR c.sh gh st.ar st.bx w y v → TR c.sh gh st.ar (st.setB b (some (sz, upd cs o x))).bx w y v := fun y v ht =>
    TR_weaken (fun _ _ e => e) (fun k B e' => by
      have e2 : upd st.bx b (some (sz, upd cs o x)) k = some B := e'
      by_cases ek : k = b
      · subst ek; exact ⟨_, e⟩
      · rw [upd_ne _ _ ek] at e2; exact ⟨B, e2⟩) y ht
  have hl : ∀ r, live st.ar (st.setB b (some (sz, upd cs o x))).bx r → live st.ar st.bx r := by
    rintro (k | k) hr
    · exact hr
    · have hr' : (upd st.bx b (some (sz, upd cs o x)) k).isSome := hr
      by_cases ek : k = b
      · subst ek; simp [live, e]
      · rw [upd_ne _ _ ek] at hr'; exact hr'
  have hf : ∀ r x' y', fp gh (st.setB b (some (sz, upd cs o x))).bx r x' y' → fp gh st.bx r x' y' := by
    rintro (k | k) x' y' hr
    · exact hr
    · obtain ⟨B, eB, hi⟩ := hr
      have eB' : upd st.bx b (some (sz, upd cs o x)) k = some B := eB
      by_cases ek : k = b
      · subst ek
        rw [upd_self] at eB'
        obtain rfl := Option.some.inj eB'
        exact ⟨_, e, hi⟩
      · rw [upd_ne _ _ ek] at eB'; exact ⟨B, eB', hi⟩
  refine ⟨h.defers, h.size, fun t => hw' _ _ (h.temps t), ?_, h.fix.weaken (fun id A e => ⟨A, e, rfl, rfl⟩) (fun k B e' => by
      have e2 : upd st.bx b (some (sz, upd cs o x)) k = some B := e'
      by_cases ek : k = b
      · subst ek; rw [upd_self] at e2; obtain rfl := Option.some.inj e2; exact ⟨_, e, rfl⟩
      · rw [upd_ne _ _ ek] at e2; exact ⟨B, e2, rfl⟩)⟩
  exact {
    rows := h.mem.rows
    boxes := fun k sz' g' e' => by
      have e2 : upd st.bx b (some (sz, upd cs o x)) k = some (sz', g') := e'
      by_cases ek : k = b
      · subst ek
        rw [upd_self] at e2
        obtain ⟨rfl, rfl⟩ : sz = sz' ∧ upd cs o x = g' := by simpa using e2
        refine ⟨(h.mem.boxes k sz cs e).1, fun m hm => ?_⟩
        obtain ⟨u, hu, hfz, h1, ht⟩ := (h.mem.boxes k sz cs e).2 m hm
        by_cases em : m = o
        · subst em
          rw [hv] at hu
          obtain rfl := Option.some.inj hu
          exact ⟨v, hv, hfz, h1, by rw [upd_self]; exact hw' _ _ hx⟩
        · exact ⟨u, hu, hfz, h1, by rw [upd_ne _ _ em]; exact hw' _ _ ht⟩
      · rw [upd_ne _ _ ek] at e2
        refine ⟨(h.mem.boxes k sz' g' e2).1, fun m hm => ?_⟩
        obtain ⟨u, hu, hfz, h1, ht⟩ := (h.mem.boxes k sz' g' e2).2 m hm
        exact ⟨u, hu, hfz, h1, hw' _ _ ht⟩
    disj := fun r r' x' y' hn h1 h2 hx hy => h.mem.disj r r' x' y' hn (hl _ h1) (hl _ h2) (hf _ _ _ hx) (hf _ _ _ hy)
    mine := fun r x' y' h1 hx => h.mem.mine r x' y' (hl _ h1) (hf _ _ _ hx)
    grow := h.mem.grow, keep := h.mem.keep, keepB := h.mem.keepB, io := h.mem.io }

theorem homesB_sound : ∀ (l : List (Nat × Nat × Nat)) {gh : Gh} {st st' : St}, Inv c gh nt st a w → st.homesB l = some st' → ∃ gh', Inv c gh' nt st' a w := by
  intro l
  induction l with
  | nil => intro gh st st' h e; simp only [St.homesB, Option.some.injEq] at e; subst e; exact ⟨gh, h⟩
  | cons p l ih =>
    obtain ⟨b, o, id⟩ := p
    intro gh st st' h e
    simp only [St.homesB] at e
    split at e
    · rename_i sz cs hB
      obtain ⟨ho, e⟩ := K2_some e
      have ho : o < sz := Nat.le_of_ble_eq_true ho
      split at e
      · rename_i st1 h1
        obtain ⟨u, hu, _, _, ht⟩ := (h.mem.boxes b sz cs hB).2 o ho
        obtain ⟨gh1, h1, hba, t1, hbx⟩ := home_sound h ht h1
        split at e
        · rename_i sz' cs' hB'
          exact ih (h1.seeB hB' (by rw [hba]; exact hu) t1) e
        · simp at e
      · simp at e
    · simp at e

theorem selT_or (f : Nat → AV) : ∀ (l : List Nat) (d : Nat), selT f l d = f d ∨ selT f l d = .bad := by
  intro l
  induction l with
  | nil => intro d; exact .inr rfl
  | cons k l ih =>
    intro d
    by_cases e : d = k
    · subst e; exact .inl (upd_self _ _ _)
    · have : selT f (k :: l) d = selT f l d := upd_ne _ _ e
      rw [this]; exact ih d
theorem selO_or {α : Type} (f : Nat → Option α) : ∀ (l : List Nat) (d : Nat), selO f l d = f d ∨ selO f l d = none := by
  intro l
  induction l with
  | nil => intro d; exact .inr rfl
  | cons k l ih =>
    intro d
    by_cases e : d = k
    · subst e; exact .inl (upd_self _ _ _)
    · have : selO f (k :: l) d = selO f l d := upd_ne _ _ e
      rw [this]; exact ih d

theorem TR_nn {sh : AV → Value → Prop} {ar ar' : ArT} {bx bx' : BxT} (ha : ∀ id A, ar' id = some A → ∃ A0, ar id = some A0 ∧ A0.n = A.n ∧ A0.sz = A.sz) (hb : ∀ b B, bx' b = some B → ∃ B', bx b = some B') (x : AV) :
    ∀ {v : Value}, TR sh gh ar bx w x v → TR sh gh ar' bx' w x.nn v := by
  induction x with
  | rf id => intro v h A e; obtain ⟨A0, e0, h1, h2⟩ := ha id A e; rw [← h1]; exact h A0 e0
  | rs id a m => intro v h A e; obtain ⟨A0, e0, h1, h2⟩ := ha id A e; rw [← h1, ← h2]; exact h A0 e0
  | rn id p => intro v h; trivial
  | pb b o => intro v h B e; obtain ⟨B0, e0⟩ := hb b B e; exact h B0 e0
  | pe id p i j =>
    intro v h
    cases p with
    | nil => intro A e; obtain ⟨A0, e0, h1, h2⟩ := ha id A e; have := h A0 e0; simp only [placeV] at this ⊢; rw [← h1, ← h2]; exact this
    | cons q p => trivial
  | ag sz g ih => rintro v ⟨vs, e, hs, hc⟩; exact ⟨vs, e, hs, fun j hj => ⟨(hc j hj).1, by rw [tabG_lt hj]; exact ih j (hc j hj).2⟩⟩
  | tup sz g ih => rintro v ⟨vs, e, hs, hc⟩; exact ⟨vs, e, hs, fun j hj => by rw [tabG_lt hj]; exact ih j (hc j hj)⟩
  | clo f n g ih => rintro v ⟨vs, e, hs, hc⟩; exact ⟨vs, e, hs, fun j hj => by rw [tabG_lt hj]; exact ih j (hc j hj)⟩
  | _ => intro v h; exact h

theorem Inv.nn {ar : ArT} {bx : BxT} {t : Nat → AV} (ha : ∀ id A, ar id = some A → ∃ A0, st.ar id = some A0 ∧ A = A0.cn)
    (hb : ∀ b B, bx b = some B → ∃ g0, st.bx b = some (B.1, g0) ∧ ∀ o, o < B.1 → B.2 o = (g0 o).nn) (ht : ∀ d, t d = (st.t d).nn ∨ t d = .bad) (h : Inv c gh nt st a w) : Inv c gh nt ⟨t, ar, bx⟩ a w := by
  have hw : ∀ (x : AV) (v : Value), TR c.sh gh st.ar st.bx w x v → TR c.sh gh ar bx w x.nn v := fun x v ht => TR_nn (fun id A e => by obtain ⟨A0, e0, rfl⟩ := ha id A e; exact ⟨A0, e0, rfl, rfl⟩) (fun b B e => by obtain ⟨g0, e', _⟩ := hb b B e; exact ⟨_, e'⟩) x ht
  have hl : ∀ r, live ar bx r → live st.ar st.bx r := by
    rintro (id | b) hr
    · obtain ⟨A, e⟩ := Option.isSome_iff_exists.1 hr; obtain ⟨A0, e0, _⟩ := ha _ _ e; simp [live, e0]
    · obtain ⟨A, e⟩ := Option.isSome_iff_exists.1 hr; obtain ⟨g0, e', _⟩ := hb _ _ e; simp [live, e']
  have hfp : ∀ r x y, fp gh bx r x y → fp gh st.bx r x y := by
    rintro (id | b) x y hr
    · exact hr
    · obtain ⟨B, e, hi⟩ := hr; obtain ⟨g0, e', _⟩ := hb _ _ e; exact ⟨_, e', hi⟩
  exact ⟨h.defers, h.size, fun d => by
    rcases ht d with e | e
    · show TR c.sh gh ar bx w (t d) _
      rw [e]; exact hw _ _ (h.temps d)
    · show TR c.sh gh ar bx w (t d) _
      rw [e]; trivial, {
    rows := fun id A e => by
      obtain ⟨A0, e0, rfl⟩ := ha _ _ e
      exact RO_cn (.own A0.n A0.sz A0.g) (h.mem.rows id A0 e0)
    boxes := fun b sz g e => by
      obtain ⟨g0, e', hg⟩ := hb _ _ e
      refine ⟨(h.mem.boxes b sz g0 e').1, fun o ho => ?_⟩
      obtain ⟨v, hv, hfr, h1, ht⟩ := (h.mem.boxes b sz g0 e').2 o ho
      exact ⟨v, hv, hfr, h1, by have hgo : g o = (g0 o).nn := hg o ho; rw [hgo]; exact hw _ _ ht⟩
    disj := fun r r' x y hn h1 h2 hx hy => h.mem.disj r r' x y hn (hl _ h1) (hl _ h2) (hfp _ _ _ hx) (hfp _ _ _ hy)
    mine := fun r x y h1 hx => h.mem.mine r x y (hl _ h1) (hfp _ _ _ hx)
    grow := h.mem.grow, keep := h.mem.keep, keepB := h.mem.keepB, io := h.mem.io }, h.fix.weaken (fun id A e => by obtain ⟨A0, e0, rfl⟩ := ha _ _ e; exact ⟨A0, e0, rfl, rfl⟩) (fun b B e => by obtain ⟨g0, e', _⟩ := hb _ _ e; exact ⟨_, e', rfl⟩)⟩

theorem focus_sound {F : Foc} {st' : St} (h : Inv c gh nt st a w) (e : st.focus F = some st') : ∃ gh', Inv c gh' nt st' a w := by
  unfold St.focus at e
  split at e
  · rename_i st1 h1
    split at e
    · rename_i st2 h2
      simp only [Option.some.injEq] at e
      subst e
      obtain ⟨gh1, i1⟩ := homesT_sound _ h h1
      obtain ⟨gh2, i2⟩ := homesB_sound _ i1 h2
      refine ⟨gh2, i2.nn (fun id A e => ?_) (fun b B e => ?_) (fun d => selT_or (fun d => (st2.t d).nn) F.ts d)⟩
      · rcases selO_or (fun id => (st2.ar id).map Arr.cn) F.as id with h | h
        · rw [h] at e
          obtain ⟨A0, e0, rfl⟩ := Option.map_eq_some_iff.1 e
          exact ⟨A0, e0, rfl⟩
        · rw [h] at e; simp at e
      · rcases selO_or (fun b => (st2.bx b).map fun B => (B.1, tabG B.1 (fun o => (B.2 o).nn))) F.bs b with h | h
        · rw [h] at e
          obtain ⟨B0, e0, rfl⟩ := Option.map_eq_some_iff.1 e
          exact ⟨B0.2, e0, fun o ho => tabG_lt ho⟩
        · rw [h] at e; simp at e
    · simp at e
  · simp at e

theorem cutK_sound {C : Cfg} {f id : Nat} {K : Ex → St → Option R} (h : Inv c gh nt st a w) (e : cutK C f id K st = some r) : ∃ gh' st', Inv c gh' nt st' a w ∧ K .normal st' = some r := by
  unfold cutK at e
  cases hc : C.cut f id with
  | false => rw [hc] at e; exact ⟨gh, st, h, e⟩
  | true =>
    rw [hc] at e
    simp only [cond_true] at e
    split at e
    · rename_i st' hf
      obtain ⟨gh', h'⟩ := focus_sound h hf
      exact ⟨gh', st', h', e⟩
    · simp at e

/-! ### Code -/
def toExit : Ex → Exit
  | .normal => .normal
  | .exit id => .exit id
  | .ret => .ret

theorem evL_sound {F : Foc} {body : (Ex → St → Option R) → St → Option R} {cd : Code} {K : Ex → St → Option R} {Q : Exit → Act → World → Prop}
    (hb : ∀ (K' : Ex → St → Option R) (gh : Gh) (st : St) (a : Act) (w : World) (Q' : Exit → Act → World → Prop), Inv c gh nt st a w → body K' st = some r → (∀ ex st' gh' a' w', Inv c gh' nt st' a' w' → K' ex st' = some r → Q' (toExit ex) a' w') → cd.wp P Q' a w)
    (hK : ∀ ex st' gh' a' w', Inv c gh' nt st' a' w' → K ex st' = some r → Q (toExit ex) a' w') {n : Nat} (h : Inv c gh nt st a w) (e : evL F body K n st = some r) : (Code.loop cd).wp P Q a w := by
  refine wp_loop_ghost (fun n a w => ∃ gh st, Inv c gh nt st a w ∧ evL F body K n st = some r) n ⟨gh, st, h, e⟩ ?_
  rintro m a w ⟨gh, st, h, e⟩
  cases m with
  | zero => simp [evL] at e
  | succ m =>
    simp only [evL] at e
    split at e
    · rename_i st' hf
      obtain ⟨gh', h'⟩ := focus_sound h hf
      refine hb _ gh' st' a w _ h' e fun ex st2 gh2 a2 w2 h2 e2 => ?_
      cases ex with
      | normal => exact ⟨m, Nat.lt_succ_self m, gh2, st2, h2, e2⟩
      | exit id => exact hK (.exit id) st2 gh2 a2 w2 h2 e2
      | ret => exact hK .ret st2 gh2 a2 w2 h2 e2
    · simp at e

theorem evC_sound {C : Cfg} {Γ : Orc} {N f : Nat} (hΓ : OrcOk P C Γ) : ∀ (cd : Code) (K : Ex → St → Option R) (gh : Gh) (st : St) (a : Act) (w : World) (Q : Exit → Act → World → Prop), dstOk nt cd = true → Inv c gh nt st a w → evC P C Γ N f cd K st = some r →
    (∀ ex st' gh' a' w', Inv c gh' nt st' a' w' → K ex st' = some r → Q (toExit ex) a' w') → cd.wp P Q a w := by
  intro cd
  induction cd with
  | skip => intro K gh st a w Q _ h e hK; exact wp_skip (hK .normal st gh a w h e)
  | label l => intro K gh st a w Q _ h e hK; exact wp_label (hK .normal st gh a w h e)
  | region id ops draw =>
    intro K gh st a w Q hd h e hK
    have hops : ∀ (i : Nat) (o : Oper), ops[i]? = some o → ∀ k, o.dst = some k → k < nt := fun i o hi k hk => by
      simp only [dstOk] at hd
      have := Array.all_eq_true_iff_forall_mem.1 hd o (Array.mem_of_getElem? hi)
      rw [hk] at this
      exact Nat.le_of_ble_eq_true this
    cases draw with
    | true =>
      simp only [evC] at e
      obtain ⟨hk, e⟩ := K2_some e
      rw [Bool.and_eq_true] at hk
      refine Code.wp_mono (Q := fun ex a w => match ex with | .normal => ∃ st' gh', Inv c gh' nt st' a w ∧ cutK C f id K st' = some r | _ => False) (fun ex a' w' hq => ?_) (wp_region_any hk.1 (evDraw_sound hΓ hops hk.2 _ _ (by simp) (h.ext ⟨Nat.le_refl _, fun _ _ => rfl, rfl, rfl, rfl⟩) e))
      cases ex with
      | normal =>
        obtain ⟨st', gh', h', e'⟩ := hq
        obtain ⟨gh2, st2, h2, e2⟩ := cutK_sound h' e'
        exact hK .normal st2 gh2 a' w' h2 e2
      | _ => exact hq.elim
    | false =>
      refine wp_region (evOps_sound hΓ (fun i o hi k hk => ?_) _ h e fun st' gh' a' w' h' e' => by
        obtain ⟨gh2, st2, h2, e2⟩ := cutK_sound h' e'
        exact hK .normal st2 gh2 a' w' h2 e2)
      simp only [dstOk] at hd
      have := Array.all_eq_true_iff_forall_mem.1 hd o (Array.mem_of_getElem? hi)
      rw [hk] at this
      exact Nat.le_of_ble_eq_true this
  | seq x y ihx ihy =>
    intro K gh st a w Q hd h e hK
    simp only [dstOk, Bool.and_eq_true] at hd
    refine wp_seq (ihx _ gh st a w _ hd.1 h e fun ex st' gh' a' w' h' e' => ?_)
    cases ex with
    | normal => exact ihy K gh' st' a' w' Q hd.2 h' e' hK
    | exit id => exact hK (.exit id) st' gh' a' w' h' e'
    | ret => exact hK .ret st' gh' a' w' h' e'
  | cond cn x y ihx ihy =>
    intro K gh st a w Q hd h e hK
    simp only [dstOk, Bool.and_eq_true] at hd
    simp only [evC] at e
    split at e
    · rename_i b hb
      have h1 := get_TR (P := P) h 0 cn
      rw [hb] at h1
      refine wp_cond (TR_B h1) ?_
      cases b with
      | true => exact ihx K gh st a w Q hd.1 h e hK
      | false => exact ihy K gh st a w Q hd.2 h e hK
    · simp at e
  | block id x ih =>
    intro K gh st a w Q hd h e hK
    refine wp_block (ih _ gh st a w _ hd h e fun ex st' gh' a' w' h' e' => ?_)
    cases ex with
    | normal => exact hK .normal st' gh' a' w' h' e'
    | exit k =>
      simp only at e'
      show (if k = id then Q .normal a' w' else Q (.exit k) a' w')
      cases hb : Nat.beq k id with
      | true =>
        rw [hb] at e'
        rw [if_pos (beq_eq.1 hb)]
        exact hK .normal st' gh' a' w' h' e'
      | false =>
        rw [hb] at e'
        rw [if_neg (fun e2 : k = id => by rw [e2] at hb; simp at hb)]
        exact hK (.exit k) st' gh' a' w' h' e'
    | ret => exact hK .ret st' gh' a' w' h' e'
  | loop x ih =>
    intro K gh st a w Q hd h e hK
    exact evL_sound (cd := x) (fun K' gh st a w Q' h' e' hK' => ih K' gh st a w Q' hd h' e' hK') hK h e
  | exit id => intro K gh st a w Q _ h e hK; exact wp_exit (hK (.exit id) st gh a w h e)
  | ret => intro K gh st a w Q _ h e hK; exact wp_ret (hK .ret st gh a w h e)
  | _ => intro K gh st a w Q _ h e hK; simp [evC] at e

end
end Go.Fw
