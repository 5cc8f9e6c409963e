/- The by-value interpreter: stores are what the model's are. -/
import Derived.Test.YtkhfkekbfjkpcaaFwN
set_option linter.unusedVariables false
set_option linter.unusedSectionVars false
set_option linter.unusedSimpArgs false
namespace Go.Fw
variable [Tok]

theorem TR_killN {sh : AV → Value → Prop} {gh : Gh} {ar : ArT} {bx : BxT} {w : World} (id : Nat) (x : AV) :
    ∀ {v : Value}, TR sh gh ar bx w x v → TR sh gh ar bx w (x.killN id) v := by
  induction x with
  | rn k p => intro v h; exact cond_TR _ h
  | pe k p i j => intro v h; exact cond_TR _ h
  | ag sz g ih => rintro v ⟨vs, rfl, hs, hv⟩; exact ⟨vs, rfl, hs, fun j hj => ⟨(hv j hj).1, ih j (hv j hj).2⟩⟩
  | tup sz g ih => rintro v ⟨vs, rfl, hs, hv⟩; exact ⟨vs, rfl, hs, fun j hj => ih j (hv j hj)⟩
  | clo f sz g ih => rintro v ⟨vs, rfl, hs, hv⟩; exact ⟨vs, rfl, hs, fun j hj => ih j (hv j hj)⟩
  | _ => intro v h; exact h

theorem upd_upd {α : Type} (f : Nat → α) (i : Nat) (x y : α) : upd (upd f i x) i y = upd f i y := by
  funext k
  by_cases e : k = i
  · subst e; simp [upd_self]
  · simp [upd_ne _ _ e]

theorem setA_setA (st : St) (id : Nat) (x y : Option Arr) : (st.setA id x).setA id y = st.setA id y := by
  simp [St.setA, upd_upd]

theorem storeCells_sound {c : Cx} {nt : Nat} {a : Act} {id : Nat} {p : List (Nat × Nat)} {i : Nat} {bl : Nat} : ∀ (l : List AV) (vs : List Value) {gh : Gh} {st : St} {w : World} {A : Arr} {j of : Nat} {Fs : Nat → Cells},
    Inv c gh nt st a w → st.ar id = some A → vs.length = l.length →
    (∀ k, k < l.length → placeV w (gh.hd id).1 A.n A.sz A.g p i (j + k) (.pointer (some ⟨bl, of + k, none⟩))) → (p = [] ∨ ∃ n' sz' h, atP A.g p = .own n' sz' h) →
    (∀ k, k < l.length → (vs.getD k undef).oneCell' = true) → (∀ k, k < l.length → RO w c.sh (lstG l k) (vs.getD k undef) (Fs k)) → (∀ k, k < l.length → Free c gh st.ar st.bx w (Fs k)) → (∀ k m b o, k < l.length → m < l.length → k ≠ m → Fs k b o → ¬ Fs m b o) →
    (∀ t, l.all AV.notOwn = true ∨ ∃ z : AV, st.t t = z.killN id) → (∀ b B, st.bx b = some B → ∀ o, l.all AV.notOwn = true ∨ ∃ z : AV, B.2 o = z.killN id) →
    ∃ gh', Inv c gh' nt (st.setA id (some ⟨A.n, A.sz, wrL A.g p i j l⟩)) a (w.setCells bl of vs) := by
  intro l
  induction l with
  | nil =>
    intro vs gh st w A j of Fs h e hl _ _ _ _ _ _ _ _
    have : vs = [] := by simpa using hl
    subst this
    refine ⟨gh, ?_⟩
    have : st.setA id (some ⟨A.n, A.sz, wrL A.g p i j []⟩) = st := by
      simp only [St.setA, wrL]
      congr 1
      funext k
      by_cases ek : k = id
      · subst ek; rw [upd_self, e]
      · rw [upd_ne _ _ ek]
    rw [this]; exact h
  | cons x l ih =>
    intro vs gh st w A j of Fs h e hl hpl hat hone hx hfr hap hQt hQb
    cases vs with
    | nil => simp at hl
    | cons v vs =>
      have hpl0 := hpl 0 (by simp)
      simp only [Nat.add_zero] at hpl0
      have hx0 := hx 0 (by simp)
      obtain ⟨gh1, hs, hin, hmore, hat'⟩ := storeCell (q := (i, j)) (ad := ⟨bl, of, none⟩) (u := v) h e hpl0 hat rfl (by simpa using hone 0 (by simp)) hx0 (hfr 0 (by simp))
        (fun t => (hQt t).imp (fun h => by rw [lstG_zero]; simp only [List.all_cons, Bool.and_eq_true] at h; exact h.1) (fun h => h)) (fun b B eB o => (hQb b B eB o).imp (fun h => by rw [lstG_zero]; simp only [List.all_cons, Bool.and_eq_true] at h; exact h.1) (fun h => h))
      rw [lstG_zero] at hs hmore hat'
      have e1 : (st.setA id (some ⟨A.n, A.sz, setP A.g (p ++ [(i, j)]) x⟩)).ar id = some ⟨A.n, A.sz, setP A.g (p ++ [(i, j)]) x⟩ := upd_self _ _ _
      obtain ⟨gh2, hI⟩ := ih vs (j := j + 1) (of := of + 1) (Fs := fun k => Fs (k + 1)) hs.inv e1 (by simpa using hl)
        (fun k hk => by
          have := hmore (j + (k + 1)) _ (hpl (k + 1) (by simp; omega))
          rw [hs.hd]
          rw [show j + 1 + k = j + (k + 1) by omega, show of + 1 + k = of + (k + 1) by omega]
          exact this)
        (hat'.imp (fun h => h) (fun ⟨n', sz', h', e, _⟩ => ⟨n', sz', h', e⟩))
        (fun k hk => by simpa using hone (k + 1) (by simp; omega))
        (fun k hk => by
          have h1 := hx (k + 1) (by simp; omega)
          rw [lstG_succ] at h1
          exact RO_congr _ (hs.agree _ (hfr (k + 1) (by simp; omega))) (by simpa using h1))
        (fun k hk => hs.free _ (hfr (k + 1) (by simp; omega)) (fun b o hb => hap (k + 1) 0 b o (by simp; omega) (by simp) (by omega) hb))
        (fun k m b o hk hm hkm => hap (k + 1) (m + 1) b o (by simp; omega) (by simp; omega) (by omega))
        (fun t => (hQt t).imp (fun h => by simp only [List.all_cons, Bool.and_eq_true] at h; exact h.2) (fun h => h))
        (fun b B eB o => (hQb b B eB o).imp (fun h => by simp only [List.all_cons, Bool.and_eq_true] at h; exact h.2) (fun h => h))
      refine ⟨gh2, ?_⟩
      rw [setA_setA] at hI
      exact hI

section
variable {c : Cx} {gh : Gh} {nt : Nat} {st : St} {a : Act} {w : World} {P : Program} {R : Type} {r : R}

theorem cells_TR {x : AV} {v : Value} (h : Inv c gh nt st a w) (hs : st.sureA x = true) (hx : TR c.sh gh st.ar st.bx w x v) :
    v.cells.size = x.cellsN ∧ ∀ j, j < x.cellsN → (v.cells.getD j undef).oneCell' = true ∧ TR c.sh gh st.ar st.bx w (x.cellsG j) (v.cells.getD j undef) := by
  by_cases hag : ∃ sz g, x = .ag sz g
  · obtain ⟨sz, g, rfl⟩ := hag
    obtain ⟨vs, rfl, hsz, hv⟩ := hx
    exact ⟨hsz, hv⟩
  · have e1 : st.sureA x = st.sure x := by cases x <;> first | rfl | exact absurd ⟨_, _, rfl⟩ hag
    have e2 : x.cellsN = 1 := by cases x <;> first | rfl | exact absurd ⟨_, _, rfl⟩ hag
    have e3 : x.cellsG = fun _ => x := by cases x <;> first | rfl | exact absurd ⟨_, _, rfl⟩ hag
    rw [e1] at hs
    have h1 := sure_oneCell h hs hx
    have e4 : v.cells = #[v] := by cases v <;> first | rfl | simp [Value.oneCell'] at h1
    rw [e2, e3, e4]
    refine ⟨rfl, fun j hj => ?_⟩
    obtain rfl : j = 0 := by omega
    exact ⟨h1, hx⟩

theorem storeAt_run {t : TypeId} {ad : Addr} {v : Value} {i : TypeInfo} (hs : ad.spot = none) (hi : P.info? t = some i) (hsz : v.cells.size = P.cellsOf t)
    (hc : ∀ j, j < v.cells.size → (cellAt w ad.block (ad.off + j)).isSome = true ∧ frozAt w ad.block (ad.off + j) = false) (h1 : ∀ j, j < v.cells.size → (v.cells.getD j undef).oneCell' = true) :
    (Instr.storeAt t (.pointer (some ad)) v).run P w = .ok () (w.setCells ad.block ad.off v.cells.toList) := by
  have had : ad = ⟨ad.block, ad.off, none⟩ := by cases ad; simp at hs; subst hs; rfl
  have := run_storeCells_cells (P := P) ad.block ad.off v.cells.toList 0 w (fun j hj => by simpa using (hc j (by simpa using hj)).1) (fun j hj => by simpa using (hc j (by simpa using hj)).2)
    (fun v' hv => by
      obtain ⟨j, hj, rfl⟩ := List.mem_iff_getElem.1 hv
      have := h1 j (by simpa using hj)
      simpa [Array.getD_eq_getD_getElem?, show j < v.cells.size by simpa using hj] using this)
  rw [← had] at this
  have hsz' : v.cells.size = i.size := by rw [hsz, cellsOf_eq hi]
  simp only [Nat.add_zero] at this
  simp [Instr.storeAt, Instr.sureAddr, storeVar, sizeOf, typeInfo, hi, hsz', this]

theorem storeK_sound {t : TypeId} {pt x : AV} {u v : Value} {K : St → Option R} (h : Inv c gh nt st a w) (e : storeK P st t pt x K = some r) (hp : TR c.sh gh st.ar st.bx w pt u) (hx : TR c.sh gh st.ar st.bx w x v) :
    ∃ st' gh' w', K st' = some r ∧ (Instr.storeAt t u v).run P w = .ok () w' ∧ Inv c gh' nt st' a w' := by
  unfold storeK at e
  obtain ⟨hk, e⟩ := K2_some e
  simp only [Bool.and_eq_true] at hk
  obtain ⟨⟨i, hi⟩, hu, hpos⟩ := tyOk_iff hk.1.1
  have hN : x.cellsN = P.cellsOf t := beq_eq.1 hk.1.2
  obtain ⟨hsz, hcs⟩ := cells_TR h hk.2 hx
  cases pt with
  | pb b o =>
    simp only at e
    split at e
    · rename_i sz g hB
      obtain ⟨hle, e⟩ := K2_some e
      have hle : o + P.cellsOf t ≤ sz := Nat.le_of_ble_eq_true hle
      have hv := hp (sz, g) hB
      subst hv
      obtain ⟨hsp, hbx⟩ := h.mem.boxes b sz g hB
      have hlv : live st.ar st.bx (.inr b) := by simp [live, hB]
      refine ⟨_, gh, _, e, storeAt_run rfl hi (by rw [hsz, hN]) (fun j hj => ?_) (fun j hj => (hcs j (by omega)).1), ?_⟩
      · obtain ⟨v', h1, h2, _⟩ := hbx (o + j) (by omega)
        simp only [Nat.add_assoc]
        exact ⟨by rw [h1]; rfl, h2⟩
      · obtain ⟨hs1, hs2, hs3⟩ := setCells_spec (gh.ba b).block v.cells.toList ((gh.ba b).off + o) w (fun j hj => by
          obtain ⟨v', h1, _⟩ := hbx (o + j) (by simp at hj; omega)
          exact ⟨v', by rw [Nat.add_assoc]; exact h1⟩)
        have hlen : v.cells.toList.length = P.cellsOf t := by simp; omega
        rw [hlen] at hs2
        -- the cells that change lie in the box
        have hD : ∀ b' o', (b' = (gh.ba b).block ∧ (gh.ba b).off + o ≤ o' ∧ o' < (gh.ba b).off + o + P.cellsOf t) → fp gh st.bx (.inr b) b' o' := by
          rintro b' o' ⟨rfl, h1, h2⟩; exact ⟨(sz, g), hB, rfl, by omega, by simp only; omega⟩
        have hag : ∀ r, r ≠ .inr b → live st.ar st.bx r → Agree w _ (fp gh st.bx r) := fun r hr hlr b' o' hf =>
          hs2.cell b' o' (h.mem.mine r b' o' hlr hf).1 (fun hd => h.mem.disj r (.inr b) b' o' hr hlr hlv hf (hD _ _ hd))
        have hbx' : ∀ k B, (st.setB b (some (sz, fun j => bif Nat.ble o j && Nat.blt j (o + P.cellsOf t) then x.cellsG (j - o) else g j))).bx k = some B → ∃ B', st.bx k = some B' := fun k B hk => by
          by_cases ek : k = b
          · subst ek; exact ⟨_, hB⟩
          · have hk' : upd st.bx b _ k = some B := hk
            rw [upd_ne _ _ ek] at hk'; exact ⟨B, hk'⟩
        have hT : ∀ y v', TR c.sh gh st.ar st.bx w y v' → TR c.sh gh st.ar (st.setB b (some (sz, fun j => bif Nat.ble o j && Nat.blt j (o + P.cellsOf t) then x.cellsG (j - o) else g j))).bx (w.setCells (gh.ba b).block ((gh.ba b).off + o) v.cells.toList) y v' :=
          fun y v' t' => TR_weaken (fun _ _ e => e) hbx' y (TR_congr h.mem.rows (fun id A eA => hag (.inl id) (by simp) (by simp [live, eA])) y t')
        refine ⟨h.defers, h.size, fun t' => hT _ _ (h.temps t'), ?_, h.fix.weaken (fun id A e => ⟨A, e, rfl, rfl⟩) (fun k B e => by
          by_cases ek : k = b
          · subst ek
            have e' : upd st.bx k _ k = some B := e
            rw [upd_self] at e'
            obtain rfl := Option.some.inj e'
            exact ⟨_, hB, rfl⟩
          · have e' : upd st.bx b _ k = some B := e
            rw [upd_ne _ _ ek] at e'
            exact ⟨B, e', rfl⟩)⟩
        refine h.mem.gen (D := _) (G := fun _ _ => False) (· = .inr b) hs2 (fun b' o' hd => .inl ⟨.inr b, rfl, hlv, hD b' o' hd⟩) (fun _ _ h => h.elim) ?_ ?_ ?_ ?_ ?_ ?_
        · intro id A _ eA; exact ⟨eA, rfl, rfl⟩
        · intro k sz' g' hk e'
          have ek : k ≠ b := fun e => hk (by rw [e])
          have e'' : upd st.bx b _ k = some (sz', g') := e'
          rw [upd_ne _ _ ek] at e''
          exact ⟨g', e'', rfl, fun o _ v _ t => hT _ _ t⟩
        · intro id A hk; simp at hk
        · intro k sz' g' hk e'
          obtain rfl : k = b := by simpa using hk
          have e'' : upd st.bx k _ k = some (sz', g') := e'
          rw [upd_self] at e''
          obtain ⟨rfl, rfl⟩ : sz = sz' ∧ _ = g' := by simpa using e''
          refine ⟨hsp, fun m hm => ?_⟩
          obtain ⟨v0, h1, h2, h3, h4⟩ := hbx m hm
          by_cases hin : o ≤ m ∧ m < o + P.cellsOf t
          · have hmo : m - o < x.cellsN := by omega
            have hc := hs1 (m - o) (v.cells.getD (m - o) undef) (by simp [Array.getD_eq_getD_getElem?, show m - o < v.cells.size by omega])
            refine ⟨_, by rw [← hc]; congr 1; omega, by rw [hs3]; exact h2, (hcs _ hmo).1, ?_⟩
            have hb : (Nat.ble o m && Nat.blt m (o + P.cellsOf t)) = true := by rw [Bool.and_eq_true]; exact ⟨Nat.ble_eq_true_of_le hin.1, Nat.ble_eq_true_of_le hin.2⟩
            simp only [hb, cond_true]
            exact hT _ _ (hcs _ hmo).2
          · have hb : (Nat.ble o m && Nat.blt m (o + P.cellsOf t)) = false := by
              rw [Bool.eq_false_iff]; intro hb; rw [Bool.and_eq_true] at hb
              exact hin ⟨Nat.le_of_ble_eq_true hb.1, Nat.le_of_ble_eq_true hb.2⟩
            have := hs2.cell _ ((gh.ba k).off + m) (h.mem.mine (.inr k) _ ((gh.ba k).off + m) hlv ⟨(sz, g), hB, rfl, by omega, by simp only; omega⟩).1 (by rintro ⟨_, _, _⟩; omega)
            refine ⟨v0, by rw [this.1]; exact h1, by rw [hs3]; exact h2, h3, ?_⟩
            simp only [hb, cond_false]
            exact hT _ _ h4
        · rintro r b' o' rfl hlr ⟨B, eB, hin⟩
          have eB' : upd st.bx b _ b = some B := eB
          rw [upd_self] at eB'
          obtain rfl := Option.some.inj eB'
          exact .inl ⟨_, rfl, hlv, (sz, g), hB, hin⟩
        · rintro r r' b' o' rfl rfl hn; exact absurd rfl hn
    · simp at e
  | pe id p i' j =>
    simp only at e
    split at e
    · rename_i l st1 htk
      split at e
      · rename_i A hA
        obtain ⟨hle, e⟩ := K2_some e
        have hle : j + x.cellsN ≤ A.szAt p := Nat.le_of_ble_eq_true hle
        obtain ⟨hlen, gh1, F, hT, Fs, hf1, hf2, hf3⟩ := takeR_range (vs := fun j => v.cells.getD j undef) x.cellsN h .none (fun j hj => (hcs j hj).2) htk
        split at e
        · rename_i st' hw
          have hpl := hT.holds _ _ hp A hA
          have hat := szAt_own (A := A) (p := p) (j := j) (by omega)
          have hat' : p = [] ∨ ∃ n' sz' h, atP A.g p = .own n' sz' h := hat.imp (fun h => h) fun ⟨n', sz', h', e, _⟩ => ⟨n', sz', h', e⟩
          obtain ⟨ad, rfl⟩ : ∃ ad, u = .pointer (some ad) := by
            cases p with
            | nil => obtain ⟨_, _, ad, _, rfl⟩ := hpl; exact ⟨_, rfl⟩
            | cons q r =>
              rcases hat' with hat' | ⟨n', sz', h', e'⟩
              · simp at hat'
              · obtain ⟨_, _, ad, _, _, rfl⟩ := hpl n' sz' h' e'; exact ⟨_, rfl⟩
          have hrow := hT.inv.mem.rows id A hA
          obtain ⟨_, _, _, _, _, _, _, _, hsp, hmore⟩ := place_cell p hrow hpl hat'
          have hpls : ∀ k, k < l.length → placeV w (gh1.hd id).1 A.n A.sz A.g p i' (j + k) (.pointer (some ⟨ad.block, ad.off + k, none⟩)) := fun k hk' => hmore k (by show j + k < A.szAt p; omega)
          have hfree : ∀ k, k < l.length → Free c gh1 st1.ar st1.bx w (Fs k) := fun k hk' => hT.free.mono fun b o hb => .inr (hf1 k b o (by omega) hb)
          have hvl : v.cells.toList.length = l.length := by simp; omega
          have hgd : ∀ k, v.cells.toList.getD k undef = v.cells.getD k undef := fun k => by simp [List.getD_eq_getElem?_getD, Array.getD_eq_getD_getElem?]
          have hrun := storeAt_run (P := P) (w := w) (t := t) hsp hi (by rw [hsz, hN]) (fun k hk' => by
            obtain ⟨v', F', h1, _, h2, _⟩ := place_cell p hrow (hpls k (by omega)) hat'
            exact ⟨by rw [h1]; rfl, h2⟩) (fun j hj => (hcs j (by omega)).1)
          unfold St.wrE at hw
          by_cases hall : l.all AV.notOwn = true
          · rw [hall] at hw
            simp only [cond_true] at hw
            rw [hA] at hw
            obtain rfl := Option.some.inj hw
            obtain ⟨gh2, hI⟩ := storeCells_sound l v.cells.toList hT.inv hA hvl hpls hat' (fun k hk' => by rw [hgd]; exact (hcs k (by omega)).1) (fun k hk' => by rw [hgd]; exact hf3 k (by omega)) hfree (fun k m b o hk' hm' => hf2 k m b o (by omega) (by omega)) (fun _ => .inl hall) (fun _ _ _ _ => .inl hall)
            exact ⟨_, gh2, _, e, hrun, hI⟩
          · rw [Bool.not_eq_true] at hall
            rw [hall] at hw
            simp only [cond_false] at hw
            have hA' : (st1.map (AV.killN id)).ar id = some A := hA
            rw [hA'] at hw
            obtain rfl := Option.some.inj hw
            have hI1 := hT.inv.map (AV.killN id) (fun x v t => TR_killN id x t)
            have hfree' : ∀ k, k < l.length → Free c gh1 (st1.map (AV.killN id)).ar (st1.map (AV.killN id)).bx w (Fs k) := fun k hk' b o hb => by
              have := hfree k hk' b o hb
              refine ⟨fun r hr hf => this.1 r ((live_map _ r).1 hr) ?_, this.2⟩
              have e1 : fp gh1 (st1.map (AV.killN id)).bx r = fp gh1 st1.bx r := fp_map _ r
              rw [e1] at hf; exact hf
            have hQ : ∀ b B, (st1.map (AV.killN id)).bx b = some B → ∀ o, l.all AV.notOwn = true ∨ ∃ z : AV, B.2 o = z.killN id := fun b B eB o => by
              obtain ⟨g', e', hg'⟩ := map_some (b := b) (sz := B.1) (g := B.2) (f := AV.killN id) (bx := st1.bx) eB
              exact .inr ⟨g' o, by rw [hg']⟩
            obtain ⟨gh2, hI⟩ := storeCells_sound l v.cells.toList hI1 hA' hvl hpls hat' (fun k hk' => by rw [hgd]; exact (hcs k (by omega)).1) (fun k hk' => by rw [hgd]; exact hf3 k (by omega)) hfree' (fun k m b o hk' hm' => hf2 k m b o (by omega) (by omega)) (fun t => .inr ⟨_, rfl⟩) hQ
            exact ⟨_, gh2, _, e, hrun, hI⟩
        · simp at e
      · simp at e
    · simp at e
  | _ => simp at e

end
end Go.Fw
