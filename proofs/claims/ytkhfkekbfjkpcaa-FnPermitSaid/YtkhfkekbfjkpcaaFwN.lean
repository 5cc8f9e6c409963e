/- The by-value interpreter: one cell of a row stored: the invariant. -/
import Derived.Test.YtkhfkekbfjkpcaaFwM
set_option linter.unusedVariables false
set_option linter.unusedSectionVars false
set_option linter.unusedSimpArgs false
namespace Go.Fw
variable [Tok]

/-- A cell of a row becomes 'x', in table and world: temporaries hold on. -/
theorem TR_store {sh : AV → Value → Prop} {gh gh' : Gh} {ar : ArT} {bx : BxT} {w w' : World} {id : Nat} {A : Arr} {x : AV} {p : List (Nat × Nat)} {q : Nat × Nat} {ad : Addr}
    (hhd : gh'.hd = gh.hd) (hba : gh'.ba = gh.ba) (e : ar id = some A)
    (hrow : ∀ k A, ar k = some A → RO w sh (.own A.n A.sz A.g) (.slice (gh.hd k).1 A.n (gh.hd k).2) (gh.fa k))
    (hpl : placeV w (gh.hd id).1 A.n A.sz A.g p q.1 q.2 (.pointer (some ad))) (hat : p = [] ∨ ∃ n' sz' h, atP A.g p = .own n' sz' h)
    (hag : ∀ k A, ar k = some A → ∀ b o, gh.fa k b o → ¬ (b = ad.block ∧ o = ad.off) → cellAt w' b o = cellAt w b o ∧ frozAt w' b o = frozAt w b o)
    (hoth : ∀ k A, ar k = some A → k ≠ id → ¬ gh.fa k ad.block ad.off) (y : AV) :
    ∀ {v : Value}, (x.notOwn = true ∨ ∃ z : AV, y = z.killN id) → TR sh gh ar bx w y v → TR sh gh' (upd ar id (some ⟨A.n, A.sz, setP A.g (p ++ [q]) x⟩)) bx w' y v := by
  have key : ∀ k B, upd ar id (some ⟨A.n, A.sz, setP A.g (p ++ [q]) x⟩) k = some B → (k = id ∧ B = ⟨A.n, A.sz, setP A.g (p ++ [q]) x⟩) ∨ (k ≠ id ∧ ar k = some B) := fun k B hk => by
    by_cases ek : k = id
    · subst ek; rw [upd_self] at hk; exact .inl ⟨rfl, by simpa using hk.symm⟩
    · rw [upd_ne _ _ ek] at hk; exact .inr ⟨ek, hk⟩
  have hagk : ∀ k B, ar k = some B → k ≠ id → Agree w w' (gh.fa k) := fun k B eB ek b o hb => hag k B eB b o hb (fun ⟨e1, e2⟩ => hoth k B eB ek (by subst e1 e2; exact hb))
  induction y with
  | rf k =>
    intro v hk h B hB
    rw [hhd]
    rcases key k B hB with ⟨rfl, rfl⟩ | ⟨ek, hB⟩
    · exact h A e
    · exact h B hB
  | rs k a m =>
    intro v hk h B hB
    rw [hhd]
    rcases key k B hB with ⟨rfl, rfl⟩ | ⟨ek, hB⟩
    · exact h A e
    · exact h B hB
  | rn k p2 =>
    intro v hk h B n sz g hB hown
    rw [hhd]
    rcases key k B hB with ⟨rfl, rfl⟩ | ⟨ek, hB⟩
    · have hx : x.notOwn = true := by
        rcases hk with hk | ⟨z, hz⟩
        · exact hk
        · exfalso
          cases z with
          | rn k' p3 =>
            simp only [AV.killN] at hz
            by_cases e1 : k' = k
            · subst e1; simp at hz
            · rw [beq_ne e1] at hz; simp at hz; exact e1 hz.1.symm
          | pe k' p3 i j =>
            simp only [AV.killN] at hz
            cases hb : (Nat.beq k' k && !p3.isEmpty) <;> rw [hb] at hz <;> simp at hz
          | _ => simp [AV.killN] at hz
      obtain ⟨h0, e0⟩ := atP_setP hx (p ++ [q]) p2 hown
      exact pathV_store hx p2 p (hrow k A e) hpl hat (hag k A e) (h A n sz h0 e e0) hown
    · exact pathV_congr _ (hrow k B hB) (hagk k B hB ek) (h B n sz g hB hown)
  | pe k p2 i j =>
    intro v hk h B hB
    rw [hhd]
    rcases key k B hB with ⟨rfl, rfl⟩ | ⟨ek, hB⟩
    · have h' := h A e
      cases p2 with
      | nil => exact h'
      | cons p20 p2' =>
        have hx : x.notOwn = true := by
          rcases hk with hk | ⟨z, hz⟩
          · exact hk
          · exfalso
            cases z with
            | rn k' p3 =>
              simp only [AV.killN] at hz
              cases hb : (Nat.beq k' k) <;> rw [hb] at hz <;> simp at hz
            | pe k' p3 i j =>
              simp only [AV.killN] at hz
              cases hb : (Nat.beq k' k && !p3.isEmpty)
              · rw [hb] at hz
                simp at hz
                obtain ⟨rfl, rfl, _⟩ := hz
                simp at hb
              · rw [hb] at hz; simp at hz
            | _ => simp [AV.killN] at hz
        intro n' sz' h3 hown
        obtain ⟨h0, e0⟩ := atP_setP hx (p ++ [q]) (p20 :: p2') hown
        obtain ⟨hi, hj, ad', cap, hp, hv⟩ := h' n' sz' h0 e0
        exact ⟨hi, hj, ad', cap, pathV_store hx (p20 :: p2') p (hrow k A e) hpl hat (hag k A e) hp hown, hv⟩
    · exact placeV_congr _ (hrow k B hB) (hagk k B hB ek) (h B hB)
  | ag sz g ih =>
    rintro v hk ⟨vs, rfl, hs, hv⟩
    refine ⟨vs, rfl, hs, fun j hj => ⟨(hv j hj).1, ih j ?_ (hv j hj).2⟩⟩
    rcases hk with hk | ⟨z, hz⟩
    · exact .inl hk
    · cases z with
      | ag sz' g' => simp only [AV.killN, AV.ag.injEq] at hz; exact .inr ⟨g' j, by rw [hz.2]⟩
      | rn k p2 => simp only [AV.killN] at hz; cases hb : Nat.beq k id <;> rw [hb] at hz <;> simp at hz
      | pe k p2 i j => simp only [AV.killN] at hz; cases hb : (Nat.beq k id && !p2.isEmpty) <;> rw [hb] at hz <;> simp at hz
      | _ => simp [AV.killN] at hz
  | tup sz g ih =>
    rintro v hk ⟨vs, rfl, hs, hv⟩
    refine ⟨vs, rfl, hs, fun j hj => ih j ?_ (hv j hj)⟩
    rcases hk with hk | ⟨z, hz⟩
    · exact .inl hk
    · cases z with
      | tup sz' g' => simp only [AV.killN, AV.tup.injEq] at hz; exact .inr ⟨g' j, by rw [hz.2]⟩
      | rn k p2 => simp only [AV.killN] at hz; cases hb : Nat.beq k id <;> rw [hb] at hz <;> simp at hz
      | pe k p2 i j => simp only [AV.killN] at hz; cases hb : (Nat.beq k id && !p2.isEmpty) <;> rw [hb] at hz <;> simp at hz
      | _ => simp [AV.killN] at hz
  | clo f sz g ih =>
    rintro v hk ⟨vs, rfl, hs, hv⟩
    refine ⟨vs, rfl, hs, fun j hj => ih j ?_ (hv j hj)⟩
    rcases hk with hk | ⟨z, hz⟩
    · exact .inl hk
    · cases z with
      | clo f' sz' g' => simp only [AV.killN, AV.clo.injEq] at hz; exact .inr ⟨g' j, by rw [hz.2.2]⟩
      | rn k p2 => simp only [AV.killN] at hz; cases hb : Nat.beq k id <;> rw [hb] at hz <;> simp at hz
      | pe k p2 i j => simp only [AV.killN] at hz; cases hb : (Nat.beq k id && !p2.isEmpty) <;> rw [hb] at hz <;> simp at hz
      | _ => simp [AV.killN] at hz
  | pb b o => intro v hk h B hB; rw [hba]; exact h B hB
  | _ => intro v hk h; exact h

theorem live_setA {st : St} {id : Nat} {A : Arr} {A' : Arr} (e : st.ar id = some A) (r : Nat ⊕ Nat) : live (st.setA id (some A')).ar (st.setA id (some A')).bx r ↔ live st.ar st.bx r := by
  rcases r with k | b
  · by_cases ek : k = id
    · subst ek
      show (upd st.ar k (some A') k).isSome ↔ (st.ar k).isSome
      rw [upd_self, e]; simp
    · show (upd st.ar id (some A') k).isSome ↔ (st.ar k).isSome
      rw [upd_ne _ _ ek]
  · exact Iff.rfl

structure Stored (c : Cx) (gh gh' : Gh) (nt : Nat) (st st' : St) (a : Act) (w w' : World) (F' : Cells) : Prop where
  inv : Inv c gh' nt st' a w'
  hd : gh'.hd = gh.hd
  ba : gh'.ba = gh.ba
  bx : st'.bx = st.bx
  free : ∀ FL, Free c gh st.ar st.bx w FL → (∀ b o, FL b o → ¬ F' b o) → Free c gh' st'.ar st'.bx w' FL
  agree : ∀ FL, Free c gh st.ar st.bx w FL → Agree w w' FL

theorem storeCell {c : Cx} {gh : Gh} {nt : Nat} {st : St} {a : Act} {w : World} {id : Nat} {A : Arr} {x : AV} {p : List (Nat × Nat)} {q : Nat × Nat} {ad : Addr} {u : Value} {F' : Cells}
    (h : Inv c gh nt st a w) (e : st.ar id = some A) (hpl : placeV w (gh.hd id).1 A.n A.sz A.g p q.1 q.2 (.pointer (some ad))) (hat : p = [] ∨ ∃ n' sz' h, atP A.g p = .own n' sz' h)
    (hsp : ad.spot = none) (hone : u.oneCell' = true) (hx : RO w c.sh x u F') (hfr : Free c gh st.ar st.bx w F')
    (hQt : ∀ t, x.notOwn = true ∨ ∃ z : AV, st.t t = z.killN id) (hQb : ∀ b B, st.bx b = some B → ∀ o, x.notOwn = true ∨ ∃ z : AV, B.2 o = z.killN id) :
    ∃ gh', Stored c gh gh' nt st (st.setA id (some ⟨A.n, A.sz, setP A.g (p ++ [q]) x⟩)) a w (w.setCell ad u) F' ∧ gh.fa id ad.block ad.off ∧
      (∀ k v, placeV w (gh.hd id).1 A.n A.sz A.g p q.1 k v → placeV (w.setCell ad u) (gh.hd id).1 A.n A.sz (setP A.g (p ++ [q]) x) p q.1 k v) ∧
      (p = [] ∨ ∃ n' sz' h, atP (setP A.g (p ++ [q]) x) p = .own n' sz' h ∧ ∃ h0, atP A.g p = .own n' sz' h0) := by
  have had : ad = ⟨ad.block, ad.off, none⟩ := by cases ad; simp at hsp; subst hsp; rfl
  have hrow := h.mem.rows id A e
  have hl : live st.ar st.bx (.inl id) := by simp [live, e]
  obtain ⟨_, _, hcA, hinF0, _⟩ := place_cell p hrow hpl hat
  have hcell : ∀ b o, cellAt (w.setCell ad u) b o = if b = ad.block ∧ o = ad.off then (cellAt w b o).map (fun _ => u) else cellAt w b o := fun b o => by
    rw [had, cellAt_setCell]
  have hsame : ∀ b o, ¬ (b = ad.block ∧ o = ad.off) → cellAt (w.setCell ad u) b o = cellAt w b o ∧ frozAt (w.setCell ad u) b o = frozAt w b o := fun b o hn => ⟨by rw [hcell, if_neg hn], frozAt_setCell ..⟩
  have hnotF : ∀ b o, F' b o → ¬ (b = ad.block ∧ o = ad.off) := fun b o hb => by
    rintro ⟨rfl, rfl⟩; exact (hfr _ _ hb).1 (.inl id) hl hinF0
  obtain ⟨hinF, ⟨X, _, hX, hro⟩, hmore, hat'⟩ := RO_setP (w' := w.setCell ad u) (D := fun b o => b = ad.block ∧ o = ad.off) (F' := F') (x := x) (Z := fun _ => True) (q := q) (ad := ad) p hrow hpl hat
    (fun b o _ hd => hsame b o hd) (fun b o hd => hd) (fun Fij _ hfz ⟨v, hv, _⟩ => by
      refine ⟨fun _ _ => False, F', u, fun _ _ h => h.elim, fun _ _ hb => .inr hb, by rw [hcell, if_pos ⟨rfl, rfl⟩, hv]; rfl, by rw [frozAt_setCell]; exact hfz, hone, RO_congr _ (fun b o hb => hsame b o (hnotF b o hb)) hx, trivial⟩)
    (fun b o hb hb' => (hfr b o hb).1 (.inl id) hl hb')
  refine ⟨⟨gh.hd, upd gh.fa id (fun b o => gh.fa id b o ∨ F' b o), gh.ba⟩, ?_, hinF, hmore, hat'⟩
  have hro' : RO (w.setCell ad u) c.sh (.own A.n A.sz (setP A.g (p ++ [q]) x)) (.slice (gh.hd id).1 A.n (gh.hd id).2) (fun b o => gh.fa id b o ∨ F' b o) := RO_mono _ (fun b o hb => hb.imp (fun h => h.1) (fun h => h)) hro
  have hT : ∀ y v, (x.notOwn = true ∨ ∃ z : AV, y = z.killN id) → TR c.sh gh st.ar st.bx w y v →
      TR c.sh ⟨gh.hd, upd gh.fa id (fun b o => gh.fa id b o ∨ F' b o), gh.ba⟩ (st.setA id (some ⟨A.n, A.sz, setP A.g (p ++ [q]) x⟩)).ar (st.setA id (some ⟨A.n, A.sz, setP A.g (p ++ [q]) x⟩)).bx (w.setCell ad u) y v :=
    fun y v hk t => TR_store (gh := gh) (gh' := ⟨gh.hd, upd gh.fa id (fun b o => gh.fa id b o ∨ F' b o), gh.ba⟩) rfl rfl e h.mem.rows hpl hat (fun _ _ _ b o _ hn => hsame b o hn) (fun k B eB ek hf => h.mem.disj (.inl id) (.inl k) _ _ (fun e => ek (by simpa using e.symm)) hl (by simp [live, eB]) hinF0 hf) y hk t
  have hlv : ∀ r, live (st.setA id (some ⟨A.n, A.sz, setP A.g (p ++ [q]) x⟩)).ar (st.setA id (some ⟨A.n, A.sz, setP A.g (p ++ [q]) x⟩)).bx r → live st.ar st.bx r := fun r hr => (live_setA e r).1 hr
  have hfp : ∀ r b o, fp ⟨gh.hd, upd gh.fa id (fun b o => gh.fa id b o ∨ F' b o), gh.ba⟩ (st.setA id (some ⟨A.n, A.sz, setP A.g (p ++ [q]) x⟩)).bx r b o → fp gh st.bx r b o ∨ F' b o := by
    rintro (k | b') b o hf
    · by_cases ek : k = id
      · subst ek
        have hf' : upd gh.fa k (fun b o => gh.fa k b o ∨ F' b o) k b o := hf
        rw [upd_self] at hf'; exact hf'
      · have hf' : upd gh.fa id (fun b o => gh.fa id b o ∨ F' b o) k b o := hf
        rw [upd_ne _ _ ek] at hf'; exact .inl hf'
    · exact .inl hf
  refine ⟨⟨h.defers, h.size, fun t => hT _ _ (hQt t) (h.temps t), ?_, ⟨h.fix.hd, h.fix.ba, (h.fix.weaken (ar' := upd st.ar id (some ⟨A.n, A.sz, setP A.g (p ++ [q]) x⟩)) (fun k B e' => by
          by_cases ek : k = id
          · subst ek; rw [upd_self] at e'; obtain rfl := Option.some.inj e'; exact ⟨A, e, rfl, rfl⟩
          · rw [upd_ne _ _ ek] at e'; exact ⟨B, e', rfl, rfl⟩) (fun b B e => ⟨B, e, rfl⟩)).n, h.fix.z⟩⟩, rfl, rfl, rfl, fun FL hFL hd b o hb => ?_, fun FL hFL b o hb => hsame b o ?_⟩
  · refine h.mem.gen (D := fun b o => b = ad.block ∧ o = ad.off) (G := F') (· = .inl id) (by rw [had]; exact setCell_chg _ _ _ _) (fun b o hd => .inl ⟨.inl id, rfl, hl, ?_⟩) (fun b o hb => ⟨fun r _ hlr => (hfr b o hb).1 r hlr, ?_, (hfr b o hb).2.2⟩) ?_ ?_ ?_ ?_ ?_ ?_
    · obtain ⟨rfl, rfl⟩ := hd; exact hinF0
    · rw [setCell_size]; exact (hfr b o hb).2.1
    · intro k B hk e'
      have ek : k ≠ id := fun e => hk (by rw [e])
      have e'' : upd st.ar id (some ⟨A.n, A.sz, setP A.g (p ++ [q]) x⟩) k = some B := e'
      rw [upd_ne _ _ ek] at e''
      exact ⟨e'', rfl, upd_ne _ _ ek⟩
    · intro b sz g _ e'
      exact ⟨g, e', rfl, fun o _ v _ t => hT _ _ (hQb b _ e' o) t⟩
    · intro k B hk e'
      obtain rfl : k = id := by simpa using hk
      have e'' : upd st.ar k (some ⟨A.n, A.sz, setP A.g (p ++ [q]) x⟩) k = some B := e'
      rw [upd_self] at e''
      obtain rfl := Option.some.inj e''
      simp only [upd_self]; exact hro'
    · intro b sz g hk; simp at hk
    · rintro r b o rfl hlr hf
      rcases hfp _ b o hf with hf | hf
      · exact .inl ⟨_, rfl, hl, hf⟩
      · exact .inr hf
    · rintro r r' b o rfl rfl hn; exact absurd rfl hn
  · refine ⟨fun r hr hf => ?_, by rw [setCell_size]; exact (hFL b o hb).2.1, (hFL b o hb).2.2⟩
    rcases hfp r b o hf with hf | hf
    · exact (hFL b o hb).1 r (hlv r hr) hf
    · exact hd b o hb hf
  · rintro ⟨rfl, rfl⟩; exact (hFL _ _ hb).1 (.inl id) hl hinF0

end Go.Fw
