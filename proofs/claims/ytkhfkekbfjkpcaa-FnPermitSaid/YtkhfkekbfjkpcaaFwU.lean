/- The by-value interpreter: what is appended. -/
import Derived.Test.YtkhfkekbfjkpcaaFwT
set_option linter.unusedVariables false
set_option linter.unusedSectionVars false
set_option linter.unusedSimpArgs false
namespace Go.Fw
variable [Tok]

section
variable {c : Cx} {gh : Gh} {nt : Nat} {st : St} {a : Act} {w : World} {P : Program} {R : Type} {r : R}

/-- What an append reads. -/
def SrcR (w : World) (sh : AV → Value → Prop) (v : Value) (A : Arr) (Fs : Nat → Nat → Cells) : Prop :=
  ∃ ad cap, v = .slice ad A.n cap ∧ (A.n = 0 ∨ ∃ b, ad = some b ∧ b.spot = none ∧
    ∀ i, i < A.n → ∀ j, j < A.sz → ∃ u, cellAt w b.block (b.off + (i * A.sz + j)) = some u ∧ u.oneCell' = true ∧ RO w sh (A.g i j) u (Fs i j))

theorem RO_noOwn {sh : AV → Value → Prop} {x : AV} {u : Value} {F : Cells} (h : RO w sh x u F) : RO w sh x.noOwn u (fun _ _ => False) := by
  cases x <;> first | exact h | trivial

theorem SrcR.ofRO {sh : AV → Value → Prop} {n sz : Nat} {g : Nat → Nat → AV} {v : Value} {F : Cells} (h : RO w sh (.own n sz g) v F) :
    0 < sz ∧ ∃ Fs : Nat → Nat → Cells, SrcR w sh v ⟨n, sz, g⟩ Fs ∧ (∀ i j b o, i < n → j < sz → Fs i j b o → F b o) ∧ (∀ i j i' j' b o, i < n → j < sz → i' < n → j' < sz → ¬ (i = i' ∧ j = j') → Fs i j b o → ¬ Fs i' j' b o) := by
  obtain ⟨A, cap, rfl, h1, h2, h3⟩ := h
  refine ⟨h2, ?_⟩
  rcases h3 with h3 | ⟨ad, rfl, hs, hc, Fs, f1, f2, f3⟩
  · exact ⟨fun _ _ _ _ => False, ⟨A, cap, rfl, .inl (by show n = 0; omega)⟩, fun _ _ _ _ _ _ h => h.elim, fun _ _ _ _ _ _ _ _ _ _ _ h => h.elim⟩
  · refine ⟨Fs, ⟨_, cap, rfl, .inr ⟨ad, rfl, hs, fun i hi j hj => ?_⟩⟩, fun i j b o hi hj hb => (f1 i j b o hi hj hb).1, f2⟩
    obtain ⟨u, hu, hr⟩ := f3 i hi j hj
    obtain ⟨u', hu', ho⟩ := (hc _ (cell_lt hi hj h1)).2.1
    rw [hu] at hu'
    obtain rfl := Option.some.inj hu'
    exact ⟨u, hu, ho, hr⟩

theorem SrcR.noOwn {sh : AV → Value → Prop} {n sz : Nat} {g : Nat → Nat → AV} {v : Value} {Fs : Nat → Nat → Cells} (h : SrcR w sh v ⟨n, sz, g⟩ Fs) : SrcR w sh v ⟨n, sz, fun i j => (g i j).noOwn⟩ (fun _ _ _ _ => False) := by
  obtain ⟨ad, cap, rfl, h⟩ := h
  refine ⟨ad, cap, rfl, h.imp (fun h => h) fun ⟨b, e, hs, hc⟩ => ⟨b, e, hs, fun i hi j hj => ?_⟩⟩
  obtain ⟨u, h1, h2, h3⟩ := hc i hi j hj
  exact ⟨u, h1, h2, RO_noOwn h3⟩

theorem RS_RO {x : AV} {u : Value} {F : Cells} (hr : RS c.w0 c.ok x u) : RO w c.sh x u F := by
  cases x <;> first | exact hr | exact hr.elim | trivial

theorem SrcR.ofRS {n sz : Nat} {g : Nat → Nat → AV} {A : Option Addr} {cap : Nat} (h : Inv c gh nt st a w)
    (h2 : n = 0 ∨ ∃ a, A = some a ∧ a.spot = none ∧ ∀ i, i < n → ∀ j, j < sz → c.ok a.block (a.off + (i * sz + j)) ∧ ∃ u, cellAt c.w0 a.block (a.off + (i * sz + j)) = some u ∧ RS c.w0 c.ok (g i j) u) :
    SrcR w c.sh (.slice A n cap) ⟨n, sz, g⟩ (fun _ _ _ _ => False) := by
  refine ⟨A, cap, rfl, h2.imp (fun h => h) fun ⟨b, e, hs, hc⟩ => ⟨b, e, hs, fun i hi j hj => ?_⟩⟩
  obtain ⟨hok, u, hu, hr⟩ := hc i hi j hj
  refine ⟨u, by rw [(h.mem.keep _ _ hok.1 hok.2).1]; exact hu, RS_oneCell hr, ?_⟩
  exact RS_RO hr

theorem rows_src {y : AV} {v : Value} {A : Arr} (h : Inv c gh nt st a w) (e : st.rowsOf y = some A) (hy : TR c.sh gh st.ar st.bx w y v) :
    SrcR w c.sh v ⟨A.n, A.sz, fun i j => (A.g i j).noOwn⟩ (fun _ _ _ _ => False) := by
  cases y with
  | nsl sz g =>
    simp only [St.rowsOf, Option.some.injEq] at e; subst e
    have hy' : v = .slice none 0 0 := hy
    exact ⟨_, _, hy', .inl rfl⟩
  | sl n sz g =>
    simp only [St.rowsOf, Option.some.injEq] at e; subst e
    obtain ⟨A, cap, rfl, h1, h2⟩ := hy
    exact (SrcR.ofRS h h2).noOwn
  | sln n sz g =>
    simp only [St.rowsOf, Option.some.injEq] at e; subst e
    obtain ⟨A, cap, rfl, h1, h2⟩ := hy
    exact (SrcR.ofRS h h2).noOwn
  | gv bs =>
    simp only [St.rowsOf, Option.some.injEq] at e; subst e
    obtain ⟨A, cap, rfl, h1, h2⟩ := RS_gv hy
    exact (SrcR.ofRS h h2).noOwn
  | rf id =>
    have e' : st.ar id = some A := e
    rw [hy A e']
    obtain ⟨_, Fs, h1, _⟩ := SrcR.ofRO (h.mem.rows id A e')
    exact h1.noOwn
  | rs id p m =>
    simp only [St.rowsOf, Option.map_eq_some_iff] at e
    obtain ⟨B, hB, rfl⟩ := e
    obtain ⟨h1, A', rfl, h2⟩ := hy B hB
    obtain ⟨_, Fs, h1, _⟩ := SrcR.ofRO (RO_cut (h.mem.rows id B hB) h1 h2)
    exact h1.noOwn
  | rn id p =>
    simp only [St.rowsOf] at e
    split at e
    · rename_i n sz g hm
      obtain ⟨B, hB, hat⟩ := Option.map_eq_some_iff.1 hm
      simp only [Option.some.injEq] at e; subst e
      obtain ⟨F', hr, _⟩ := RO_path p (h.mem.rows id B hB) hat (hy B n sz g hB hat)
      obtain ⟨_, Fs, h1, _⟩ := SrcR.ofRO hr
      exact h1.noOwn
    · simp at e
  | _ => simp [St.rowsOf] at e

theorem giveR_sound {e : TypeId} {y : AV} {v : Value} {B : Arr} {st1 : St} (h : Inv c gh nt st a w) (he : st.giveR P e y = some (B, st1)) (hy : TR c.sh gh st.ar st.bx w y v) :
    0 < B.sz ∧ ∃ gh1 FB Fs, Inv c gh1 nt st1 a w ∧ Free c gh1 st1.ar st1.bx w FB ∧ Holds c gh gh1 st st1 w ∧ SrcR w c.sh v B Fs ∧
      (∀ i j b o, i < B.n → j < B.sz → Fs i j b o → FB b o) ∧ (∀ i j i' j' b o, i < B.n → j < B.sz → i' < B.n → j' < B.sz → ¬ (i = i' ∧ j = j') → Fs i j b o → ¬ Fs i' j' b o) := by
  unfold St.giveR at he
  cases hs : scalT P e with
  | true =>
    rw [hs] at he
    simp only [cond_true] at he
    split at he
    · rename_i A hA
      cases hb : Nat.blt 0 A.sz with
      | false => rw [hb] at he; simp at he
      | true =>
        rw [hb] at he
        simp only [cond_true, Option.some.injEq, Prod.mk.injEq] at he
        obtain ⟨rfl, rfl⟩ := he
        exact ⟨Nat.le_of_ble_eq_true hb, gh, fun _ _ => False, fun _ _ _ _ => False, h, .none, .refl, rows_src h hA hy, fun _ _ _ _ _ _ h => h, fun _ _ _ _ _ _ _ _ _ _ _ h => h.elim⟩
    · simp at he
  | false =>
    rw [hs] at he
    simp only [cond_false] at he
    split at he
    · rename_i n sz g st' ht
      simp only [Option.some.injEq, Prod.mk.injEq] at he
      obtain ⟨rfl, rfl⟩ := he
      obtain ⟨gh1, F, hT⟩ := takeC_sound h (FL := fun _ _ => False) .none hy ht
      obtain ⟨h0, Fs, h1, h2, h3⟩ := SrcR.ofRO hT.own
      exact ⟨h0, gh1, F, Fs, hT.inv, hT.free.mono fun x y hx => .inr hx, hT.holds, h1, h2, h3⟩
    · rename_i n sz g st' ht
      cases hb : Nat.blt 0 sz with
      | false => rw [hb] at he; simp at he
      | true =>
        rw [hb] at he
        simp only [cond_true, Option.some.injEq, Prod.mk.injEq] at he
        obtain ⟨rfl, rfl⟩ := he
        obtain ⟨gh1, F, hT⟩ := takeC_sound h (FL := fun _ _ => False) .none hy ht
        obtain ⟨A, cap, rfl, h1, h2⟩ := hT.own
        exact ⟨Nat.le_of_ble_eq_true hb, gh1, fun _ _ => False, fun _ _ _ _ => False, hT.inv, .none, hT.holds, SrcR.ofRS hT.inv h2, fun _ _ _ _ _ _ h => h, fun _ _ _ _ _ _ _ _ _ _ _ h => h.elim⟩
    · simp at he

/-- What is read, as the kit's laws ask it. -/
theorem SrcR.src {sh : AV → Value → Prop} {v : Value} {B : Arr} {Fs : Nat → Nat → Cells} {tx e' : TypeId} (hk : P.underlying tx = some (.slice e')) (hsz : 0 < B.sz) (h : SrcR w sh v B Fs) :
    ∃ news : List Value, Src P B.sz tx v B.n news w ∧ news.length = B.n * B.sz ∧ (∀ i, i < B.n → ∀ j, j < B.sz → RO w sh (B.g i j) (news.getD (i * B.sz + j) undef) (Fs i j)) ∧ ∀ k, k < news.length → (news.getD k undef).oneCell' = true := by
  obtain ⟨ad, cap, rfl, h⟩ := h
  by_cases hn : B.n = 0
  · refine ⟨[], ?_, by simp [hn], fun i hi => by omega, fun k hk => by simp at hk⟩
    rw [hn]
    cases ad with
    | none => exact Src.ofNil w hk cap
    | some b => exact Src.ofSlice w hk b 0 cap [] (by simp) (fun j u h => by simp at h) (fun u h => by cases h)
  · rcases h with h | ⟨b, rfl, hs, hc⟩
    · exact absurd h hn
    · have hcell : ∀ k, k < B.n * B.sz → ∃ u, cellAt w b.block (b.off + k) = some u ∧ u.oneCell' = true := fun k hk => by
        obtain ⟨d1, d2, d3⟩ := div_lt hsz hk
        obtain ⟨u, hu, ho, _⟩ := hc _ d1 _ d2
        rw [d3] at hu
        exact ⟨u, hu, ho⟩
      have hg : ∀ k, k < B.n * B.sz → ((List.range (B.n * B.sz)).map fun k => (cellAt w b.block (b.off + k)).getD undef)[k]? = cellAt w b.block (b.off + k) := fun k hk => by
        obtain ⟨u, hu, _⟩ := hcell k hk
        simp [hk, hu]
      refine ⟨(List.range (B.n * B.sz)).map fun k => (cellAt w b.block (b.off + k)).getD undef, Src.ofSlice w hk b B.n cap _ (by simp) (fun j u hj => ?_) (fun u hu => ?_), by simp, fun i hi j hj => ?_, fun k hk => ?_⟩
      · have hlt : j < B.n * B.sz := by
          have := (List.getElem?_eq_some_iff.1 hj).1
          simpa using this
        rw [hg j hlt] at hj
        rw [add_eq hs]; exact hj
      · obtain ⟨k, hk, rfl⟩ := List.mem_map.1 hu
        obtain ⟨u, hu, ho⟩ := hcell k (by simpa using hk)
        rw [hu]; exact ho
      · obtain ⟨u, hu, ho, hr⟩ := hc i hi j hj
        rw [List.getD_eq_getElem?_getD, hg _ (cell_lt hi hj (Nat.le_refl _)), hu]
        exact hr
      · obtain ⟨u, hu, ho⟩ := hcell k (by simpa using hk)
        rw [List.getD_eq_getElem?_getD, hg k (by simpa using hk), hu]; exact ho

/-- The world differs in cells alone that are free. -/
theorem Inv.chgFree {W : World} {D FL : Cells} (h : Inv c gh nt st a w) (hC : Chg w W D) (hD : ∀ b o, D b o → FL b o) (hF : Free c gh st.ar st.bx w FL) : Inv c gh nt st a W ∧ Free c gh st.ar st.bx W FL := by
  have hag : ∀ r, live st.ar st.bx r → Agree w W (fp gh st.bx r) := fun r hl b o hf => hC.cell b o (h.mem.mine r b o hl hf).1 fun hd => (hF b o (hD b o hd)).1 r hl hf
  have hT : ∀ x v, TR c.sh gh st.ar st.bx w x v → TR c.sh gh st.ar st.bx W x v := fun x v t => TR_congr h.mem.rows (fun id A eA => hag (.inl id) (by simp [live, eA])) x t
  refine ⟨⟨h.defers, h.size, fun t => hT _ _ (h.temps t), ?_, h.fix⟩, fun x y hx => ⟨(hF x y hx).1, Nat.lt_of_lt_of_le (hF x y hx).2.1 hC.size, (hF x y hx).2.2⟩⟩
  refine h.mem.gen (D := D) (G := D) (fun _ => False) hC (fun b o hd => .inr hd) (fun x y hd => ⟨fun r _ hl => (hF x y (hD x y hd)).1 r hl, Nat.lt_of_lt_of_le (hF x y (hD x y hd)).2.1 hC.size, (hF x y (hD x y hd)).2.2⟩) ?_ ?_ ?_ ?_ ?_ ?_
  · intro id A _ e; exact ⟨e, rfl, rfl⟩
  · intro b sz g _ e; exact ⟨g, e, rfl, fun o _ v _ t => hT _ _ t⟩
  · intro _ _ h; exact h.elim
  · intro _ _ _ h; exact h.elim
  · intro _ _ _ h; exact h.elim
  · intro _ _ _ _ h; exact h.elim

end
end Go.Fw
