/- The by-value interpreter's invariant: whole values are laid into the table. -/
import Derived.Test.YtkhfkekbfjkpcaaFwG
set_option linter.unusedVariables false
set_option linter.unusedSectionVars false
namespace Go.Fw
variable [Tok]

structure LaidV (c : Cx) (gh gh' : Gh) (nt : Nat) (st st' : St) (a : Act) (w : World) (FL : Cells) (ids bs : Nat → Prop) : Prop where
  inv : Inv c gh' nt st' a w
  free : Free c gh' st'.ar st'.bx w FL
  holds : ∀ (x : AV) (v : Value), (∀ id, ids id → x.noA id) → (∀ b, bs b → x.noB b) → TR c.sh gh st.ar st.bx w x v → TR c.sh gh' st'.ar st'.bx w x v
theorem Laid.v {c : Cx} {gh gh' : Gh} {nt : Nat} {st st' : St} {a : Act} {w : World} {FL : Cells} {ids : Nat → Prop} (h : Laid c gh gh' nt st st' a w FL ids) (bs : Nat → Prop) : LaidV c gh gh' nt st st' a w FL ids bs :=
  ⟨h.inv, h.free, fun x v h1 _ ht => h.holds x v h1 ht⟩

theorem refd_noB {c : Cx} {y : AV} {base b : Nat} {w : World} {v : Value} {F : Cells} (hy : RO w c.sh y v F) : (y.refd base).noB b := by
  cases y <;> first | trivial | (exact hy.elim)

theorem layA_sound {c : Cx} {gh : Gh} {nt : Nat} {st : St} {a : Act} {w : World} {FL F : Cells} {y : AV} {v : Value} {base : Nat} (hlo : c.lim * 4096 ≤ base) (h : Inv c gh nt st a w)
    (hy : RV w c.sh y v F) (hF : Free c gh st.ar st.bx w (fun b o => FL b o ∨ F b o)) (hap : ∀ b o, F b o → ¬ FL b o) :
    ∃ gh', LaidV c gh gh' nt st (st.layA base y) a w FL (fun id => (∃ j, j < y.cellsN ∧ id = base + j) ∨ ∃ sz g, y = .nbx sz g ∧ ∃ j, j < sz ∧ id = base + j) (fun b => ∃ sz g, y = .nbx sz g ∧ b = base / 4096) ∧
      TR c.sh gh' (st.layA base y).ar (st.layA base y).bx w (y.refA base) v := by
  have one : ∀ {y : AV}, RO w c.sh y v F → (∀ sz g, y ≠ .ag sz g) → (∀ sz g, y ≠ .nbx sz g) →
      ∃ gh', LaidV c gh gh' nt st (st.layC base y) a w FL (fun id => (∃ j, j < y.cellsN ∧ id = base + j) ∨ ∃ sz g, y = .nbx sz g ∧ ∃ j, j < sz ∧ id = base + j) (fun b => ∃ sz g, y = .nbx sz g ∧ b = base / 4096) ∧ TR c.sh gh' (st.layC base y).ar (st.layC base y).bx w (y.refd base) v := by
    intro y hro h1 h2
    obtain ⟨gh', l, t⟩ := layC_sound (base := base) hlo h hro hF hap
    refine ⟨gh', ⟨l.inv, l.free, fun x v hk _ ht => l.holds x v (fun id e => hk id (.inl ⟨0, ?_, by omega⟩)) ht⟩, t⟩
    cases y <;> first | exact Nat.one_pos | exact absurd rfl (h1 _ _)
  cases y with
  | ag sz g =>
    obtain ⟨vs, rfl, hs, ho, Fs, h1, h2, h3⟩ := hy
    obtain ⟨gh', l, t⟩ := layL_sound (vs := fun j => vs.getD j undef) (base := base) (g := g) (FL := FL) (Fs := Fs) hlo (List.range sz) List.nodup_range h (fun j hj => h3 j (by simpa using hj))
      (hF.mono fun x y hx => by
        rcases hx with hx | ⟨j, hj, hx⟩
        · exact .inl hx
        · exact .inr (h1 j x y (by simpa using hj) hx))
      (fun j b o hj hb => hap b o (h1 j b o (by simpa using hj) hb)) (fun j k b o hj hk hn => h2 j k b o (by simpa using hj) (by simpa using hk) hn)
    refine ⟨gh', ⟨l.inv, l.free, fun x v hk _ ht => l.holds x v (fun id ⟨j, hj, e⟩ => hk id (.inl ⟨j, by simpa [AV.cellsN] using hj, e⟩)) ht⟩, vs, rfl, hs, fun j hj => ⟨ho j hj, t j (by simpa using hj)⟩⟩
  | nbx sz g =>
    obtain ⟨ad, rfl, hsp, hin, vs, hc, Fs, h1, h2, h3⟩ := hy
    obtain ⟨gh', l, t⟩ := layL_sound (vs := vs) (base := base) (g := g) (FL := fun b o => FL b o ∨ In ad sz b o) (Fs := Fs) hlo (List.range sz) List.nodup_range h (fun j hj => h3 j (by simpa using hj))
      (hF.mono fun x y hx => by
        rcases hx with (hx | hx) | ⟨j, hj, hx⟩
        · exact .inl hx
        · exact .inr (hin x y hx)
        · exact .inr (h1 j x y (by simpa using hj) hx).1)
      (fun j b o hj hb hfl => by
        rcases hfl with hfl | hfl
        · exact hap b o (h1 j b o (by simpa using hj) hb).1 hfl
        · exact (h1 j b o (by simpa using hj) hb).2 hfl)
      (fun j k b o hj hk hn => h2 j k b o (by simpa using hj) (by simpa using hk) hn)
    have hinv := l.inv.newB (base / 4096) sz (fun j => (g j).refd (base + j)) ad hsp (fun o ho => ⟨vs o, (hc o ho).1, (hc o ho).2.1, (hc o ho).2.2, t o (by simpa using ho)⟩)
      (fun r x y hr hl hf hi => (l.free x y (.inr hi)).1 r hl hf) (fun x y hi => (l.free x y (.inr hi)).2) (by omega)
    refine ⟨_, ⟨hinv, fun x y hx => ⟨fun r hl hf => ?_, (l.free x y (.inl hx)).2⟩, fun x v hk hb ht => ?_⟩, ?_⟩
    · by_cases er : r = .inr (base / 4096)
      · subst er
        obtain ⟨B, e, hi⟩ := hf
        have e' : upd _ (base / 4096) (some (sz, _)) (base / 4096) = some B := e
        rw [upd_self] at e'
        obtain rfl := Option.some.inj e'
        have hi' : In (upd gh'.ba (base / 4096) ad (base / 4096)) sz x y := hi
        rw [upd_self] at hi'
        exact hap x y (hin x y hi') hx
      · have h4 : live (st.layL base g (List.range sz)).ar (st.layL base g (List.range sz)).bx r := by
          rcases r with k | b
          · exact hl
          · have ek : b ≠ base / 4096 := fun e => er (by rw [e])
            have hl' : (upd ((st.layL base g (List.range sz)).map (AV.killB (base / 4096))).bx (base / 4096) (some (sz, fun o => ((g o).refd (base + o)).killB (base / 4096))) b).isSome := hl
            rw [upd_ne _ _ ek] at hl'
            exact (live_map (ar := (st.layL base g (List.range sz)).ar) _ (.inr b)).1 hl'
        have h5 : fp gh' (st.layL base g (List.range sz)).bx r x y := by
          rcases r with k | b
          · exact hf
          · have ek : b ≠ base / 4096 := fun e => er (by rw [e])
            obtain ⟨B, e, hi⟩ := hf
            have e' : upd ((st.layL base g (List.range sz)).map (AV.killB (base / 4096))).bx (base / 4096) (some (sz, fun o => ((g o).refd (base + o)).killB (base / 4096))) b = some B := e
            rw [upd_ne _ _ ek] at e'
            have hi' : In (upd gh'.ba (base / 4096) ad b) B.1 x y := hi
            rw [upd_ne _ _ ek] at hi'
            obtain ⟨sz', g'⟩ := B
            obtain ⟨g'', e'', _⟩ := map_some e'
            exact ⟨_, e'', hi'⟩
        exact (l.free x y (.inl hx)).1 r h4 h5
    · have h4 := l.holds x v (fun id ⟨j, hj, e⟩ => hk id (.inr ⟨sz, g, rfl, j, by simpa using hj, e⟩)) ht
      have h5 := TR_newB (base / 4096) ad (some (sz, fun o => ((g o).refd (base + o)).killB (base / 4096))) x (TR_weaken (bx' := ((st.layL base g (List.range sz)).map (AV.killB (base / 4096))).bx) (fun _ _ e => e) (fun b B e => map_ex e) x h4)
      exact TR_unkillB x (hb _ ⟨sz, g, rfl, rfl⟩) h5
    · intro B e
      show _ = Value.pointer (some ⟨(upd gh'.ba (base / 4096) ad (base / 4096)).block, (upd gh'.ba (base / 4096) ad (base / 4096)).off + 0, none⟩)
      rw [upd_self]
      cases ad; simp at hsp; subst hsp; rfl
  | _ => exact one hy (by simp) (by simp)

theorem refA_noA {c : Cx} {y : AV} {base id : Nat} {w : World} {v : Value} {F : Cells} (hy : RV w c.sh y v F) (h : ∀ j, j < y.cellsN → base + j ≠ id) : (y.refA base).noA id := by
  cases y with
  | ag sz g =>
    obtain ⟨vs, rfl, hs, ho, Fs, h1, h2, h3⟩ := hy
    exact fun j hj => refd_noA (h j hj) (h3 j hj)
  | nbx sz g => trivial
  | _ => exact refd_noA (h 0 Nat.one_pos) hy

theorem layT_sound {c : Cx} {nt : Nat} {a : Act} {w : World} {n : Nat} {g : Nat → AV} {vs : Nat → Value} {base : Nat} (hlo : c.lim * 4096 ≤ base) (hfit : ∀ j, j < n → (g j).cellsN ≤ 64 ∧ ∀ sz h, g j ≠ .nbx sz h) : ∀ (js : List Nat) {gh : Gh} {st : St} {FL : Cells} {Fs : Nat → Cells},
    js.Nodup → (∀ j, j ∈ js → j < n) → Inv c gh nt st a w → (∀ j, j ∈ js → RV w c.sh (g j) (vs j) (Fs j)) → Free c gh st.ar st.bx w (fun b o => FL b o ∨ ∃ j, j ∈ js ∧ Fs j b o) →
    (∀ j b o, j ∈ js → Fs j b o → ¬ FL b o) → (∀ j k b o, j ∈ js → k ∈ js → j ≠ k → Fs j b o → ¬ Fs k b o) →
    ∃ gh', LaidV c gh gh' nt st (st.layT base g js) a w FL (fun id => ∃ j, j ∈ js ∧ ∃ k, k < (g j).cellsN ∧ id = base + 64 * j + k) (fun _ => False) ∧ ∀ j, j ∈ js → TR c.sh gh' (st.layT base g js).ar (st.layT base g js).bx w ((g j).refA (base + 64 * j)) (vs j) := by
  intro js
  induction js with
  | nil => intro gh st FL Fs _ _ h _ hF _ _; exact ⟨gh, ⟨h, hF.mono fun _ _ h => .inl h, fun x v _ _ ht => ht⟩, fun j hj => absurd hj (by simp)⟩
  | cons j js ih =>
    intro gh st FL Fs hnd hn h hro hF hap hdj
    obtain ⟨hj, hnd⟩ := List.nodup_cons.1 hnd
    obtain ⟨gh1, l1, t1⟩ := layA_sound (base := base + 64 * j) (FL := fun b o => FL b o ∨ ∃ k, k ∈ js ∧ Fs k b o) (by omega) h (hro j (by simp))
      (hF.mono fun x y hx => by
        rcases hx with (hx | ⟨k, hk, hx⟩) | hx
        · exact .inl hx
        · exact .inr ⟨k, by simp [hk], hx⟩
        · exact .inr ⟨j, by simp, hx⟩)
      (fun b o hb hfl => by
        rcases hfl with hfl | ⟨k, hk, hfl⟩
        · exact hap j b o (by simp) hb hfl
        · exact hdj j k b o (by simp) (by simp [hk]) (fun e => hj (e ▸ hk)) hb hfl)
    obtain ⟨gh2, l2, t2⟩ := ih hnd (fun k hk => hn k (by simp [hk])) l1.inv (fun k hk => hro k (by simp [hk])) l1.free (fun k b o hk => hap k b o (by simp [hk])) (fun k m b o hk hm => hdj k m b o (by simp [hk]) (by simp [hm]))
    have hfj := hfit j (hn j (by simp))
    refine ⟨gh2, ⟨l2.inv, l2.free, fun x v hk hb ht => l2.holds x v (fun id ⟨k, hk', e⟩ => hk id ⟨k, by simp [hk'], e⟩) (fun _ h => h.elim) (l1.holds x v (fun id e => ?_) (fun b ⟨sz, h, e, _⟩ => absurd e (hfj.2 _ _)) ht)⟩, fun k hk => ?_⟩
    · rcases e with ⟨k, hk', e⟩ | ⟨sz, h, e, _⟩
      · exact hk id ⟨j, by simp, k, hk', e⟩
      · exact absurd e (hfj.2 _ _)
    · rcases List.mem_cons.1 hk with rfl | hk
      · refine l2.holds _ _ (fun id ⟨m, hm, i, hi, e⟩ => refA_noA (hro k (by simp)) fun i' hi' e' => ?_) (fun _ h => h.elim) t1
        have h1 := (hfit m (hn m (by simp [hm]))).1
        have : k = m := by omega
        exact hj (this ▸ hm)
      · exact t2 k hk

theorem fits_tup {n : Nat} {g : Nat → AV} (h : (AV.tup n g).fits = true) : ∀ j, j < n → (g j).cellsN ≤ 64 ∧ ∀ sz h, g j ≠ .nbx sz h := by
  intro j hj
  simp only [AV.fits, List.all_eq_true, List.mem_range] at h
  have := h j hj
  generalize g j = y at this
  cases y with
  | ag sz g => exact ⟨Nat.le_of_ble_eq_true this, by simp⟩
  | nbx sz g => simp at this
  | _ => exact ⟨by simp [AV.cellsN], by simp⟩

theorem not_tup {y : AV} (h : ∀ n g, y ≠ .tup n g) {w : World} {sh : AV → Value → Prop} {v : Value} {F : Cells} {st : St} {base : Nat} : (RR w sh y v F → RV w sh y v F) ∧ st.layR base y = st.layA base y ∧ y.refR base = y.refA base := by
  cases y <;> first | exact ⟨fun h => h, rfl, rfl⟩ | exact absurd rfl (h _ _)

/-- What a call gave is laid; nothing else is told of what was. -/
theorem layR_sound {c : Cx} {gh : Gh} {nt : Nat} {st : St} {a : Act} {w : World} {F : Cells} {y : AV} {v : Value} {base : Nat} (hlo : c.lim * 4096 ≤ base) (h : Inv c gh nt st a w)
    (hy : RR w c.sh y v F) (hfit : y.fits = true) (hF : Free c gh st.ar st.bx w F) :
    ∃ gh', Inv c gh' nt (st.layR base y) a w ∧ TR c.sh gh' (st.layR base y).ar (st.layR base y).bx w (y.refR base) v := by
  have base' : ∀ {y : AV}, RV w c.sh y v F → ∃ gh', Inv c gh' nt (st.layA base y) a w ∧ TR c.sh gh' (st.layA base y).ar (st.layA base y).bx w (y.refA base) v := by
    intro y hy
    obtain ⟨gh', l, t⟩ := layA_sound (base := base) (FL := fun _ _ => False) hlo h hy (hF.mono fun x y hx => hx.elim False.elim id) (fun _ _ _ h => h)
    exact ⟨gh', l.inv, t⟩
  by_cases ht : ∃ n g, y = .tup n g
  · obtain ⟨n, g, rfl⟩ := ht
    obtain ⟨vs, rfl, hs, Fs, h1, h2, h3⟩ := hy
    obtain ⟨gh', l, t⟩ := layT_sound hlo (fits_tup hfit) (vs := fun j => vs.getD j undef) (base := base) (FL := fun _ _ => False) (Fs := Fs) (List.range n) List.nodup_range (fun j hj => by simpa using hj) h (fun j hj => h3 j (by simpa using hj))
      (hF.mono fun x y hx => by
        rcases hx with hx | ⟨j, hj, hx⟩
        · exact hx.elim
        · exact h1 j x y (by simpa using hj) hx)
      (fun _ _ _ _ _ h => h) (fun j k b o hj hk => h2 j k b o (by simpa using hj) (by simpa using hk))
    exact ⟨gh', l.inv, vs, rfl, hs, fun j hj => t j (by simpa using hj)⟩
  · have hn : ∀ n g, y ≠ .tup n g := fun n g e => ht ⟨n, g, e⟩
    obtain ⟨h1, h2, h3⟩ := not_tup hn (w := w) (sh := c.sh) (v := v) (F := F) (st := st) (base := base)
    rw [h2, h3]
    exact base' (h1 hy)

end Go.Fw
