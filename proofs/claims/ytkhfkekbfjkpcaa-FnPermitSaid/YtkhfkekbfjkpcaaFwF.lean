/- The by-value interpreter's invariant: values taken out of the table, and laid into it. -/
import Derived.Test.YtkhfkekbfjkpcaaFwE
set_option linter.unusedVariables false
set_option linter.unusedSectionVars false
namespace Go.Fw
variable [Tok]

theorem RS_notOwn {w : World} {ok : Cells} {n sz : Nat} {g : Nat → Nat → AV} {v : Value} (h : RS w ok (.own n sz g) v) : False := h

/-- What may still be laid anywhere: cells of no row and no box. -/
def Free (c : Cx) (gh : Gh) (ar : ArT) (bx : BxT) (w : World) (F : Cells) : Prop :=
  ∀ x y, F x y → (∀ r, live ar bx r → ¬ fp gh bx r x y) ∧ x < w.heap.size ∧ (x < c.w0.heap.size → c.M x y)
theorem Free.none {c : Cx} {gh : Gh} {ar : ArT} {bx : BxT} {w : World} : Free c gh ar bx w (fun _ _ => False) := fun _ _ h => h.elim
theorem Free.mono {c : Cx} {gh : Gh} {ar : ArT} {bx : BxT} {w : World} {F G : Cells} (h : Free c gh ar bx w F) (hg : ∀ x y, G x y → F x y) : Free c gh ar bx w G := fun x y hx => h x y (hg x y hx)

/-! ### A cell of a row that becomes no row -/
theorem notOwn_iff {x : AV} : x.notOwn = true ↔ ∀ n sz g, x ≠ .own n sz g := by
  cases x <;> simp [AV.notOwn]

theorem atP_setP {x : AV} (hx : x.notOwn = true) : ∀ (p p2 : List (Nat × Nat)) {g : Nat → Nat → AV} {n sz : Nat} {h : Nat → Nat → AV},
    atP (setP g p x) p2 = .own n sz h → ∃ h0, atP g p2 = .own n sz h0 := by
  intro p
  induction p with
  | nil => intro p2 g n sz h e; exact ⟨h, by simpa [setP] using e⟩
  | cons ij p ih =>
    obtain ⟨i, j⟩ := ij
    intro p2 g n sz h e
    cases p with
    | nil =>
      simp only [setP] at e
      cases p2 with
      | nil => simp [atP] at e
      | cons ij2 p2 =>
        obtain ⟨i2, j2⟩ := ij2
        by_cases he : i2 = i ∧ j2 = j
        · obtain ⟨rfl, rfl⟩ := he
          cases p2 with
          | nil => simp only [atP, upd2_self] at e; exact absurd e (notOwn_iff.1 hx _ _ _)
          | cons a b =>
            simp only [atP, upd2_self] at e
            cases x <;> first | (simp [AV.notOwn] at hx; done) | (simp at e)
        · cases p2 with
          | nil => simp only [atP, upd2_ne _ _ he] at e; exact ⟨h, by simpa [atP] using e⟩
          | cons a b => simp only [atP, upd2_ne _ _ he] at e ⊢; exact ⟨h, e⟩
    | cons a b =>
      simp only [setP] at e
      cases p2 with
      | nil => simp [atP] at e
      | cons ij2 p2 =>
        obtain ⟨i2, j2⟩ := ij2
        by_cases he : i2 = i ∧ j2 = j
        · obtain ⟨rfl, rfl⟩ := he
          cases p2 with
          | nil =>
            simp only [atP, upd2_self] at e ⊢
            cases hg : g i2 j2 with
            | own n1 sz1 h1 => rw [hg] at e; simp only at e; obtain ⟨rfl, rfl, rfl⟩ : n1 = n ∧ sz1 = sz ∧ _ = h := by simpa using e
                               exact ⟨_, rfl⟩
            | _ => rw [hg] at e; simp at e
          | cons a2 b2 =>
            simp only [atP, upd2_self] at e ⊢
            cases hg : g i2 j2 with
            | own n1 sz1 h1 => rw [hg] at e; simp only at e ⊢; exact ih _ e
            | _ => rw [hg] at e; simp at e
        · cases p2 with
          | nil => simp only [atP, upd2_ne _ _ he] at e; exact ⟨h, by simpa [atP] using e⟩
          | cons a2 b2 => simp only [atP, upd2_ne _ _ he] at e ⊢; exact ⟨h, e⟩

theorem pathV_setP {w : World} {x : AV} (hx : x.notOwn = true) : ∀ (p p2 : List (Nat × Nat)) {A : Option Addr} {n sz : Nat} {g : Nat → Nat → AV} {v : Value},
    pathV w A n sz g p2 v → pathV w A n sz (setP g p x) p2 v := by
  intro p
  induction p with
  | nil => intro p2 A n sz g v h; simpa [setP] using h
  | cons ij p ih =>
    obtain ⟨i, j⟩ := ij
    intro p2 A n sz g v h
    cases p2 with
    | nil => exact h.elim
    | cons ij2 p2 =>
      obtain ⟨i2, j2⟩ := ij2
      cases p2 with
      | nil => exact h
      | cons a2 b2 =>
        obtain ⟨hi, hj, ad, rfl, u, hc, hm⟩ := h
        refine ⟨hi, hj, ad, rfl, u, hc, ?_⟩
        cases p with
        | nil =>
          simp only [setP]
          by_cases he : i2 = i ∧ j2 = j
          · obtain ⟨rfl, rfl⟩ := he
            rw [upd2_self]
            cases x <;> first | trivial | (simp [AV.notOwn] at hx)
          · rw [upd2_ne _ _ he]; exact hm
        | cons a b =>
          simp only [setP]
          by_cases he : i2 = i ∧ j2 = j
          · obtain ⟨rfl, rfl⟩ := he
            rw [upd2_self]
            cases hg : g i2 j2 with
            | own n1 sz1 h1 =>
              rw [hg] at hm
              obtain ⟨A1, cap, rfl, hp⟩ := hm
              exact ⟨A1, cap, rfl, ih _ hp⟩
            | _ => trivial
          · rw [upd2_ne _ _ he]; exact hm

theorem placeV_setP {w : World} {x : AV} (hx : x.notOwn = true) (p p2 : List (Nat × Nat)) {A : Option Addr} {n sz : Nat} {g : Nat → Nat → AV} {i j : Nat} {v : Value}
    (h : placeV w A n sz g p2 i j v) : placeV w A n sz (setP g p x) p2 i j v := by
  cases p2 with
  | nil => exact h
  | cons a b =>
    intro n' sz' h' e
    obtain ⟨h0, e0⟩ := atP_setP hx p _ e
    obtain ⟨hi, hj, ad, cap, hp, hv⟩ := h n' sz' h0 e0
    exact ⟨hi, hj, ad, cap, pathV_setP hx p _ hp, hv⟩

theorem TR_setP {sh : AV → Value → Prop} {gh : Gh} {fa' : Nat → Cells} {ar : ArT} {bx : BxT} {w : World} {id : Nat} {A : Arr} {y : AV} (hy : y.notOwn = true) (p : List (Nat × Nat)) (e : ar id = some A) (x : AV) :
    ∀ {v : Value}, TR sh gh ar bx w x v → TR sh ⟨gh.hd, fa', gh.ba⟩ (upd ar id (some ⟨A.n, A.sz, setP A.g p y⟩)) bx w x v := by
  have key : ∀ k B, upd ar id (some ⟨A.n, A.sz, setP A.g p y⟩) k = some B → (k = id ∧ B = ⟨A.n, A.sz, setP A.g p y⟩) ∨ (ar k = some B) := fun k B hk => by
    by_cases ek : k = id
    · subst ek; rw [upd_self] at hk; exact .inl ⟨rfl, by simpa using hk.symm⟩
    · rw [upd_ne _ _ ek] at hk; exact .inr hk
  induction x with
  | rf k =>
    intro v h B hB
    rcases key k B hB with ⟨rfl, rfl⟩ | hB
    · exact h A e
    · exact h B hB
  | rs k a m =>
    intro v h B hB
    rcases key k B hB with ⟨rfl, rfl⟩ | hB
    · exact h A e
    · exact h B hB
  | rn k p2 =>
    intro v h B n sz g hB hat
    rcases key k B hB with ⟨rfl, rfl⟩ | hB
    · obtain ⟨h0, e0⟩ := atP_setP hy p p2 hat
      exact pathV_setP hy p p2 (h A n sz h0 e e0)
    · exact h B n sz g hB hat
  | pe k p2 i j =>
    intro v h B hB
    rcases key k B hB with ⟨rfl, rfl⟩ | hB
    · exact placeV_setP hy p p2 (h A e)
    · exact h B hB
  | ag sz g ih => rintro v ⟨vs, rfl, hs, hv⟩; exact ⟨vs, rfl, hs, fun j hj => ⟨(hv j hj).1, ih j (hv j hj).2⟩⟩
  | tup sz g ih => rintro v ⟨vs, rfl, hs, hv⟩; exact ⟨vs, rfl, hs, fun j hj => ih j (hv j hj)⟩
  | clo f sz g ih => rintro v ⟨vs, rfl, hs, hv⟩; exact ⟨vs, rfl, hs, fun j hj => ih j (hv j hj)⟩
  | _ => intro v h; exact h

/-- Values that are not in the state hold on. -/
def Holds (c : Cx) (gh gh' : Gh) (st st' : St) (w : World) : Prop := ∀ (x : AV) (v : Value), TR c.sh gh st.ar st.bx w x v → TR c.sh gh' st'.ar st'.bx w x v
theorem Holds.refl {c : Cx} {gh : Gh} {st : St} {w : World} : Holds c gh gh st st w := fun _ _ h => h
theorem Holds.trans {c : Cx} {gh gh' gh'' : Gh} {st st' st'' : St} {w : World} (h : Holds c gh gh' st st' w) (h' : Holds c gh' gh'' st' st'' w) : Holds c gh gh'' st st'' w := fun x v t => h' x v (h x v t)

/-- What came of taking: the state, and a value of one's own, beside what was free before. -/
structure Took (c : Cx) (gh gh' : Gh) (nt : Nat) (st st' : St) (a : Act) (w : World) (FL : Cells) (y : AV) (v : Value) (F : Cells) : Prop where
  inv : Inv c gh' nt st' a w
  own : RO w c.sh y v F
  free : Free c gh' st'.ar st'.bx w (fun b o => FL b o ∨ F b o)
  apart : ∀ b o, F b o → ¬ FL b o
  holds : Holds c gh gh' st st' w
  ba : gh'.ba = gh.ba
  bx : st'.bx = st.bx
  hd : gh'.hd = gh.hd

theorem Took.same {c : Cx} {gh : Gh} {nt : Nat} {st : St} {a : Act} {w : World} {FL : Cells} {y : AV} {v : Value} (h : Inv c gh nt st a w) (hFL : Free c gh st.ar st.bx w FL)
    (hy : RO w c.sh y v (fun _ _ => False)) : Took c gh gh nt st st a w FL y v (fun _ _ => False) :=
  ⟨h, hy, hFL.mono fun x y hx => hx.elim id False.elim, fun _ _ h => h.elim, .refl, rfl, rfl, rfl⟩

theorem Inv.setA_none {c : Cx} {gh : Gh} {nt : Nat} {st : St} {a : Act} {w : World} (id : Nat) (h : Inv c gh nt st a w) : Inv c gh nt (st.setA id none) a w :=
  h.drop (fun k A e => by
    by_cases ek : k = id
    · subst ek; rw [upd_self] at e; simp at e
    · rw [upd_ne _ _ ek] at e; exact e) (fun _ B e => ⟨B.2, e, fun _ _ => rfl⟩)
theorem live_none {st : St} {id : Nat} {r : Nat ⊕ Nat} (h : live (st.setA id none).ar (st.setA id none).bx r) : live st.ar st.bx r ∧ r ≠ .inl id := by
  rcases r with k | b
  · have h' : (upd st.ar id none k).isSome := h
    by_cases ek : k = id
    · subst ek; rw [upd_self] at h'; simp at h'
    · rw [upd_ne _ _ ek] at h'; exact ⟨h', fun e => ek (by simpa using e)⟩
  · exact ⟨h, by simp⟩
theorem holds_none {c : Cx} {gh : Gh} {st : St} {w : World} (id : Nat) : Holds c gh gh st (st.setA id none) w := fun x v t =>
  TR_weaken (fun k A e => by
    by_cases ek : k = id
    · subst ek; have e' : upd st.ar k none k = some A := e; rw [upd_self] at e'; simp at e'
    · have e' : upd st.ar id none k = some A := e; rw [upd_ne _ _ ek] at e'; exact e') (fun b B e => ⟨B, e⟩) x t

theorem takeRow {c : Cx} {gh : Gh} {nt : Nat} {st : St} {a : Act} {w : World} {FL : Cells} {id : Nat} {A : Arr} {y : AV} {v : Value} (h : Inv c gh nt st a w) (hFL : Free c gh st.ar st.bx w FL)
    (e : st.ar id = some A) (hy : RO w c.sh y v (gh.fa id)) : Took c gh gh nt st (st.setA id none) a w FL y v (gh.fa id) := by
  have hl : live st.ar st.bx (.inl id) := by simp [live, e]
  refine ⟨h.setA_none id, hy, fun x y hx => ?_, fun b o hb hfl => (hFL b o hfl).1 (.inl id) hl hb, holds_none id, rfl, rfl, rfl⟩
  rcases hx with hx | hx
  · exact ⟨fun r hr hf => (hFL x y hx).1 r (live_none hr).1 (by cases r <;> exact hf), (hFL x y hx).2⟩
  · exact ⟨fun r hr hf => h.mem.disj r (.inl id) x y (live_none hr).2 (live_none hr).1 hl (by cases r <;> exact hf) hx, h.mem.mine (.inl id) x y hl hx⟩

theorem path_place {w : World} {q : Nat × Nat} {n sz : Nat} {g : Nat → Nat → AV} {v : Value} : ∀ (p0 : List (Nat × Nat)) {A0 : Option Addr} {N0 S0 : Nat} {G0 : Nat → Nat → AV}, atP G0 (p0 ++ [q]) = .own n sz g → pathV w A0 N0 S0 G0 (p0 ++ [q]) v →
    ∃ ad : Addr, placeV w A0 N0 S0 G0 p0 q.1 q.2 (.pointer (some ad)) ∧ (p0 = [] ∨ ∃ n' sz' h, atP G0 p0 = .own n' sz' h) ∧ cellAt w ad.block ad.off = some v := by
  intro p0
  induction p0 with
  | nil =>
    intro A0 N0 S0 G0 hat hpv
    obtain ⟨hi, hj, ad, rfl, hc⟩ := hpv
    exact ⟨_, ⟨hi, hj, ad, rfl, rfl⟩, .inl rfl, hc⟩
  | cons ij p0 ih =>
    obtain ⟨i, j⟩ := ij
    intro A0 N0 S0 G0 hat hpv
    have hpv' : pathV w A0 N0 S0 G0 ((i, j) :: (p0 ++ [q])) v := hpv
    have hat' : atP G0 ((i, j) :: (p0 ++ [q])) = .own n sz g := hat
    obtain ⟨q1, q2, hq⟩ : ∃ q1 q2, p0 ++ [q] = q1 :: q2 := by cases p0 with
      | nil => exact ⟨_, _, rfl⟩
      | cons a b => exact ⟨_, _, rfl⟩
    rw [hq] at hpv' hat'
    obtain ⟨hi, hj, ad, rfl, u, hc, hm⟩ := hpv'
    simp only [atP] at hat'
    cases hg : G0 i j with
    | own n3 sz3 h3 =>
      rw [hg] at hm hat'
      simp only at hm hat'
      obtain ⟨A3, cap3, rfl, hpv3⟩ := hm
      rw [← hq] at hpv3 hat'
      obtain ⟨ad', hpl, hat0, hcell⟩ := ih hat' hpv3
      refine ⟨ad', place_up hg hi hj hc hpl, ?_, hcell⟩
      cases p0 with
      | nil => exact .inr ⟨n3, sz3, h3, by simp only [atP]; exact hg⟩
      | cons a b =>
        rcases hat0 with hat0 | ⟨n', sz', h', e'⟩
        · simp at hat0
        · exact .inr ⟨n', sz', h', by simp only [atP, hg]; exact e'⟩
    | _ => rw [hg] at hat'; simp at hat'

theorem takeC_sound {c : Cx} {gh : Gh} {nt : Nat} {st st' : St} {a : Act} {w : World} {FL : Cells} {x y : AV} {v : Value} (h : Inv c gh nt st a w) (hFL : Free c gh st.ar st.bx w FL)
    (hx : TR c.sh gh st.ar st.bx w x v) (e : st.takeC x = some (y, st')) : ∃ gh' F, Took c gh gh' nt st st' a w FL y v F := by
  cases x with
  | rf id =>
    simp only [St.takeC, Option.map_eq_some_iff, Prod.mk.injEq] at e
    obtain ⟨A, hA, rfl, rfl⟩ := e
    exact ⟨gh, _, takeRow h hFL hA (by rw [hx A hA]; exact h.mem.rows id A hA)⟩
  | rs id p m =>
    simp only [St.takeC, Option.map_eq_some_iff, Prod.mk.injEq] at e
    obtain ⟨A, hA, rfl, rfl⟩ := e
    obtain ⟨h1, A', rfl, h2⟩ := hx A hA
    exact ⟨gh, _, takeRow h hFL hA (RO_cut (h.mem.rows id A hA) h1 h2)⟩
  | rn id p =>
    simp only [St.takeC] at e
    cases hA : st.ar id with
    | none => rw [hA] at e; simp at e
    | some A =>
      rw [hA] at e
      simp only at e
      cases hat : atP A.g p with
      | own n sz g =>
        rw [hat] at e
        simp only [Option.some.injEq, Prod.mk.injEq] at e
        obtain ⟨rfl, rfl⟩ := e
        have hrow := h.mem.rows id A hA
        have hpv := hx A n sz g hA hat
        have hl : live st.ar st.bx (.inl id) := by simp [live, hA]
        -- the path parts into what leads there and its last step
        obtain ⟨p0, q, rfl⟩ : ∃ p0 q, p = p0 ++ [q] := by
          cases hp : p.reverse with
          | nil => have : p = [] := by simpa using hp
                   subst this; exact hpv.elim
          | cons q r => exact ⟨r.reverse, q, by rw [← List.reverse_reverse p, hp]; simp⟩
        obtain ⟨ad, hplace, hat0, hcell⟩ : ∃ ad : Addr, placeV w (gh.hd id).1 A.n A.sz A.g p0 q.1 q.2 (.pointer (some ad)) ∧ (p0 = [] ∨ ∃ n' sz' h, atP A.g p0 = .own n' sz' h) ∧ cellAt w ad.block ad.off = some v :=
          path_place p0 hat hpv
        obtain ⟨hinF, ⟨X, ⟨hZ, _⟩, hX, hro⟩, _⟩ := RO_setP (w' := w) (D := fun _ _ => False) (F' := fun _ _ => False) (x := .bad) (Z := fun X => RO w c.sh (.own n sz g) v X ∧ True) p0 hrow hplace hat0
          (fun _ _ _ _ => ⟨rfl, rfl⟩) (fun _ _ h => h.elim) (fun Fij _ hfz ⟨u, hu, hr⟩ => by
            rw [hcell] at hu
            obtain rfl : v = u := by simpa using hu
            rw [hat] at hr
            exact ⟨Fij, fun _ _ => False, v, fun _ _ h => h, fun _ _ h => h.elim, hcell, hfz, by obtain ⟨_, _, rfl, _⟩ := hr; rfl, trivial, hr, trivial⟩) (fun _ _ h => h.elim)
        have hro' : RO w c.sh (.own A.n A.sz (setP A.g (p0 ++ [q]) .bad)) (.slice (gh.hd id).1 A.n (gh.hd id).2) (fun b o => gh.fa id b o ∧ ¬ X b o) := RO_mono _ (fun b o hb => hb.elim (fun h => h) False.elim) hro
        refine ⟨⟨gh.hd, upd gh.fa id (fun b o => gh.fa id b o ∧ ¬ X b o), gh.ba⟩, X, ?_⟩
        have hT : Holds c gh ⟨gh.hd, upd gh.fa id (fun b o => gh.fa id b o ∧ ¬ X b o), gh.ba⟩ st (st.setA id (some ⟨A.n, A.sz, setP A.g (p0 ++ [q]) .bad⟩)) w := fun x v t => TR_setP (by rfl) _ hA x t
        have hlv : ∀ r, live (st.setA id (some ⟨A.n, A.sz, setP A.g (p0 ++ [q]) .bad⟩)).ar (st.setA id (some ⟨A.n, A.sz, setP A.g (p0 ++ [q]) .bad⟩)).bx r → live st.ar st.bx r := by
          rintro (k | b) hr
          · by_cases ek : k = id
            · subst ek; exact hl
            · have : upd st.ar id (some ⟨A.n, A.sz, setP A.g (p0 ++ [q]) .bad⟩) k = st.ar k := upd_ne _ _ ek
              have hr' : (upd st.ar id (some ⟨A.n, A.sz, setP A.g (p0 ++ [q]) .bad⟩) k).isSome := hr
              rw [this] at hr'; exact hr'
          · exact hr
        have hfp : ∀ r x y, fp ⟨gh.hd, upd gh.fa id (fun b o => gh.fa id b o ∧ ¬ X b o), gh.ba⟩ (st.setA id (some ⟨A.n, A.sz, setP A.g (p0 ++ [q]) .bad⟩)).bx r x y → fp gh st.bx r x y ∧ ¬ (r = .inl id ∧ X x y) := by
          rintro (k | b) x y hf
          · by_cases ek : k = id
            · subst ek
              have hf' : upd gh.fa k (fun b o => gh.fa k b o ∧ ¬ X b o) k x y := hf
              rw [upd_self] at hf'; exact ⟨hf'.1, fun h => hf'.2 h.2⟩
            · have hf' : upd gh.fa id (fun b o => gh.fa id b o ∧ ¬ X b o) k x y := hf
              rw [upd_ne _ _ ek] at hf'; exact ⟨hf', fun h => ek (by simpa using h.1)⟩
          · exact ⟨hf, fun h => by simp at h⟩
        refine ⟨⟨h.defers, h.size, fun t => hT _ _ (h.temps t), ?_, ⟨h.fix.hd, h.fix.ba, (h.fix.weaken (ar' := upd st.ar id (some ⟨A.n, A.sz, setP A.g (p0 ++ [q]) .bad⟩)) (fun k B e => by
          by_cases ek : k = id
          · subst ek; rw [upd_self] at e; obtain rfl := Option.some.inj e; exact ⟨A, hA, rfl, rfl⟩
          · rw [upd_ne _ _ ek] at e; exact ⟨B, e, rfl, rfl⟩) (fun b B e => ⟨B, e, rfl⟩)).n, h.fix.z⟩⟩, hZ, fun x y hx => ?_, fun b o hb hfl => (hFL b o hfl).1 (.inl id) hl (hX b o hb), hT, rfl, rfl, rfl⟩
        · refine h.mem.gen (D := fun _ _ => False) (G := fun _ _ => False) (· = .inl id) (Chg.refl w _) (fun _ _ h => h.elim) (fun _ _ h => h.elim) ?_ ?_ ?_ ?_ ?_ ?_
          · intro k B hk e
            have ek : k ≠ id := fun e => hk (by rw [e])
            have e' : upd st.ar id (some ⟨A.n, A.sz, setP A.g (p0 ++ [q]) .bad⟩) k = some B := e
            rw [upd_ne _ _ ek] at e'
            exact ⟨e', rfl, upd_ne _ _ ek⟩
          · intro b sz g _ e
            exact ⟨g, e, rfl, fun o _ v _ t => hT _ _ t⟩
          · intro k B hk e
            obtain rfl : k = id := by simpa using hk
            have e' : upd st.ar k (some ⟨A.n, A.sz, setP A.g (p0 ++ [q]) .bad⟩) k = some B := e
            rw [upd_self] at e'
            obtain rfl := Option.some.inj e'
            simp only [upd_self]; exact hro'
          · intro b sz g hk; simp at hk
          · rintro r x y rfl hlr hf
            exact .inl ⟨_, rfl, hl, (hfp _ x y hf).1⟩
          · rintro r r' x y rfl rfl hn; exact absurd rfl hn
        · rcases hx with hx | hx
          · exact ⟨fun r hr hf => (hFL x y hx).1 r (hlv r hr) (hfp r x y hf).1, (hFL x y hx).2⟩
          · refine ⟨fun r hr hf => ?_, h.mem.mine (.inl id) x y hl (hX x y hx)⟩
            by_cases er : r = .inl id
            · exact (hfp r x y hf).2 ⟨er, hx⟩
            · exact h.mem.disj r (.inl id) x y er (hlv r hr) hl (hfp r x y hf).1 (hX x y hx)
      | _ => rw [hat] at e; simp at e
  | nsl sz g =>
    simp only [St.takeC] at e
    cases hs : Nat.blt 0 sz with
    | false => rw [hs] at e; simp at e
    | true =>
      rw [hs] at e
      simp only [cond_true, Option.some.injEq, Prod.mk.injEq] at e
      obtain ⟨rfl, rfl⟩ := e
      have hs' : 0 < sz := Nat.le_of_ble_eq_true hs
      exact ⟨gh, _, Took.same h hFL ⟨none, 0, hx, Nat.le_refl _, hs', .inl rfl⟩⟩
  | sln n sz g =>
    simp only [St.takeC, Option.some.injEq, Prod.mk.injEq] at e
    obtain ⟨rfl, rfl⟩ := e
    obtain ⟨x, cap, rfl, h1, h2⟩ := hx
    exact ⟨gh, _, Took.same h hFL ⟨_, _, rfl, ⟨h1, fun h => by simp at h⟩, h2⟩⟩
  | sl n sz g => simp only [St.takeC, Option.some.injEq, Prod.mk.injEq] at e; obtain ⟨rfl, rfl⟩ := e; exact ⟨gh, _, Took.same h hFL hx⟩
  | I k n => simp only [St.takeC, Option.some.injEq, Prod.mk.injEq] at e; obtain ⟨rfl, rfl⟩ := e; exact ⟨gh, _, Took.same h hFL hx⟩
  | B k => simp only [St.takeC, Option.some.injEq, Prod.mk.injEq] at e; obtain ⟨rfl, rfl⟩ := e; exact ⟨gh, _, Took.same h hFL hx⟩
  | S k => simp only [St.takeC, Option.some.injEq, Prod.mk.injEq] at e; obtain ⟨rfl, rfl⟩ := e; exact ⟨gh, _, Took.same h hFL hx⟩
  | nlp => simp only [St.takeC, Option.some.injEq, Prod.mk.injEq] at e; obtain ⟨rfl, rfl⟩ := e; exact ⟨gh, _, Took.same h hFL hx⟩
  | gv bs => simp only [St.takeC, Option.some.injEq, Prod.mk.injEq] at e; obtain ⟨rfl, rfl⟩ := e; exact ⟨gh, _, Took.same h hFL hx⟩
  | _ => simp [St.takeC] at e

end Go.Fw
