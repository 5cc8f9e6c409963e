/- The by-value interpreter: contracts of calls; what is lent. -/
import Derived.Test.YtkhfkekbfjkpcaaFwV
set_option linter.unusedVariables false
set_option linter.unusedSectionVars false
set_option linter.unusedSimpArgs false
namespace Go.Fw
variable [Tok]

/-- An argument: it may lead to what is handed in. -/
def AR (sh : AV → Value → Prop) (exts : List AV) (hv : Nat → Value) : AV → Value → Prop
  | .bad, _ => True
  | .rf id, v => ∃ k n sz g, id = k * 4096 ∧ exts[k]? = some (.own n sz g) ∧ v = hv k
  | .pb k o, v => o = 0 ∧ (∃ sz g, exts[k]? = some (.nbx sz g)) ∧ v = hv k
  | .ag sz g, v => ∃ vs, v = .agg vs ∧ vs.size = sz ∧ ∀ j, j < sz → (vs.getD j undef).oneCell' = true ∧ AR sh exts hv (g j) (vs.getD j undef)
  | .clo f n g, v => ∃ vs, v = .func (.func f) #[] vs ∧ vs.size = n ∧ ∀ j, j < n → AR sh exts hv (g j) (vs.getD j undef)
  | x, v => sh x v

def okOf (w : World) (M : Cells) : Cells := fun b o => b < w.heap.size ∧ ¬ M b o

/-- Values that were handed in, or that came out: each has its cells. -/
structure Handed (w : World) (sh : AV → Value → Prop) (M : Cells) (exts : List AV) (hv : Nat → Value) (Fe : Nat → Cells) : Prop where
  rel : ∀ k x, exts[k]? = some x → RV w sh x (hv k) (Fe k)
  disj : ∀ k m b o, k < exts.length → m < exts.length → k ≠ m → Fe k b o → ¬ Fe m b o
  mine : ∀ k b o, k < exts.length → Fe k b o → M b o

def isExt : AV → Prop
  | .own _ _ _ => True
  | .nbx sz _ => sz ≤ 4096
  | _ => False

/-- THE CONTRACT of a function at some arguments: what it gives, and what becomes of what is handed in. -/
def Con (P : Program) (f : Nat) (args exts : List AV) (res : AV) (exts' : List AV) : Prop :=
  ∀ (w : World) (M : Cells) (hv : Nat → Value) (Fe : Nat → Cells) (vs : Array Value),
    RS w (okOf w M) (.gv Tok.bs) Tok.val → exts.length ≤ 64 → (∀ x, x ∈ exts → isExt x) → Handed w (RS w (okOf w M)) M exts hv Fe → (∀ b o, M b o → b < w.heap.size) →
    vs.size = args.length → (∀ j, j < args.length → AR (RS w (okOf w M)) exts hv (args.getD j .bad) (vs.getD j undef)) →
    Calls P f vs w fun e w' => ∃ v, e = .returned v ∧ Chg w w' M ∧ ∃ F Fe', RR w' (RS w (okOf w M)) res v F ∧
      Handed w' (RS w (okOf w M)) (fun b o => b < w'.heap.size ∧ (b < w.heap.size → M b o)) exts' hv Fe' ∧ (∀ b o, F b o → b < w'.heap.size ∧ (b < w.heap.size → M b o)) ∧ ∀ k b o, k < exts'.length → Fe' k b o → ¬ F b o

structure OrcOk (P : Program) (C : Cfg) (Γ : Orc) : Prop where
  fn : ∀ f args exts r, Γ f args exts = some r → ∃ fn, P.funcs[f]? = some fn ∧ fn.body.isSome = true ∧ (fn.name == "runtime.NumGoroutine") = false
  con : ∀ f args exts r, Γ f args exts = some r → Con P f args exts r.1 r.2
  res : ∀ f fn args exts r, Γ f args exts = some r → P.funcs[f]? = some fn → vwR P fn.resultTypes.toList r.1 = r.1
  ow : ∀ f args exts r, Γ f args exts = some r → r.1.ow = r.1 ∧ ∀ x, x ∈ r.2 → x.ow = x
  exts : ∀ f args exts r, Γ f args exts = some r → r.2.length = exts.length ∧ likeG (C.give f) exts r.2 = r.2

theorem RS_move {w w' : World} {ok ok' : Cells} (h : ∀ b o, ok b o → ok' b o ∧ cellAt w' b o = cellAt w b o) (x : AV) : ∀ {v : Value}, RS w ok x v → RS w' ok' x v := by
  induction x with
  | sl n sz g ih =>
    rintro v ⟨A, cap, rfl, h1, h2⟩
    refine ⟨A, cap, rfl, h1, h2.imp (fun h => h) fun ⟨a, e, hs, hc⟩ => ⟨a, e, hs, fun i hi j hj => ?_⟩⟩
    obtain ⟨h3, u, h4, h5⟩ := hc i hi j hj
    exact ⟨(h _ _ h3).1, u, by rw [(h _ _ h3).2]; exact h4, ih i j h5⟩
  | sln n sz g ih =>
    rintro v ⟨A, cap, rfl, h1, h2⟩
    refine ⟨A, cap, rfl, h1, h2.imp (fun h => h) fun ⟨a, e, hs, hc⟩ => ⟨a, e, hs, fun i hi j hj => ?_⟩⟩
    obtain ⟨h3, u, h4, h5⟩ := hc i hi j hj
    exact ⟨(h _ _ h3).1, u, by rw [(h _ _ h3).2]; exact h4, ih i j h5⟩
  | sp sz g ih =>
    rintro v ⟨a, rfl, hs, hc⟩
    refine ⟨a, rfl, hs, fun j hj => ?_⟩
    obtain ⟨h3, u, h4, h5⟩ := hc j hj
    exact ⟨(h _ _ h3).1, u, by rw [(h _ _ h3).2]; exact h4, ih j h5⟩
  | gv bs =>
    rintro v ⟨e1, e2, A, cap, rfl, h1, h2⟩
    refine ⟨e1, e2, A, cap, rfl, h1, h2.imp (fun h => h) fun ⟨a, e, hs, hc⟩ => ⟨a, e, hs, fun i hi j hj => ?_⟩⟩
    obtain ⟨h3, u, h4, h5⟩ := hc i hi j hj
    exact ⟨(h _ _ h3).1, u, by rw [(h _ _ h3).2]; exact h4, h5⟩
  | _ => intro v hv; exact hv

theorem RO_sh {w : World} {sh sh' : AV → Value → Prop} (h : ∀ x v, sh x v → sh' x v) (x : AV) : ∀ {v : Value} {F : Cells}, RO w sh x v F → RO w sh' x v F := by
  induction x with
  | own n sz g ih =>
    rintro v F ⟨A, cap, rfl, h1, h2, h3⟩
    refine ⟨A, cap, rfl, h1, h2, h3.imp (fun h => h) fun ⟨a, e, hs, hc, Fs, f1, f2, f3⟩ => ⟨a, e, hs, hc, Fs, f1, f2, fun i hi j hj => ?_⟩⟩
    obtain ⟨u, hu, hr⟩ := f3 i hi j hj
    exact ⟨u, hu, ih i j hr⟩
  | bad => intro v F h; trivial
  | _ => intro v F hv; exact h _ _ hv

theorem Par_sh {w : World} {sh sh' : AV → Value → Prop} (h : ∀ x v, sh x v → sh' x v) {n : Nat} {g : Nat → AV} {vs : Nat → Value} {F : Cells} (hp : Par w sh n g vs F) : Par w sh' n g vs F := by
  obtain ⟨Fs, h1, h2, h3⟩ := hp
  exact ⟨Fs, h1, h2, fun j hj => RO_sh h _ (h3 j hj)⟩

theorem RV_sh {w : World} {sh sh' : AV → Value → Prop} (h : ∀ x v, sh x v → sh' x v) {x : AV} {v : Value} {F : Cells} (hv : RV w sh x v F) : RV w sh' x v F := by
  cases x with
  | ag sz g => obtain ⟨vs, e, hs, ho, hp⟩ := hv; exact ⟨vs, e, hs, ho, Par_sh h hp⟩
  | nbx sz g => obtain ⟨ad, e, hs, hin, vs, hc, hp⟩ := hv; exact ⟨ad, e, hs, hin, vs, hc, Par_sh h hp⟩
  | _ => exact RO_sh h _ hv

theorem RO_tab {w : World} {sh : AV → Value → Prop} {n sz : Nat} {g : Nat → Nat → AV} {v : Value} {F : Cells} (h : RO w sh (.own n sz g) v F) : RO w sh (.own n sz (fun i => tabG sz (g i))) v F := by
  obtain ⟨A, cap, rfl, h1, h2, h3⟩ := h
  refine ⟨A, cap, rfl, h1, h2, h3.imp (fun h => h) fun ⟨a, e, hs, hc, Fs, f1, f2, f3⟩ => ⟨a, e, hs, hc, Fs, f1, f2, fun i hi j hj => ?_⟩⟩
  obtain ⟨u, hu, hr⟩ := f3 i hi j hj
  exact ⟨u, hu, by show RO w sh (tabG sz (g i) j) u (Fs i j); rw [tabG_lt hj]; exact hr⟩

theorem RO_cn {w : World} {sh : AV → Value → Prop} (x : AV) : ∀ {v : Value} {F : Cells}, RO w sh x v F → RO w sh x.cn v F := by
  induction x with
  | own n sz g ih =>
    rintro v F ⟨A, cap, rfl, h1, h2, h3⟩
    refine ⟨A, cap, rfl, h1, h2, h3.imp (fun h => h) fun ⟨a, e, hs, hc, Fs, f1, f2, f3⟩ => ⟨a, e, hs, hc, Fs, f1, f2, fun i hi j hj => ?_⟩⟩
    obtain ⟨u, hu, hr⟩ := f3 i hi j hj
    exact ⟨u, hu, by show RO w sh (tabG sz (fun j => (g i j).cn) j) u (Fs i j); rw [tabG_lt hj]; exact ih i j hr⟩
  | _ => intro v F h; exact h

theorem RO_ow {w w0 w1 : World} {ok ok1 : Cells} (ht : RS w1 ok1 (.gv Tok.bs) Tok.val) (x : AV) : ∀ {v : Value} {F : Cells}, RO w (RS w0 ok) x v F → RO w (RS w1 ok1) x.ow v F := by
  induction x with
  | own n sz g ih =>
    rintro v F ⟨A, cap, rfl, h1, h2, h3⟩
    refine ⟨A, cap, rfl, h1, h2, h3.imp (fun h => h) fun ⟨a, e, hs, hc, Fs, f1, f2, f3⟩ => ⟨a, e, hs, hc, Fs, f1, f2, fun i hi j hj => ?_⟩⟩
    obtain ⟨u, hu, hr⟩ := f3 i hi j hj
    exact ⟨u, hu, by show RO w (RS w1 ok1) (tabG sz (fun j => (g i j).ow) j) u (Fs i j); rw [tabG_lt hj]; exact ih i j hr⟩
  | I k n => intro v F h; exact h
  | B k => intro v F h; exact h
  | S k => intro v F h; exact h
  | nlp => intro v F h; exact h
  | gv bs => intro v F h; obtain ⟨e1, e2, _⟩ := h; subst e1 e2; exact ht
  | ag sz g ih => intro v F h; exact h.elim
  | nbx sz g ih => intro v F h; exact h.elim
  | tup sz g ih => intro v F h; exact h.elim
  | _ => intro v F h; trivial

theorem Par_ow {w w0 w1 : World} {ok ok1 : Cells} (ht : RS w1 ok1 (.gv Tok.bs) Tok.val) {n : Nat} {g : Nat → AV} {vs : Nat → Value} {F : Cells} (hp : Par w (RS w0 ok) n g vs F) : Par w (RS w1 ok1) n (tabG n (fun j => (g j).ow)) vs F := by
  obtain ⟨Fs, h1, h2, h3⟩ := hp
  exact ⟨Fs, h1, h2, fun j hj => by rw [tabG_lt hj]; exact RO_ow ht _ (h3 j hj)⟩

theorem RV_ow {w w0 w1 : World} {ok ok1 : Cells} (ht : RS w1 ok1 (.gv Tok.bs) Tok.val) {x : AV} {v : Value} {F : Cells} (h : RV w (RS w0 ok) x v F) : RV w (RS w1 ok1) x.ow v F := by
  cases x with
  | ag sz g => obtain ⟨vs, e, hs, ho, hp⟩ := h; exact ⟨vs, e, hs, ho, Par_ow ht hp⟩
  | nbx sz g => obtain ⟨ad, e, hs, hin, vs, hc, hp⟩ := h; exact ⟨ad, e, hs, hin, vs, hc, Par_ow ht hp⟩
  | own n sz g => exact RO_ow ht (.own n sz g) h
  | I k n => exact h
  | B k => exact h
  | S k => exact h
  | nlp => exact h
  | gv bs => exact RO_ow (w := w) (F := F) ht (.gv bs) h
  | tup n g => exact h.elim
  | _ => trivial

theorem RR_ow {w w0 w1 : World} {ok ok1 : Cells} (ht : RS w1 ok1 (.gv Tok.bs) Tok.val) {x : AV} {v : Value} {F : Cells} (h : RR w (RS w0 ok) x v F) : RR w (RS w1 ok1) x.ow v F := by
  cases x with
  | tup n g => obtain ⟨vs, e, hs, Fs, h1, h2, h3⟩ := h; exact ⟨vs, e, hs, Fs, h1, h2, fun j hj => by rw [tabG_lt hj]; exact RV_ow ht (h3 j hj)⟩
  | ag sz g => exact RV_ow ht (x := .ag sz g) h
  | nbx sz g => exact RV_ow ht (x := .nbx sz g) h
  | own n sz g => exact RV_ow ht (x := .own n sz g) h
  | I k n => exact h
  | B k => exact h
  | S k => exact h
  | nlp => exact h
  | gv bs => exact RV_ow (w := w) (F := F) ht (x := .gv bs) h
  | _ => trivial

/-- What is one's own, seen as what is only read. -/
theorem RO_to_RS {w w0 : World} {ok ok' : Cells} (hm : ∀ x v, RS w0 ok x v → RS w ok' x v) (x : AV) : ∀ {v : Value} {F : Cells}, RO w (RS w0 ok) x v F → v.oneCell' = true → (∀ b o, F b o → ok' b o) → RS w ok' x.sh v := by
  induction x with
  | own n sz g ih =>
    rintro v F ⟨A, cap, rfl, h1, h2, h3⟩ _ hok
    refine ⟨A, cap, rfl, ?_⟩
    rcases h3 with h3 | ⟨a, e, hs, hc, Fs, f1, f2, f3⟩
    · exact ⟨⟨h1, fun _ => h3⟩, .inl (by omega)⟩
    · refine ⟨⟨h1, fun h => by rw [e] at h; simp at h⟩, .inr ⟨a, e, hs, fun i hi j hj => ?_⟩⟩
      obtain ⟨u, hu, hr⟩ := f3 i hi j hj
      obtain ⟨hF, ⟨u', hu', ho⟩, _⟩ := hc _ (cell_lt hi hj h1)
      rw [hu] at hu'
      obtain rfl := Option.some.inj hu'
      exact ⟨hok _ _ hF, u, hu, by show RS w ok' (tabG sz (fun j => (g i j).sh) j) u; rw [tabG_lt hj]; exact ih i j hr ho fun b o hb => hok b o (f1 i j b o hi hj hb).1⟩
  | bad => intro v F h ho _; exact ho
  | _ => intro v F h _ _; exact hm _ _ h

section
variable {c : Cx} {gh : Gh} {nt : Nat} {st : St} {a : Act} {w : World} {P : Program} {R : Type} {r : R}

/-- What is only read stays so for a call that writes free cells alone. -/
theorem RS_in {M : Cells} (h : Inv c gh nt st a w) (hM : Free c gh st.ar st.bx w M) : ∀ x v, c.sh x v → RS w (okOf w M) x v := fun x v hv =>
  RS_move (fun b o hok => ⟨⟨Nat.lt_of_lt_of_le hok.1 h.mem.grow, fun hm => hok.2 ((hM b o hm).2.2 hok.1)⟩, (h.mem.keep b o hok.1 hok.2).1⟩) x hv

theorem borC0_sound {M : Cells} {exts : List AV} {hv : Nat → Value} {x : AV} {v : Value} (h : Inv c gh nt st a w) (hM : Free c gh st.ar st.bx w M) (hx : TR c.sh gh st.ar st.bx w x v) :
    AR (RS w (okOf w M)) exts hv (st.borC0 x) v := by
  have hin := RS_in h hM
  have hrow : ∀ id A, st.ar id = some A → ∀ b o, gh.fa id b o → okOf w M b o := fun id A e b o hb =>
    ⟨(h.mem.mine (.inl id) b o (by simp [live, e]) hb).1, fun hm => (hM b o hm).1 (.inl id) (by simp [live, e]) hb⟩
  cases x with
  | rf id =>
    simp only [St.borC0]
    split
    · rename_i A e
      rw [hx A e]
      exact RO_to_RS hin (.own A.n A.sz A.g) (h.mem.rows id A e) rfl (hrow id A e)
    · trivial
  | rs id p m =>
    simp only [St.borC0]
    split
    · rename_i A e
      obtain ⟨h1, A', rfl, h2⟩ := hx A e
      exact RO_to_RS hin (.own m A.sz (cut A p m)) (RO_cut (h.mem.rows id A e) h1 h2) rfl (hrow id A e)
    · trivial
  | rn id p =>
    simp only [St.borC0]
    split
    · rename_i n sz g hm
      obtain ⟨A, e, hat⟩ := Option.map_eq_some_iff.1 hm
      obtain ⟨F', hr, hsub⟩ := RO_path p (h.mem.rows id A e) hat (hx A n sz g e hat)
      have ho : v.oneCell' = true := by obtain ⟨_, _, rfl, _⟩ := hr; rfl
      exact RO_to_RS hin (.own n sz g) hr ho fun b o hb => hrow id A e b o (hsub b o hb)
    · trivial
  | nsl sz g =>
    have hx' : v = .slice none 0 0 := hx
    exact ⟨none, 0, hx', ⟨Nat.le_refl _, fun _ => rfl⟩, .inl rfl⟩
  | sln n sz g =>
    obtain ⟨x, cap, rfl, h1, h2⟩ := hin _ _ (show c.sh (.sln n sz g) v from hx)
    exact ⟨_, cap, rfl, ⟨h1, fun h => by simp at h⟩, h2⟩
  | sl n sz g => exact hin (.sl n sz g) v hx
  | I k n => exact hin (.I k n) v hx
  | B k => exact hin (.B k) v hx
  | S k => exact hin (.S k) v hx
  | nlp => exact hin .nlp v hx
  | gv bs => exact hin (.gv bs) v hx
  | sp sz g => exact hin (.sp sz g) v hx
  | _ => trivial

theorem borC0_RS {sh : AV → Value → Prop} {exts : List AV} {hv : Nat → Value} {x : AV} {v : Value} (hb : sh .bad v) (h : AR sh exts hv (st.borC0 x) v) : sh (st.borC0 x) v := by
  cases x <;> simp only [St.borC0] at h ⊢ <;> first
    | exact h
    | exact hb
    | (split at h <;> first | exact h | exact hb)

theorem borC_sound {M : Cells} {exts : List AV} {hv : Nat → Value} {x : AV} {v : Value} (h : Inv c gh nt st a w) (hM : Free c gh st.ar st.bx w M) (hx : TR c.sh gh st.ar st.bx w x v) :
    AR (RS w (okOf w M)) exts hv (st.borC x) v := by
  cases x with
  | pb b o =>
    simp only [St.borC]
    split
    · rename_i sz g e
      have hv' : v = .pointer (some ⟨(gh.ba b).block, (gh.ba b).off + o, none⟩) := hx _ e
      refine ⟨_, hv', rfl, fun j hj => ?_⟩
      obtain ⟨u, hu, _, h1, ht⟩ := (h.mem.boxes b sz g e).2 (o + j) (by omega)
      have hf : fp gh st.bx (.inr b) (gh.ba b).block ((gh.ba b).off + (o + j)) := ⟨(sz, g), e, rfl, by omega, by simp only; omega⟩
      have hl : live st.ar st.bx (.inr b) := by simp [live, e]
      simp only [Nat.add_assoc]
      refine ⟨⟨(h.mem.mine (.inr b) _ _ hl hf).1, fun hm => (hM _ _ hm).1 (.inr b) hl hf⟩, u, hu, ?_⟩
      rw [tabG_lt hj]
      exact borC0_RS (show RS w (okOf w M) .bad u from h1) (borC0_sound (exts := exts) (hv := hv) h hM ht)
    · trivial
  | _ => exact borC0_sound h hM hx

theorem borA_sound {M : Cells} {exts : List AV} {hv : Nat → Value} {x : AV} {v : Value} (h : Inv c gh nt st a w) (hM : Free c gh st.ar st.bx w M) (hx : TR c.sh gh st.ar st.bx w x v) :
    AR (RS w (okOf w M)) exts hv (st.borA x) v := by
  cases x with
  | ag sz g =>
    obtain ⟨vs, e, hs, hc⟩ := hx
    exact ⟨vs, e, hs, fun j hj => ⟨(hc j hj).1, by rw [tabG_lt hj]; exact borC_sound h hM (hc j hj).2⟩⟩
  | clo f n g =>
    obtain ⟨vs, e, hs, hc⟩ := hx
    exact ⟨vs, e, hs, fun j hj => by rw [tabG_lt hj]; exact borC_sound h hM (hc j hj)⟩
  | _ => exact borC_sound h hM hx

end
end Go.Fw
