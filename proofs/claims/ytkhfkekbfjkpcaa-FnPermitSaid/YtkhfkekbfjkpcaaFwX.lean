/- The by-value interpreter: what is handed in with a call. -/
import Derived.Test.YtkhfkekbfjkpcaaFwW
set_option linter.unusedVariables false
set_option linter.unusedSectionVars false
set_option linter.unusedSimpArgs false
namespace Go.Fw
variable [Tok]

/-- What taking leaves: no more than was there. -/
structure Sub (st st' : St) : Prop where
  t : st'.t = st.t
  ar : ∀ id A', st'.ar id = some A' → ∃ A, st.ar id = some A ∧ A'.n = A.n ∧ A'.sz = A.sz
  bx : ∀ b B, st'.bx b = some B → st.bx b = some B
theorem Sub.refl (st : St) : Sub st st := ⟨rfl, fun id A e => ⟨A, e, rfl, rfl⟩, fun _ _ e => e⟩
theorem Sub.trans {st st' st'' : St} (h : Sub st st') (h' : Sub st' st'') : Sub st st'' := by
  refine ⟨h'.t.trans h.t, fun id A e => ?_, fun b B e => h.bx b B (h'.bx b B e)⟩
  obtain ⟨A1, e1, n1, s1⟩ := h'.ar id A e
  obtain ⟨A2, e2, n2, s2⟩ := h.ar id A1 e1
  exact ⟨A2, e2, n1.trans n2, s1.trans s2⟩
theorem Sub.noneA (st : St) (id : Nat) : Sub st (st.setA id none) := by
  refine ⟨rfl, fun k A e => ?_, fun _ _ e => e⟩
  have e' : upd st.ar id none k = some A := e
  by_cases ek : k = id
  · subst ek; rw [upd_self] at e'; simp at e'
  · rw [upd_ne _ _ ek] at e'; exact ⟨A, e', rfl, rfl⟩
theorem Sub.noneB (st : St) (b : Nat) : Sub st (st.setB b none) := by
  refine ⟨rfl, fun id A e => ⟨A, e, rfl, rfl⟩, fun k B e => ?_⟩
  have e' : upd st.bx b none k = some B := e
  by_cases ek : k = b
  · subst ek; rw [upd_self] at e'; simp at e'
  · rw [upd_ne _ _ ek] at e'; exact e'

theorem takeC_sub {st st' : St} {x y : AV} (e : st.takeC x = some (y, st')) : Sub st st' := by
  cases x with
  | rf id =>
    simp only [St.takeC, Option.map_eq_some_iff, Prod.mk.injEq] at e
    obtain ⟨A, hA, rfl, rfl⟩ := e
    exact Sub.noneA st id
  | rs id p m =>
    simp only [St.takeC, Option.map_eq_some_iff, Prod.mk.injEq] at e
    obtain ⟨A, hA, rfl, rfl⟩ := e
    exact Sub.noneA st id
  | rn id p =>
    simp only [St.takeC] at e
    split at e
    · rename_i A hA
      split at e
      · simp only [Option.some.injEq, Prod.mk.injEq] at e
        obtain ⟨rfl, rfl⟩ := e
        refine ⟨rfl, fun k B e => ?_, fun _ _ e => e⟩
        have e' : upd st.ar id _ k = some B := e
        by_cases ek : k = id
        · subst ek; rw [upd_self] at e'; obtain rfl := Option.some.inj e'; exact ⟨A, hA, rfl, rfl⟩
        · rw [upd_ne _ _ ek] at e'; exact ⟨B, e', rfl, rfl⟩
      · simp at e
    · simp at e
  | nsl sz g =>
    simp only [St.takeC] at e
    cases hs : Nat.blt 0 sz with
    | false => rw [hs] at e; simp at e
    | true => rw [hs] at e; simp only [cond_true, Option.some.injEq, Prod.mk.injEq] at e; obtain ⟨rfl, rfl⟩ := e; exact .refl st
  | sln n sz g => simp only [St.takeC, Option.some.injEq, Prod.mk.injEq] at e; obtain ⟨rfl, rfl⟩ := e; exact .refl st
  | sl n sz g => simp only [St.takeC, Option.some.injEq, Prod.mk.injEq] at e; obtain ⟨rfl, rfl⟩ := e; exact .refl st
  | I k n => simp only [St.takeC, Option.some.injEq, Prod.mk.injEq] at e; obtain ⟨rfl, rfl⟩ := e; exact .refl st
  | B k => simp only [St.takeC, Option.some.injEq, Prod.mk.injEq] at e; obtain ⟨rfl, rfl⟩ := e; exact .refl st
  | S k => simp only [St.takeC, Option.some.injEq, Prod.mk.injEq] at e; obtain ⟨rfl, rfl⟩ := e; exact .refl st
  | nlp => simp only [St.takeC, Option.some.injEq, Prod.mk.injEq] at e; obtain ⟨rfl, rfl⟩ := e; exact .refl st
  | gv bs => simp only [St.takeC, Option.some.injEq, Prod.mk.injEq] at e; obtain ⟨rfl, rfl⟩ := e; exact .refl st
  | _ => simp [St.takeC] at e

theorem takeL_sub {g : Nat → AV} : ∀ (js : List Nat) {st st' : St} {l : List AV}, st.takeL g js = some (l, st') → Sub st st' := by
  intro js
  induction js with
  | nil => intro st st' l e; simp only [St.takeL, Option.some.injEq, Prod.mk.injEq] at e; obtain ⟨rfl, rfl⟩ := e; exact .refl st
  | cons j js ih =>
    intro st st' l e
    simp only [St.takeL] at e
    split at e
    · rename_i x st1 h1
      split at e
      · rename_i xs st2 h2
        simp only [Option.some.injEq, Prod.mk.injEq] at e; obtain ⟨rfl, rfl⟩ := e
        exact (takeC_sub h1).trans (ih h2)
      · simp at e
    · simp at e

theorem takeA_sub {st st' : St} {x y : AV} (e : st.takeA x = some (y, st')) : Sub st st' := by
  unfold St.takeA at e
  split at e
  · simp only [Option.map_eq_some_iff, Prod.mk.injEq] at e
    obtain ⟨r, h, rfl, rfl⟩ := e
    exact takeL_sub _ (l := r.1) (st' := r.2) h
  · split at e
    · simp only [Option.map_eq_some_iff, Prod.mk.injEq] at e
      obtain ⟨r, h, rfl, rfl⟩ := e
      exact (takeL_sub _ (l := r.1) (st' := r.2) h).trans (.noneB _ _)
    · simp at e
  · exact takeC_sub e

section
variable {c : Cx} {gh : Gh} {nt : Nat} {st : St} {a : Act} {w : World} {P : Program} {R : Type} {r : R}

/-- Where a thing that is handed in was taken from. -/
def BackOk (w : World) (gh : Gh) (st : St) (v : Value) (y : AV) : Back → Prop
  | .box b sz => (∃ g0, st.bx b = some (sz, g0)) ∧ v = .pointer (some ⟨(gh.ba b).block, (gh.ba b).off + 0, none⟩) ∧ ∃ g, y = .nbx sz g
  | .arr id n sz => (∃ A, st.ar id = some A ∧ A.n = n ∧ A.sz = sz) ∧ v = .slice (gh.hd id).1 n (gh.hd id).2 ∧ ∃ g, y = .own n sz g
  | .inn id p n sz => (∃ (ad : Addr) (pre : List (Nat × Nat)) (qq : Nat × Nat), p = pre ++ [qq] ∧ ad.spot = none ∧ cellAt w ad.block ad.off = some v ∧
      ∀ A, st.ar id = some A → placeV w (gh.hd id).1 A.n A.sz A.g pre qq.1 qq.2 (.pointer (some ad))) ∧ ∃ g, y = .own n sz g

/-- A header's cell, and its place. -/
theorem path_place2 {w : World} {qq : Nat × Nat} {v : Value} : ∀ (pre : List (Nat × Nat)) {a : Option Addr} {n sz : Nat} {g : Nat → Nat → AV}, (∃ n' sz' h, atP g (pre ++ [qq]) = .own n' sz' h) → pathV w a n sz g (pre ++ [qq]) v →
    ∃ ad : Addr, ad.spot = none ∧ cellAt w ad.block ad.off = some v ∧ placeV w a n sz g pre qq.1 qq.2 (.pointer (some ad)) := by
  intro pre
  induction pre with
  | nil =>
    intro a n sz g _ h
    obtain ⟨hi, hj, ad, rfl, hc⟩ := h
    exact ⟨⟨ad.block, ad.off + (qq.1 * sz + qq.2), none⟩, rfl, hc, hi, hj, ad, rfl, rfl⟩
  | cons ij pre ih =>
    obtain ⟨i, j⟩ := ij
    rintro a n sz g ⟨n', sz', h', hat⟩ h
    have key : ∃ (ad : Addr) (u : Value) (n3 sz3 : Nat) (h3 : Nat → Nat → AV) (A3 : Option Addr) (cap3 : Nat), i < n ∧ j < sz ∧ a = some ad ∧ cellAt w ad.block (ad.off + (i * sz + j)) = some u ∧ g i j = .own n3 sz3 h3 ∧ u = .slice A3 n3 cap3 ∧ pathV w A3 n3 sz3 h3 (pre ++ [qq]) v ∧ atP h3 (pre ++ [qq]) = .own n' sz' h' := by
      cases pre with
      | nil =>
        obtain ⟨hi, hj, ad, rfl, u, hc, hm⟩ := h
        simp only [List.cons_append, List.nil_append, atP] at hat
        cases hg : g i j with
        | own n3 sz3 h3 =>
          rw [hg] at hm hat
          obtain ⟨A3, cap3, rfl, hp⟩ := hm
          exact ⟨ad, _, n3, sz3, h3, A3, cap3, hi, hj, rfl, hc, rfl, rfl, hp, hat⟩
        | _ => rw [hg] at hat; simp at hat
      | cons b bs =>
        obtain ⟨hi, hj, ad, rfl, u, hc, hm⟩ := h
        simp only [List.cons_append, atP] at hat
        cases hg : g i j with
        | own n3 sz3 h3 =>
          rw [hg] at hm hat
          obtain ⟨A3, cap3, rfl, hp⟩ := hm
          exact ⟨ad, _, n3, sz3, h3, A3, cap3, hi, hj, rfl, hc, rfl, rfl, hp, hat⟩
        | _ => rw [hg] at hat; simp at hat
    obtain ⟨ad, u, n3, sz3, h3, A3, cap3, hi, hj, rfl, hc, hg, rfl, hp, hat3⟩ := key
    obtain ⟨ad', h1, h2, h4⟩ := ih ⟨n', sz', h', hat3⟩ hp
    exact ⟨ad', h1, h2, place_up hg hi hj hc h4⟩
/-- What has been handed in so far. -/
structure PInv (c : Cx) (gh : Gh) (nt : Nat) (st : St) (a : Act) (w : World) (q : Pas) (ghq : Gh) (hv : Nat → Value) (Fe : Nat → Cells) : Prop where
  inv : Inv c ghq nt q.st a w
  hd : ghq.hd = gh.hd
  ba : ghq.ba = gh.ba
  holds : Holds c gh ghq st q.st w
  sub : Sub st q.st
  len : q.bk.length = q.ex.length
  kind : ∀ x, x ∈ q.ex → isExt x
  ext : ∀ k x, q.ex[k]? = some x → RV w c.sh x (hv k) (Fe k)
  free : Free c ghq q.st.ar q.st.bx w (fun b o => ∃ k, k < q.ex.length ∧ Fe k b o)
  disj : ∀ k m b o, k < q.ex.length → m < q.ex.length → k ≠ m → Fe k b o → ¬ Fe m b o
  back : ∀ k bk y, q.bk[k]? = some bk → q.ex[k]? = some y → BackOk w gh st (hv k) y bk
  start : q.ex = [] → q.st = st
  one : ∀ id p n sz, q.bk = [.inn id p n sz] → ∃ A, st.ar id = some A ∧ q.st.ar id = some ⟨A.n, A.sz, setP A.g p .bad⟩

structure Grows (q q' : Pas) (hv hv' : Nat → Value) : Prop where
  same : ∀ k x, q.ex[k]? = some x → q'.ex[k]? = some x ∧ hv' k = hv k
theorem Grows.refl (q : Pas) (hv : Nat → Value) : Grows q q hv hv := ⟨fun _ _ h => ⟨h, rfl⟩⟩
theorem Grows.trans {q q' q'' : Pas} {hv hv' hv'' : Nat → Value} (h : Grows q q' hv hv') (h' : Grows q' q'' hv' hv'') : Grows q q'' hv hv'' :=
  ⟨fun k x e => by
    obtain ⟨e1, e2⟩ := h.same k x e
    obtain ⟨e3, e4⟩ := h'.same k x e1
    exact ⟨e3, e4.trans e2⟩⟩

theorem AR_mono {sh : AV → Value → Prop} {exts exts' : List AV} {hv hv' : Nat → Value} (h : ∀ k x, exts[k]? = some x → exts'[k]? = some x ∧ hv' k = hv k) (x : AV) : ∀ {v : Value}, AR sh exts hv x v → AR sh exts' hv' x v := by
  induction x with
  | rf id => rintro v ⟨k, n, sz, g, e, h1, h2⟩; exact ⟨k, n, sz, g, e, (h _ _ h1).1, by rw [(h _ _ h1).2]; exact h2⟩
  | pb k o => rintro v ⟨e, ⟨sz, g, h1⟩, h2⟩; exact ⟨e, ⟨sz, g, (h _ _ h1).1⟩, by rw [(h _ _ h1).2]; exact h2⟩
  | ag sz g ih => rintro v ⟨vs, e, hs, hc⟩; exact ⟨vs, e, hs, fun j hj => ⟨(hc j hj).1, ih j (hc j hj).2⟩⟩
  | clo f n g ih => rintro v ⟨vs, e, hs, hc⟩; exact ⟨vs, e, hs, fun j hj => ih j (hc j hj)⟩
  | _ => intro v h; exact h

/-- One more is handed in. -/
theorem pass_one {q : Pas} {ghq : Gh} {hv : Nat → Value} {Fe : Nat → Cells} {x y : AV} {v : Value} {st' : St} {bk : Back} (hp : PInv c gh nt st a w q ghq hv Fe) (hx : TR c.sh gh st.ar st.bx w x v)
    (e : q.st.takeA x = some (y, st')) (hk : isExt y)
    (hb : BackOk w gh st v y bk) (hi : ∀ id p n sz, bk = .inn id p n sz → ∃ A, st.ar id = some A ∧ st'.ar id = some ⟨A.n, A.sz, setP A.g p .bad⟩) :
    ∃ ghq' Fe', PInv c gh nt st a w ⟨st', q.ex ++ [y], q.bk ++ [bk]⟩ ghq' (upd hv q.ex.length v) Fe' ∧ Grows q ⟨st', q.ex ++ [y], q.bk ++ [bk]⟩ hv (upd hv q.ex.length v) := by
  obtain ⟨ghq', F, hT, hrv⟩ := takeA_sound hp.inv hp.free (hp.holds _ _ hx) e
  have hlt : ∀ {k : Nat} {z : AV}, q.ex[k]? = some z → k < q.ex.length := fun h => (List.getElem?_eq_some_iff.1 h).1
  have hcase : ∀ {k : Nat} {z : AV}, (q.ex ++ [y])[k]? = some z → (k < q.ex.length ∧ q.ex[k]? = some z) ∨ (k = q.ex.length ∧ z = y) := fun {k z} h => by
    by_cases hk : k < q.ex.length
    · rw [List.getElem?_append_left hk] at h; exact .inl ⟨hk, h⟩
    · rw [List.getElem?_append_right (Nat.not_lt.1 hk)] at h
      by_cases hk0 : k = q.ex.length
      · subst hk0; simp at h; exact .inr ⟨rfl, h.symm⟩
      · have : ([y] : List AV)[k - q.ex.length]? = none := List.getElem?_eq_none (by simp; omega)
        rw [this] at h; simp at h
  have hgrow : Grows q ⟨st', q.ex ++ [y], q.bk ++ [bk]⟩ hv (upd hv q.ex.length v) := ⟨fun k z h => by
    have := hlt h
    exact ⟨by show (q.ex ++ [y])[k]? = some z; rw [List.getElem?_append_left this]; exact h, upd_ne _ _ (by omega)⟩⟩
  refine ⟨ghq', upd Fe q.ex.length F, ⟨hT.inv, hT.hd.trans hp.hd, hT.ba.trans hp.ba, hp.holds.trans hT.holds, hp.sub.trans (takeA_sub e), by simp [hp.len], fun z hz => ?_, fun k z h => ?_, ?_, fun k m b o hk hm hkm hb1 hb2 => ?_, fun k bk' z h hz => ?_, fun h => by simp at h, fun id p n sz h => ?_⟩, hgrow⟩
  · rcases List.mem_append.1 hz with hz | hz
    · exact hp.kind z hz
    · simp at hz; subst hz; exact hk
  · rcases hcase h with ⟨hk, h⟩ | ⟨rfl, rfl⟩
    · rw [upd_ne _ _ (by omega), upd_ne _ _ (by omega)]; exact hp.ext k z h
    · rw [upd_self, upd_self]; exact hrv
  · refine hT.free.mono fun x y ⟨k, hk, hf⟩ => ?_
    by_cases hk0 : k = q.ex.length
    · subst hk0; rw [upd_self] at hf; exact .inr hf
    · rw [upd_ne _ _ hk0] at hf
      exact .inl ⟨k, by simp at hk; omega, hf⟩
  · simp at hk hm
    by_cases hk0 : k = q.ex.length
    · subst hk0
      rw [upd_self] at hb1
      rw [upd_ne _ _ (by omega)] at hb2
      exact hT.apart b o hb1 ⟨m, by omega, hb2⟩
    · rw [upd_ne _ _ hk0] at hb1
      by_cases hm0 : m = q.ex.length
      · subst hm0
        rw [upd_self] at hb2
        exact hT.apart b o hb2 ⟨k, by omega, hb1⟩
      · rw [upd_ne _ _ hm0] at hb2
        exact hp.disj k m b o (by omega) (by omega) hkm hb1 hb2
  · have hlen := hp.len
    have h' : (q.bk ++ [bk])[k]? = some bk' := h
    rcases hcase hz with ⟨hk0, hz⟩ | ⟨rfl, rfl⟩
    · rw [List.getElem?_append_left (by omega)] at h'
      rw [upd_ne _ _ (by omega)]
      exact hp.back k bk' z h' hz
    · rw [← hlen] at h'
      simp at h'
      subst h'
      rw [upd_self]
      exact hb
  · have h' : q.bk ++ [bk] = [.inn id p n sz] := h
    have h2 : bk = .inn id p n sz := by
      cases hq : q.bk with
      | nil => rw [hq] at h'; simpa using h'
      | cons b bs => rw [hq] at h'; simp at h'
    exact hi id p n sz h2

theorem passBox_sound {q q' : Pas} {ghq : Gh} {hv : Nat → Value} {Fe : Nat → Cells} {b : Nat} {y : AV} {v : Value} (hp : PInv c gh nt st a w q ghq hv Fe) (hx : TR c.sh gh st.ar st.bx w (.pb b 0) v)
    (e : passBox q b = some (y, q')) : ∃ ghq' hv' Fe', PInv c gh nt st a w q' ghq' hv' Fe' ∧ Grows q q' hv hv' ∧ ∀ sh, AR sh q'.ex hv' y v := by
  unfold passBox at e
  split at e
  · rename_i sz g st' ht
    obtain ⟨hsz, e⟩ := K2_some e
    simp only [Option.some.injEq, Prod.mk.injEq] at e
    obtain ⟨rfl, rfl⟩ := e
    have hbx : ∃ g0, q.st.bx b = some (sz, g0) := by
      simp only [St.takeA] at ht
      split at ht
      · rename_i sz' c' hB
        simp only [Option.map_eq_some_iff, Prod.mk.injEq, AV.nbx.injEq] at ht
        obtain ⟨r, _, ⟨rfl, _⟩, _⟩ := ht
        exact ⟨c', hB⟩
      · simp at ht
    obtain ⟨g0, hB⟩ := hbx
    have hB' := hp.sub.bx _ _ hB
    obtain ⟨ghq', Fe', h1, h2⟩ := pass_one (bk := .box b sz) hp hx ht (Nat.le_of_ble_eq_true hsz) ⟨⟨g0, hB'⟩, hx _ hB', g, rfl⟩ (fun _ _ _ _ h => by simp at h)
    exact ⟨ghq', _, Fe', h1, h2, fun sh => ⟨rfl, ⟨sz, g, by simp⟩, (upd_self _ _ _).symm⟩⟩
  · simp at e

theorem passArr_sound {q q' : Pas} {ghq : Gh} {hv : Nat → Value} {Fe : Nat → Cells} {id : Nat} {y : AV} {v : Value} (hp : PInv c gh nt st a w q ghq hv Fe) (hx : TR c.sh gh st.ar st.bx w (.rf id) v)
    (e : passArr q id = some (y, q')) : ∃ ghq' hv' Fe', PInv c gh nt st a w q' ghq' hv' Fe' ∧ Grows q q' hv hv' ∧ ∀ sh, AR sh q'.ex hv' y v := by
  unfold passArr at e
  split at e
  · rename_i n sz g st' ht
    simp only [Option.some.injEq, Prod.mk.injEq] at e
    obtain ⟨rfl, rfl⟩ := e
    have har : ∃ A, q.st.ar id = some A ∧ A.n = n ∧ A.sz = sz := by
      simp only [St.takeA, St.takeC, Option.map_eq_some_iff, Prod.mk.injEq, AV.own.injEq] at ht
      obtain ⟨A, hA, ⟨h1, h2, _⟩, _⟩ := ht
      exact ⟨A, hA, h1, h2⟩
    obtain ⟨A, hA, hn, hs⟩ := har
    obtain ⟨A0, hA0, hn0, hs0⟩ := hp.sub.ar _ _ hA
    obtain ⟨ghq', Fe', h1, h2⟩ := pass_one (bk := .arr id n sz) hp hx ht trivial ⟨⟨A0, hA0, by omega, by omega⟩, by rw [hx A0 hA0, ← hn0, hn], g, rfl⟩ (fun _ _ _ _ h => by simp at h)
    exact ⟨ghq', _, Fe', h1, h2, fun sh => ⟨q.ex.length, n, sz, g, rfl, by simp, (upd_self _ _ _).symm⟩⟩
  · simp at e

theorem passCaps_sound {g : Nat → AV} {vs : Nat → Value} : ∀ (js : List Nat) {q q' : Pas} {ghq : Gh} {hv : Nat → Value} {Fe : Nat → Cells} {l : List AV}, PInv c gh nt st a w q ghq hv Fe → (∀ j, j ∈ js → TR c.sh gh st.ar st.bx w (g j) (vs j)) →
    passCaps q g js = some (l, q') → l.length = js.length ∧ ∃ ghq' hv' Fe', PInv c gh nt st a w q' ghq' hv' Fe' ∧ Grows q q' hv hv' ∧ ∀ k, k < js.length → ∀ sh, AR sh q'.ex hv' (lstG l k) (vs (js.getD k 0)) := by
  intro js
  induction js with
  | nil =>
    intro q q' ghq hv Fe l hp _ e
    simp only [passCaps, Option.some.injEq, Prod.mk.injEq] at e
    obtain ⟨rfl, rfl⟩ := e
    exact ⟨rfl, ghq, hv, Fe, hp, .refl _ _, fun k hk => absurd hk (by simp)⟩
  | cons j js ih =>
    intro q q' ghq hv Fe l hp hx e
    simp only [passCaps] at e
    split at e
    · rename_i b hg
      split at e
      · rename_i y q1 h1
        split at e
        · rename_i ys q2 h2
          simp only [Option.some.injEq, Prod.mk.injEq] at e
          obtain ⟨rfl, rfl⟩ := e
          have hxj := hx j (by simp)
          rw [hg] at hxj
          obtain ⟨gh1, hv1, Fe1, p1, g1, a1⟩ := passBox_sound hp hxj h1
          obtain ⟨hl, gh2, hv2, Fe2, p2, g2, a2⟩ := ih p1 (fun k hk => hx k (by simp [hk])) h2
          refine ⟨by simp [hl], gh2, hv2, Fe2, p2, g1.trans g2, fun k hk sh => ?_⟩
          cases k with
          | zero => rw [lstG_zero]; exact AR_mono g2.same _ (a1 sh)
          | succ k => rw [lstG_succ]; exact a2 k (by simpa using hk) sh
        · simp at e
      · simp at e
    · simp at e

theorem passAg_sound {g : Nat → AV} {vs : Nat → Value} : ∀ (js : List Nat) {q q' : Pas} {ghq : Gh} {hv : Nat → Value} {Fe : Nat → Cells} {l : List AV}, PInv c gh nt st a w q ghq hv Fe → (∀ j, j ∈ js → TR c.sh gh st.ar st.bx w (g j) (vs j)) →
    passAg q g js = some (l, q') → l.length = js.length ∧ ∃ ghq' hv' Fe', PInv c gh nt st a w q' ghq' hv' Fe' ∧ Grows q q' hv hv' ∧ ∀ k, k < js.length → ∀ sh, (∀ x v, c.sh x v → sh x v) → AR sh q'.ex hv' (lstG l k) (vs (js.getD k 0)) := by
  intro js
  induction js with
  | nil =>
    intro q q' ghq hv Fe l hp _ e
    simp only [passAg, Option.some.injEq, Prod.mk.injEq] at e
    obtain ⟨rfl, rfl⟩ := e
    exact ⟨rfl, ghq, hv, Fe, hp, .refl _ _, fun k hk => absurd hk (by simp)⟩
  | cons j js ih =>
    intro q q' ghq hv Fe l hp hx e
    simp only [passAg] at e
    have hxj := hx j (by simp)
    have lit : ∀ x, g j = x → (bif x.lit then (match passAg q g js with
      | some (xs, q') => some (x :: xs, q')
      | none => none) else none) = some (l, q') → l.length = (j :: js).length ∧ ∃ ghq' hv' Fe', PInv c gh nt st a w q' ghq' hv' Fe' ∧ Grows q q' hv hv' ∧ ∀ k, k < (j :: js).length → ∀ sh, (∀ x v, c.sh x v → sh x v) → AR sh q'.ex hv' (lstG l k) (vs ((j :: js).getD k 0)) := by
      intro x hgx e
      rw [hgx] at hxj
      cases hl : x.lit with
      | false => rw [hl] at e; simp at e
      | true =>
        rw [hl] at e
        simp only [cond_true] at e
        split at e
        · rename_i ys q2 h2
          simp only [Option.some.injEq, Prod.mk.injEq] at e
          obtain ⟨rfl, rfl⟩ := e
          obtain ⟨hl', gh2, hv2, Fe2, p2, g2, a2⟩ := ih hp (fun k hk => hx k (by simp [hk])) h2
          refine ⟨by simp [hl'], gh2, hv2, Fe2, p2, g2, fun k hk sh hsh => ?_⟩
          cases k with
          | zero =>
            rw [lstG_zero]
            cases x with
            | I _ _ => exact hsh _ _ hxj
            | B _ => exact hsh _ _ hxj
            | S _ => exact hsh _ _ hxj
            | nlp => exact hsh _ _ hxj
            | sl _ _ _ => exact hsh _ _ hxj
            | _ => simp [AV.lit] at hl
          | succ k => rw [lstG_succ]; exact a2 k (by simpa using hk) sh hsh
        · simp at e
    split at e
    · rename_i b hg
      split at e
      · rename_i y q1 h1
        split at e
        · rename_i ys q2 h2
          simp only [Option.some.injEq, Prod.mk.injEq] at e
          obtain ⟨rfl, rfl⟩ := e
          rw [hg] at hxj
          obtain ⟨gh1, hv1, Fe1, p1, g1, a1⟩ := passArr_sound hp hxj h1
          obtain ⟨hl, gh2, hv2, Fe2, p2, g2, a2⟩ := ih p1 (fun k hk => hx k (by simp [hk])) h2
          refine ⟨by simp [hl], gh2, hv2, Fe2, p2, g1.trans g2, fun k hk sh hsh => ?_⟩
          cases k with
          | zero => rw [lstG_zero]; exact AR_mono g2.same _ (a1 sh)
          | succ k => rw [lstG_succ]; exact a2 k (by simpa using hk) sh hsh
        · simp at e
      · simp at e
    · exact lit _ rfl e

theorem passX_sound {q q' : Pas} {ghq : Gh} {hv : Nat → Value} {Fe : Nat → Cells} {own : Bool} {x : AV} {y : Option AV} {v : Value} (hp : PInv c gh nt st a w q ghq hv Fe) (hx : TR c.sh gh st.ar st.bx w x v)
    (e : passX q own x = some (y, q')) : ∃ ghq' hv' Fe', PInv c gh nt st a w q' ghq' hv' Fe' ∧ Grows q q' hv hv' ∧ ∀ z, y = some z → ∀ sh, (∀ x v, c.sh x v → sh x v) → AR sh q'.ex hv' z v := by
  have same : ∀ {y : Option AV}, (some (none, q) : Option (Option AV × Pas)) = some (y, q') → ∃ ghq' hv' Fe', PInv c gh nt st a w q' ghq' hv' Fe' ∧ Grows q q' hv hv' ∧ ∀ z, y = some z → ∀ sh, (∀ x v, c.sh x v → sh x v) → AR sh q'.ex hv' z v := by
    intro y e
    simp only [Option.some.injEq, Prod.mk.injEq] at e
    obtain ⟨rfl, rfl⟩ := e
    exact ⟨ghq, hv, Fe, hp, .refl _ _, fun z h => by simp at h⟩
  unfold passX at e
  split at e
  · rename_i b
    split at e
    · rename_i y' q1 h1
      simp only [Option.some.injEq, Prod.mk.injEq] at e
      obtain ⟨rfl, rfl⟩ := e
      obtain ⟨gh1, hv1, Fe1, p1, g1, a1⟩ := passBox_sound hp hx h1
      exact ⟨gh1, hv1, Fe1, p1, g1, fun z h sh _ => by obtain rfl := Option.some.inj h; exact a1 sh⟩
    · simp at e
  · rename_i f n g
    cases own with
    | false => exact same e
    | true =>
    simp only [cond_true] at e
    split at e
    · rename_i l q1 h1
      simp only [Option.some.injEq, Prod.mk.injEq] at e
      obtain ⟨rfl, rfl⟩ := e
      obtain ⟨vs, rfl, hs, hc⟩ := hx
      obtain ⟨hl, gh1, hv1, Fe1, p1, g1, a1⟩ := passCaps_sound (vs := fun j => vs.getD j undef) (List.range n) hp (fun j hj => hc j (by simpa using hj)) h1
      refine ⟨gh1, hv1, Fe1, p1, g1, fun z h sh hsh => ?_⟩
      obtain rfl := Option.some.inj h
      exact ⟨vs, rfl, hs, fun j hj => by simpa [List.getD_eq_getElem?_getD, hj] using a1 j (by simpa using hj) sh⟩
    · simp at e
  · rename_i id
    cases own with
    | false => exact same e
    | true =>
      simp only [cond_true] at e
      split at e
      · rename_i y' q1 h1
        simp only [Option.some.injEq, Prod.mk.injEq] at e
        obtain ⟨rfl, rfl⟩ := e
        obtain ⟨gh1, hv1, Fe1, p1, g1, a1⟩ := passArr_sound hp hx h1
        exact ⟨gh1, hv1, Fe1, p1, g1, fun z h sh _ => by obtain rfl := Option.some.inj h; exact a1 sh⟩
      · simp at e
  · rename_i id p
    cases hc : (own && q.ex.isEmpty) with
    | false => rw [hc] at e; exact same e
    | true =>
      rw [hc] at e
      simp only [cond_true] at e
      rw [Bool.and_eq_true, List.isEmpty_iff] at hc
      have hst := hp.start hc.2
      split at e
      · rename_i n sz g st' ht
        simp only [Option.some.injEq, Prod.mk.injEq] at e
        obtain ⟨rfl, rfl⟩ := e
        have hat : ∃ A, st.ar id = some A ∧ atP A.g p = .own n sz g ∧ st'.ar id = some ⟨A.n, A.sz, setP A.g p .bad⟩ := by
          rw [hst] at ht
          simp only [St.takeA, St.takeC] at ht
          split at ht
          · rename_i A hA
            split at ht
            · rename_i n' sz' g' hat
              simp only [Option.some.injEq, Prod.mk.injEq, AV.own.injEq] at ht
              obtain ⟨⟨rfl, rfl, rfl⟩, rfl⟩ := ht
              exact ⟨A, hA, hat, upd_self _ _ _⟩
            · simp at ht
          · simp at ht
        obtain ⟨A, hA, hat, hst'⟩ := hat
        have hpv := hx A n sz g hA hat
        have hne : ∃ pre qq, p = pre ++ [qq] := by
          rcases List.eq_nil_or_concat p with rfl | ⟨pre, qq, h⟩
          · simp [atP] at hat
          · exact ⟨pre, qq, by simpa using h⟩
        obtain ⟨pre, qq, rfl⟩ := hne
        obtain ⟨ad, h1, h2, h3⟩ := path_place2 pre ⟨_, _, _, hat⟩ hpv
        obtain ⟨ghq', Fe', p1, g1⟩ := pass_one (bk := .inn id (pre ++ [qq]) n sz) hp hx ht trivial ⟨⟨ad, pre, qq, rfl, h1, h2, fun A' hA' => by rw [hA] at hA'; obtain rfl := Option.some.inj hA'; exact h3⟩, g, rfl⟩ (fun _ _ _ _ h => by simp only [Back.inn.injEq] at h; obtain ⟨rfl, rfl, rfl, rfl⟩ := h; exact ⟨A, hA, hst'⟩)
        refine ⟨ghq', _, Fe', p1, g1, fun z h sh _ => ?_⟩
        obtain rfl := Option.some.inj h
        exact ⟨q.ex.length, n, sz, g, rfl, by simp, (upd_self _ _ _).symm⟩
      · simp at e
  · rename_i sz g
    cases own with
    | false => exact same e
    | true =>
      simp only [cond_true] at e
      split at e
      · rename_i l q1 h1
        simp only [Option.some.injEq, Prod.mk.injEq] at e
        obtain ⟨rfl, rfl⟩ := e
        obtain ⟨vs, rfl, hs, hc⟩ := hx
        obtain ⟨hl, gh1, hv1, Fe1, p1, g1, a1⟩ := passAg_sound (vs := fun j => vs.getD j undef) (List.range sz) hp (fun j hj => (hc j (by simpa using hj)).2) h1
        refine ⟨gh1, hv1, Fe1, p1, g1, fun z h sh hsh => ?_⟩
        obtain rfl := Option.some.inj h
        exact ⟨vs, rfl, hs, fun j hj => ⟨(hc j hj).1, by simpa [List.getD_eq_getElem?_getD, hj] using a1 j (by simpa using hj) sh hsh⟩⟩
      · simp at e
  · exact same e

theorem passL_sound : ∀ (xs : List AV) (owns : List Bool) (vs : List Value) {q q' : Pas} {ghq : Gh} {hv : Nat → Value} {Fe : Nat → Cells} {ys : List (Option AV)}, PInv c gh nt st a w q ghq hv Fe → vs.length = xs.length →
    (∀ j, j < xs.length → TR c.sh gh st.ar st.bx w (xs.getD j .bad) (vs.getD j undef)) → passL q owns xs = some (ys, q') →
    ys.length = xs.length ∧ ∃ ghq' hv' Fe', PInv c gh nt st a w q' ghq' hv' Fe' ∧ Grows q q' hv hv' ∧ ∀ k z, ys[k]? = some (some z) → ∀ sh, (∀ x v, c.sh x v → sh x v) → AR sh q'.ex hv' z (vs.getD k undef) := by
  intro xs
  induction xs with
  | nil =>
    intro owns vs q q' ghq hv Fe ys hp _ _ e
    simp only [passL, Option.some.injEq, Prod.mk.injEq] at e
    obtain ⟨rfl, rfl⟩ := e
    exact ⟨rfl, ghq, hv, Fe, hp, .refl _ _, fun k z h => by simp at h⟩
  | cons x xs ih =>
    intro owns vs q q' ghq hv Fe ys hp hl hx e
    cases vs with
    | nil => simp at hl
    | cons v vs =>
      simp only [passL] at e
      split at e
      · rename_i y q1 h1
        split at e
        · rename_i ys' q2 h2
          simp only [Option.some.injEq, Prod.mk.injEq] at e
          obtain ⟨rfl, rfl⟩ := e
          obtain ⟨gh1, hv1, Fe1, p1, g1, a1⟩ := passX_sound hp (hx 0 (by simp)) h1
          obtain ⟨hl2, gh2, hv2, Fe2, p2, g2, a2⟩ := ih owns.tail vs p1 (by simpa using hl) (fun j hj => hx (j + 1) (by simpa using hj)) h2
          refine ⟨by simp [hl2], gh2, hv2, Fe2, p2, g1.trans g2, fun k z h sh hsh => ?_⟩
          cases k with
          | zero => simp at h; exact AR_mono g2.same _ (a1 z h sh hsh)
          | succ k => exact a2 k z (by simpa using h) sh hsh
        · simp at e
      · simp at e

end
end Go.Fw
