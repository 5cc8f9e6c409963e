/- The by-value interpreter: a function's beginning. -/
import Derived.Test.YtkhfkekbfjkpcaaFxE
set_option linter.unusedVariables false
set_option linter.unusedSectionVars false
set_option linter.unusedSimpArgs false
namespace Go.Fw
variable [Tok]

def hdr : Value → Option Addr × Nat
  | .slice A _ cap => (A, cap)
  | _ => (none, 0)

theorem init_inv {w : World} {M : Cells} {hv : Nat → Value} {Fe : Nat → Cells} {args exts : List AV} {vs : Array Value} {nt : Nat} (ht0 : RS w (okOf w M) (.gv Tok.bs) Tok.val) (h64 : exts.length ≤ 64) (hk : ∀ x, x ∈ exts → isExt x)
    (hH : Handed w (RS w (okOf w M)) M exts hv Fe) (hM : ∀ b o, M b o → b < w.heap.size) (hs : vs.size = args.length) (hnt : args.length ≤ nt)
    (ha : ∀ j, j < args.length → AR (RS w (okOf w M)) exts hv (args.getD j .bad) (vs.getD j undef)) :
    ∃ c gh, c.w0 = w ∧ c.M = M ∧ c.lim = 64 ∧ (∀ i x, exts[i]? = some x → NameOk c hv (0 + i) x) ∧ Inv c gh nt (initSt args exts) { tmps := vs ++ Array.replicate (nt - vs.size) undef, defers := [] } w := by
  have hlt : ∀ {k : Nat} {x : AV}, exts[k]? = some x → k < exts.length := fun h => (List.getElem?_eq_some_iff.1 h).1
  -- what each box is made of
  have hb : ∀ k, ∃ D : Addr × (Nat → Value) × (Nat → Cells), ∀ sz g, exts[k]? = some (.nbx sz g) → hv k = .pointer (some D.1) ∧ D.1.spot = none ∧ (∀ b o, In D.1 sz b o → Fe k b o) ∧
      (∀ j, j < sz → cellAt w D.1.block (D.1.off + j) = some (D.2.1 j) ∧ frozAt w D.1.block (D.1.off + j) = false ∧ (D.2.1 j).oneCell' = true) ∧
      (∀ j b o, j < sz → D.2.2 j b o → Fe k b o ∧ ¬ In D.1 sz b o) ∧ (∀ j i b o, j < sz → i < sz → j ≠ i → D.2.2 j b o → ¬ D.2.2 i b o) ∧ ∀ j, j < sz → RO w (RS w (okOf w M)) (g j) (D.2.1 j) (D.2.2 j) := by
    intro k
    by_cases hx : ∃ sz g, exts[k]? = some (.nbx sz g)
    · obtain ⟨sz, g, hx⟩ := hx
      obtain ⟨ad, e, hsp, hin, vs, hc, Fs, f1, f2, f3⟩ := hH.rel k _ hx
      refine ⟨⟨ad, vs, Fs⟩, fun sz' g' hx' => ?_⟩
      rw [hx] at hx'
      obtain ⟨rfl, rfl⟩ : sz = sz' ∧ g = g' := by simpa using hx'
      exact ⟨e, hsp, hin, hc, f1, f2, f3⟩
    · exact ⟨⟨default, fun _ => undef, fun _ _ _ => False⟩, fun sz g h => absurd ⟨sz, g, h⟩ hx⟩
  let D : Nat → Addr × (Nat → Value) × (Nat → Cells) := fun k => Classical.choose (hb k)
  have hD := fun k => Classical.choose_spec (hb k)
  let gh : Gh := ⟨fun id => match exts[id / 4096]? with | some (.own _ _ _) => hdr (hv (id / 4096)) | _ => hdr ((D (id / 4096)).2.1 (id % 4096)),
    fun id => match exts[id / 4096]? with | some (.own _ _ _) => Fe (id / 4096) | _ => (D (id / 4096)).2.2 (id % 4096), fun k => (D k).1⟩
  let c : Cx := { w0 := w, M := M, tok := ht0, lo := true, hd0 := gh.hd, ba0 := gh.ba, n0 := fun id => match initAr exts id with | some A => A.n | none => 0, s0 := fun id => match initAr exts id with | some A => A.sz | none => 0, z0 := fun b => match initBx exts b with | some B => B.1 | none => 0 }
  -- the rows
  have harr : ∀ id A, initAr exts id = some A → (∃ n sz g, exts[id / 4096]? = some (.own n sz g) ∧ id % 4096 = 0 ∧ A = ⟨n, sz, g⟩) ∨ ∃ sz g n s h, exts[id / 4096]? = some (.nbx sz g) ∧ id % 4096 < sz ∧ g (id % 4096) = .own n s h ∧ A = ⟨n, s, h⟩ := by
    intro id A e
    unfold initAr at e
    split at e
    · rename_i n sz g hx
      cases hb : Nat.beq (id % 4096) 0 with
      | false => rw [hb] at e; simp at e
      | true => rw [hb] at e; simp only [cond_true, Option.some.injEq] at e; exact .inl ⟨n, sz, g, hx, beq_eq.1 hb, e.symm⟩
    · rename_i sz g hx
      cases hb : Nat.blt (id % 4096) sz with
      | false => rw [hb] at e; simp at e
      | true =>
        rw [hb] at e
        simp only [cond_true] at e
        split at e
        · rename_i n s h hg
          simp only [Option.some.injEq] at e
          exact .inr ⟨sz, g, n, s, h, hx, Nat.le_of_ble_eq_true hb, hg, e.symm⟩
        · simp at e
    · simp at e
  have hbxs : ∀ b sz g', initBx exts b = some (sz, g') → ∃ g, exts[b]? = some (.nbx sz g) ∧ g' = fun j => (g j).refd (b * 4096 + j) := by
    intro b sz g' e
    unfold initBx at e
    split at e
    · rename_i sz0 g hx
      simp only [Option.some.injEq, Prod.mk.injEq] at e
      obtain ⟨rfl, rfl⟩ := e
      exact ⟨g, hx, rfl⟩
    · simp at e
  have hhd0 : ∀ k n sz g, exts[k]? = some (.own n sz g) → gh.hd (k * 4096) = hdr (hv k) ∧ gh.fa (k * 4096) = Fe k := fun k n sz g hx => by
    have e1 : k * 4096 / 4096 = k := by omega
    simp only [gh, e1, hx]
    exact ⟨trivial, trivial⟩
  have hownv : ∀ k n sz g, exts[k]? = some (.own n sz g) → hv k = .slice (gh.hd (k * 4096)).1 n (gh.hd (k * 4096)).2 := fun k n sz g hx => by
    obtain ⟨A, cap, e, _⟩ := hH.rel k _ hx
    rw [(hhd0 k n sz g hx).1, e]; rfl
  -- each row, with its cells
  have hrow : ∀ id A, initAr exts id = some A → RO w c.sh (.own A.n A.sz A.g) (.slice (gh.hd id).1 A.n (gh.hd id).2) (gh.fa id) := by
    intro id A e
    rcases harr id A e with ⟨n, sz, g, hx, h0, rfl⟩ | ⟨sz, g, n, s, h, hx, hj, hg, rfl⟩
    · have hr : RO w (RS w (okOf w M)) (.own n sz g) (hv (id / 4096)) (Fe (id / 4096)) := hH.rel _ _ hx
      have hid : id / 4096 * 4096 = id := by omega
      obtain ⟨q1, q2⟩ := hhd0 _ n sz g hx
      have q3 := hownv _ n sz g hx
      rw [hid] at q1 q2 q3
      rw [q2, ← q3]; exact hr
    · have hr := (hD (id / 4096) sz g hx).2.2.2.2.2.2 _ hj
      rw [hg] at hr
      have q1 : gh.hd id = hdr ((D (id / 4096)).2.1 (id % 4096)) := by simp only [gh, hx]
      have q2 : gh.fa id = (D (id / 4096)).2.2 (id % 4096) := by simp only [gh, hx]
      rw [q1, q2]
      have hr2 := hr
      obtain ⟨A, cap, e', hrest⟩ := hr2
      have q3 : Value.slice (hdr ((D (id / 4096)).2.1 (id % 4096))).1 n (hdr ((D (id / 4096)).2.1 (id % 4096))).2 = (D (id / 4096)).2.1 (id % 4096) := by
        show Value.slice (hdr ((Classical.choose (hb (id / 4096))).2.1 (id % 4096))).1 n (hdr ((Classical.choose (hb (id / 4096))).2.1 (id % 4096))).2 = (Classical.choose (hb (id / 4096))).2.1 (id % 4096)
        rw [e']; rfl
      rw [q3]; exact hr
  -- where cells lie
  have hfa : ∀ id A, initAr exts id = some A → ∀ b o, gh.fa id b o → id / 4096 < exts.length ∧ Fe (id / 4096) b o := by
    intro id A e b o hf
    rcases harr id A e with ⟨n, sz, g, hx, h0, rfl⟩ | ⟨sz, g, n, s, h, hx, hj, hg, rfl⟩
    · have q2 : gh.fa id = Fe (id / 4096) := by simp only [gh, hx]
      rw [q2] at hf; exact ⟨hlt hx, hf⟩
    · have q2 : gh.fa id = (D (id / 4096)).2.2 (id % 4096) := by simp only [gh, hx]
      rw [q2] at hf
      exact ⟨hlt hx, ((hD (id / 4096) sz g hx).2.2.2.2.1 _ b o hj hf).1⟩
  have hfb : ∀ k x y, fp gh (initBx exts) (.inr k) x y → ∃ sz g, exts[k]? = some (.nbx sz g) ∧ In (D k).1 sz x y ∧ Fe k x y := by
    rintro k x y ⟨⟨sz, g'⟩, e, hin⟩
    obtain ⟨g, hx, _⟩ := hbxs k sz g' e
    exact ⟨sz, g, hx, hin, (hD k sz g hx).2.2.1 x y hin⟩
  have hone : ∀ r x y, live (initAr exts) (initBx exts) r → fp gh (initBx exts) r x y → ∃ k, k < exts.length ∧ Fe k x y ∧ match r with | .inl id => k = id / 4096 | .inr b => k = b := by
    rintro (id | b) x y hl hf
    · obtain ⟨A, e⟩ := Option.isSome_iff_exists.1 hl
      have := hfa id A e x y hf
      exact ⟨_, this.1, this.2, rfl⟩
    · obtain ⟨sz, g, hx, _, h⟩ := hfb b x y hf
      exact ⟨b, hlt hx, h, rfl⟩
  have hTR : ∀ (x : AV) (v : Value), AR (RS w (okOf w M)) exts hv x v → TR c.sh gh (initAr exts) (initBx exts) w x v := by
    intro x
    induction x with
    | rf id =>
      rintro v ⟨k, n, sz, g, rfl, hx, rfl⟩ A e
      rcases harr _ A e with ⟨n', sz', g', hx', h0, rfl⟩ | ⟨sz', g', n', s, h, hx', hj, hg, rfl⟩
      · have e1 : k * 4096 / 4096 = k := by omega
        rw [e1, hx] at hx'
        obtain ⟨rfl, rfl, rfl⟩ : n = n' ∧ sz = sz' ∧ g = g' := by simpa using hx'
        exact hownv k n sz g hx
      · have e1 : k * 4096 / 4096 = k := by omega
        rw [e1, hx] at hx'
        simp at hx'
    | pb k o =>
      rintro v ⟨rfl, ⟨sz, g, hx⟩, rfl⟩ B e
      have q := hD k sz g hx
      rw [q.1]
      have hsp := q.2.1
      show Value.pointer (some (D k).1) = Value.pointer (some ⟨(D k).1.block, (D k).1.off + 0, none⟩)
      have hsp' : (D k).1.spot = none := hsp
      cases hd : (D k).1
      rw [hd] at hsp'
      simp at hsp'
      simp [hsp']
    | ag sz g ih => rintro v ⟨vs, e, hs, hc⟩; exact ⟨vs, e, hs, fun j hj => ⟨(hc j hj).1, ih j _ (hc j hj).2⟩⟩
    | clo f n g ih => rintro v ⟨vs, e, hs, hc⟩; exact ⟨vs, e, hs, fun j hj => ih j _ (hc j hj)⟩
    | bad => intro v _; trivial
    | rs id p m => intro v h; exact h.elim
    | rn id p => intro v h; exact h.elim
    | pe id p i j => intro v h; exact h.elim
    | own n sz g => intro v h; exact h.elim
    | nbx sz g => intro v h; exact h.elim
    | tup n g => intro v h; exact h.elim
    | _ => intro v h; exact h
  refine ⟨c, gh, rfl, rfl, rfl, ?_, rfl, ?_, ?_, ?_, ⟨fun _ _ => rfl, fun _ _ => rfl, ?_, ?_⟩⟩
  · intro i x hx
    rw [Nat.zero_add]
    cases x with
    | own n sz g =>
      have e1 : i * 4096 / 4096 = i := by omega
      have e2 : i * 4096 % 4096 = 0 := by omega
      have e3 : initAr exts (i * 4096) = some ⟨n, sz, g⟩ := by
        unfold initAr
        rw [e1, hx]
        simp [e2]
      exact ⟨hownv i n sz g hx, by simp only [c, e3], by simp only [c, e3]⟩
    | nbx sz g =>
      have := hTR (.pb i 0) (hv i) ⟨rfl, ⟨sz, g, hx⟩, rfl⟩ (sz, fun j => (g j).refd (i * 4096 + j)) (by unfold initBx; rw [hx])
      exact this
    | _ => exact (hk _ (List.mem_of_getElem? hx)).elim
  · simp; omega
  · intro t
    by_cases ht : t < args.length
    · have : (vs ++ Array.replicate (nt - vs.size) undef).getD t undef = vs.getD t undef := by
        simp [Array.getD_eq_getD_getElem?, Array.getElem?_append_left, hs, ht]
      rw [this]
      exact hTR _ _ (ha t ht)
    · have : (initSt args exts).t t = .bad := by
        show args.getD t .bad = .bad
        simp [List.getD_eq_getElem?_getD, Nat.not_lt.1 ht]
      rw [this]; trivial
  · refine ⟨hrow, ?_, ?_, ?_, Nat.le_refl _, fun _ _ _ _ => ⟨rfl, rfl⟩, fun _ _ _ => rfl, Io.refl _⟩
    · intro b sz g' e
      obtain ⟨g, hx, rfl⟩ := hbxs b sz g' e
      obtain ⟨q1, q2, q3, q4, q5, q6, q7⟩ := hD b sz g hx
      have h4096 : sz ≤ 4096 := hk _ (List.mem_of_getElem? hx)
      refine ⟨q2, fun o ho => ⟨(D b).2.1 o, (q4 o ho).1, (q4 o ho).2.1, (q4 o ho).2.2, ?_⟩⟩
      have hr := q7 o ho
      cases hn : (g o).notOwn with
      | true => exact refd_TR (c := c) hr hn
      | false =>
        cases hg : g o with
        | own n s h =>
          rw [hg] at hr
          show TR c.sh gh (initAr exts) (initBx exts) w ((g o).refd (b * 4096 + o)) _
          rw [hg]
          intro A e'
          have e1 : (b * 4096 + o) / 4096 = b := by omega
          have e2 : (b * 4096 + o) % 4096 = o := by omega
          rcases harr _ A e' with ⟨n', sz', g', hx', h0, rfl⟩ | ⟨sz', g', n', s', h', hx', hj, hg', rfl⟩
          · rw [e1, hx] at hx'; simp at hx'
          · rw [e1, hx] at hx'
            obtain ⟨rfl, rfl⟩ : sz = sz' ∧ g = g' := by simpa using hx'
            rw [e2, hg] at hg'
            obtain ⟨rfl, rfl, rfl⟩ : n = n' ∧ s = s' ∧ h = h' := by simpa using hg'
            have q8 : gh.hd (b * 4096 + o) = hdr ((D b).2.1 o) := by simp only [gh, e1, e2, hx]
            rw [q8]
            obtain ⟨A', cap, ev, _⟩ := hr
            show (Classical.choose (hb b)).2.1 o = Value.slice (hdr ((Classical.choose (hb b)).2.1 o)).1 n (hdr ((Classical.choose (hb b)).2.1 o)).2
            rw [ev]; rfl
        | _ => rw [hg] at hn; simp [AV.notOwn] at hn
    · intro r r' x y hn hl hl' hx hy
      obtain ⟨k, hk1, hF, hkr⟩ := hone r x y hl hx
      obtain ⟨k', hk1', hF', hkr'⟩ := hone r' x y hl' hy
      by_cases hkk : k = k'
      · subst hkk
        -- the same thing that was handed in
        rcases r with id | b <;> rcases r' with id' | b'
        · simp only at hkr hkr'
          obtain ⟨A, e⟩ := Option.isSome_iff_exists.1 hl
          obtain ⟨A', e'⟩ := Option.isSome_iff_exists.1 hl'
          have hne : id ≠ id' := fun e => hn (by rw [e])
          rcases harr id A e with ⟨n, sz, g, hx1, h0, _⟩ | ⟨sz, g, n, s, h, hx1, hj, hg, _⟩
          · rcases harr id' A' e' with ⟨n', sz', g', hx2, h0', _⟩ | ⟨sz', g', n', s', h', hx2, hj', hg', _⟩
            · omega
            · rw [← hkr', hkr, hx1] at hx2; simp at hx2
          · rcases harr id' A' e' with ⟨n', sz', g', hx2, h0', _⟩ | ⟨sz', g', n', s', h', hx2, hj', hg', _⟩
            · rw [← hkr', hkr, hx1] at hx2; simp at hx2
            · have hx3 := hx2
              rw [← hkr', hkr, hx1] at hx3
              obtain ⟨rfl, rfl⟩ : sz = sz' ∧ g = g' := by simpa using hx3
              have q2 : gh.fa id = (D (id / 4096)).2.2 (id % 4096) := by simp only [gh, hx1]
              have q2' : gh.fa id' = (D (id' / 4096)).2.2 (id' % 4096) := by simp only [gh, hx2]
              have hx' : gh.fa id x y := hx
              have hy' : gh.fa id' x y := hy
              rw [q2] at hx'
              rw [q2', ← hkr', hkr] at hy'
              exact (hD (id / 4096) sz g hx1).2.2.2.2.2.1 _ _ x y hj hj' (by omega) hx' hy'
        · simp only at hkr hkr'
          obtain ⟨A, e⟩ := Option.isSome_iff_exists.1 hl
          obtain ⟨sz0, g0, hx0, hin, _⟩ := hfb b' x y hy
          rcases harr id A e with ⟨n, sz, g, hx1, h0, _⟩ | ⟨sz, g, n, s, h, hx1, hj, hg, _⟩
          · rw [← hkr, hkr', hx0] at hx1; simp at hx1
          · have hx3 := hx1
            rw [← hkr, hkr', hx0] at hx3
            obtain ⟨rfl, rfl⟩ : sz0 = sz ∧ g0 = g := by simpa using hx3
            have q2 : gh.fa id = (D (id / 4096)).2.2 (id % 4096) := by simp only [gh, hx1]
            have hx' : gh.fa id x y := hx
            rw [q2, ← hkr, hkr'] at hx'
            exact ((hD b' sz0 g0 hx0).2.2.2.2.1 _ x y hj hx').2 hin
        · simp only at hkr hkr'
          obtain ⟨A, e⟩ := Option.isSome_iff_exists.1 hl'
          obtain ⟨sz0, g0, hx0, hin, _⟩ := hfb b x y hx
          rcases harr id' A e with ⟨n, sz, g, hx1, h0, _⟩ | ⟨sz, g, n, s, h, hx1, hj, hg, _⟩
          · rw [← hkr', hkr, hx0] at hx1; simp at hx1
          · have hx3 := hx1
            rw [← hkr', hkr, hx0] at hx3
            obtain ⟨rfl, rfl⟩ : sz0 = sz ∧ g0 = g := by simpa using hx3
            have q2 : gh.fa id' = (D (id' / 4096)).2.2 (id' % 4096) := by simp only [gh, hx1]
            have hy' : gh.fa id' x y := hy
            rw [q2, ← hkr', hkr] at hy'
            exact ((hD b sz0 g0 hx0).2.2.2.2.1 _ x y hj hy').2 hin
        · simp only at hkr hkr'
          exact hn (by rw [← hkr, ← hkr'])
      · exact hH.disj k k' x y hk1 hk1' hkk hF hF'
    · intro r x y hl hf
      obtain ⟨k, hk1, hF, _⟩ := hone r x y hl hf
      have := hH.mine k x y hk1 hF
      exact ⟨hM x y this, fun _ => this⟩
  · intro id A _ e
    have e' : initAr exts id = some A := e
    simp only [c, e']
    exact ⟨trivial, trivial⟩
  · intro b B _ e
    have e' : initBx exts b = some B := e
    simp only [c, e']

end Go.Fw
