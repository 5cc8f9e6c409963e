/- The by-value interpreter: an operation is what the model's is. -/
import Derived.Test.YtkhfkekbfjkpcaaFzB
set_option linter.unusedVariables false
set_option linter.unusedSectionVars false
set_option linter.unusedSimpArgs false
namespace Go.Fw
variable [Tok]

section
variable {c : Cx} {gh : Gh} {nt : Nat} {st : St} {a : Act} {w : World} {P : Program} {R : Type} {r : R}

theorem wp_of_val {o : Oper} {K : St → Option R} {Kc : Act → World → Prop} {Q : Exit → Act → World → Prop} {y : AV} {v : Value} {w' : World} {st' : St} {gh' : Gh} (hd : ∀ k, o.dst = some k → k < nt)
    (hK : ∀ st' gh' a' w', Inv c gh' nt st' a' w' → K st' = some r → Kc a' w') (e : K (st'.put o.dst y) = some r) (h : Inv c gh' nt st' a w') (hr : (execOp a.eval o).run P w = .ok (.value v) w') (ht : TR c.sh gh' st'.ar st'.bx w' y v) : o.wp P a w Kc Q :=
  wp_val hr (hK _ _ _ _ (h.put hd ht) e)

/-- Rows that were made are laid. -/
theorem wp_of_row {o : Oper} {K : St → Option R} {Kc : Act → World → Prop} {Q : Exit → Act → World → Prop} {n sz : Nat} {g : Nat → Nat → AV} {v : Value} {w' : World} {st' : St} {gh' : Gh} {F : Cells} {d : Nat} (hd : ∀ k, o.dst = some k → k < nt) (ho : o.dst = some d)
    (hK : ∀ st' gh' a' w', Inv c gh' nt st' a' w' → K st' = some r → Kc a' w') (e : K ((st'.layR (aid d 0) (.own n sz g)).put o.dst ((AV.own n sz g).refR (aid d 0))) = some r) (h : Inv c gh' nt st' a w') (hF : Free c gh' st'.ar st'.bx w' F)
    (hr : (execOp a.eval o).run P w = .ok (.value v) w') (hro : RO w' c.sh (.own n sz g) v F) : o.wp P a w Kc Q := by
  obtain ⟨gh3, h3, t3⟩ := layR_sound (base := aid d 0) (y := .own n sz g) (aid_lo c d 0) h hro rfl hF
  exact wp_of_val hd hK e h3 hr t3

theorem len_run {t : TypeId} {d : TypeDesc} {v : Value} {n : Nat} {ty : TypeId} (hu : P.underlying t = some d) (hv : (∃ s : ByteArray, d = .string ∧ v = .string s ∧ n = s.size) ∨ ∃ e A cap, d = .slice e ∧ v = .slice A n cap) :
    (Builtin.len_ #[t] ty #[v]).run P w = .ok (.int .i64 n) w := by
  rcases hv with ⟨s, rfl, rfl, rfl⟩ | ⟨e, A, cap, rfl, rfl⟩ <;> simp [Builtin.len_, run_underlying hu, goInt]

theorem iv_some {st : St} {t : TypeId} {x : Option Operand} {l : Option Int} (h : Inv c gh nt st a w) (e : (match x with
      | none => some none
      | some y => match st.get P t y with | .I _ n => some (some n) | _ => none : Option (Option Int)) = some l) : IvR (x.map a.eval) l := by
  cases x with
  | none => simp at e; subst e; trivial
  | some y =>
    simp only at e
    split at e
    · rename_i k n hg
      simp at e; subst e
      have := get_TR (P := P) h t y
      rw [hg] at this
      exact ⟨k, TR_I this⟩
    · simp at e

theorem arr_one {α : Type} {x : Array α} (h : x.size = 1) (d : α) : x = #[x.getD 0 d] := by
  apply Array.ext
  · simp [h]
  · intro i h1 h2
    simp at h2
    subst h2
    simp [Array.getD_eq_getD_getElem?, h]
theorem arr_two {α : Type} {x : Array α} (h : x.size = 2) (d : α) : x = #[x.getD 0 d, x.getD 1 d] := by
  apply Array.ext
  · simp [h]
  · intro i h1 h2
    have h3 : i = 0 ∨ i = 1 := by omega
    rcases h3 with rfl | rfl <;> simp [Array.getD_eq_getD_getElem?, h]

theorem evOp_sound {C : Cfg} {Γ : Orc} {o : Oper} {K : St → Option R} {Kc : Act → World → Prop} {Q : Exit → Act → World → Prop} (hΓ : OrcOk P C Γ) (h : Inv c gh nt st a w) (hd : ∀ k, o.dst = some k → k < nt)
    (e : evOp P C Γ o st K = some r) (hK : ∀ st' gh' a' w', Inv c gh' nt st' a' w' → K st' = some r → Kc a' w') : o.wp P a w Kc Q := by
  have get : ∀ (t : TypeId) (x : Operand), TR c.sh gh st.ar st.bx w (st.get P t x) (a.eval x) := fun t x => get_TR h t x
  cases hop : o.op with
  | move x =>
    simp only [evOp, hop] at e
    exact wp_of_val hd hK e h (by simp [execOp, hop]) (get _ x)
  | assign x =>
    simp only [evOp, hop] at e
    exact wp_of_val hd hK e h (by simp [execOp, hop]) (get _ x)
  | pick c' x y =>
    simp only [evOp, hop] at e
    split at e
    · rename_i b hb
      have h1 := get o.type c'
      rw [hb] at h1
      have h1 := TR_B h1
      exact wp_of_val hd hK e h (by simp [execOp, hop, h1, asBool]) (pickAV_TR (get _ x) (get _ y))
    · simp at e
  | alloc t =>
    simp only [evOp, hop] at e
    split at e
    · rename_i d sz g ho hz
      obtain ⟨z, hz1, hz2, hz3⟩ := zBox_spec (c := c) (gh := gh) (st := st) (w := w) hz
      obtain ⟨gh', h'⟩ := newVar_sound (t := t) (b := bid d) (bid_lo c d) h hd hz2 hz3
      refine wp_val (v := .pointer (some ⟨w.heap.size, 0, none⟩)) (w' := w.alloc (.cells z.cells t)) ?_ (hK _ _ _ _ h' e)
      simp [execOp, hop, Instr.alloc, hz1, newVar, newRow]
    · simp at e
  | box t x =>
    simp only [evOp, hop] at e
    split at e
    · rename_i d ho
      obtain ⟨hk, e⟩ := K2_some e
      obtain ⟨hs, hc⟩ := cells_TR h hk (get t x)
      obtain ⟨gh', h'⟩ := newVar_sound (t := t) (b := bid d) (bid_lo c d) h hd hs hc
      refine wp_val (v := .pointer (some ⟨w.heap.size, 0, none⟩)) (w' := w.alloc (.cells (a.eval x).cells t)) ?_ (hK _ _ _ _ h' e)
      simp [execOp, hop, Instr.box, newVar, newRow]
    · simp at e
  | load t x =>
    simp only [evOp, hop] at e
    obtain ⟨y, v, e, hr, ht⟩ := loadK_sound h e (get _ x)
    exact wp_of_val hd hK e h (by simp [execOp, hop, hr]) ht
  | store t p x =>
    simp only [evOp, hop] at e
    obtain ⟨st', gh', w', e, hr, h'⟩ := storeK_sound h e (get _ p) (get t x)
    exact wp_skip' (w' := w') (by simp [execOp, hop, hr]) (hK _ _ _ _ (h'.put hd (by trivial)) e)
  | nilCheck x =>
    simp only [evOp, hop] at e
    have h1 := get o.type x
    have hpt : ∀ ad : Addr, a.eval x = .pointer (some ad) → (execOp a.eval o).run P w = .ok (.value (a.eval x)) w := fun ad hv => by simp [execOp, hop, hv]
    split at e
    · rename_i b o' hg
      obtain ⟨hB, e⟩ := K2_some e
      obtain ⟨B, hB⟩ := Option.isSome_iff_exists.1 hB
      rw [hg] at h1
      exact wp_of_val hd hK e h (hpt _ (h1 B hB)) h1
    · rename_i id p i j hg
      obtain ⟨hs, e⟩ := K2_some e
      rw [hg] at h1
      have : ∃ ad, a.eval x = .pointer (some ad) := by
        simp only [St.sure] at hs
        cases p with
        | nil =>
          obtain ⟨A, e⟩ := Option.isSome_iff_exists.1 hs
          obtain ⟨_, _, ad, _, hv⟩ := h1 A e; exact ⟨_, hv⟩
        | cons q p =>
          simp only at hs
          split at hs
          · rename_i n sz g he
            obtain ⟨A, e, he⟩ := Option.map_eq_some_iff.1 he
            obtain ⟨_, _, ad, _, _, hv⟩ := h1 A e n sz g he; exact ⟨_, hv⟩
          · simp at hs
      obtain ⟨ad, hv⟩ := this
      exact wp_of_val hd hK e h (hpt _ hv) h1
    · rename_i sz g hg
      rw [hg] at h1
      obtain ⟨ad, hv, _⟩ := id h1
      exact wp_of_val hd hK e h (hpt _ hv) h1
    · simp at e
  | binOp op t x y yt =>
    simp only [evOp, hop] at e
    obtain ⟨z, vz, e, hr, ht⟩ := binK_sound x y e (get t x) (get yt y)
    refine wp_of_val hd hK e h ?_ (ht _ _ _)
    unfold BinRun at hr
    simp only [execOp, hop, Sem.run_bind, Sem.run_pure] at hr ⊢
    rw [hr]; rfl
  | unOp op t x =>
    simp only [evOp, hop] at e
    obtain ⟨hk, e⟩ := K2_some e
    obtain ⟨z, hz, ht⟩ := unAV_run (P := P) hk (get o.type x)
    exact wp_of_val hd hK e h (by simp [execOp, hop, hz]) ht
  | convert src dst x =>
    simp only [evOp, hop] at e
    split at e
    · rename_i k' k k2 n hs hd' hg
      have h1 := get src x
      rw [hg] at h1
      have h1 := TR_I h1
      exact wp_of_val hd hK e h (by simp [execOp, hop, h1, convert_run hs hd']) rfl
    · rename_i e0 id hs hd' hg
      split at e
      · rename_i A he hA
        obtain ⟨hk, e⟩ := K2_some e
        rw [Bool.and_eq_true, List.all_eq_true] at hk
        have hsz : A.sz = 1 := beq_eq.1 hk.1
        have h1 := get src x
        rw [hg] at h1
        have hv := h1 A hA
        have hrow := h.mem.rows id A hA
        have hrun : (Conv.bytesToString (.slice (gh.hd id).1 A.n (gh.hd id).2)).run P w = .ok (.string (byS A.n A.g)) w := by
          obtain ⟨A1, cap1, e1, h2, h3, h4⟩ := hrow
          obtain ⟨e1a, e1b⟩ : (gh.hd id).1 = A1 ∧ (gh.hd id).2 = cap1 := by simpa using e1
          cases hh : (gh.hd id).1 with
          | none =>
            have hn : A.n = 0 := by
              rcases h4 with h4 | ⟨a0, ea, _⟩
              · omega
              · rw [← e1a, hh] at ea; simp at ea
            rw [hn]
            simp [Conv.bytesToString, byS, Sem.run_pure]
          | some ad =>
            refine run_bytesToString w ad A.n _ ((List.range A.n).map fun i => asI (A.g i 0)) ?_
            have hcell : ∀ j, j < A.n → w.cell? (ad.add j) = some (.int .u8 (asI (A.g j 0))) := fun j hj => by
              rcases h4 with h4 | ⟨a0, ea, hs0, hc, Fs, _, _, h7⟩
              · omega
              · rw [← e1a, hh] at ea
                obtain rfl := Option.some.inj ea
                obtain ⟨u, hu, hr⟩ := h7 j hj 0 (by omega)
                have h8 := hk.2 j (List.mem_range.2 hj)
                rw [hsz, Nat.mul_one, Nat.add_zero] at hu
                rw [add_eq hs0]
                cases hgj : A.g j 0 with
                | I k m =>
                  rw [hgj] at h8 hr
                  cases k <;> simp [isU8] at h8
                  have hr' : u = .int .u8 m := hr
                  subst hr'
                  exact hu
                | _ => rw [hgj] at h8; simp [isU8] at h8
            have := run_loadCells (P := P) w ad A.n (fun j => .int .u8 (asI (A.g j 0))) hcell
            rw [List.map_map]
            exact this
        refine wp_of_val (v := .string (byS A.n A.g)) hd hK e h ?_ rfl
        simp only [execOp, hop, hv, Sem.run_bind, run_convert_bytes_string w src dst e0 _ _ _ hs he hd', hrun, Result.andThen_ok, Sem.run_pure]
      · simp at e
    · simp at e
  | fieldAddr t x f =>
    simp only [evOp, hop] at e
    have h1 := get o.type x
    split at e
    · rename_i off fs ft hf
      obtain ⟨hk, e⟩ := K2_some e
      have h0 : 0 < fs := Nat.le_of_ble_eq_true hk
      split at e
      · rename_i b o' hg
        obtain ⟨hB, e⟩ := K2_some e
        obtain ⟨B, hB⟩ := Option.isSome_iff_exists.1 hB
        rw [hg] at h1
        have hv := h1 B hB
        have hrun := fieldAt_run (P := P) (w := w) (ad := ⟨(gh.ba b).block, (gh.ba b).off + o', none⟩) rfl hf h0
        refine wp_of_val (v := .pointer (some ⟨(gh.ba b).block, (gh.ba b).off + o' + off, none⟩)) hd hK e h (by simp only [execOp, hop, hv, Sem.run_bind, hrun, Result.andThen_ok, Sem.run_pure]) ?_
        intro B' _
        simp only [Nat.add_assoc]
      · rename_i id p i j hg
        obtain ⟨hs, e⟩ := K2_some e
        obtain ⟨A, hA⟩ : ∃ A, st.ar id = some A := by
          split at hs
          · rename_i A hA; exact ⟨A, hA⟩
          · simp at hs
        rw [hA] at hs
        have hlt : j + off < A.szAt p := Nat.le_of_ble_eq_true hs
        rw [hg] at h1
        have hpl := h1 A hA
        have hat := szAt_own (A := A) (p := p) (j := j) (by omega)
        have hat' : p = [] ∨ ∃ n' sz' h, atP A.g p = .own n' sz' h := hat.imp (fun h => h) fun ⟨n', sz', h', e, _⟩ => ⟨n', sz', h', e⟩
        obtain ⟨ad, hv⟩ : ∃ ad, a.eval x = .pointer (some ad) := by
          cases p with
          | nil => obtain ⟨_, _, ad, _, hv⟩ := hpl; exact ⟨_, hv⟩
          | cons q r =>
            rcases hat' with hat' | ⟨n', sz', h', e'⟩
            · simp at hat'
            · obtain ⟨_, _, ad, _, _, hv⟩ := hpl n' sz' h' e'; exact ⟨_, hv⟩
        rw [hv] at hpl
        obtain ⟨_, _, _, _, _, _, _, _, hsp, hmore⟩ := place_cell p (h.mem.rows id A hA) hpl hat'
        have hrun := fieldAt_run (P := P) (w := w) hsp hf h0
        refine wp_of_val (v := .pointer (some ⟨ad.block, ad.off + off, none⟩)) hd hK e h (by simp only [execOp, hop, hv, Sem.run_bind, hrun, Result.andThen_ok, Sem.run_pure]) ?_
        intro A' hA'
        rw [hA] at hA'
        obtain rfl := Option.some.inj hA'
        exact hmore off hlt
      · rename_i sz g hg
        obtain ⟨hs, e⟩ := K2_some e
        have hle : off ≤ sz := Nat.le_of_ble_eq_true hs
        rw [hg] at h1
        obtain ⟨ad, hv, hsp, hc⟩ := h1
        have hrun := fieldAt_run (P := P) (w := w) hsp hf h0
        refine wp_of_val (v := .pointer (some ⟨ad.block, ad.off + off, none⟩)) hd hK e h (by simp only [execOp, hop, hv, Sem.run_bind, hrun, Result.andThen_ok, Sem.run_pure]) ⟨_, rfl, rfl, fun j hj => ?_⟩
        have := hc (off + j) (by omega)
        simp only [Nat.add_assoc]
        exact this
      · simp at e
    · simp at e
  | field t x f =>
    simp only [evOp, hop] at e
    have h1 := get t x
    split at e
    · rename_i off fs ft sz g hf hg
      obtain ⟨hk, e⟩ := K2_some e
      rw [Bool.and_eq_true] at hk
      have hle : off + fs ≤ sz := Nat.le_of_ble_eq_true hk.1
      obtain ⟨⟨i, hi⟩, ⟨dd, hdd⟩, hpos⟩ := tyOk_iff hk.2
      have hfs : fs = P.cellsOf ft := by
        unfold fieldOf at hf
        split at hf
        · split at hf
          · simp only [Option.some.injEq, Prod.mk.injEq] at hf
            obtain ⟨_, rfl, rfl⟩ := hf; rfl
          · simp at hf
        · simp at hf
      rw [hg] at h1
      obtain ⟨vs, hv, hs, hc⟩ := h1
      have hrun := field_run (P := P) (w := w) (cs := vs) hf (by omega) hk.2
      refine wp_of_val (v := if isAggT P ft then .agg ((List.range (P.cellsOf ft)).map fun j => vs.getD (off + j) undef).toArray else vs.getD (off + 0) undef) hd hK e h (by simp only [execOp, hop, hv, Sem.run_bind, hrun, Result.andThen_ok, Sem.run_pure]) ?_
      exact valOf_TR (f := fun j => vs.getD (off + j) undef) (fun j hj => hc (off + j) (by omega)) (fun _ => hpos)
    · simp at e
  | indexAddr t x i =>
    simp only [evOp, hop] at e
    split at e
    · rename_i k n hg
      have h1 := get o.type i
      rw [hg] at h1
      obtain ⟨y, z, e, hr, ht⟩ := indexAddrK_sound h e (get t x) (TR_I h1)
      exact wp_of_val hd hK e h (by simp [execOp, hop, hr]) ht
    · simp at e
  | slice t x lo hi mx =>
    simp only [evOp, hop] at e
    cases mx with
    | some m =>
      simp only at e
      split at e
      · rename_i l hh kn n hl' hh' hmx
        have hx := get t x
        unfold slice3K at e
        split at e
        · rename_i el id hu hxx
          rw [hxx] at hx
          split at e
          · rename_i A hA
            obtain ⟨hk, e⟩ := K2_some e
            obtain ⟨hk2, e⟩ := K2_some e
            simp only [Bool.and_eq_true, decide_eq_true_eq] at hk2
            obtain ⟨hi', hsz⟩ := szOk_iff hk
            obtain ⟨A1, cap, e1, hn, _, _⟩ := h.mem.rows id A hA
            obtain ⟨_, hcap⟩ : (gh.hd id).1 = A1 ∧ (gh.hd id).2 = cap := by simpa using e1
            have hm1 := get o.type m
            rw [hmx] at hm1
            obtain ⟨z, hr⟩ := slice3_run (P := P) (w := w) (A := (gh.hd id).1) (n := A.n) (cap := (gh.hd id).2) hu hi' (iv_some h hl') (iv_some h hh') (kn := kn) hk2.1.1.1 hk2.1.1.2 hk2.1.2 (by omega)
            exact wp_of_val (y := .bad) (v := z) hd hK e h (by simp [execOp, hop, hx A hA, TR_I hm1, hr]) trivial
          · simp at e
        · simp at e
      · simp at e
    | none =>
      simp only at e
      split at e
      · rename_i l hh hl' hh'
        obtain ⟨y, z, e, hr, ht⟩ := sliceK_sound h e (get t x) (iv_some h hl') (iv_some h hh')
        exact wp_of_val hd hK e h (by simp [execOp, hop, hr]) ht
      · simp at e
  | index t x i =>
    simp only [evOp, hop] at e
    split at e
    · rename_i s k n hu hgx hgi
      obtain ⟨hk, e⟩ := K2_some e
      obtain ⟨h0, h1⟩ := inB_iff.1 hk
      have h2 := get t x
      have h3 := get o.type i
      rw [hgx] at h2
      rw [hgi] at h3
      have hlt : n.toNat < s.size := by omega
      have hs : s[n.toNat]? = some s[n.toNat] := by simp [hlt]
      rw [hs] at e
      refine wp_of_val hd hK e h (v := .int .u8 (s[n.toNat]).toNat) ?_ rfl
      simp [execOp, hop, TR_S h2, TR_I h3, Instr.index, asIntOf, run_underlying hu, h0, hs]
    · simp at e
  | extract x k =>
    simp only [evOp, hop] at e
    split at e
    · rename_i n g hg
      obtain ⟨hk, e⟩ := K2_some e
      have hlt : k < n := Nat.le_of_ble_eq_true hk
      have h1 := get o.type x
      rw [hg] at h1
      obtain ⟨vs, hv, hs, hc⟩ := h1
      refine wp_of_val (v := vs.getD k undef) hd hK e h ?_ (hc k hlt)
      have : vs[k]? = some (vs.getD k undef) := by simp [Array.getD_eq_getD_getElem?, hs, hlt]
      simp only [execOp, hop, hv, Instr.extract, this, Sem.run_bind, Sem.run_pure, Result.andThen_ok]
    · simp at e
  | makeFunc fn first caps =>
    simp only [evOp, hop] at e
    split at e
    · rename_i f
      obtain ⟨hk, e⟩ := K2_some e
      have h0 : first = #[] := Array.eq_empty_of_size_eq_zero (beq_eq.1 hk)
      subst h0
      refine wp_of_val hd hK e h (v := .func (.func f) #[] (caps.map a.eval)) (by simp [execOp, hop, Instr.makeFunc]) ⟨_, rfl, by simp, fun j hj => ?_⟩
      have : (caps.map a.eval).getD j undef = a.eval (caps.getD j (.const undef)) := by simp [Array.getD_eq_getD_getElem?, hj]
      rw [this]
      exact get _ _
    · simp at e
  | build t parts =>
    simp only [evOp, hop] at e
    split at e
    · rename_i sz g0 hz
      split at e
      · rename_i fs hu
        split at e
        · rename_i g hg
          obtain ⟨hk, e⟩ := K2_some e
          obtain ⟨cells, hr, ht⟩ := build_sound h hz hu hg hk
          exact wp_of_val hd hK e h (by simp [execOp, hop, hr]) ht
        · simp at e
      · simp at e
    · simp at e
  | buildSlice t len parts =>
    simp only [evOp, hop] at e
    split at e
    · rename_i d el ho hu
      obtain ⟨hk, e⟩ := K2_some e
      split at e
      · rename_i l s hl
        obtain ⟨gh', W, F, v, hr, h', hF, hro⟩ := buildSlice_sound h hu hk hl
        exact wp_of_row hd ho hK e h' hF (by simp [execOp, hop, hr]) hro
      · simp at e
    · simp at e
  | makeSlice t l cp =>
    simp only [evOp, hop] at e
    split at e
    · rename_i d el kn n km m ho hu hgl hgc
      obtain ⟨hk, e⟩ := K2_some e
      have h1 := get o.type l
      have h2 := get o.type cp
      rw [hgl] at h1
      rw [hgc] at h2
      obtain ⟨W, F, v, hr, h', hF, hro⟩ := makeSlice_sound (k := kn) (k' := km) h hu hk
      exact wp_of_row hd ho hK e h' hF (by simp [execOp, hop, TR_I h1, TR_I h2, hr]) hro
    · simp at e
  | call cl =>
    simp only [evOp, hop] at e
    unfold opCall at e
    simp only at e
    have args : ∀ i, i < cl.args.size → TR c.sh gh st.ar st.bx w (st.get P (cl.argTypes.getD i 0) (cl.args.getD i (.const undef))) ((cl.args.map a.eval).getD i undef) := fun i hi => by
      have : (cl.args.map a.eval).getD i undef = a.eval (cl.args.getD i (.const undef)) := by simp [Array.getD_eq_getD_getElem?, hi]
      rw [this]; exact get _ _
    split at e
    · rename_i hcal
      obtain ⟨hk, e⟩ := K2_some e
      rw [Bool.and_eq_true] at hk
      have ha := arr_one (beq_eq.1 hk.1) (.const undef)
      have ht := arr_one (beq_eq.1 hk.2) 0
      have h1 := get (cl.argTypes.getD 0 0) (cl.args.getD 0 (.const undef))
      have hex : ∀ v : Value, (Builtin.len_ #[cl.argTypes.getD 0 0] o.type #[a.eval (cl.args.getD 0 (.const undef))]).run P w = .ok v w → (execOp a.eval o).run P w = .ok (.value v) w := fun v hr => by
        have e1 : cl.args.map a.eval = #[a.eval (cl.args.getD 0 (.const undef))] := by conv => lhs; rw [ha]
                                                                                       simp
        simp only [execOp, hop, resolve, hcal, Sem.run_bind, Sem.run_pure, Result.andThen_ok, invoke, builtin, e1]
        rw [ht]
        simp only [Sem.run_bind, hr, Result.andThen_ok, Sem.run_pure]
      split at e
      · rename_i hu
        split at e
        · rename_i s hg
          rw [hg] at h1
          have h1 := TR_S h1
          exact wp_of_val hd hK e h (hex _ (len_run hu (.inl ⟨s, rfl, h1, rfl⟩))) rfl
        · simp at e
      · rename_i el hu
        split at e
        · rename_i A hA
          obtain ⟨ad, cap, hv⟩ := rowsOf_len h hA h1
          exact wp_of_val hd hK e h (hex _ (len_run hu (.inr ⟨el, ad, cap, rfl, hv⟩))) rfl
        · simp at e
      · simp at e
    · rename_i hcal
      split at e
      · rename_i d ho
        obtain ⟨hk, e⟩ := K2_some e
        rw [Bool.and_eq_true] at hk
        have ha := arr_two (beq_eq.1 hk.1) (.const undef)
        have ht := arr_two (beq_eq.1 hk.2) 0
        have e1 : cl.args.map a.eval = #[a.eval (cl.args.getD 0 (.const undef)), a.eval (cl.args.getD 1 (.const undef))] := by conv => lhs; rw [ha]
                                                                                                                               simp
        have hex : ∀ (v : Value) (w' : World), (Builtin.append_ #[cl.argTypes.getD 0 0, cl.argTypes.getD 1 0] o.type #[a.eval (cl.args.getD 0 (.const undef)), a.eval (cl.args.getD 1 (.const undef))]).run P w = .ok v w' → (execOp a.eval o).run P w = .ok (.value v) w' := fun v w' hr => by
          simp only [execOp, hop, resolve, hcal, Sem.run_bind, Sem.run_pure, Result.andThen_ok, invoke, builtin, e1]
          rw [ht]
          simp only [Sem.run_bind, hr, Result.andThen_ok, Sem.run_pure]
        have old : appendK P st (cl.argTypes.getD 0 0) (cl.argTypes.getD 1 0) (st.get P (cl.argTypes.getD 0 0) (cl.args.getD 0 (.const undef))) (st.get P (cl.argTypes.getD 1 0) (cl.args.getD 1 (.const undef))) (fun x st' => K ((st'.layR (aid d 0) x).put o.dst (x.refR (aid d 0)))) = some r → o.wp P a w Kc Q := fun e => by
          obtain ⟨n, sz, g, st', gh', W, F, val, e, hr, h', hF, hro⟩ := appendK_sound (ty := o.type) h e (get _ _) (get _ _)
          exact wp_of_row hd ho hK e h' hF (hex _ _ hr) hro
        split at e
        · rename_i id p m A B hin
          cases hc : decide (p + m + B.n ≤ A.n) with
          | false => rw [hc] at e; exact old e
          | true =>
            rw [hc] at e
            have hc := of_decide_eq_true hc
            unfold appIn at hin
            split at hin
            · rename_i el el' id' p' m' hu hu' hxx
              cases hsc : scalT P el with
              | false => rw [hsc] at hin; simp at hin
              | true =>
                rw [hsc] at hin
                simp only [cond_true] at hin
                split at hin
                · rename_i A' B' hA hB
                  cases hz : szOk P el A'.sz && Nat.beq A'.sz B'.sz with
                  | false => rw [hz] at hin; simp at hin
                  | true =>
                    rw [hz] at hin
                    simp only [cond_true, Option.some.injEq, Prod.mk.injEq] at hin
                    obtain ⟨rfl, rfl, rfl, rfl, rfl⟩ := hin
                    rw [Bool.and_eq_true] at hz
                    obtain ⟨⟨i, hi⟩, hsz⟩ := szOk_iff hz.1
                    have h1 := get (cl.argTypes.getD 0 0) (cl.args.getD 0 (.const undef))
                    rw [hxx] at h1
                    obtain ⟨W, val, hr, hv, hkey⟩ := appIn_sound (ty := o.type) h hA hu hu' ⟨i, hi, (cellsOf_eq hi).symm⟩ hsz hB (beq_eq.1 hz.2) hc h1 (get _ _)
                    obtain ⟨gh', hI⟩ := hkey (h.put hd hv) (by rw [ho]; rfl)
                    exact wp_val (hex _ _ hr) (hK _ _ _ _ hI e)
                · simp at hin
            · simp at hin
        · exact old e
      · simp at e
    · rename_i hcal
      obtain ⟨hk, e⟩ := K2_some e
      rw [Bool.and_eq_true] at hk
      have ha := arr_one (beq_eq.1 hk.1) (.const undef)
      have ht := arr_one (beq_eq.1 hk.2) 0
      have hex : ∀ (v : Value) (w' : World), (Builtin.clear_ #[cl.argTypes.getD 0 0] o.type #[a.eval (cl.args.getD 0 (.const undef))]).run P w = .ok v w' → (execOp a.eval o).run P w = .ok (.value v) w' := fun v w' hr => by
        have e1 : cl.args.map a.eval = #[a.eval (cl.args.getD 0 (.const undef))] := by conv => lhs; rw [ha]
                                                                                       simp
        simp only [execOp, hop, resolve, hcal, Sem.run_bind, Sem.run_pure, Result.andThen_ok, invoke, builtin, e1]
        rw [ht]
        simp only [Sem.run_bind, hr, Result.andThen_ok, Sem.run_pure]
      split at e
      · rename_i id p m A el hin
        unfold clrIn at hin
        split at hin
        · rename_i el' id' p' m' hu hxx
          split at hin
          · rename_i A' hA
            cases hz : szOk P el' A'.sz && zOk P el' with
            | false => rw [hz] at hin; simp at hin
            | true =>
              rw [hz] at hin
              simp only [cond_true, Option.some.injEq, Prod.mk.injEq] at hin
              obtain ⟨rfl, rfl, rfl, rfl, rfl⟩ := hin
              rw [Bool.and_eq_true] at hz
              obtain ⟨_, hsz⟩ := szOk_iff hz.1
              have h1 := get (cl.argTypes.getD 0 0) (cl.args.getD 0 (.const undef))
              rw [hxx] at h1
              have har : (st.put o.dst .bad).ar = st.ar := by cases o.dst <;> rfl
              have hbx : (st.put o.dst .bad).bx = st.bx := by cases o.dst <;> rfl
              obtain ⟨gh', W, hr, hI⟩ := clear_sound (ty := o.type) (h.put (x := .bad) (v := .tuple #[]) hd trivial) (by rw [har]; exact hA) hu hz.2 hsz (by rw [har, hbx]; exact h1)
              exact wp_val (hex _ _ hr) (hK _ _ _ _ hI e)
          · simp at hin
        · simp at hin
      · simp at e
    · rename_i v hcal
      split at e
      · rename_i f n g hg
        have h1 := get 0 v
        rw [hg] at h1
        obtain ⟨cs, hv, hcs, hcc⟩ := h1
        have hmn : (cl.args.map a.eval).size = cl.args.size := by simp
        obtain ⟨⟨fn, hfn, hbody, hname⟩, hcalls⟩ := callK_sound (vs := cl.args.map a.eval ++ cs) hΓ h e (by simp [hcs]) (fun j hj => by
          simp only [List.length_append, List.length_map, List.length_range] at hj
          by_cases hja : j < cl.args.size
          · have e1 : (cl.args.map a.eval ++ cs).getD j undef = (cl.args.map a.eval).getD j undef := by
              simp [Array.getD_eq_getD_getElem?, Array.getElem?_append_left, hja]
            have e2 : ((List.range cl.args.size).map (fun i => st.get P (cl.argTypes.getD i 0) (cl.args.getD i (.const undef))) ++ (List.range n).map g).getD j .bad = st.get P (cl.argTypes.getD j 0) (cl.args.getD j (.const undef)) := by
              rw [List.getD_eq_getElem?_getD, List.getElem?_append_left (by simpa using hja)]
              simp [hja]
            rw [e1, e2]; exact args j hja
          · have hjn : j - cl.args.size < n := by omega
            have e1 : (cl.args.map a.eval ++ cs).getD j undef = cs.getD (j - cl.args.size) undef := by
              simp only [Array.getD_eq_getD_getElem?]
              rw [Array.getElem?_append_right (by simp; omega)]
              simp
            have e2 : ((List.range cl.args.size).map (fun i => st.get P (cl.argTypes.getD i 0) (cl.args.getD i (.const undef))) ++ (List.range n).map g).getD j .bad = g (j - cl.args.size) := by
              rw [List.getD_eq_getElem?_getD, List.getElem?_append_right (by simp; omega)]
              simp [hjn]
            rw [e1, e2]; exact hcc _ hjn)
        unfold Oper.wp
        have hex : (execOp a.eval o).run P w = .ok (.enter f (cl.args.map a.eval ++ cs)) w := by
          have hnb : fn.body.isNone = false := by
            cases hb : fn.body with
            | none => rw [hb] at hbody; simp at hbody
            | some _ => rfl
          have hname' : ¬ fn.name = "runtime.NumGoroutine" := by simpa using hname
          have hbody' : ¬ fn.body = none := fun hb => by rw [hb] at hbody; simp at hbody
          simp [execOp, hop, resolve, hcal, hv, Deferred.ofValue, invoke, callFunc, hfn, hname', hbody']
        rw [hex, Oper.upon_enter]
        refine hcalls.mono fun en w' ⟨v, hv, y, st', gh', e', h', t'⟩ => ?_
        subst hv
        exact hK _ _ _ _ (h'.put hd t') e'
      · simp at e
    · simp at e
  | _ => simp [evOp, hop] at e

end
end Go.Fw
