/- The by-value interpreter: append. The by-value interpreter: contracts of calls; what is lent. The by-value interpreter: what is handed in with a call. The by-value interpreter: what comes back from a call. The by-value interpreter: what comes back from a call: all of it. The by-value interpreter: a call. The by-value interpreter: a row's elements set, all at once. The by-value interpreter: elements that are cleared; what is appended within a row. The by-value interpreter: an operation is what the model's is. -/
import Derived.Test.YtndmnbgcneaggaaGreatDoorFwU
set_option linter.unusedVariables false
set_option linter.unusedSectionVars false
set_option linter.unusedSimpArgs false
namespace Go.Fw
variable [Tok]
section
variable {c : Cx} {gh : Gh} {nt : Nat} {st : St} {a : Act} {w : World} {P : Program} {R : Type} {r : R}
theorem RO_ext {sh : AV → Value → Prop} {n sz : Nat} {g g' : Nat → Nat → AV} {v : Value} {F : Cells} (h : RO w sh (.own n sz g) v F) (hg : ∀ i, i < n → ∀ j, j < sz → g' i j = g i j) : RO w sh (.own n sz g') v F := by
 obtain ⟨A, cap, rfl, h1, h2, h3⟩ := h
 refine ⟨A, cap, rfl, h1, h2, h3.imp (fun h => h) fun ⟨ad, e, hs, hc, Fs, f1, f2, f3⟩ => ⟨ad, e, hs, hc, Fs, f1, f2, fun i hi j hj => ?_⟩⟩
 rw [hg i hi j hj]; exact f3 i hi j hj
theorem drew_alloc_ext (w : World) (o : Obj) : Ext w (w.drew.alloc o) := alloc_ext w.drew o
theorem catA_left {A B : Arr} {i j : Nat} (h : i < A.n) : (catA A B).g i j = A.g i j := by simp [catA, h, mrg_true]
theorem catA_right {A B : Arr} {i j : Nat} (h : A.n ≤ i) : (catA A B).g i j = B.g (i - A.n) j := by simp [catA, Nat.not_lt.2 h, mrg_false]
theorem appendK_sound {t tx ty : TypeId} {x y : AV} {u v : Value} {K : AV → St → Option R} (h : Inv c gh nt st a w) (e : appendK P st t tx x y K = some r) (hx : TR c.sh gh st.ar st.bx w x u) (hy : TR c.sh gh st.ar st.bx w y v) :
  ∃ n sz g st' gh' W F val, K (.own n sz g) st' = some r ∧ (Builtin.append_ #[t, tx] ty #[u, v]).run P w = .ok val W ∧ Inv c gh' nt st' a W ∧ Free c gh' st'.ar st'.bx W F ∧ RO W c.sh (.own n sz g) val F := by
 unfold appendK at e
 split at e
 · rename_i el hu
   split at e
   · rename_i B st1 hgv
     obtain ⟨hB0, gh1, FB, Fs, hI1, hF1, hH1, ⟨news, hS, hnl, hnr, hno⟩, s1, s2⟩ := srcK_sound h hgv hy
     split at e
     · rename_i n sz g st2 htk
       obtain ⟨hk, e⟩ := K2_some e
       simp only [Bool.and_eq_true, decide_eq_true_eq] at hk
       obtain ⟨⟨⟨⟨hk1, hk2⟩, hk3⟩, hk4⟩, hk5⟩ := hk
       have hszB : sz = B.sz := beq_eq.1 hk2
       have hszE : sz = P.cellsOf el := beq_eq.1 hk3
       obtain ⟨i, z, hi, hz, hzs, his, hzf⟩ := zOk_spec hk5
       have hby : i.bytes ≤ 4096 := by
        have := Nat.le_of_ble_eq_true hk4
        simpa [hi] using this
       have hlim : n + B.n ≤ 4294967296 := hk1
       obtain ⟨gh2, F0, hT⟩ := takeC_sound hI1 hF1 (hH1 _ _ hx) htk
       obtain ⟨A, cap, rfl, h1, h2, h3⟩ := hT.own
       have hS' : Src P i.size tx v B.n news w := by rw [his, ← hszE, hszB]; exact hS
       have hown : RO w c.sh (.own n sz g) (.slice A n cap) F0 := ⟨A, cap, rfl, h1, h2, h3⟩
       refine ⟨(catA ⟨n, sz, g⟩ B).n, (catA ⟨n, sz, g⟩ B).sz, (catA ⟨n, sz, g⟩ B).g, st2, gh2, ?_⟩
       by_cases hB : B.n = 0
       ·
        rw [hB] at hS'
        have hnil : news = [] := by
         have : news.length = 0 := by rw [hnl, hB]; simp
         exact List.length_eq_zero_iff.1 this
        subst hnil
        have hrun := run_append_nothing (P := P) w t tx ty el i hu hi A n cap h1 v hS'
        refine ⟨w, F0, _, e, hrun, hT.inv, hT.free.mono fun x y hx => .inr hx, ?_⟩
        have hn' : (catA ⟨n, sz, g⟩ B).n = n := by simp [catA, hB]
        rw [hn']
        exact RO_ext hown fun i hi j hj => catA_left hi
       · by_cases hroom : n + B.n ≤ cap
         ·
          rcases h3 with h3 | ⟨ad, rfl, hs, hc, F1, f1, f2, f3⟩
          · omega
          · have had : ad = ⟨ad.block, ad.off, none⟩ := by cases ad; simp at hs; subst hs; rfl
            have hnl' : news.length = B.n * sz := by rw [hnl, hszB]
            have hin : ∀ k, k < B.n * sz → n * sz + k < cap * sz := fun k hk => by
             have : (n + B.n) * sz ≤ cap * sz := Nat.mul_le_mul_right _ hroom
             rw [Nat.add_mul] at this; omega
            have hrun := run_append_room_src (P := P) w t tx ty el i hu hi ad.block ad.off n cap v B.n news hS' hroom (fun j hj => by
              obtain ⟨u, hu, _⟩ := (hc (n * sz + j) (hin j (by omega))).2.1
              rw [his, ← hszE]
              simp only [Nat.add_assoc]
              exact Option.isSome_iff_exists.2 ⟨u, hu⟩) (fun j hj => by
              rw [his, ← hszE]
              simp only [Nat.add_assoc]
              exact (hc (n * sz + j) (hin j (by omega))).2.2)
            rw [← had] at hrun
            rw [his, ← hszE] at hrun
            obtain ⟨c1, c2, c3⟩ := setCells_spec ad.block news (ad.off + n * sz) w (fun j hj => by
             obtain ⟨u, hu, _⟩ := (hc (n * sz + j) (hin j (by omega))).2.1
             exact ⟨u, by rw [Nat.add_assoc]; exact hu⟩)
            have hDF : ∀ b o, (b = ad.block ∧ ad.off + n * sz ≤ o ∧ o < ad.off + n * sz + news.length) → F0 b o := by
             rintro b o ⟨rfl, h5, h6⟩
             have := (hc (o - ad.off) (by have := hin (o - ad.off - n * sz) (by omega); omega)).1
             rw [show ad.off + (o - ad.off) = o by omega] at this
             exact this
            obtain ⟨hI', hF'⟩ := hT.inv.chgFree c2 (FL := fun b o => FB b o ∨ F0 b o) (fun b o hd => .inr (hDF b o hd)) hT.free
            refine ⟨_, fun b o => FB b o ∨ F0 b o, _, e, hrun, hI', hF', ?_⟩
            have hblk : ad.block < w.heap.size := (hT.free _ _ (.inr (hc 0 (by have := hin 0 (Nat.mul_pos (Nat.pos_of_ne_zero hB) h2); omega)).1)).2.1
            show RO _ c.sh (.own (n + B.n) sz (catA ⟨n, sz, g⟩ B).g) _ _
            refine ⟨some ad, cap, rfl, hroom, h2, .inr ⟨ad, rfl, hs, fun k hk => ?_, fun i j => if i < n then F1 i j else Fs (i - n) j, fun i j b o hi hj hb => ?_, fun i j i' j' b o hi hj hi' hj' hne hb hb' => ?_, fun i hi j hj => ?_⟩⟩
            · obtain ⟨q1, ⟨u, q2, q3⟩, q4⟩ := hc k hk
              refine ⟨.inr q1, ?_, by rw [c3]; exact q4⟩
              by_cases hr : n * sz ≤ k ∧ k < n * sz + news.length
              · have hlt : k - n * sz < news.length := by omega
                have := c1 (k - n * sz) (news.getD (k - n * sz) undef) (by simp [List.getD_eq_getElem?_getD, hlt])
                rw [show ad.off + n * sz + (k - n * sz) = ad.off + k by omega] at this
                exact ⟨_, this, hno _ hlt⟩
              · have := (c2.cell ad.block (ad.off + k) hblk (by rintro ⟨_, _, _⟩; omega)).1
                exact ⟨u, this.trans q2, q3⟩
            · simp only at hb
              by_cases hin' : i < n
              · rw [if_pos hin'] at hb
                exact ⟨.inr (f1 i j b o hin' hj hb).1, (f1 i j b o hin' hj hb).2⟩
              · rw [if_neg hin'] at hb
                have hi2 : i - n < B.n := by have : i < n + B.n := hi; omega
                have hfb := s1 (i - n) j b o hi2 (by rw [← hszB]; exact hj) hb
                refine ⟨.inl hfb, fun hin2 => ?_⟩
                have := (hc (o - ad.off) (by have h5 := hin2.2.1; have h6 := hin2.2.2; omega)).1
                rw [show ad.off + (o - ad.off) = o by have h5 := hin2.2.1; omega, ← hin2.1] at this
                exact hT.apart b o this hfb
            · simp only at hb hb'
              by_cases hi1 : i < n
              · rw [if_pos hi1] at hb
                by_cases hi2 : i' < n
                · rw [if_pos hi2] at hb'
                  exact f2 i j i' j' b o hi1 hj hi2 hj' hne hb hb'
                · rw [if_neg hi2] at hb'
                  have hi3 : i' - n < B.n := by have : i' < n + B.n := hi'; omega
                  exact hT.apart b o (f1 i j b o hi1 hj hb).1 (s1 (i' - n) j' b o hi3 (by rw [← hszB]; exact hj') hb')
              · rw [if_neg hi1] at hb
                have hi4 : i - n < B.n := by have : i < n + B.n := hi; omega
                by_cases hi2 : i' < n
                · rw [if_pos hi2] at hb'
                  exact hT.apart b o (f1 i' j' b o hi2 hj' hb').1 (s1 (i - n) j b o hi4 (by rw [← hszB]; exact hj) hb)
                · rw [if_neg hi2] at hb'
                  have hi3 : i' - n < B.n := by have : i' < n + B.n := hi'; omega
                  exact s2 (i - n) j (i' - n) j' b o hi4 (by rw [← hszB]; exact hj) hi3 (by rw [← hszB]; exact hj') (fun e => hne ⟨by omega, e.2⟩) hb hb'
            · simp only
              by_cases hi1 : i < n
              · obtain ⟨u, hu, hr⟩ := f3 i hi1 j hj
                have hlt := cell_lt hi1 hj (Nat.le_refl n)
                refine ⟨u, ?_, ?_⟩
                · have := (c2.cell ad.block (ad.off + (i * sz + j)) hblk (by rintro ⟨_, _, _⟩; omega)).1
                  exact this.trans hu
                · have e1 : (catA ⟨n, sz, g⟩ B).g i j = g i j := catA_left (A := ⟨n, sz, g⟩) hi1
                  rw [e1, if_pos hi1]
                  refine RO_congr _ (fun b o hb => c2.cell b o (hT.free _ _ (.inr (f1 i j b o hi1 hj hb).1)).2.1 ?_) hr
                  rintro ⟨rfl, h5, h6⟩
                  exact (f1 i j _ _ hi1 hj hb).2 ⟨rfl, by omega, by have := hin (o - ad.off - n * sz) (by omega); omega⟩
              · have hi2 : i - n < B.n := by have : i < n + B.n := hi; omega
                have hjB : j < B.sz := by rw [← hszB]; exact hj
                have hr := hnr (i - n) hi2 j hjB
                have hlt : (i - n) * sz + j < news.length := by rw [hnl']; exact cell_lt hi2 hj (Nat.le_refl _)
                have := c1 ((i - n) * sz + j) (news.getD ((i - n) * sz + j) undef) (by simp [List.getD_eq_getElem?_getD, hlt])
                refine ⟨_, by rw [← this]; congr 1; have h7 : i * sz = n * sz + (i - n) * sz := by rw [← Nat.add_mul]; congr 1; omega
                              omega, ?_⟩
                have e1 : (catA ⟨n, sz, g⟩ B).g i j = B.g (i - n) j := catA_right (A := ⟨n, sz, g⟩) (by show n ≤ i; omega)
                rw [e1, if_neg hi1]
                rw [← hszB] at hr
                refine RO_congr _ (fun b o hb => c2.cell b o (hT.free _ _ (.inl (s1 _ _ b o hi2 hjB hb))).2.1 fun hd => ?_) hr
                exact hT.apart b o (hDF b o hd) (s1 _ _ b o hi2 hjB hb)
         ·
          obtain ⟨olds, holds, hol, holdr, holo⟩ : ∃ olds : List Value, (Builtin.firstCells i.size n (.slice A n cap)).run P w.drew = .ok olds.toArray w.drew ∧ olds.length = n * sz ∧
            (∃ F1 : Nat → Nat → Cells, (∀ i j b o, i < n → j < sz → F1 i j b o → F0 b o) ∧ (∀ i j i' j' b o, i < n → j < sz → i' < n → j' < sz → ¬ (i = i' ∧ j = j') → F1 i j b o → ¬ F1 i' j' b o) ∧
             ∀ i, i < n → ∀ j, j < sz → RO w c.sh (g i j) (olds.getD (i * sz + j) undef) (F1 i j)) ∧ ∀ k, k < olds.length → (olds.getD k undef).oneCell' = true := by
           obtain ⟨_, F1, hs1, hs2, hs3⟩ := SrcR.ofRO hown
           obtain ⟨olds, hS2, hl2, hr2, ho2⟩ := hs1.src (P := P) hu (by exact h2)
           exact ⟨olds, by rw [his, ← hszE]; exact hS2.cellsD, hl2, ⟨F1, hs2, hs3, hr2⟩, ho2⟩
          obtain ⟨F1, f1, f2, f3⟩ := holdr
          have hfit := growslice_fits (need := n + B.n) (old := cap) (bytes := i.bytes) (by omega) (by
           have : (n + B.n) * i.bytes ≤ 4294967296 * 4096 := Nat.mul_le_mul hlim hby
           omega)
          have hrun := run_append_grow_src (P := P) w t tx ty el i z hu hi hz A n cap olds holds v B.n news hS' (by omega) (by omega) hfit
          have hge := grownCap_ge w (n + B.n) cap el
          generalize hN : grownCap w (n + B.n) cap el = N at hrun hge
          have hnl' : news.length = B.n * sz := by rw [hnl, hszB]
          have hzc : Builtin.zeroCells z.cells (N - (n + B.n)) = madeCells z.cells ((N - (n + B.n)) * sz) := by
           unfold Builtin.zeroCells madeCells; rw [hzs, ← hszE]
          let cells : Array Value := (olds ++ news).toArray ++ Builtin.zeroCells z.cells (N - (n + B.n))
          have hon : (olds ++ news).length = (n + B.n) * sz := by rw [List.length_append, hol, hnl', Nat.add_mul]
          have hsum : (n + B.n) * sz = n * sz + B.n * sz := Nat.add_mul ..
          have hNs : (n + B.n) * sz + (N - (n + B.n)) * sz = N * sz := by rw [← Nat.add_mul]; congr 1; omega
          have hlow : ∀ k, k < (n + B.n) * sz → cells[k]? = some ((olds ++ news).getD k undef) := fun k hk => by
           have hk' : k < (olds ++ news).length := by omega
           simp only [cells]
           rw [Array.getElem?_append_left (by simpa using hk')]
           simp only [List.getElem?_toArray, List.getD_eq_getElem?_getD, List.getElem?_eq_getElem hk', Option.getD_some]
          have hhigh : ∀ k, (n + B.n) * sz ≤ k → k < N * sz → cells[k]? = some (z.cells.getD ((k - (n + B.n) * sz) % sz) undef) := fun k hk hk' => by
           simp only [cells]
           rw [Array.getElem?_append_right (by simp only [List.size_toArray]; omega), hzc]
           simp only [List.size_toArray, hon]
           have hlt : k - (n + B.n) * sz < (N - (n + B.n)) * sz := by omega
           obtain ⟨d1, d2, d3⟩ := div_lt h2 hlt
           have := zero_cell (i := (k - (n + B.n) * sz) / sz) (hzs.trans hszE.symm) d2
           rw [d3] at this
           simp only [madeCells, Array.getElem?_map, Array.getElem?_range, hlt]
           simpa using this
          have hone : ∀ k, k < (n + B.n) * sz → ((olds ++ news).getD k undef).oneCell' = true := fun k hk => by
           by_cases hk' : k < olds.length
           · have := holo k hk'
             simpa [List.getD_eq_getElem?_getD, List.getElem?_append_left hk'] using this
           · have hk2 : k - olds.length < news.length := by omega
             have := hno _ hk2
             simpa [List.getD_eq_getElem?_getD, List.getElem?_append_right (Nat.not_lt.1 hk')] using this
          obtain ⟨q1, q2, q3⟩ := freshRow (W := w.drew.alloc (.cells cells el)) (bl := w.heap.size) (cap := N) (n := n + B.n) (sz := sz) (g := (catA ⟨n, sz, g⟩ B).g) (Fs := fun i j => if i < n then F1 i j else Fs (i - n) j) (FB := fun b o => FB b o ∨ F0 b o) hT.inv (drew_alloc_ext w _) (Nat.le_refl _)
           (by rw [alloc_heap]; show w.heap.size < (w.heap.push _).size; simp) hge h2
           (fun k hk => by
            refine ⟨?_, alloc_froz w.drew cells el k⟩
            have hcell : cellAt (w.drew.alloc (.cells cells el)) w.heap.size k = cells[k]? := alloc_cell w.drew cells el k
            rw [hcell]
            by_cases hlt : k < (n + B.n) * sz
            · exact ⟨_, hlow k hlt, hone k hlt⟩
            · exact ⟨_, hhigh k (by omega) hk, (zFits_RO (w := w) (c := c) (hzf _ (by rw [← hszE]; exact Nat.mod_lt _ h2))).1⟩)
           (fun i hi j hj => by
            have hcell : cellAt (w.drew.alloc (.cells cells el)) w.heap.size (i * sz + j) = cells[i * sz + j]? := alloc_cell w.drew cells el _
            rw [hcell]
            refine ⟨_, hlow _ (cell_lt hi hj (Nat.le_refl _)), ?_⟩
            by_cases hi1 : i < n
            · have e1 : (catA ⟨n, sz, g⟩ B).g i j = g i j := catA_left (A := ⟨n, sz, g⟩) hi1
              rw [e1, if_pos hi1]
              have hk' : i * sz + j < olds.length := by rw [hol]; exact cell_lt hi1 hj (Nat.le_refl _)
              have := f3 i hi1 j hj
              simpa [List.getD_eq_getElem?_getD, List.getElem?_append_left hk'] using this
            · have hi2 : i - n < B.n := by omega
              have e1 : (catA ⟨n, sz, g⟩ B).g i j = B.g (i - n) j := catA_right (A := ⟨n, sz, g⟩) (by show n ≤ i; omega)
              rw [e1, if_neg hi1]
              have h7 : i * sz = n * sz + (i - n) * sz := by rw [← Nat.add_mul]; congr 1; omega
              have hk' : olds.length ≤ i * sz + j := by omega
              have := hnr (i - n) hi2 j (by rw [← hszB]; exact hj)
              rw [← hszB] at this
              rw [List.getD_eq_getElem?_getD, List.getElem?_append_right hk', show i * sz + j - olds.length = (i - n) * sz + j by omega, ← List.getD_eq_getElem?_getD]
              exact this)
           (fun i j b o hi hj hb => by
            by_cases hi1 : i < n
            · rw [if_pos hi1] at hb; exact .inr (f1 i j b o hi1 hj hb)
            · rw [if_neg hi1] at hb; exact .inl (s1 (i - n) j b o (by omega) (by rw [← hszB]; exact hj) hb))
           (fun i j i' j' b o hi hj hi' hj' hne hb hb' => by
            by_cases hi1 : i < n
            · rw [if_pos hi1] at hb
              by_cases hi2 : i' < n
              · rw [if_pos hi2] at hb'
                exact f2 i j i' j' b o hi1 hj hi2 hj' hne hb hb'
              · rw [if_neg hi2] at hb'
                exact hT.apart b o (f1 i j b o hi1 hj hb) (s1 (i' - n) j' b o (by omega) (by rw [← hszB]; exact hj') hb')
            · rw [if_neg hi1] at hb
              by_cases hi2 : i' < n
              · rw [if_pos hi2] at hb'
                exact hT.apart b o (f1 i' j' b o hi2 hj' hb') (s1 (i - n) j b o (by omega) (by rw [← hszB]; exact hj) hb)
              · rw [if_neg hi2] at hb'
                exact s2 (i - n) j (i' - n) j' b o (by omega) (by rw [← hszB]; exact hj) (by omega) (by rw [← hszB]; exact hj') (fun e => hne ⟨by omega, e.2⟩) hb hb')
           hT.free
          exact ⟨_, _, _, e, hrun, q1, q2, q3⟩
     · simp at e
   · simp at e
 · simp at e
end
end Go.Fw
namespace Go.Fw
variable [Tok]
def AR (sh : AV → Value → Prop) (exts : List AV) (hv : Nat → Value) : AV → Value → Prop
 | .bad, _ => True
 | .rf id, v => ∃ k n sz g, id = k * 4096 ∧ exts[k]? = some (.own n sz g) ∧ v = hv k
 | .pb k o, v => o = 0 ∧ (∃ sz g, exts[k]? = some (.nbx sz g)) ∧ v = hv k
 | .ag sz g, v => ∃ vs, v = .agg vs ∧ vs.size = sz ∧ ∀ j, j < sz → (vs.getD j undef).oneCell' = true ∧ AR sh exts hv (g j) (vs.getD j undef)
 | .clo f n g, v => ∃ vs, v = .func (.func f) #[] vs ∧ vs.size = n ∧ ∀ j, j < n → AR sh exts hv (g j) (vs.getD j undef)
 | x, v => sh x v
def okOf (w : World) (M : Cells) : Cells := fun b o => b < w.heap.size ∧ ¬ M b o
structure Handed (w : World) (sh : AV → Value → Prop) (M : Cells) (exts : List AV) (hv : Nat → Value) (Fe : Nat → Cells) : Prop where
 rel : ∀ k x, exts[k]? = some x → RV w sh x (hv k) (Fe k)
 disj : ∀ k m b o, k < exts.length → m < exts.length → k ≠ m → Fe k b o → ¬ Fe m b o
 mine : ∀ k b o, k < exts.length → Fe k b o → M b o
def isExt : AV → Prop
 | .own _ _ _ => True
 | .nbx sz _ => sz ≤ 4096
 | _ => False
def Con (P : Program) (f : Nat) (args exts : List AV) (res : AV) (exts' : List AV) : Prop :=
 ∀ (w : World) (M : Cells) (hv : Nat → Value) (Fe : Nat → Cells) (vs : Array Value),
  RS w (okOf w M) (.gv Tok.bs) Tok.val → exts.length ≤ 64 → (∀ x, x ∈ exts → isExt x) → Handed w (RS w (okOf w M)) M exts hv Fe → (∀ b o, M b o → b < w.heap.size) →
  vs.size = args.length → (∀ j, j < args.length → AR (RS w (okOf w M)) exts hv (args.getD j .bad) (vs.getD j undef)) →
  Calls P f vs w fun e w' => ∃ v, e = .returned v ∧ Chg w w' M ∧ ∃ F Fe', RR w' (RS w (okOf w M)) res v F ∧
   Handed w' (RS w (okOf w M)) (fun b o => b < w'.heap.size ∧ (b < w.heap.size → M b o)) exts' hv Fe' ∧ (∀ b o, F b o → b < w'.heap.size ∧ (b < w.heap.size → M b o)) ∧ ∀ k b o, k < exts'.length → Fe' k b o → ¬ F b o
structure OrcOk (P : Program) (C : Cfg) (Γ : Orc) : Prop where
 fn : ∀ f args exts r, Γ f args exts = some r → ∃ fn, P.funcs[f]? = some fn ∧ fn.body.isSome = true ∧ (fn.name == "runtime.NumGoroutine") = false
 con : ∀ f args exts r, Γ f args exts = some r → Con P f args exts r.1 r.2
 res : ∀ f fn args exts r, Γ f args exts = some r → P.funcs[f]? = some fn → vwR P fn.resultTypes.toList r.1 = r.1
 ow : ∀ f args exts r, Γ f args exts = some r → r.1.ow = r.1 ∧ ∀ x, x ∈ r.2 → x.ow = x
 exts : ∀ f args exts r, Γ f args exts = some r → r.2.length = exts.length ∧ likeG (C.give f) exts r.2 = r.2
theorem RS_move {w w' : World} {ok ok' : Cells} (h : ∀ b o, ok b o → ok' b o ∧ cellAt w' b o = cellAt w b o) (x : AV) : ∀ {v : Value}, RS w ok x v → RS w' ok' x v := by
 induction x with
 | sl n sz g ih =>
  rintro v ⟨A, cap, rfl, h1, h2⟩
  refine ⟨A, cap, rfl, h1, h2.imp (fun h => h) fun ⟨a, e, hs, hc⟩ => ⟨a, e, hs, fun i hi j hj => ?_⟩⟩
  obtain ⟨h3, u, h4, h5⟩ := hc i hi j hj
  exact ⟨(h _ _ h3).1, u, by rw [(h _ _ h3).2]; exact h4, ih i j h5⟩
 | sln n sz g ih =>
  rintro v ⟨A, cap, rfl, h1, h2⟩
  refine ⟨A, cap, rfl, h1, h2.imp (fun h => h) fun ⟨a, e, hs, hc⟩ => ⟨a, e, hs, fun i hi j hj => ?_⟩⟩
  obtain ⟨h3, u, h4, h5⟩ := hc i hi j hj
  exact ⟨(h _ _ h3).1, u, by rw [(h _ _ h3).2]; exact h4, ih i j h5⟩
 | sp sz g ih =>
  rintro v ⟨a, rfl, hs, hc⟩
  refine ⟨a, rfl, hs, fun j hj => ?_⟩
  obtain ⟨h3, u, h4, h5⟩ := hc j hj
  exact ⟨(h _ _ h3).1, u, by rw [(h _ _ h3).2]; exact h4, ih j h5⟩
 | gv bs =>
  rintro v ⟨e1, e2, e3, A, cap, rfl, h1, h2⟩
  refine ⟨e1, e2, fun b u hb => ⟨(h _ _ (e3 b u hb).1).1, by rw [(h _ _ (e3 b u hb).1).2]; exact (e3 b u hb).2⟩, A, cap, rfl, h1, h2.imp (fun h => h) fun ⟨a, e, hs, hc⟩ => ⟨a, e, hs, fun i hi j hj => ?_⟩⟩
  obtain ⟨h3, u, h4, h5⟩ := hc i hi j hj
  exact ⟨(h _ _ h3).1, u, by rw [(h _ _ h3).2]; exact h4, h5⟩
 | clo f n g ih => rintro v ⟨vs, e, hs, hc⟩; exact ⟨vs, e, hs, fun j hj => (hc j hj).imp id (fun h => ih j h)⟩
 | _ => intro v hv; exact hv
theorem RO_sh {w : World} {sh sh' : AV → Value → Prop} (h : ∀ x v, sh x v → sh' x v) (x : AV) : ∀ {v : Value} {F : Cells}, RO w sh x v F → RO w sh' x v F := by
 induction x with
 | own n sz g ih =>
  rintro v F ⟨A, cap, rfl, h1, h2, h3⟩
  refine ⟨A, cap, rfl, h1, h2, h3.imp (fun h => h) fun ⟨a, e, hs, hc, Fs, f1, f2, f3⟩ => ⟨a, e, hs, hc, Fs, f1, f2, fun i hi j hj => ?_⟩⟩
  obtain ⟨u, hu, hr⟩ := f3 i hi j hj
  exact ⟨u, hu, ih i j hr⟩
 | bad => intro v F h; trivial
 | _ => intro v F hv; exact h _ _ hv
theorem Par_sh {w : World} {sh sh' : AV → Value → Prop} (h : ∀ x v, sh x v → sh' x v) {n : Nat} {g : Nat → AV} {vs : Nat → Value} {F : Cells} (hp : Par w sh n g vs F) : Par w sh' n g vs F := by
 obtain ⟨Fs, h1, h2, h3⟩ := hp
 exact ⟨Fs, h1, h2, fun j hj => RO_sh h _ (h3 j hj)⟩
theorem RV_sh {w : World} {sh sh' : AV → Value → Prop} (h : ∀ x v, sh x v → sh' x v) {x : AV} {v : Value} {F : Cells} (hv : RV w sh x v F) : RV w sh' x v F := by
 cases x with
 | ag sz g => obtain ⟨vs, e, hs, ho, hp⟩ := hv; exact ⟨vs, e, hs, ho, Par_sh h hp⟩
 | nbx sz g => obtain ⟨ad, e, hs, hin, vs, hc, hp⟩ := hv; exact ⟨ad, e, hs, hin, vs, hc, Par_sh h hp⟩
 | _ => exact RO_sh h _ hv
theorem RO_cn {w : World} {sh : AV → Value → Prop} (x : AV) : ∀ {v : Value} {F : Cells}, RO w sh x v F → RO w sh x.cn v F := by
 induction x with
 | own n sz g ih =>
  rintro v F ⟨A, cap, rfl, h1, h2, h3⟩
  refine ⟨A, cap, rfl, h1, h2, h3.imp (fun h => h) fun ⟨a, e, hs, hc, Fs, f1, f2, f3⟩ => ⟨a, e, hs, hc, Fs, f1, f2, fun i hi j hj => ?_⟩⟩
  obtain ⟨u, hu, hr⟩ := f3 i hi j hj
  exact ⟨u, hu, by show RO w sh (tabG sz (fun j => (g i j).cn) j) u (Fs i j); rw [tabG_lt hj]; exact ih i j hr⟩
 | _ => intro v F h; exact h
theorem RO_ow {w w0 w1 : World} {ok ok1 : Cells} (ht : RS w1 ok1 (.gv Tok.bs) Tok.val) (x : AV) : ∀ {v : Value} {F : Cells}, RO w (RS w0 ok) x v F → RO w (RS w1 ok1) x.ow v F := by
 induction x with
 | own n sz g ih =>
  rintro v F ⟨A, cap, rfl, h1, h2, h3⟩
  refine ⟨A, cap, rfl, h1, h2, h3.imp (fun h => h) fun ⟨a, e, hs, hc, Fs, f1, f2, f3⟩ => ⟨a, e, hs, hc, Fs, f1, f2, fun i hi j hj => ?_⟩⟩
  obtain ⟨u, hu, hr⟩ := f3 i hi j hj
  exact ⟨u, hu, by show RO w (RS w1 ok1) (tabG sz (fun j => (g i j).ow) j) u (Fs i j); rw [tabG_lt hj]; exact ih i j hr⟩
 | I k n => intro v F h; exact h
 | B k => intro v F h; exact h
 | S k => intro v F h; exact h
 | nlp => intro v F h; exact h
 | gv bs => intro v F h; obtain ⟨e1, e2, _⟩ := h; subst e1 e2; exact ht
 | ag sz g ih => intro v F h; exact h.elim
 | nbx sz g ih => intro v F h; exact h.elim
 | tup sz g ih => intro v F h; exact h.elim
 | _ => intro v F h; trivial
theorem Par_ow {w w0 w1 : World} {ok ok1 : Cells} (ht : RS w1 ok1 (.gv Tok.bs) Tok.val) {n : Nat} {g : Nat → AV} {vs : Nat → Value} {F : Cells} (hp : Par w (RS w0 ok) n g vs F) : Par w (RS w1 ok1) n (tabG n (fun j => (g j).ow)) vs F := by
 obtain ⟨Fs, h1, h2, h3⟩ := hp
 exact ⟨Fs, h1, h2, fun j hj => by rw [tabG_lt hj]; exact RO_ow ht _ (h3 j hj)⟩
theorem RV_ow {w w0 w1 : World} {ok ok1 : Cells} (ht : RS w1 ok1 (.gv Tok.bs) Tok.val) {x : AV} {v : Value} {F : Cells} (h : RV w (RS w0 ok) x v F) : RV w (RS w1 ok1) x.ow v F := by
 cases x with
 | ag sz g => obtain ⟨vs, e, hs, ho, hp⟩ := h; exact ⟨vs, e, hs, ho, Par_ow ht hp⟩
 | nbx sz g => obtain ⟨ad, e, hs, hin, vs, hc, hp⟩ := h; exact ⟨ad, e, hs, hin, vs, hc, Par_ow ht hp⟩
 | own n sz g => exact RO_ow ht (.own n sz g) h
 | I k n => exact h
 | B k => exact h
 | S k => exact h
 | nlp => exact h
 | gv bs => exact RO_ow (w := w) (F := F) ht (.gv bs) h
 | tup n g => exact h.elim
 | _ => trivial
theorem RR_ow {w w0 w1 : World} {ok ok1 : Cells} (ht : RS w1 ok1 (.gv Tok.bs) Tok.val) {x : AV} {v : Value} {F : Cells} (h : RR w (RS w0 ok) x v F) : RR w (RS w1 ok1) x.ow v F := by
 cases x with
 | tup n g => obtain ⟨vs, e, hs, Fs, h1, h2, h3⟩ := h; exact ⟨vs, e, hs, Fs, h1, h2, fun j hj => by rw [tabG_lt hj]; exact RV_ow ht (h3 j hj)⟩
 | ag sz g => exact RV_ow ht (x := .ag sz g) h
 | nbx sz g => exact RV_ow ht (x := .nbx sz g) h
 | own n sz g => exact RV_ow ht (x := .own n sz g) h
 | I k n => exact h
 | B k => exact h
 | S k => exact h
 | nlp => exact h
 | gv bs => exact RV_ow (w := w) (F := F) ht (x := .gv bs) h
 | _ => trivial
theorem RO_to_RS {w w0 : World} {ok ok' : Cells} (hm : ∀ x v, RS w0 ok x v → RS w ok' x v) (x : AV) : ∀ {v : Value} {F : Cells}, RO w (RS w0 ok) x v F → v.oneCell' = true → (∀ b o, F b o → ok' b o) → RS w ok' x.sh v := by
 induction x with
 | own n sz g ih =>
  rintro v F ⟨A, cap, rfl, h1, h2, h3⟩ _ hok
  refine ⟨A, cap, rfl, ?_⟩
  rcases h3 with h3 | ⟨a, e, hs, hc, Fs, f1, f2, f3⟩
  · exact ⟨⟨h1, fun _ => h3⟩, .inl (by omega)⟩
  · refine ⟨⟨h1, fun h => by rw [e] at h; simp at h⟩, .inr ⟨a, e, hs, fun i hi j hj => ?_⟩⟩
    obtain ⟨u, hu, hr⟩ := f3 i hi j hj
    obtain ⟨hF, ⟨u', hu', ho⟩, _⟩ := hc _ (cell_lt hi hj h1)
    rw [hu] at hu'
    obtain rfl := Option.some.inj hu'
    exact ⟨hok _ _ hF, u, hu, by show RS w ok' (tabG sz (fun j => (g i j).sh) j) u; rw [tabG_lt hj]; exact ih i j hr ho fun b o hb => hok b o (f1 i j b o hi hj hb).1⟩
 | bad => intro v F h ho _; exact ho
 | _ => intro v F h _ _; exact hm _ _ h
section
variable {c : Cx} {gh : Gh} {nt : Nat} {st : St} {a : Act} {w : World} {P : Program} {R : Type} {r : R}
theorem RS_in {M : Cells} (h : Inv c gh nt st a w) (hM : Free c gh st.ar st.bx w M) : ∀ x v, c.sh x v → RS w (okOf w M) x v := fun x v hv =>
 RS_move (fun b o hok => ⟨⟨Nat.lt_of_lt_of_le hok.1 h.mem.grow, fun hm => hok.2 ((hM b o hm).2.2 hok.1)⟩, (h.mem.keep b o hok.1 hok.2).1⟩) x hv
theorem borC0_sound {M : Cells} {exts : List AV} {hv : Nat → Value} {x : AV} {v : Value} (h : Inv c gh nt st a w) (hM : Free c gh st.ar st.bx w M) (hx : TR c.sh gh st.ar st.bx w x v) :
  AR (RS w (okOf w M)) exts hv (st.borC0 x) v := by
 have hin := RS_in h hM
 have hrow : ∀ id A, st.ar id = some A → ∀ b o, gh.fa id b o → okOf w M b o := fun id A e b o hb =>
  ⟨(h.mem.mine (.inl id) b o (by simp [live, e]) hb).1, fun hm => (hM b o hm).1 (.inl id) (by simp [live, e]) hb⟩
 induction x generalizing v with
 | rf id =>
  simp only [St.borC0]
  split
  · rename_i A e
    rw [hx A e]
    exact RO_to_RS hin (.own A.n A.sz A.g) (h.mem.rows id A e) rfl (hrow id A e)
  · trivial
 | rs id p m =>
  simp only [St.borC0]
  split
  · rename_i A e
    obtain ⟨h1, A', rfl, h2⟩ := hx A e
    exact RO_to_RS hin (.own m A.sz (cut A p m)) (RO_cut (h.mem.rows id A e) h1 h2) rfl (hrow id A e)
  · trivial
 | rn id p =>
  simp only [St.borC0]
  split
  · rename_i n sz g hm
    obtain ⟨A, e, hat⟩ := Option.map_eq_some_iff.1 hm
    obtain ⟨F', hr, hsub⟩ := RO_path p (h.mem.rows id A e) hat (hx A n sz g e hat)
    have ho : v.oneCell' = true := by obtain ⟨_, _, rfl, _⟩ := hr; rfl
    exact RO_to_RS hin (.own n sz g) hr ho fun b o hb => hrow id A e b o (hsub b o hb)
  · trivial
 | nsl sz g =>
  have hx' : v = .slice none 0 0 := hx
  exact ⟨none, 0, hx', ⟨Nat.le_refl _, fun _ => rfl⟩, .inl rfl⟩
 | sln n sz g =>
  obtain ⟨x, cap, rfl, h1, h2⟩ := hin _ _ (show c.sh (.sln n sz g) v from hx)
  exact ⟨_, cap, rfl, ⟨h1, fun h => by simp at h⟩, h2⟩
 | sl n sz g => exact hin (.sl n sz g) v hx
 | I k n => exact hin (.I k n) v hx
 | B k => exact hin (.B k) v hx
 | S k => exact hin (.S k) v hx
 | nlp => exact hin .nlp v hx
 | gv bs => exact hin (.gv bs) v hx
 | sp sz g => exact hin (.sp sz g) v hx
 | clo f n g ih =>
  obtain ⟨vs, e, hs, hc⟩ := hx
  exact ⟨vs, e, hs, fun j hj => by rw [tabG_lt hj]; exact ih j (hc j hj)⟩
 | _ => trivial
theorem borC0_RS' {w : World} {ok : Cells} {exts : List AV} {hv : Nat → Value} (x : AV) : ∀ {v : Value}, AR (RS w ok) exts hv (st.borC0 x) v → st.borC0 x = .bad ∨ RS w ok (st.borC0 x) v := by
 induction x with
 | clo f n g ih =>
  rintro v ⟨vs, e, hs, hc⟩
  exact .inr ⟨vs, e, hs, fun j hj => by have := hc j hj; rw [tabG_lt hj] at this ⊢; exact ih j this⟩
 | rf id => intro v h; unfold St.borC0 at h ⊢; revert h; split <;> intro h <;> first | exact .inr h | exact .inl rfl
 | rs id p m => intro v h; unfold St.borC0 at h ⊢; revert h; split <;> intro h <;> first | exact .inr h | exact .inl rfl
 | rn id p => intro v h; unfold St.borC0 at h ⊢; revert h; split <;> intro h <;> first | exact .inr h | exact .inl rfl
 | _ => intro v h; first | exact .inl rfl | exact .inr h
theorem borC0_RS {w : World} {ok : Cells} {exts : List AV} {hv : Nat → Value} {x : AV} {v : Value} (hb : RS w ok .bad v) (h : AR (RS w ok) exts hv (st.borC0 x) v) : RS w ok (st.borC0 x) v := by
 rcases borC0_RS' x h with h' | h'
 · rw [h']; exact hb
 · exact h'
theorem borC_sound {M : Cells} {exts : List AV} {hv : Nat → Value} {x : AV} {v : Value} (h : Inv c gh nt st a w) (hM : Free c gh st.ar st.bx w M) (hx : TR c.sh gh st.ar st.bx w x v) :
  AR (RS w (okOf w M)) exts hv (st.borC x) v := by
 cases x with
 | pb b o =>
  simp only [St.borC]
  split
  · rename_i sz g e
    have hv' : v = .pointer (some ⟨(gh.ba b).block, (gh.ba b).off + o, none⟩) := hx _ e
    refine ⟨_, hv', rfl, fun j hj => ?_⟩
    obtain ⟨u, hu, _, h1, ht⟩ := (h.mem.boxes b sz g e).2 (o + j) (by omega)
    have hf : fp gh st.bx (.inr b) (gh.ba b).block ((gh.ba b).off + (o + j)) := ⟨(sz, g), e, rfl, by omega, by simp only; omega⟩
    have hl : live st.ar st.bx (.inr b) := by simp [live, e]
    simp only [Nat.add_assoc]
    refine ⟨⟨(h.mem.mine (.inr b) _ _ hl hf).1, fun hm => (hM _ _ hm).1 (.inr b) hl hf⟩, u, hu, ?_⟩
    rw [tabG_lt hj]
    exact borC0_RS (show RS w (okOf w M) .bad u from h1) (borC0_sound (exts := exts) (hv := hv) h hM ht)
  · trivial
 | _ => exact borC0_sound h hM hx
theorem borA_sound {M : Cells} {exts : List AV} {hv : Nat → Value} {x : AV} {v : Value} (h : Inv c gh nt st a w) (hM : Free c gh st.ar st.bx w M) (hx : TR c.sh gh st.ar st.bx w x v) :
  AR (RS w (okOf w M)) exts hv (st.borA x) v := by
 cases x with
 | ag sz g =>
  obtain ⟨vs, e, hs, hc⟩ := hx
  exact ⟨vs, e, hs, fun j hj => ⟨(hc j hj).1, by rw [tabG_lt hj]; exact borC_sound h hM (hc j hj).2⟩⟩
 | clo f n g =>
  obtain ⟨vs, e, hs, hc⟩ := hx
  exact ⟨vs, e, hs, fun j hj => by rw [tabG_lt hj]; exact borC_sound h hM (hc j hj)⟩
 | _ => exact borC_sound h hM hx
end
end Go.Fw
namespace Go.Fw
variable [Tok]
structure Sub (st st' : St) : Prop where
 t : st'.t = st.t
 ar : ∀ id A', st'.ar id = some A' → ∃ A, st.ar id = some A ∧ A'.n = A.n ∧ A'.sz = A.sz
 bx : ∀ b B, st'.bx b = some B → st.bx b = some B
theorem Sub.refl (st : St) : Sub st st := ⟨rfl, fun id A e => ⟨A, e, rfl, rfl⟩, fun _ _ e => e⟩
theorem Sub.trans {st st' st'' : St} (h : Sub st st') (h' : Sub st' st'') : Sub st st'' := by
 refine ⟨h'.t.trans h.t, fun id A e => ?_, fun b B e => h.bx b B (h'.bx b B e)⟩
 obtain ⟨A1, e1, n1, s1⟩ := h'.ar id A e
 obtain ⟨A2, e2, n2, s2⟩ := h.ar id A1 e1
 exact ⟨A2, e2, n1.trans n2, s1.trans s2⟩
theorem Sub.noneA (st : St) (id : Nat) : Sub st (st.setA id none) := by
 refine ⟨rfl, fun k A e => ?_, fun _ _ e => e⟩
 have e' : upd st.ar id none k = some A := e
 by_cases ek : k = id
 · subst ek; rw [upd_self] at e'; simp at e'
 · rw [upd_ne _ _ ek] at e'; exact ⟨A, e', rfl, rfl⟩
theorem Sub.noneB (st : St) (b : Nat) : Sub st (st.setB b none) := by
 refine ⟨rfl, fun id A e => ⟨A, e, rfl, rfl⟩, fun k B e => ?_⟩
 have e' : upd st.bx b none k = some B := e
 by_cases ek : k = b
 · subst ek; rw [upd_self] at e'; simp at e'
 · rw [upd_ne _ _ ek] at e'; exact e'
theorem takeC_sub {st st' : St} {x y : AV} (e : st.takeC x = some (y, st')) : Sub st st' := by
 cases x with
 | rf id =>
  simp only [St.takeC, Option.map_eq_some_iff, Prod.mk.injEq] at e
  obtain ⟨A, hA, rfl, rfl⟩ := e
  exact Sub.noneA st id
 | rs id p m =>
  simp only [St.takeC, Option.map_eq_some_iff, Prod.mk.injEq] at e
  obtain ⟨A, hA, rfl, rfl⟩ := e
  exact Sub.noneA st id
 | rn id p =>
  simp only [St.takeC] at e
  split at e
  · rename_i A hA
    split at e
    · simp only [Option.some.injEq, Prod.mk.injEq] at e
      obtain ⟨rfl, rfl⟩ := e
      refine ⟨rfl, fun k B e => ?_, fun _ _ e => e⟩
      have e' : upd st.ar id _ k = some B := e
      by_cases ek : k = id
      · subst ek; rw [upd_self] at e'; obtain rfl := Option.some.inj e'; exact ⟨A, hA, rfl, rfl⟩
      · rw [upd_ne _ _ ek] at e'; exact ⟨B, e', rfl, rfl⟩
    · simp at e
  · simp at e
 | nsl sz g =>
  simp only [St.takeC] at e
  cases hs : Nat.blt 0 sz with
  | false => rw [hs] at e; simp at e
  | true => rw [hs] at e; simp only [cond_true, Option.some.injEq, Prod.mk.injEq] at e; obtain ⟨rfl, rfl⟩ := e; exact .refl st
 | sln n sz g => simp only [St.takeC, Option.some.injEq, Prod.mk.injEq] at e; obtain ⟨rfl, rfl⟩ := e; exact .refl st
 | sl n sz g => simp only [St.takeC, Option.some.injEq, Prod.mk.injEq] at e; obtain ⟨rfl, rfl⟩ := e; exact .refl st
 | I k n => simp only [St.takeC, Option.some.injEq, Prod.mk.injEq] at e; obtain ⟨rfl, rfl⟩ := e; exact .refl st
 | B k => simp only [St.takeC, Option.some.injEq, Prod.mk.injEq] at e; obtain ⟨rfl, rfl⟩ := e; exact .refl st
 | S k => simp only [St.takeC, Option.some.injEq, Prod.mk.injEq] at e; obtain ⟨rfl, rfl⟩ := e; exact .refl st
 | nlp => simp only [St.takeC, Option.some.injEq, Prod.mk.injEq] at e; obtain ⟨rfl, rfl⟩ := e; exact .refl st
 | gv bs => simp only [St.takeC, Option.some.injEq, Prod.mk.injEq] at e; obtain ⟨rfl, rfl⟩ := e; exact .refl st
 | _ => simp [St.takeC] at e
theorem takeL_sub {g : Nat → AV} : ∀ (js : List Nat) {st st' : St} {l : List AV}, st.takeL g js = some (l, st') → Sub st st' := by
 intro js
 induction js with
 | nil => intro st st' l e; simp only [St.takeL, Option.some.injEq, Prod.mk.injEq] at e; obtain ⟨rfl, rfl⟩ := e; exact .refl st
 | cons j js ih =>
  intro st st' l e
  simp only [St.takeL] at e
  split at e
  · rename_i x st1 h1
    split at e
    · rename_i xs st2 h2
      simp only [Option.some.injEq, Prod.mk.injEq] at e; obtain ⟨rfl, rfl⟩ := e
      exact (takeC_sub h1).trans (ih h2)
    · simp at e
  · simp at e
theorem takeA_sub {st st' : St} {x y : AV} (e : st.takeA x = some (y, st')) : Sub st st' := by
 unfold St.takeA at e
 split at e
 · simp only [Option.map_eq_some_iff, Prod.mk.injEq] at e
   obtain ⟨r, h, rfl, rfl⟩ := e
   exact takeL_sub _ (l := r.1) (st' := r.2) h
 · split at e
   · simp only [Option.map_eq_some_iff, Prod.mk.injEq] at e
     obtain ⟨r, h, rfl, rfl⟩ := e
     exact (takeL_sub _ (l := r.1) (st' := r.2) h).trans (.noneB _ _)
   · simp at e
 · exact takeC_sub e
section
variable {c : Cx} {gh : Gh} {nt : Nat} {st : St} {a : Act} {w : World} {P : Program} {R : Type} {r : R}
def BackOk (w : World) (gh : Gh) (st : St) (v : Value) (y : AV) : Back → Prop
 | .box b sz => (∃ g0, st.bx b = some (sz, g0)) ∧ v = .pointer (some ⟨(gh.ba b).block, (gh.ba b).off + 0, none⟩) ∧ ∃ g, y = .nbx sz g
 | .arr id n sz => (∃ A, st.ar id = some A ∧ A.n = n ∧ A.sz = sz) ∧ v = .slice (gh.hd id).1 n (gh.hd id).2 ∧ ∃ g, y = .own n sz g
 | .inn id p n sz => (∃ (ad : Addr) (pre : List (Nat × Nat)) (qq : Nat × Nat), p = pre ++ [qq] ∧ ad.spot = none ∧ cellAt w ad.block ad.off = some v ∧
   ∀ A, st.ar id = some A → placeV w (gh.hd id).1 A.n A.sz A.g pre qq.1 qq.2 (.pointer (some ad))) ∧ ∃ g, y = .own n sz g
theorem path_place2 {w : World} {qq : Nat × Nat} {v : Value} : ∀ (pre : List (Nat × Nat)) {a : Option Addr} {n sz : Nat} {g : Nat → Nat → AV}, (∃ n' sz' h, atP g (pre ++ [qq]) = .own n' sz' h) → pathV w a n sz g (pre ++ [qq]) v →
  ∃ ad : Addr, ad.spot = none ∧ cellAt w ad.block ad.off = some v ∧ placeV w a n sz g pre qq.1 qq.2 (.pointer (some ad)) := by
 intro pre
 induction pre with
 | nil =>
  intro a n sz g _ h
  obtain ⟨hi, hj, ad, rfl, hc⟩ := h
  exact ⟨⟨ad.block, ad.off + (qq.1 * sz + qq.2), none⟩, rfl, hc, hi, hj, ad, rfl, rfl⟩
 | cons ij pre ih =>
  obtain ⟨i, j⟩ := ij
  rintro a n sz g ⟨n', sz', h', hat⟩ h
  have key : ∃ (ad : Addr) (u : Value) (n3 sz3 : Nat) (h3 : Nat → Nat → AV) (A3 : Option Addr) (cap3 : Nat), i < n ∧ j < sz ∧ a = some ad ∧ cellAt w ad.block (ad.off + (i * sz + j)) = some u ∧ g i j = .own n3 sz3 h3 ∧ u = .slice A3 n3 cap3 ∧ pathV w A3 n3 sz3 h3 (pre ++ [qq]) v ∧ atP h3 (pre ++ [qq]) = .own n' sz' h' := by
   cases pre with
   | nil =>
    obtain ⟨hi, hj, ad, rfl, u, hc, hm⟩ := h
    simp only [List.cons_append, List.nil_append, atP] at hat
    cases hg : g i j with
    | own n3 sz3 h3 =>
     rw [hg] at hm hat
     obtain ⟨A3, cap3, rfl, hp⟩ := hm
     exact ⟨ad, _, n3, sz3, h3, A3, cap3, hi, hj, rfl, hc, rfl, rfl, hp, hat⟩
    | _ => rw [hg] at hat; simp at hat
   | cons b bs =>
    obtain ⟨hi, hj, ad, rfl, u, hc, hm⟩ := h
    simp only [List.cons_append, atP] at hat
    cases hg : g i j with
    | own n3 sz3 h3 =>
     rw [hg] at hm hat
     obtain ⟨A3, cap3, rfl, hp⟩ := hm
     exact ⟨ad, _, n3, sz3, h3, A3, cap3, hi, hj, rfl, hc, rfl, rfl, hp, hat⟩
    | _ => rw [hg] at hat; simp at hat
  obtain ⟨ad, u, n3, sz3, h3, A3, cap3, hi, hj, rfl, hc, hg, rfl, hp, hat3⟩ := key
  obtain ⟨ad', h1, h2, h4⟩ := ih ⟨n', sz', h', hat3⟩ hp
  exact ⟨ad', h1, h2, place_up hg hi hj hc h4⟩
structure PInv (c : Cx) (gh : Gh) (nt : Nat) (st : St) (a : Act) (w : World) (q : Pas) (ghq : Gh) (hv : Nat → Value) (Fe : Nat → Cells) : Prop where
 inv : Inv c ghq nt q.st a w
 hd : ghq.hd = gh.hd
 ba : ghq.ba = gh.ba
 holds : Holds c gh ghq st q.st w
 sub : Sub st q.st
 len : q.bk.length = q.ex.length
 kind : ∀ x, x ∈ q.ex → isExt x
 ext : ∀ k x, q.ex[k]? = some x → RV w c.sh x (hv k) (Fe k)
 free : Free c ghq q.st.ar q.st.bx w (fun b o => ∃ k, k < q.ex.length ∧ Fe k b o)
 disj : ∀ k m b o, k < q.ex.length → m < q.ex.length → k ≠ m → Fe k b o → ¬ Fe m b o
 back : ∀ k bk y, q.bk[k]? = some bk → q.ex[k]? = some y → BackOk w gh st (hv k) y bk
 start : q.ex = [] → q.st = st
 one : ∀ id p n sz, q.bk = [.inn id p n sz] → ∃ A, st.ar id = some A ∧ q.st.ar id = some ⟨A.n, A.sz, setP A.g p .bad⟩
structure Grows (q q' : Pas) (hv hv' : Nat → Value) : Prop where
 same : ∀ k x, q.ex[k]? = some x → q'.ex[k]? = some x ∧ hv' k = hv k
theorem Grows.refl (q : Pas) (hv : Nat → Value) : Grows q q hv hv := ⟨fun _ _ h => ⟨h, rfl⟩⟩
theorem Grows.trans {q q' q'' : Pas} {hv hv' hv'' : Nat → Value} (h : Grows q q' hv hv') (h' : Grows q' q'' hv' hv'') : Grows q q'' hv hv'' :=
 ⟨fun k x e => by
  obtain ⟨e1, e2⟩ := h.same k x e
  obtain ⟨e3, e4⟩ := h'.same k x e1
  exact ⟨e3, e4.trans e2⟩⟩
theorem AR_mono {sh : AV → Value → Prop} {exts exts' : List AV} {hv hv' : Nat → Value} (h : ∀ k x, exts[k]? = some x → exts'[k]? = some x ∧ hv' k = hv k) (x : AV) : ∀ {v : Value}, AR sh exts hv x v → AR sh exts' hv' x v := by
 induction x with
 | rf id => rintro v ⟨k, n, sz, g, e, h1, h2⟩; exact ⟨k, n, sz, g, e, (h _ _ h1).1, by rw [(h _ _ h1).2]; exact h2⟩
 | pb k o => rintro v ⟨e, ⟨sz, g, h1⟩, h2⟩; exact ⟨e, ⟨sz, g, (h _ _ h1).1⟩, by rw [(h _ _ h1).2]; exact h2⟩
 | ag sz g ih => rintro v ⟨vs, e, hs, hc⟩; exact ⟨vs, e, hs, fun j hj => ⟨(hc j hj).1, ih j (hc j hj).2⟩⟩
 | clo f n g ih => rintro v ⟨vs, e, hs, hc⟩; exact ⟨vs, e, hs, fun j hj => ih j (hc j hj)⟩
 | _ => intro v h; exact h
theorem pass_one {q : Pas} {ghq : Gh} {hv : Nat → Value} {Fe : Nat → Cells} {x y : AV} {v : Value} {st' : St} {bk : Back} (hp : PInv c gh nt st a w q ghq hv Fe) (hx : TR c.sh gh st.ar st.bx w x v)
  (e : q.st.takeA x = some (y, st')) (hk : isExt y)
  (hb : BackOk w gh st v y bk) (hi : ∀ id p n sz, bk = .inn id p n sz → ∃ A, st.ar id = some A ∧ st'.ar id = some ⟨A.n, A.sz, setP A.g p .bad⟩) :
  ∃ ghq' Fe', PInv c gh nt st a w ⟨st', q.ex ++ [y], q.bk ++ [bk]⟩ ghq' (upd hv q.ex.length v) Fe' ∧ Grows q ⟨st', q.ex ++ [y], q.bk ++ [bk]⟩ hv (upd hv q.ex.length v) := by
 obtain ⟨ghq', F, hT, hrv⟩ := takeA_sound hp.inv hp.free (hp.holds _ _ hx) e
 have hlt : ∀ {k : Nat} {z : AV}, q.ex[k]? = some z → k < q.ex.length := fun h => (List.getElem?_eq_some_iff.1 h).1
 have hcase : ∀ {k : Nat} {z : AV}, (q.ex ++ [y])[k]? = some z → (k < q.ex.length ∧ q.ex[k]? = some z) ∨ (k = q.ex.length ∧ z = y) := fun {k z} h => by
  by_cases hk : k < q.ex.length
  · rw [List.getElem?_append_left hk] at h; exact .inl ⟨hk, h⟩
  · rw [List.getElem?_append_right (Nat.not_lt.1 hk)] at h
    by_cases hk0 : k = q.ex.length
    · subst hk0; simp at h; exact .inr ⟨rfl, h.symm⟩
    · have : ([y] : List AV)[k - q.ex.length]? = none := List.getElem?_eq_none (by simp; omega)
      rw [this] at h; simp at h
 have hgrow : Grows q ⟨st', q.ex ++ [y], q.bk ++ [bk]⟩ hv (upd hv q.ex.length v) := ⟨fun k z h => by
  have := hlt h
  exact ⟨by show (q.ex ++ [y])[k]? = some z; rw [List.getElem?_append_left this]; exact h, upd_ne _ _ (by omega)⟩⟩
 refine ⟨ghq', upd Fe q.ex.length F, ⟨hT.inv, hT.hd.trans hp.hd, hT.ba.trans hp.ba, hp.holds.trans hT.holds, hp.sub.trans (takeA_sub e), by simp [hp.len], fun z hz => ?_, fun k z h => ?_, ?_, fun k m b o hk hm hkm hb1 hb2 => ?_, fun k bk' z h hz => ?_, fun h => by simp at h, fun id p n sz h => ?_⟩, hgrow⟩
 · rcases List.mem_append.1 hz with hz | hz
   · exact hp.kind z hz
   · simp at hz; subst hz; exact hk
 · rcases hcase h with ⟨hk, h⟩ | ⟨rfl, rfl⟩
   · rw [upd_ne _ _ (by omega), upd_ne _ _ (by omega)]; exact hp.ext k z h
   · rw [upd_self, upd_self]; exact hrv
 · refine hT.free.mono fun x y ⟨k, hk, hf⟩ => ?_
   by_cases hk0 : k = q.ex.length
   · subst hk0; rw [upd_self] at hf; exact .inr hf
   · rw [upd_ne _ _ hk0] at hf
     exact .inl ⟨k, by simp at hk; omega, hf⟩
 · simp at hk hm
   by_cases hk0 : k = q.ex.length
   · subst hk0
     rw [upd_self] at hb1
     rw [upd_ne _ _ (by omega)] at hb2
     exact hT.apart b o hb1 ⟨m, by omega, hb2⟩
   · rw [upd_ne _ _ hk0] at hb1
     by_cases hm0 : m = q.ex.length
     · subst hm0
       rw [upd_self] at hb2
       exact hT.apart b o hb2 ⟨k, by omega, hb1⟩
     · rw [upd_ne _ _ hm0] at hb2
       exact hp.disj k m b o (by omega) (by omega) hkm hb1 hb2
 · have hlen := hp.len
   have h' : (q.bk ++ [bk])[k]? = some bk' := h
   rcases hcase hz with ⟨hk0, hz⟩ | ⟨rfl, rfl⟩
   · rw [List.getElem?_append_left (by omega)] at h'
     rw [upd_ne _ _ (by omega)]
     exact hp.back k bk' z h' hz
   · rw [← hlen] at h'
     simp at h'
     subst h'
     rw [upd_self]
     exact hb
 · have h' : q.bk ++ [bk] = [.inn id p n sz] := h
   have h2 : bk = .inn id p n sz := by
    cases hq : q.bk with
    | nil => rw [hq] at h'; simpa using h'
    | cons b bs => rw [hq] at h'; simp at h'
   exact hi id p n sz h2
theorem passBox_sound {q q' : Pas} {ghq : Gh} {hv : Nat → Value} {Fe : Nat → Cells} {b : Nat} {y : AV} {v : Value} (hp : PInv c gh nt st a w q ghq hv Fe) (hx : TR c.sh gh st.ar st.bx w (.pb b 0) v)
  (e : passBox q b = some (y, q')) : ∃ ghq' hv' Fe', PInv c gh nt st a w q' ghq' hv' Fe' ∧ Grows q q' hv hv' ∧ ∀ sh, AR sh q'.ex hv' y v := by
 unfold passBox at e
 split at e
 · rename_i sz g st' ht
   obtain ⟨hsz, e⟩ := K2_some e
   simp only [Option.some.injEq, Prod.mk.injEq] at e
   obtain ⟨rfl, rfl⟩ := e
   have hbx : ∃ g0, q.st.bx b = some (sz, g0) := by
    simp only [St.takeA] at ht
    split at ht
    · rename_i sz' c' hB
      simp only [Option.map_eq_some_iff, Prod.mk.injEq, AV.nbx.injEq] at ht
      obtain ⟨r, _, ⟨rfl, _⟩, _⟩ := ht
      exact ⟨c', hB⟩
    · simp at ht
   obtain ⟨g0, hB⟩ := hbx
   have hB' := hp.sub.bx _ _ hB
   obtain ⟨ghq', Fe', h1, h2⟩ := pass_one (bk := .box b sz) hp hx ht (Nat.le_of_ble_eq_true hsz) ⟨⟨g0, hB'⟩, hx _ hB', g, rfl⟩ (fun _ _ _ _ h => by simp at h)
   exact ⟨ghq', _, Fe', h1, h2, fun sh => ⟨rfl, ⟨sz, g, by simp⟩, (upd_self _ _ _).symm⟩⟩
 · simp at e
theorem passArr_sound {q q' : Pas} {ghq : Gh} {hv : Nat → Value} {Fe : Nat → Cells} {id : Nat} {y : AV} {v : Value} (hp : PInv c gh nt st a w q ghq hv Fe) (hx : TR c.sh gh st.ar st.bx w (.rf id) v)
  (e : passArr q id = some (y, q')) : ∃ ghq' hv' Fe', PInv c gh nt st a w q' ghq' hv' Fe' ∧ Grows q q' hv hv' ∧ ∀ sh, AR sh q'.ex hv' y v := by
 unfold passArr at e
 split at e
 · rename_i n sz g st' ht
   simp only [Option.some.injEq, Prod.mk.injEq] at e
   obtain ⟨rfl, rfl⟩ := e
   have har : ∃ A, q.st.ar id = some A ∧ A.n = n ∧ A.sz = sz := by
    simp only [St.takeA, St.takeC, Option.map_eq_some_iff, Prod.mk.injEq, AV.own.injEq] at ht
    obtain ⟨A, hA, ⟨h1, h2, _⟩, _⟩ := ht
    exact ⟨A, hA, h1, h2⟩
   obtain ⟨A, hA, hn, hs⟩ := har
   obtain ⟨A0, hA0, hn0, hs0⟩ := hp.sub.ar _ _ hA
   obtain ⟨ghq', Fe', h1, h2⟩ := pass_one (bk := .arr id n sz) hp hx ht trivial ⟨⟨A0, hA0, by omega, by omega⟩, by rw [hx A0 hA0, ← hn0, hn], g, rfl⟩ (fun _ _ _ _ h => by simp at h)
   exact ⟨ghq', _, Fe', h1, h2, fun sh => ⟨q.ex.length, n, sz, g, rfl, by simp, (upd_self _ _ _).symm⟩⟩
 · simp at e
theorem passCaps_sound {g : Nat → AV} {vs : Nat → Value} : ∀ (js : List Nat) {q q' : Pas} {ghq : Gh} {hv : Nat → Value} {Fe : Nat → Cells} {l : List AV}, PInv c gh nt st a w q ghq hv Fe → (∀ j, j ∈ js → TR c.sh gh st.ar st.bx w (g j) (vs j)) →
  passCaps q g js = some (l, q') → l.length = js.length ∧ ∃ ghq' hv' Fe', PInv c gh nt st a w q' ghq' hv' Fe' ∧ Grows q q' hv hv' ∧ ∀ k, k < js.length → ∀ sh, AR sh q'.ex hv' (lstG l k) (vs (js.getD k 0)) := by
 intro js
 induction js with
 | nil =>
  intro q q' ghq hv Fe l hp _ e
  simp only [passCaps, Option.some.injEq, Prod.mk.injEq] at e
  obtain ⟨rfl, rfl⟩ := e
  exact ⟨rfl, ghq, hv, Fe, hp, .refl _ _, fun k hk => absurd hk (by simp)⟩
 | cons j js ih =>
  intro q q' ghq hv Fe l hp hx e
  simp only [passCaps] at e
  split at e
  · rename_i b hg
    split at e
    · rename_i y q1 h1
      split at e
      · rename_i ys q2 h2
        simp only [Option.some.injEq, Prod.mk.injEq] at e
        obtain ⟨rfl, rfl⟩ := e
        have hxj := hx j (by simp)
        rw [hg] at hxj
        obtain ⟨gh1, hv1, Fe1, p1, g1, a1⟩ := passBox_sound hp hxj h1
        obtain ⟨hl, gh2, hv2, Fe2, p2, g2, a2⟩ := ih p1 (fun k hk => hx k (by simp [hk])) h2
        refine ⟨by simp [hl], gh2, hv2, Fe2, p2, g1.trans g2, fun k hk sh => ?_⟩
        cases k with
        | zero => rw [lstG_zero]; exact AR_mono g2.same _ (a1 sh)
        | succ k => rw [lstG_succ]; exact a2 k (by simpa using hk) sh
      · simp at e
    · simp at e
  · simp at e
theorem passAg_sound {g : Nat → AV} {vs : Nat → Value} : ∀ (js : List Nat) {q q' : Pas} {ghq : Gh} {hv : Nat → Value} {Fe : Nat → Cells} {l : List AV}, PInv c gh nt st a w q ghq hv Fe → (∀ j, j ∈ js → TR c.sh gh st.ar st.bx w (g j) (vs j)) →
  passAg q g js = some (l, q') → l.length = js.length ∧ ∃ ghq' hv' Fe', PInv c gh nt st a w q' ghq' hv' Fe' ∧ Grows q q' hv hv' ∧ ∀ k, k < js.length → ∀ sh, (∀ x v, c.sh x v → sh x v) → AR sh q'.ex hv' (lstG l k) (vs (js.getD k 0)) := by
 intro js
 induction js with
 | nil =>
  intro q q' ghq hv Fe l hp _ e
  simp only [passAg, Option.some.injEq, Prod.mk.injEq] at e
  obtain ⟨rfl, rfl⟩ := e
  exact ⟨rfl, ghq, hv, Fe, hp, .refl _ _, fun k hk => absurd hk (by simp)⟩
 | cons j js ih =>
  intro q q' ghq hv Fe l hp hx e
  simp only [passAg] at e
  have hxj := hx j (by simp)
  have lit : ∀ x, g j = x → (bif x.lit then (match passAg q g js with
   | some (xs, q') => some (x :: xs, q')
   | none => none) else none) = some (l, q') → l.length = (j :: js).length ∧ ∃ ghq' hv' Fe', PInv c gh nt st a w q' ghq' hv' Fe' ∧ Grows q q' hv hv' ∧ ∀ k, k < (j :: js).length → ∀ sh, (∀ x v, c.sh x v → sh x v) → AR sh q'.ex hv' (lstG l k) (vs ((j :: js).getD k 0)) := by
   intro x hgx e
   rw [hgx] at hxj
   cases hl : x.lit with
   | false => rw [hl] at e; simp at e
   | true =>
    rw [hl] at e
    simp only [cond_true] at e
    split at e
    · rename_i ys q2 h2
      simp only [Option.some.injEq, Prod.mk.injEq] at e
      obtain ⟨rfl, rfl⟩ := e
      obtain ⟨hl', gh2, hv2, Fe2, p2, g2, a2⟩ := ih hp (fun k hk => hx k (by simp [hk])) h2
      refine ⟨by simp [hl'], gh2, hv2, Fe2, p2, g2, fun k hk sh hsh => ?_⟩
      cases k with
      | zero =>
       rw [lstG_zero]
       cases x with
       | I _ _ => exact hsh _ _ hxj
       | B _ => exact hsh _ _ hxj
       | S _ => exact hsh _ _ hxj
       | nlp => exact hsh _ _ hxj
       | sl _ _ _ => exact hsh _ _ hxj
       | _ => simp [AV.lit] at hl
      | succ k => rw [lstG_succ]; exact a2 k (by simpa using hk) sh hsh
    · simp at e
  split at e
  · rename_i b hg
    split at e
    · rename_i y q1 h1
      split at e
      · rename_i ys q2 h2
        simp only [Option.some.injEq, Prod.mk.injEq] at e
        obtain ⟨rfl, rfl⟩ := e
        rw [hg] at hxj
        obtain ⟨gh1, hv1, Fe1, p1, g1, a1⟩ := passArr_sound hp hxj h1
        obtain ⟨hl, gh2, hv2, Fe2, p2, g2, a2⟩ := ih p1 (fun k hk => hx k (by simp [hk])) h2
        refine ⟨by simp [hl], gh2, hv2, Fe2, p2, g1.trans g2, fun k hk sh hsh => ?_⟩
        cases k with
        | zero => rw [lstG_zero]; exact AR_mono g2.same _ (a1 sh)
        | succ k => rw [lstG_succ]; exact a2 k (by simpa using hk) sh hsh
      · simp at e
    · simp at e
  · exact lit _ rfl e
theorem passX_sound {q q' : Pas} {ghq : Gh} {hv : Nat → Value} {Fe : Nat → Cells} {own : Bool} {x : AV} {y : Option AV} {v : Value} (hp : PInv c gh nt st a w q ghq hv Fe) (hx : TR c.sh gh st.ar st.bx w x v)
  (e : passX q own x = some (y, q')) : ∃ ghq' hv' Fe', PInv c gh nt st a w q' ghq' hv' Fe' ∧ Grows q q' hv hv' ∧ ∀ z, y = some z → ∀ sh, (∀ x v, c.sh x v → sh x v) → AR sh q'.ex hv' z v := by
 have same : ∀ {y : Option AV}, (some (none, q) : Option (Option AV × Pas)) = some (y, q') → ∃ ghq' hv' Fe', PInv c gh nt st a w q' ghq' hv' Fe' ∧ Grows q q' hv hv' ∧ ∀ z, y = some z → ∀ sh, (∀ x v, c.sh x v → sh x v) → AR sh q'.ex hv' z v := by
  intro y e
  simp only [Option.some.injEq, Prod.mk.injEq] at e
  obtain ⟨rfl, rfl⟩ := e
  exact ⟨ghq, hv, Fe, hp, .refl _ _, fun z h => by simp at h⟩
 unfold passX at e
 split at e
 · rename_i b
   split at e
   · rename_i y' q1 h1
     simp only [Option.some.injEq, Prod.mk.injEq] at e
     obtain ⟨rfl, rfl⟩ := e
     obtain ⟨gh1, hv1, Fe1, p1, g1, a1⟩ := passBox_sound hp hx h1
     exact ⟨gh1, hv1, Fe1, p1, g1, fun z h sh _ => by obtain rfl := Option.some.inj h; exact a1 sh⟩
   · simp at e
 · rename_i f n g
   cases own with
   | false => exact same e
   | true =>
   simp only [cond_true] at e
   split at e
   · rename_i l q1 h1
     simp only [Option.some.injEq, Prod.mk.injEq] at e
     obtain ⟨rfl, rfl⟩ := e
     obtain ⟨vs, rfl, hs, hc⟩ := hx
     obtain ⟨hl, gh1, hv1, Fe1, p1, g1, a1⟩ := passCaps_sound (vs := fun j => vs.getD j undef) (List.range n) hp (fun j hj => hc j (by simpa using hj)) h1
     refine ⟨gh1, hv1, Fe1, p1, g1, fun z h sh hsh => ?_⟩
     obtain rfl := Option.some.inj h
     exact ⟨vs, rfl, hs, fun j hj => by simpa [List.getD_eq_getElem?_getD, hj] using a1 j (by simpa using hj) sh⟩
   · simp at e
 · rename_i id
   cases own with
   | false => exact same e
   | true =>
    simp only [cond_true] at e
    split at e
    · rename_i y' q1 h1
      simp only [Option.some.injEq, Prod.mk.injEq] at e
      obtain ⟨rfl, rfl⟩ := e
      obtain ⟨gh1, hv1, Fe1, p1, g1, a1⟩ := passArr_sound hp hx h1
      exact ⟨gh1, hv1, Fe1, p1, g1, fun z h sh _ => by obtain rfl := Option.some.inj h; exact a1 sh⟩
    · simp at e
 · rename_i id p
   cases hc : (own && q.ex.isEmpty) with
   | false => rw [hc] at e; exact same e
   | true =>
    rw [hc] at e
    simp only [cond_true] at e
    rw [Bool.and_eq_true, List.isEmpty_iff] at hc
    have hst := hp.start hc.2
    split at e
    · rename_i n sz g st' ht
      simp only [Option.some.injEq, Prod.mk.injEq] at e
      obtain ⟨rfl, rfl⟩ := e
      have hat : ∃ A, st.ar id = some A ∧ atP A.g p = .own n sz g ∧ st'.ar id = some ⟨A.n, A.sz, setP A.g p .bad⟩ := by
       rw [hst] at ht
       simp only [St.takeA, St.takeC] at ht
       split at ht
       · rename_i A hA
         split at ht
         · rename_i n' sz' g' hat
           simp only [Option.some.injEq, Prod.mk.injEq, AV.own.injEq] at ht
           obtain ⟨⟨rfl, rfl, rfl⟩, rfl⟩ := ht
           exact ⟨A, hA, hat, upd_self _ _ _⟩
         · simp at ht
       · simp at ht
      obtain ⟨A, hA, hat, hst'⟩ := hat
      have hpv := hx A n sz g hA hat
      have hne : ∃ pre qq, p = pre ++ [qq] := by
       rcases List.eq_nil_or_concat p with rfl | ⟨pre, qq, h⟩
       · simp [atP] at hat
       · exact ⟨pre, qq, by simpa using h⟩
      obtain ⟨pre, qq, rfl⟩ := hne
      obtain ⟨ad, h1, h2, h3⟩ := path_place2 pre ⟨_, _, _, hat⟩ hpv
      obtain ⟨ghq', Fe', p1, g1⟩ := pass_one (bk := .inn id (pre ++ [qq]) n sz) hp hx ht trivial ⟨⟨ad, pre, qq, rfl, h1, h2, fun A' hA' => by rw [hA] at hA'; obtain rfl := Option.some.inj hA'; exact h3⟩, g, rfl⟩ (fun _ _ _ _ h => by simp only [Back.inn.injEq] at h; obtain ⟨rfl, rfl, rfl, rfl⟩ := h; exact ⟨A, hA, hst'⟩)
      refine ⟨ghq', _, Fe', p1, g1, fun z h sh _ => ?_⟩
      obtain rfl := Option.some.inj h
      exact ⟨q.ex.length, n, sz, g, rfl, by simp, (upd_self _ _ _).symm⟩
    · simp at e
 · rename_i sz g
   cases own with
   | false => exact same e
   | true =>
    simp only [cond_true] at e
    split at e
    · rename_i l q1 h1
      simp only [Option.some.injEq, Prod.mk.injEq] at e
      obtain ⟨rfl, rfl⟩ := e
      obtain ⟨vs, rfl, hs, hc⟩ := hx
      obtain ⟨hl, gh1, hv1, Fe1, p1, g1, a1⟩ := passAg_sound (vs := fun j => vs.getD j undef) (List.range sz) hp (fun j hj => (hc j (by simpa using hj)).2) h1
      refine ⟨gh1, hv1, Fe1, p1, g1, fun z h sh hsh => ?_⟩
      obtain rfl := Option.some.inj h
      exact ⟨vs, rfl, hs, fun j hj => ⟨(hc j hj).1, by simpa [List.getD_eq_getElem?_getD, hj] using a1 j (by simpa using hj) sh hsh⟩⟩
    · simp at e
 · rename_i sz g
   cases own with
   | false => exact same e
   | true =>
    simp only [cond_true, Option.some.injEq, Prod.mk.injEq] at e
    obtain ⟨rfl, rfl⟩ := e
    exact ⟨ghq, hv, Fe, hp, .refl _ _, fun z h sh hsh => by obtain rfl := Option.some.inj h; exact hsh _ _ hx⟩
 · exact same e
theorem passL_sound : ∀ (xs : List AV) (owns : List Bool) (vs : List Value) {q q' : Pas} {ghq : Gh} {hv : Nat → Value} {Fe : Nat → Cells} {ys : List (Option AV)}, PInv c gh nt st a w q ghq hv Fe → vs.length = xs.length →
  (∀ j, j < xs.length → TR c.sh gh st.ar st.bx w (xs.getD j .bad) (vs.getD j undef)) → passL q owns xs = some (ys, q') →
  ys.length = xs.length ∧ ∃ ghq' hv' Fe', PInv c gh nt st a w q' ghq' hv' Fe' ∧ Grows q q' hv hv' ∧ ∀ k z, ys[k]? = some (some z) → ∀ sh, (∀ x v, c.sh x v → sh x v) → AR sh q'.ex hv' z (vs.getD k undef) := by
 intro xs
 induction xs with
 | nil =>
  intro owns vs q q' ghq hv Fe ys hp _ _ e
  simp only [passL, Option.some.injEq, Prod.mk.injEq] at e
  obtain ⟨rfl, rfl⟩ := e
  exact ⟨rfl, ghq, hv, Fe, hp, .refl _ _, fun k z h => by simp at h⟩
 | cons x xs ih =>
  intro owns vs q q' ghq hv Fe ys hp hl hx e
  cases vs with
  | nil => simp at hl
  | cons v vs =>
   simp only [passL] at e
   split at e
   · rename_i y q1 h1
     split at e
     · rename_i ys' q2 h2
       simp only [Option.some.injEq, Prod.mk.injEq] at e
       obtain ⟨rfl, rfl⟩ := e
       obtain ⟨gh1, hv1, Fe1, p1, g1, a1⟩ := passX_sound hp (hx 0 (by simp)) h1
       obtain ⟨hl2, gh2, hv2, Fe2, p2, g2, a2⟩ := ih owns.tail vs p1 (by simpa using hl) (fun j hj => hx (j + 1) (by simpa using hj)) h2
       refine ⟨by simp [hl2], gh2, hv2, Fe2, p2, g1.trans g2, fun k z h sh hsh => ?_⟩
       cases k with
       | zero => simp at h; exact AR_mono g2.same _ (a1 z h sh hsh)
       | succ k => exact a2 k z (by simpa using h) sh hsh
     · simp at e
   · simp at e
end
end Go.Fw
namespace Go.Fw
variable [Tok]
section
variable {c : Cx} {gh gh0 : Gh} {nt : Nat} {st st0 : St} {a : Act} {w w0 : World} {P : Program}
theorem TR_backA {sh : AV → Value → Prop} {ar ar0 : ArT} {bx bx0 : BxT} {id n sz : Nat} {g : Nat → Nat → AV} {fa : Nat → Cells} {A : Arr} (e0 : ar0 id = some A) (hn : A.n = n) (hs : A.sz = sz) (x : AV) :
  ∀ {v : Value}, TR sh gh ar bx w x v → TR sh gh0 ar0 bx0 w0 x v → TR sh ⟨upd gh.hd id (gh0.hd id), fa, gh.ba⟩ (upd ar id (some ⟨n, sz, g⟩)) bx w (x.killN id) v := by
 have key : ∀ k B, upd ar id (some ⟨n, sz, g⟩) k = some B → (k = id ∧ B = ⟨n, sz, g⟩) ∨ (k ≠ id ∧ ar k = some B) := fun k B hk => by
  by_cases ek : k = id
  · subst ek; rw [upd_self] at hk; exact .inl ⟨rfl, by simpa using hk.symm⟩
  · rw [upd_ne _ _ ek] at hk; exact .inr ⟨ek, hk⟩
 subst hn hs
 induction x with
 | rf k =>
  intro v h h0 B hB
  rcases key k B hB with ⟨rfl, rfl⟩ | ⟨ek, hB⟩
  · simp only [upd_self]; exact h0 A e0
  · simp only [upd_ne _ _ ek]; exact h B hB
 | rs k a m =>
  intro v h h0 B hB
  rcases key k B hB with ⟨rfl, rfl⟩ | ⟨ek, hB⟩
  · simp only [upd_self]; exact h0 A e0
  · simp only [upd_ne _ _ ek]; exact h B hB
 | rn k p =>
  intro v h h0
  simp only [AV.killN]
  by_cases ek : k = id
  · subst ek; simp only [Nat.beq_refl, cond_true]; trivial
  · rw [beq_ne ek]
    intro B n' sz' g' hB hown
    rcases key k B hB with ⟨e, _⟩ | ⟨_, hB⟩
    · exact absurd e ek
    · simp only [upd_ne _ _ ek]; exact h B n' sz' g' hB hown
 | pe k p i j =>
  intro v h h0
  simp only [AV.killN]
  by_cases ek : k = id
  · subst ek
    cases p with
    | nil =>
     simp only [Nat.beq_refl, List.isEmpty_nil, Bool.not_true, Bool.and_false, cond_false]
     intro B hB
     rcases key k B hB with ⟨_, rfl⟩ | ⟨e, _⟩
     · simp only [upd_self]; exact h0 A e0
     · exact absurd rfl e
    | cons q p => simp only [Nat.beq_refl, List.isEmpty_cons, Bool.not_false, Bool.and_true, cond_true]; trivial
  · rw [beq_ne ek]
    simp only [Bool.false_and, cond_false]
    intro B hB
    rcases key k B hB with ⟨e, _⟩ | ⟨_, hB⟩
    · exact absurd e ek
    · simp only [upd_ne _ _ ek]; exact h B hB
 | ag sz g ih =>
  rintro v ⟨vs, rfl, hs, hv⟩ ⟨vs', e', _, hv'⟩
  obtain rfl : vs = vs' := by simpa using e'
  exact ⟨vs, rfl, hs, fun j hj => ⟨(hv j hj).1, ih j (hv j hj).2 (hv' j hj).2⟩⟩
 | tup sz g ih =>
  rintro v ⟨vs, rfl, hs, hv⟩ ⟨vs', e', _, hv'⟩
  obtain rfl : vs = vs' := by simpa using e'
  exact ⟨vs, rfl, hs, fun j hj => ih j (hv j hj) (hv' j hj)⟩
 | clo f sz g ih =>
  rintro v ⟨vs, rfl, hs, hv⟩ ⟨vs', e', _, hv'⟩
  obtain rfl : vs = vs' := by simpa using e'
  exact ⟨vs, rfl, hs, fun j hj => ih j (hv j hj) (hv' j hj)⟩
 | pb b o => intro v h h0; exact h
 | _ => intro v h h0; exact h
theorem TR_backB {sh : AV → Value → Prop} {ar ar0 : ArT} {bx bx0 : BxT} {b : Nat} {B0 : Nat × (Nat → AV)} {B : Nat × (Nat → AV)} (e0 : bx0 b = some B0) (x : AV) :
  ∀ {v : Value}, TR sh gh ar bx w x v → (TR sh gh0 ar0 bx0 w0 x v ∨ ∀ b, x.noB b) → TR sh ⟨gh.hd, gh.fa, upd gh.ba b (gh0.ba b)⟩ ar (upd bx b (some B)) w x v := by
 induction x with
 | pb k o =>
  intro v h h0 B' hB
  by_cases ek : k = b
  · subst ek
    rcases h0 with h0 | h0
    · simp only [upd_self]; exact h0 B0 e0
    · exact absurd rfl (h0 k)
  · rw [upd_ne _ _ ek] at hB
    simp only [upd_ne _ _ ek]; exact h B' hB
 | ag sz g ih =>
  rintro v ⟨vs, rfl, hs, hv⟩ h0
  refine ⟨vs, rfl, hs, fun j hj => ⟨(hv j hj).1, ih j (hv j hj).2 ?_⟩⟩
  rcases h0 with ⟨vs', e', _, hv'⟩ | h0
  · obtain rfl : vs = vs' := by simpa using e'
    exact .inl (hv' j hj).2
  · exact .inr fun b => h0 b j hj
 | tup sz g ih =>
  rintro v ⟨vs, rfl, hs, hv⟩ h0
  refine ⟨vs, rfl, hs, fun j hj => ih j (hv j hj) ?_⟩
  rcases h0 with ⟨vs', e', _, hv'⟩ | h0
  · obtain rfl : vs = vs' := by simpa using e'
    exact .inl (hv' j hj)
  · exact .inr fun b => h0 b j hj
 | clo f sz g ih =>
  rintro v ⟨vs, rfl, hs, hv⟩ h0
  refine ⟨vs, rfl, hs, fun j hj => ih j (hv j hj) ?_⟩
  rcases h0 with ⟨vs', e', _, hv'⟩ | h0
  · obtain rfl : vs = vs' := by simpa using e'
    exact .inl (hv' j hj)
  · exact .inr fun b => h0 b j hj
 | _ => intro v h h0; exact h
structure ToldS (c : Cx) (gh0 : Gh) (st0 : St) (w0 : World) (strict : Bool) (gh : Gh) (st : St) (a : Act) (w : World) : Prop where
 t : ∀ t, TR c.sh gh0 st0.ar st0.bx w0 (st.t t) (a.tmps.getD t undef)
 b : ∀ b sz g, st.bx b = some (sz, g) → ∀ o, o < sz → ∀ v, cellAt w (gh.ba b).block ((gh.ba b).off + o) = some v → TR c.sh gh0 st0.ar st0.bx w0 (g o) v ∨ (strict = false ∧ ∀ b, (g o).noB b)
theorem Inv.backA {id n sz : Nat} {g : Nat → Nat → AV} {F FL : Cells} {A : Arr} (h : Inv c gh nt st a w) (hI0 : Fix c gh0 st0.ar st0.bx) (ht : ToldS c gh0 st0 w0 true gh st a w) (e0 : st0.ar id = some A) (hn : A.n = n) (hs : A.sz = sz)
  (hr : RO w c.sh (.own n sz g) (.slice (gh0.hd id).1 n (gh0.hd id).2) F) (hF : Free c gh st.ar st.bx w (fun b o => FL b o ∨ F b o)) (hap : ∀ b o, F b o → ¬ FL b o) :
  ∃ gh', gh'.ba = gh.ba ∧ Inv c gh' nt ((st.map (AV.killN id)).setA id (some ⟨n, sz, g⟩)) a w ∧ Free c gh' ((st.map (AV.killN id)).setA id (some ⟨n, sz, g⟩)).ar ((st.map (AV.killN id)).setA id (some ⟨n, sz, g⟩)).bx w FL ∧
   ToldS c gh0 st0 w0 true gh' ((st.map (AV.killN id)).setA id (some ⟨n, sz, g⟩)) a w := by
 let gh' : Gh := ⟨upd gh.hd id (gh0.hd id), upd gh.fa id F, gh.ba⟩
 let st' : St := (st.map (AV.killN id)).setA id (some ⟨n, sz, g⟩)
 have hT : ∀ x v, TR c.sh gh st.ar st.bx w x v → TR c.sh gh0 st0.ar st0.bx w0 x v → TR c.sh gh' st'.ar st'.bx w (x.killN id) v := fun x v h1 h2 =>
  TR_weaken (bx := st.bx) (fun _ _ e => e) (fun b B e => map_ex (st := st) (f := AV.killN id) e) _ (TR_backA (gh0 := gh0) (fa := upd gh.fa id F) e0 hn hs x h1 h2)
 have hlv : ∀ r, r ≠ .inl id → live st'.ar st'.bx r → live st.ar st.bx r := by
  rintro (k | b) hr hl
  · have : k ≠ id := fun e => hr (by rw [e])
    have hl' : (upd st.ar id (some ⟨n, sz, g⟩) k).isSome := hl
    rw [upd_ne _ _ this] at hl'; exact hl'
  · exact (live_map (ar := st.ar) _ (.inr b)).1 hl
 have hfp : ∀ r, r ≠ .inl id → fp gh' st'.bx r = fp gh st.bx r := by
  rintro (k | b) hr
  · have : k ≠ id := fun e => hr (by rw [e])
    exact upd_ne _ _ this
  · exact fp_map (gh := gh) _ (.inr b)
 have hfs : fp gh' st'.bx (.inl id) = F := upd_self _ _ _
 refine ⟨gh', rfl, ⟨h.defers, h.size, fun t => hT _ _ (h.temps t) (ht.t t), ?_, ?_⟩, fun x y hx => ⟨fun r hl hf => ?_, (hF x y (.inl hx)).2⟩, ⟨fun t => TR_killN id _ (ht.t t), fun b sz' g' e o ho v hv => ?_⟩⟩
 · refine h.mem.gen (D := fun _ _ => False) (G := F) (· = .inl id) (Chg.refl w _) (fun _ _ h => h.elim) (fun x y hx => ⟨fun r _ hl => (hF x y (.inr hx)).1 r hl, (hF x y (.inr hx)).2⟩) ?_ ?_ ?_ ?_ ?_ ?_
   · intro k B hk e
     have ek : k ≠ id := fun e => hk (by rw [e])
     have e' : upd st.ar id (some ⟨n, sz, g⟩) k = some B := e
     rw [upd_ne _ _ ek] at e'
     exact ⟨e', upd_ne _ _ ek, upd_ne _ _ ek⟩
   · intro b sz' g' _ e
     obtain ⟨g'', e', rfl⟩ := map_some (bx := st.bx) e
     refine ⟨g'', e', rfl, fun o ho v hv t => hT _ _ t ?_⟩
     rcases ht.b b sz' g'' e' o ho v hv with h1 | h1
     · exact h1
     · simp at h1
   · intro k B hk e
     obtain rfl : k = id := by simpa using hk
     have e' : upd st.ar k (some ⟨n, sz, g⟩) k = some B := e
     rw [upd_self] at e'
     obtain rfl := Option.some.inj e'
     simp only [gh', upd_self]; exact hr
   · intro b sz g hk; simp at hk
   · rintro r x y rfl hlr hf
     rw [hfs] at hf; exact .inr hf
   · rintro r r' x y rfl rfl hn; exact absurd rfl hn
 · refine ⟨fun k hk => ?_, h.fix.ba, fun k B hk e => ?_, fun b B hb e => ?_⟩
   · by_cases ek : k = id
     · subst ek; simp only [gh', upd_self]; exact hI0.hd k hk
     · simp only [gh', upd_ne _ _ ek]; exact h.fix.hd k hk
   · have e' : upd st.ar id (some ⟨n, sz, g⟩) k = some B := e
     by_cases ek : k = id
     · subst ek
       rw [upd_self] at e'
       obtain rfl := Option.some.inj e'
       have := hI0.n k A hk e0
       exact ⟨by rw [← this.1]; exact hn.symm, by rw [← this.2]; exact hs.symm⟩
     · rw [upd_ne _ _ ek] at e'; exact h.fix.n k B hk e'
   · obtain ⟨g'', e', hg⟩ := map_some (bx := st.bx) (sz := B.1) (g := B.2) e
     exact h.fix.z b (B.1, g'') hb e'
 · by_cases er : r = .inl id
   · subst er
     rw [hfs] at hf
     exact hap x y hf hx
   · rw [hfp r er] at hf
     exact (hF x y (.inl hx)).1 r (hlv r er hl) hf
 · obtain ⟨g'', e', rfl⟩ := map_some (bx := st.bx) e
   rcases ht.b b sz' g'' e' o ho v hv with h1 | h1
   · exact .inl (TR_killN id _ h1)
   · simp at h1
end
end Go.Fw
namespace Go.Fw
variable [Tok]
section
variable {c : Cx} {gh gh0 : Gh} {nt : Nat} {st st0 : St} {a : Act} {w w0 : World} {P : Program}
def Rest (n : Nat) (Fe : Nat → Cells) : Cells := fun b o => ∃ k, k < n ∧ Fe k b o
theorem backA_sound {wb : World} (hI0 : Fix c gh0 st0.ar st0.bx) : ∀ (xs : List AV) (ks : List Back) {gh : Gh} {st : St} {hv : Nat → Value} {Fe : Nat → Cells} {FL : Cells}, ks.length = xs.length → (ks.any Back.isInn) = false →
  (∀ i x bk, xs[i]? = some x → ks[i]? = some bk → RV w c.sh x (hv i) (Fe i) ∧ BackOk wb gh0 st0 (hv i) x bk) →
  (∀ i m b o, i < xs.length → m < xs.length → i ≠ m → Fe i b o → ¬ Fe m b o) → (∀ i b o, i < xs.length → Fe i b o → ¬ FL b o) →
  Inv c gh nt st a w → ToldS c gh0 st0 w0 true gh st a w → Free c gh st.ar st.bx w (fun b o => FL b o ∨ Rest xs.length Fe b o) →
  ∃ gh', Inv c gh' nt (backA st xs ks) a w ∧ ToldS c gh0 st0 w0 true gh' (backA st xs ks) a w ∧
   Free c gh' (backA st xs ks).ar (backA st xs ks).bx w (fun b o => FL b o ∨ ∃ i bb sz, ks[i]? = some (.box bb sz) ∧ Fe i b o) := by
 intro xs
 induction xs with
 | nil =>
  intro ks gh st hv Fe FL hl _ _ _ _ h ht hF
  have : ks = [] := by simpa using hl
  subst this
  exact ⟨gh, h, ht, hF.mono fun x y hx => by rcases hx with hx | ⟨i, _, _, hi, _⟩; exact .inl hx; simp at hi⟩
 | cons x xs ih =>
  intro ks gh st hv Fe FL hl hni hrel hdis hap h ht hF
  cases ks with
  | nil => simp at hl
  | cons bk ks =>
   have hl' : ks.length = xs.length := by simpa using hl
   obtain ⟨hrv, hbk⟩ := hrel 0 x bk (by simp) (by simp)
   have hrel' : ∀ i x bk, xs[i]? = some x → ks[i]? = some bk → RV w c.sh x (hv (i + 1)) (Fe (i + 1)) ∧ BackOk wb gh0 st0 (hv (i + 1)) x bk := fun i x bk h1 h2 => hrel (i + 1) x bk (by simpa using h1) (by simpa using h2)
   have hdis' : ∀ i m b o, i < xs.length → m < xs.length → i ≠ m → Fe (i + 1) b o → ¬ Fe (m + 1) b o := fun i m b o hi hm hn => hdis (i + 1) (m + 1) b o (by simp; omega) (by simp; omega) (by omega)
   have hni' : ks.any Back.isInn = false := by simp only [List.any_cons, Bool.or_eq_false_iff] at hni; exact hni.2
   cases bk with
   | inn id p n sz => simp [Back.isInn] at hni
   | arr id n sz =>
    obtain ⟨⟨A, hA, hn, hs⟩, hv0, g, rfl⟩ := hbk
    rw [hv0] at hrv
    obtain ⟨gh1, _, h1, f1, t1⟩ := h.backA (FL := fun b o => FL b o ∨ Rest xs.length (fun k => Fe (k + 1)) b o) hI0 ht hA hn hs hrv (hF.mono fun b o hb => by
      rcases hb with (hb | ⟨k, hk, hb⟩) | hb
      · exact .inl hb
      · exact .inr ⟨k + 1, by simp; omega, hb⟩
      · exact .inr ⟨0, by simp, hb⟩) (fun b o hb hfl => by
      rcases hfl with hfl | ⟨k, hk, hfl⟩
      · exact hap 0 b o (by simp) hb hfl
      · exact hdis 0 (k + 1) b o (by simp) (by simp; omega) (by omega) hb hfl)
    obtain ⟨gh2, h2, t2, f2⟩ := ih ks (hv := fun i => hv (i + 1)) (Fe := fun i => Fe (i + 1)) (FL := FL) hl' hni' hrel' hdis' (fun i b o hi => hap (i + 1) b o (by simp; omega)) h1 t1 f1
    refine ⟨gh2, h2, t2, f2.mono fun b o hb => hb.imp (fun h => h) fun ⟨i, bb, sz', h1, h2⟩ => ?_⟩
    cases i with
    | zero => simp at h1
    | succ i => exact ⟨i, bb, sz', by simpa using h1, h2⟩
   | box bb sz =>
    obtain ⟨gh2, h2, t2, f2⟩ := ih ks (hv := fun i => hv (i + 1)) (Fe := fun i => Fe (i + 1)) (FL := fun b o => FL b o ∨ Fe 0 b o) hl' hni' hrel' hdis' (fun i b o hi hb hfl => by
      rcases hfl with hfl | hfl
      · exact hap (i + 1) b o (by simp; omega) hb hfl
      · exact hdis (i + 1) 0 b o (by simp; omega) (by simp) (by omega) hb hfl) h ht (hF.mono fun b o hb => by
      rcases hb with (hb | hb) | ⟨k, hk, hb⟩
      · exact .inl hb
      · exact .inr ⟨0, by simp, hb⟩
      · exact .inr ⟨k + 1, by simp; omega, hb⟩)
    refine ⟨gh2, h2, t2, f2.mono fun b o hb => ?_⟩
    rcases hb with hb | ⟨i, bb', sz', h1, h2⟩
    · exact .inl (.inl hb)
    · cases i with
      | zero => exact .inl (.inr h2)
      | succ i => exact .inr ⟨i, bb', sz', by simpa using h1, h2⟩
theorem layL_keepsT {base : Nat} {g : Nat → AV} (Q : AV → Prop) (hQ : ∀ x id, Q x → Q (x.killA id)) {t : Nat} : ∀ (js : List Nat) {st : St}, Q (st.t t) → Q ((st.layL base g js).t t) := by
 intro js
 induction js with
 | nil => intro st h; exact h
 | cons j js ih =>
  intro st h
  refine ih ?_
  unfold St.layC
  split
  · exact hQ _ _ h
  · exact h
theorem layL_keepsB {base : Nat} {g : Nat → AV} (Q : AV → Prop) (hQ : ∀ x id, Q x → Q (x.killA id)) {b : Nat} {B : Nat × (Nat → AV)} : ∀ (js : List Nat) {st : St}, (st.layL base g js).bx b = some B → ∃ B0, st.bx b = some B0 ∧ B.1 = B0.1 ∧ ∀ o, Q (B0.2 o) → Q (B.2 o) := by
 intro js
 induction js with
 | nil => intro st h; exact ⟨B, h, rfl, fun _ h => h⟩
 | cons j js ih =>
  intro st h
  obtain ⟨B1, e1, h1, q1⟩ := ih h
  unfold St.layC at e1
  split at e1
  · obtain ⟨g', e', hg⟩ := map_some (bx := st.bx) (sz := B1.1) (g := B1.2) e1
    exact ⟨_, e', h1, fun o hq => q1 o (by rw [hg]; exact hQ _ _ hq)⟩
  · exact ⟨B1, e1, h1, q1⟩
theorem noB_killA {b id : Nat} (x : AV) : x.noB b → (x.killA id).noB b := by
 induction x with
 | rf k => intro _; simp only [AV.killA]; cases Nat.beq k id <;> trivial
 | rs k _ _ => intro _; simp only [AV.killA]; cases Nat.beq k id <;> trivial
 | rn k _ => intro _; simp only [AV.killA]; cases Nat.beq k id <;> trivial
 | pe k _ _ _ => intro _; simp only [AV.killA]; cases Nat.beq k id <;> trivial
 | ag sz g ih => intro h j hj; exact ih j (h j hj)
 | tup sz g ih => intro h j hj; exact ih j (h j hj)
 | clo f sz g ih => intro h j hj; exact ih j (h j hj)
 | _ => intro h; exact h
theorem Inv.backB {b sz base : Nat} {g : Nat → AV} {v : Value} {F FL : Cells} {g0 : Nat → AV} (hlo : c.lim * 4096 ≤ base) (h : Inv c gh nt st a w) (hI0 : Fix c gh0 st0.ar st0.bx) (ht : ToldS c gh0 st0 w0 false gh st a w) (e0 : st0.bx b = some (sz, g0))
  (hv : v = .pointer (some ⟨(gh0.ba b).block, (gh0.ba b).off + 0, none⟩)) (hsp0 : (gh0.ba b).spot = none)
  (hr : RV w c.sh (.nbx sz g) v F) (hF : Free c gh st.ar st.bx w (fun b o => FL b o ∨ F b o)) (hap : ∀ b o, F b o → ¬ FL b o) :
  ∃ gh', Inv c gh' nt ((st.layL base g (List.range sz)).setB b (some (sz, fun j => (g j).refd (base + j)))) a w ∧
   Free c gh' ((st.layL base g (List.range sz)).setB b (some (sz, fun j => (g j).refd (base + j)))).ar ((st.layL base g (List.range sz)).setB b (some (sz, fun j => (g j).refd (base + j)))).bx w FL ∧
   ToldS c gh0 st0 w0 false gh' ((st.layL base g (List.range sz)).setB b (some (sz, fun j => (g j).refd (base + j)))) a w := by
 subst hv
 obtain ⟨ad, e, hsp, hin, vs, hc, Fs, h1, h2, h3⟩ := hr
 have had : ad = gh0.ba b := by
  have : (⟨(gh0.ba b).block, (gh0.ba b).off + 0, none⟩ : Addr) = ad := by simpa using e
  rw [← this]; cases hb : gh0.ba b; rw [hb] at hsp0; simp at hsp0; simp [hsp0]
 obtain ⟨gh1, l, tj⟩ := layL_sound (vs := vs) (base := base) (g := g) (FL := fun b o => FL b o ∨ In ad sz b o) (Fs := Fs) hlo (List.range sz) List.nodup_range h (fun j hj => h3 j (by simpa using hj))
  (hF.mono fun x y hx => by
   rcases hx with (hx | hx) | ⟨j, hj, hx⟩
   · exact .inl hx
   · exact .inr (hin x y hx)
   · exact .inr (h1 j x y (by simpa using hj) hx).1)
  (fun j b o hj hb hfl => by
   rcases hfl with hfl | hfl
   · exact hap b o (h1 j b o (by simpa using hj) hb).1 hfl
   · exact (h1 j b o (by simpa using hj) hb).2 hfl)
  (fun j k b o hj hk hn => h2 j k b o (by simpa using hj) (by simpa using hk) hn)
 have htT : ∀ t, TR c.sh gh0 st0.ar st0.bx w0 ((st.layL base g (List.range sz)).t t) (a.tmps.getD t undef) := fun t =>
  layL_keepsT (fun x => TR c.sh gh0 st0.ar st0.bx w0 x (a.tmps.getD t undef)) (fun x id hx => TR_killA id x hx) _ (ht.t t)
 have htB : ∀ k B, (st.layL base g (List.range sz)).bx k = some B → ∀ o, o < B.1 → ∀ v, cellAt w (gh1.ba k).block ((gh1.ba k).off + o) = some v → TR c.sh gh0 st0.ar st0.bx w0 (B.2 o) v ∨ ((false : Bool) = false ∧ ∀ b, (B.2 o).noB b) := fun k B e o ho v hv => by
  obtain ⟨B0, e0, hs0, hq⟩ := layL_keepsB (fun x => TR c.sh gh0 st0.ar st0.bx w0 x v ∨ ((false : Bool) = false ∧ ∀ b, x.noB b)) (fun x id hx => hx.imp (TR_killA id x) (fun h => ⟨rfl, fun b => noB_killA x (h.2 b)⟩)) _ e
  rw [l.ba] at hv
  exact hq o (ht.b k B0.1 B0.2 e0 o (by omega) v hv)
 let gh' : Gh := ⟨gh1.hd, gh1.fa, upd gh1.ba b (gh0.ba b)⟩
 let st' : St := (st.layL base g (List.range sz)).setB b (some (sz, fun j => (g j).refd (base + j)))
 have hT : ∀ x v, TR c.sh gh1 (st.layL base g (List.range sz)).ar (st.layL base g (List.range sz)).bx w x v → (TR c.sh gh0 st0.ar st0.bx w0 x v ∨ ∀ b, x.noB b) → TR c.sh gh' st'.ar st'.bx w x v := fun x v q1 q2 =>
  TR_backB (gh0 := gh0) (w0 := w0) (ar0 := st0.ar) e0 x q1 q2
 have hlv : ∀ r, r ≠ .inr b → live st'.ar st'.bx r → live (st.layL base g (List.range sz)).ar (st.layL base g (List.range sz)).bx r := by
  rintro (k | k) hr hl
  · exact hl
  · have : k ≠ b := fun e => hr (by rw [e])
    have hl' : (upd (st.layL base g (List.range sz)).bx b (some (sz, fun j => (g j).refd (base + j))) k).isSome := hl
    rw [upd_ne _ _ this] at hl'; exact hl'
 have hfp : ∀ r x y, r ≠ .inr b → fp gh' st'.bx r x y → fp gh1 (st.layL base g (List.range sz)).bx r x y := by
  rintro (k | k) x y hr hf
  · exact hf
  · have : k ≠ b := fun e => hr (by rw [e])
    obtain ⟨B, eB, hi⟩ := hf
    have eB' : upd (st.layL base g (List.range sz)).bx b (some (sz, fun j => (g j).refd (base + j))) k = some B := eB
    rw [upd_ne _ _ this] at eB'
    have hi' : In (upd gh1.ba b (gh0.ba b) k) B.1 x y := hi
    rw [upd_ne _ _ this] at hi'
    exact ⟨B, eB', hi'⟩
 have hfs : ∀ x y, fp gh' st'.bx (.inr b) x y → In ad sz x y := by
  rintro x y ⟨B, eB, hi⟩
  have eB' : upd (st.layL base g (List.range sz)).bx b (some (sz, fun j => (g j).refd (base + j))) b = some B := eB
  rw [upd_self] at eB'
  obtain rfl := Option.some.inj eB'
  have hi' : In (upd gh1.ba b (gh0.ba b) b) sz x y := hi
  rw [upd_self, ← had] at hi'
  exact hi'
 refine ⟨gh', ⟨l.inv.defers, l.inv.size, fun t => hT _ _ (l.inv.temps t) (.inl (htT t)), ?_, ?_⟩, fun x y hx => ⟨fun r hl hf => ?_, (l.free x y (.inl hx)).2⟩, ⟨htT, fun k sz' g' e o ho v hv => ?_⟩⟩
 · refine l.inv.mem.gen (D := fun _ _ => False) (G := In ad sz) (· = .inr b) (Chg.refl w _) (fun _ _ h => h.elim) (fun x y hx => ⟨fun r _ hl => (l.free x y (.inr hx)).1 r hl, (l.free x y (.inr hx)).2⟩) ?_ ?_ ?_ ?_ ?_ ?_
   · intro id A _ e; exact ⟨e, rfl, rfl⟩
   · intro k sz' g' hk e
     have ek : k ≠ b := fun e => hk (by rw [e])
     have e' : upd (st.layL base g (List.range sz)).bx b (some (sz, fun j => (g j).refd (base + j))) k = some (sz', g') := e
     rw [upd_ne _ _ ek] at e'
     exact ⟨g', e', upd_ne _ _ ek, fun o ho v hv t => hT _ _ t ((htB k _ e' o ho v hv).imp (fun h => h) (fun h => h.2))⟩
   · intro id A hk; simp at hk
   · intro k sz' g' hk e
     obtain rfl : k = b := by simpa using hk
     have e' : upd (st.layL base g (List.range sz)).bx k (some (sz, fun j => (g j).refd (base + j))) k = some (sz', g') := e
     rw [upd_self] at e'
     obtain ⟨rfl, rfl⟩ : sz = sz' ∧ (fun j => (g j).refd (base + j)) = g' := by simpa using e'
     simp only [gh', upd_self]
     refine ⟨hsp0, fun o ho => ?_⟩
     obtain ⟨c1, c2, c3⟩ := hc o ho
     rw [had] at c1 c2
     exact ⟨vs o, c1, c2, c3, hT _ _ (tj o (by simpa using ho)) (.inr fun b => refd_noB (h3 o ho))⟩
   · rintro r x y rfl hlr hf; exact .inr (hfs x y hf)
   · rintro r r' x y rfl rfl hn; exact absurd rfl hn
 · refine ⟨l.inv.fix.hd, fun k hk => ?_, l.inv.fix.n, fun k B hk e => ?_⟩
   · by_cases ek : k = b
     · subst ek; simp only [gh', upd_self]; exact hI0.ba k hk
     · simp only [gh', upd_ne _ _ ek]; exact l.inv.fix.ba k hk
   · have e' : upd (st.layL base g (List.range sz)).bx b (some (sz, fun j => (g j).refd (base + j))) k = some B := e
     by_cases ek : k = b
     · subst ek
       rw [upd_self] at e'
       obtain rfl := Option.some.inj e'
       exact hI0.z k (sz, g0) hk e0
     · rw [upd_ne _ _ ek] at e'; exact l.inv.fix.z k B hk e'
 · by_cases er : r = .inr b
   · subst er
     exact hap x y (hin x y (hfs x y hf)) hx
   · exact (l.free x y (.inl hx)).1 r (hlv r er hl) (hfp r x y er hf)
 · have e' : upd (st.layL base g (List.range sz)).bx b (some (sz, fun j => (g j).refd (base + j))) k = some (sz', g') := e
   by_cases ek : k = b
   · subst ek
     rw [upd_self] at e'
     obtain ⟨rfl, rfl⟩ : sz = sz' ∧ (fun j => (g j).refd (base + j)) = g' := by simpa using e'
     exact .inr ⟨rfl, fun b => refd_noB (h3 o ho)⟩
   · rw [upd_ne _ _ ek] at e'
     have hv' : cellAt w (upd gh1.ba b (gh0.ba b) k).block ((upd gh1.ba b (gh0.ba b) k).off + o) = some v := hv
     rw [upd_ne _ _ ek] at hv'
     exact htB k _ e' o ho v hv'
theorem backB_sound {wb : World} (hI0 : Fix c gh0 st0.ar st0.bx) (hsp : ∀ b B, st0.bx b = some B → (gh0.ba b).spot = none) : ∀ (xs : List AV) (ks : List Back) {gh : Gh} {st : St} {hv : Nat → Value} {Fe : Nat → Cells} {FL : Cells} {base : Nat}, c.lim * 4096 ≤ base → ks.length = xs.length → (ks.any Back.isInn) = false →
  (∀ i x bk, xs[i]? = some x → ks[i]? = some bk → RV w c.sh x (hv i) (Fe i) ∧ BackOk wb gh0 st0 (hv i) x bk) →
  (∀ i m b o, i < xs.length → m < xs.length → i ≠ m → Fe i b o → ¬ Fe m b o) → (∀ i b o, i < xs.length → Fe i b o → ¬ FL b o) →
  Inv c gh nt st a w → ToldS c gh0 st0 w0 false gh st a w → Free c gh st.ar st.bx w (fun b o => FL b o ∨ ∃ i bb sz, ks[i]? = some (.box bb sz) ∧ Fe i b o) →
  ∃ gh', Inv c gh' nt (backB st base xs ks) a w ∧ Free c gh' (backB st base xs ks).ar (backB st base xs ks).bx w FL := by
 intro xs
 induction xs with
 | nil =>
  intro ks gh st hv Fe FL base hlo hl _ _ _ _ h ht hF
  have : ks = [] := by simpa using hl
  subst this
  exact ⟨gh, h, hF.mono fun x y hx => .inl hx⟩
 | cons x xs ih =>
  intro ks gh st hv Fe FL base hlo hl hni hrel hdis hap h ht hF
  cases ks with
  | nil => simp at hl
  | cons bk ks =>
   have hl' : ks.length = xs.length := by simpa using hl
   obtain ⟨hrv, hbk⟩ := hrel 0 x bk (by simp) (by simp)
   have hrel' : ∀ i x bk, xs[i]? = some x → ks[i]? = some bk → RV w c.sh x (hv (i + 1)) (Fe (i + 1)) ∧ BackOk wb gh0 st0 (hv (i + 1)) x bk := fun i x bk h1 h2 => hrel (i + 1) x bk (by simpa using h1) (by simpa using h2)
   have hdis' : ∀ i m b o, i < xs.length → m < xs.length → i ≠ m → Fe (i + 1) b o → ¬ Fe (m + 1) b o := fun i m b o hi hm hn => hdis (i + 1) (m + 1) b o (by simp; omega) (by simp; omega) (by omega)
   have hks : ∀ i bb sz, ks[i]? = some (.box bb sz) → i < xs.length := fun i bb sz h => by
    have := (List.getElem?_eq_some_iff.1 h).1; omega
   have hni' : ks.any Back.isInn = false := by simp only [List.any_cons, Bool.or_eq_false_iff] at hni; exact hni.2
   cases bk with
   | inn id p n sz => simp [Back.isInn] at hni
   | arr id n sz =>
    exact ih ks (hv := fun i => hv (i + 1)) (Fe := fun i => Fe (i + 1)) (FL := FL) (base := base + 64) (by omega) hl' hni' hrel' hdis' (fun i b o hi => hap (i + 1) b o (by simp; omega)) h ht (hF.mono fun b o hb => hb.imp (fun h => h) fun ⟨i, bb, sz', h1, h2⟩ => ⟨i + 1, bb, sz', by simpa using h1, h2⟩)
   | box bb sz =>
    obtain ⟨⟨g0, e0⟩, hv0, g, rfl⟩ := hbk
    obtain ⟨gh1, h1, f1, t1⟩ := h.backB (FL := fun b o => FL b o ∨ ∃ i bb sz, ks[i]? = some (.box bb sz) ∧ Fe (i + 1) b o) hlo hI0 ht e0 hv0 (hsp _ _ e0) hrv (hF.mono fun b o hb => by
      rcases hb with (hb | ⟨k, bb', sz', hk, hb⟩) | hb
      · exact .inl hb
      · exact .inr ⟨k + 1, bb', sz', by simpa using hk, hb⟩
      · exact .inr ⟨0, bb, sz, by simp, hb⟩) (fun b o hb hfl => by
      rcases hfl with hfl | ⟨k, bb', sz', hk, hfl⟩
      · exact hap 0 b o (by simp) hb hfl
      · exact hdis 0 (k + 1) b o (by simp) (by have := hks k bb' sz' hk; simp; omega) (by omega) hb hfl)
    exact ih ks (hv := fun i => hv (i + 1)) (Fe := fun i => Fe (i + 1)) (FL := FL) (base := base + 64) (by omega) hl' hni' hrel' hdis' (fun i b o hi => hap (i + 1) b o (by simp; omega)) h1 t1 f1
end
end Go.Fw
namespace Go.Fw
variable [Tok]
section
variable {c : Cx} {gh : Gh} {nt : Nat} {st : St} {a : Act} {w : World} {P : Program} {R : Type} {r : R}
theorem lent_get {st : St} : ∀ (ys : List (Option AV)) (xs : List AV), ys.length = xs.length → (lent st ys xs).length = xs.length ∧
  ∀ j, j < xs.length → (∃ z, ys[j]? = some (some z) ∧ (lent st ys xs).getD j .bad = z) ∨ (ys[j]? = some none ∧ (lent st ys xs).getD j .bad = st.borA (xs.getD j .bad)) := by
 intro ys
 induction ys with
 | nil => intro xs h; have : xs = [] := by simpa using h.symm
          subst this; exact ⟨rfl, fun j hj => absurd hj (by simp)⟩
 | cons y ys ih =>
  intro xs h
  cases xs with
  | nil => simp at h
  | cons x xs =>
   obtain ⟨h1, h2⟩ := ih xs (by simpa using h)
   cases y with
   | none =>
    refine ⟨by simp [lent, h1], fun j hj => ?_⟩
    cases j with
    | zero => exact .inr ⟨rfl, rfl⟩
    | succ j => exact h2 j (by simpa using hj)
   | some z =>
    refine ⟨by simp [lent, h1], fun j hj => ?_⟩
    cases j with
    | zero => exact .inl ⟨z, rfl, rfl⟩
    | succ j => exact h2 j (by simpa using hj)
theorem likeL_get : ∀ (es ys : List AV), likeL es ys = ys → ∀ (k : Nat) (x : AV), ys[k]? = some x → ∃ e : AV, es[k]? = some e ∧ e.likeE x = x := by
 intro es
 induction es with
 | nil => intro ys h k x hk; have : ys = [] := by simpa [likeL] using h.symm
          subst this; simp at hk
 | cons e es ih =>
  intro ys h k x hk
  cases ys with
  | nil => simp [likeL] at h
  | cons y ys =>
   simp only [likeL, List.headD_cons, List.tail_cons, List.cons.injEq] at h
   cases k with
   | zero => simp at hk; subst hk; exact ⟨e, by simp, h.1⟩
   | succ k => obtain ⟨e', h1, h2⟩ := ih ys h.2 k x (by simpa using hk); exact ⟨e', by simpa using h1, h2⟩
theorem lim_le (c : Cx) : c.lim ≤ 64 := by unfold Cx.lim; cases c.lo <;> simp
theorem aid_lo (c : Cx) (d k : Nat) : c.lim * 4096 ≤ aid d k := by
 have := lim_le c
 unfold aid; omega
theorem bid_lo (c : Cx) (d : Nat) : c.lim ≤ bid d := by
 have := lim_le c
 unfold bid; omega
theorem killN_inv' (id : Nat) (h : Inv c gh nt st a w) : Inv c gh nt (st.map (AV.killN id)) a w := h.map _ fun x v t => TR_killN id x t
theorem setCell_same {w : World} {ad : Addr} {v : Value} (hs : ad.spot = none) (h : cellAt w ad.block ad.off = some v) : w.setCell ad v = w := by
 unfold cellAt World.cell? at h
 have e : w.heap.modify ad.block (fun
   | .cells c elem frozen => .cells (if ad.spot.isSome then c else c.setIfInBounds ad.off v) elem frozen
   | o => o) = w.heap := by
  apply Array.ext_getElem?
  intro i
  rw [Array.getElem?_modify]
  split
  · rename_i hi
    subst hi
    cases hb : w.heap[ad.block]? with
    | none => rfl
    | some o =>
     rw [hb] at h
     cases o with
     | cells c e f =>
      simp only [Option.isSome_none, Bool.false_eq_true, if_false] at h
      have hc : c.setIfInBounds ad.off v = c := by
       apply Array.ext_getElem?
       intro j
       rw [Array.getElem?_setIfInBounds]
       split
       · rename_i hj
         subst hj
         split
         · exact h.symm
         · rename_i hl; rw [Array.getElem?_eq_none (by omega)] at h; simp at h
       · rfl
      simp [hs, hc]
     | _ => simp at h
  · rfl
 unfold World.setCell
 exact congrArg (fun hp => ({ w with heap := hp } : World)) e
theorem upd2_upd2 (g : Nat → Nat → AV) (i j : Nat) (x y : AV) : upd2 (upd2 g i j x) i j y = upd2 g i j y := by
 funext i' j'
 by_cases h : i' = i ∧ j' = j
 · obtain ⟨rfl, rfl⟩ := h; rw [upd2_self, upd2_self]
 · rw [upd2_ne _ _ h, upd2_ne _ _ h, upd2_ne _ _ h]
theorem setP_setP (x y : AV) : ∀ (p : List (Nat × Nat)) (g : Nat → Nat → AV), setP (setP g p x) p y = setP g p y := by
 intro p
 induction p with
 | nil => intro g; rfl
 | cons ij p ih =>
  obtain ⟨i, j⟩ := ij
  intro g
  cases p with
  | nil => simp only [setP]; exact upd2_upd2 _ _ _ _ _
  | cons b bs =>
   simp only [setP]
   rw [upd2_self, upd2_upd2]
   congr 1
   cases g i j with
   | own n sz h => simp only; rw [ih]
   | _ => rfl
theorem atP_pre {x : AV} {qq : Nat × Nat} : ∀ (pre : List (Nat × Nat)) {g : Nat → Nat → AV} {n sz : Nat} {h : Nat → Nat → AV}, atP g pre = .own n sz h → ∃ h', atP (setP g (pre ++ [qq]) x) pre = .own n sz h' := by
 intro pre
 induction pre with
 | nil => intro g n sz h e; simp [atP] at e
 | cons ij pre ih =>
  obtain ⟨i, j⟩ := ij
  intro g n sz h e
  cases pre with
  | nil =>
   simp only [atP] at e
   simp only [List.cons_append, List.nil_append, setP, atP, e]
   exact ⟨_, upd2_self _ _ _ _⟩
  | cons b bs =>
   simp only [atP] at e
   simp only [List.cons_append, setP, atP]
   rw [upd2_self]
   cases hg : g i j with
   | own n3 sz3 h3 =>
    rw [hg] at e
    simp only at e ⊢
    exact ih e
   | _ => rw [hg] at e; simp at e
theorem backI_sound {id n sz : Nat} {pre : List (Nat × Nat)} {qq : Nat × Nat} {g : Nat → Nat → AV} {st0 st' : St} {A : Arr} {ad : Addr} {v : Value} {F' FL : Cells} (h : Inv c gh nt st a w) (e : backI st0 st id (pre ++ [qq]) n sz (.own n sz g) = some st')
  (hA : st0.ar id = some A) (hB : st.ar id = some ⟨A.n, A.sz, setP A.g (pre ++ [qq]) .bad⟩)
  (hs : ad.spot = none) (hc : cellAt w ad.block ad.off = some v ∨ (pre = [] ∨ ∃ n' sz' h, atP (setP A.g (pre ++ [qq]) .bad) pre = .own n' sz' h) → cellAt w ad.block ad.off = some v) (hpl : placeV w (gh.hd id).1 A.n A.sz (setP A.g (pre ++ [qq]) .bad) pre qq.1 qq.2 (.pointer (some ad)))
  (hx : RO w c.sh (.own n sz g) v F') (hF : Free c gh st.ar st.bx w (fun b o => FL b o ∨ F' b o)) (hap : ∀ b o, F' b o → ¬ FL b o) :
  ∃ gh', Inv c gh' nt st' a w ∧ Free c gh' st'.ar st'.bx w FL := by
 unfold backI at e
 rw [hA] at e
 have hrev : (pre ++ [qq]).reverse = qq :: pre.reverse := by simp
 rw [hrev] at e
 simp only [List.reverse_reverse] at e
 cases hok : (pre.reverse.isEmpty || isOwn (atP A.g pre)) with
 | false => rw [hok] at e; simp at e
 | true =>
  rw [hok] at e
  simp only [cond_true, Option.some.injEq] at e
  have hat : pre = [] ∨ ∃ n' sz' h, atP (setP A.g (pre ++ [qq]) .bad) pre = .own n' sz' h := by
   rw [Bool.or_eq_true] at hok
   rcases hok with hok | hok
   · left; simpa using hok
   · right
     cases ha : atP A.g pre with
     | own n' sz' h => obtain ⟨h', e'⟩ := atP_pre (x := .bad) (qq := qq) pre ha; exact ⟨n', sz', h', e'⟩
     | _ => rw [ha] at hok; simp [isOwn] at hok
  have hc := hc (.inr hat)
  have hI := killN_inv' id h
  have hone : v.oneCell' = true := by obtain ⟨A, cap, rfl, _⟩ := hx; rfl
  have hfpm : ∀ r, fp gh (st.map (AV.killN id)).bx r = fp gh st.bx r := fun r => fp_map (gh := gh) _ r
  have hF2 : Free c gh (st.map (AV.killN id)).ar (st.map (AV.killN id)).bx w (fun b o => FL b o ∨ F' b o) := fun x y hxy => ⟨fun r hr hf => (hF x y hxy).1 r ((live_map (ar := st.ar) _ r).1 hr) ((congrFun (congrFun (hfpm r) x) y).mp hf), (hF x y hxy).2⟩
  obtain ⟨gh', hst, _⟩ := storeCell (u := v) (F' := F') (x := .own n sz g) hI (show (st.map (AV.killN id)).ar id = _ from hB) hpl hat hs hone hx (hF2.mono fun b o hb => .inr hb) (fun t => .inr ⟨st.t t, rfl⟩) (fun b B' hb o => by
   obtain ⟨g'', e', hg⟩ := map_some (bx := st.bx) (sz := B'.1) (g := B'.2) hb
   exact .inr ⟨g'' o, by rw [hg]⟩)
  rw [setCell_same hs hc] at hst
  simp only [setP_setP] at hst
  subst e
  exact ⟨gh', hst.inv, hst.free FL (hF2.mono fun b o hb => .inl hb) (fun b o hb hb' => hap b o hb' hb)⟩
theorem callK_sound {C : Cfg} {Γ : Orc} {d f : Nat} {xs : List AV} {K : AV → St → Option R} {vs : Array Value} (hΓ : OrcOk P C Γ) (h : Inv c gh nt st a w) (e : callK P C Γ st d f xs K = some r) (hl : vs.size = xs.length)
  (hx : ∀ j, j < xs.length → TR c.sh gh st.ar st.bx w (xs.getD j .bad) (vs.getD j undef)) :
  (∃ fn, P.funcs[f]? = some fn ∧ fn.body.isSome = true ∧ (fn.name == "runtime.NumGoroutine") = false) ∧ Calls P f vs w fun e w' => ∃ v, e = .returned v ∧ ∃ y st' gh', K y st' = some r ∧ Inv c gh' nt st' a w' ∧ TR c.sh gh' st'.ar st'.bx w' y v := by
 unfold callK at e
 split at e
 · rename_i fn hfn
   split at e
   · rename_i ys q hps
     obtain ⟨h64, e⟩ := K2_some e
     have h64 : q.ex.length ≤ 64 := Nat.le_of_ble_eq_true h64
     obtain ⟨rr, hrr, e⟩ := Option.bind_eq_some_iff.1 e
     simp only at e
     have hgd : ∀ j, vs.toList.getD j undef = vs.getD j undef := fun j => by simp [List.getD_eq_getElem?_getD, Array.getD_eq_getD_getElem?]
     obtain ⟨hyl, ghq, hv, Fe, hp, _, hys⟩ := passL_sound (c := c) (gh := gh) (nt := nt) (st := st) (a := a) (w := w) xs (C.mode f) vs.toList (q := ⟨st, [], []⟩) (ghq := gh) (hv := fun _ => undef) (Fe := fun _ _ _ => False)
      ⟨h, rfl, rfl, .refl, .refl st, rfl, fun x hx => by simp at hx, fun k x hk => by simp at hk, fun x y ⟨k, hk, _⟩ => by simp at hk, fun k m b o hk => by simp at hk, fun k bk y hk => by simp at hk, fun _ => rfl, fun id p n sz h => by simp at h⟩
      (by simpa using hl) (fun j hj => by rw [hgd]; exact hx j hj) hps
     have hM : Free c ghq q.st.ar q.st.bx w (Rest q.ex.length Fe) := hp.free
     have hin := RS_in hp.inv hM
     obtain ⟨hll, hlg⟩ := lent_get (st := q.st) ys xs hyl
     have hcon := hΓ.con f _ _ rr hrr w (Rest q.ex.length Fe) hv Fe vs (hin _ _ c.tok) h64 hp.kind
      ⟨fun k x hk => RV_sh hin (hp.ext k x hk), hp.disj, fun k b o hk hb => ⟨k, hk, hb⟩⟩ (fun b o hb => (hM b o hb).2.1) (by rw [hll]; exact hl)
      (fun j hj => by
       rw [hll] at hj
       rcases hlg j hj with ⟨z, h1, h2⟩ | ⟨h1, h2⟩
       · rw [h2]
         have := hys j z h1 (RS w (okOf w (Rest q.ex.length Fe))) hin
         rw [hgd] at this; exact this
       · rw [h2]
         exact borA_sound hp.inv hM (hp.holds _ _ (hx j hj)))
     refine ⟨hΓ.fn f _ _ rr hrr, hcon.mono fun en w' ⟨v, hv', hC, F, Fe', hR, hH, hFb, hFd⟩ => ⟨v, hv', ?_⟩⟩
     obtain ⟨how1, how2⟩ := hΓ.ow f _ _ rr hrr
     obtain ⟨hel, hlike⟩ := hΓ.exts f _ _ rr hrr
     have hres := hΓ.res f fn _ _ rr hrr hfn
     rw [hres] at e
     obtain ⟨hI1, _⟩ := hp.inv.chgFree hC (fun b o hb => hb) hM
     have hG : Free c ghq q.st.ar q.st.bx w' (fun b o => b < w'.heap.size ∧ (b < w.heap.size → Rest q.ex.length Fe b o)) := fun x y hx => by
      refine ⟨fun r hr hf => ?_, hx.1, fun hlt => ?_⟩
      · have hlt := (hp.inv.mem.mine r x y hr hf).1
        exact (hM x y (hx.2 hlt)).1 r hr hf
      · have hlt' := Nat.lt_of_lt_of_le hlt h.mem.grow
        exact (hM x y (hx.2 hlt')).2.2 hlt
     cases hgv : C.give f with
     | true =>
      rw [hgv] at e
      simp only [cond_true] at e
      obtain ⟨hfit, e⟩ := K2_some e
      have hR' := RR_ow (w1 := c.w0) (ok1 := c.ok) c.tok hR
      rw [how1] at hR'
      obtain ⟨gh3, h3, t3⟩ := layR_sound (base := aid d 0) (aid_lo c d 0) hI1 hR' hfit (hG.mono hFb)
      exact ⟨_, _, gh3, e, h3, t3⟩
     | false =>
     rw [hgv] at e hlike
     simp only [cond_false] at e
     have hlike : likeL q.ex rr.2 = rr.2 := hlike
     rw [hlike] at e
     split at e
     case h_2 => simp at e
     rename_i st1 hbs
     obtain ⟨hfit, e⟩ := K2_some e
     have hTold : ToldS c gh st w true ghq q.st a w' := by
      refine ⟨fun t => by rw [hp.sub.t]; exact h.temps t, fun b sz g eb o ho v hv => .inl ?_⟩
      have eb' := hp.sub.bx _ _ eb
      obtain ⟨v0, h1, _, _, h2⟩ := (h.mem.boxes b sz g eb').2 o ho
      have hf : fp ghq q.st.bx (.inr b) (ghq.ba b).block ((ghq.ba b).off + o) := ⟨(sz, g), eb, rfl, by omega, by simp only; omega⟩
      have hlv : live q.st.ar q.st.bx (.inr b) := by simp [live, eb]
      have := (hC.cell _ _ (hp.inv.mem.mine (.inr b) _ _ hlv hf).1 (fun hm => (hM _ _ hm).1 (.inr b) hlv hf)).1
      rw [this, hp.ba, h1] at hv
      obtain rfl := Option.some.inj hv
      exact h2
     have hrel : ∀ i x bk, rr.2[i]? = some x → q.bk[i]? = some bk → RV w' c.sh x (hv i) (Fe' i) ∧ BackOk w gh st (hv i) x bk := fun i x bk hi hb => by
      have hm : x ∈ rr.2 := List.mem_of_getElem? hi
      have h1 := RV_ow (w1 := c.w0) (ok1 := c.ok) c.tok (hH.rel i x hi)
      rw [how2 x hm] at h1
      refine ⟨h1, ?_⟩
      obtain ⟨y, hy, hly⟩ := likeL_get _ _ hlike i x hi
      have h2 := hp.back i bk y hb hy
      cases bk with
      | box b sz =>
       obtain ⟨q1, q2, g, rfl⟩ := h2
       exact ⟨q1, q2, _, hly.symm⟩
      | arr id n sz =>
       obtain ⟨q1, q2, g, rfl⟩ := h2
       exact ⟨q1, q2, _, hly.symm⟩
      | inn id p n sz =>
       obtain ⟨q1, g, rfl⟩ := h2
       exact ⟨q1, _, hly.symm⟩
     have hbl : q.bk.length = rr.2.length := by rw [hp.len]; exact hel.symm
     have hGF : Free c ghq q.st.ar q.st.bx w' (fun b o => F b o ∨ Rest rr.2.length Fe' b o) := hG.mono fun b o hb => by
      rcases hb with hb | ⟨k, hk, hb⟩
      · exact hFb b o hb
      · exact hH.mine k b o hk hb
     have fin : ∃ gh2, Inv c gh2 nt st1 a w' ∧ Free c gh2 st1.ar st1.bx w' F := by
      unfold backS at hbs
      split at hbs
      · rename_i id p n sz hbk
        have hlen1 : rr.2.length = 1 := by rw [← hbl, hbk]; rfl
        obtain ⟨x, hx1⟩ := List.length_eq_one_iff.1 hlen1
        rw [hx1] at hbs
        simp only [List.headD_cons] at hbs
        obtain ⟨hrv, ⟨ad, pre, qq, rfl, hs1, hs2, hs3⟩, g, rfl⟩ := hrel 0 x (.inn id p n sz) (by rw [hx1]; rfl) (by rw [hbk]; rfl)
        have hag : ∀ k A, q.st.ar k = some A → ∀ b o, ghq.fa k b o → cellAt w' b o = cellAt w b o ∧ frozAt w' b o = frozAt w b o := fun k A hA b o hf => by
         have hlv : live q.st.ar q.st.bx (.inl k) := by simp [live, hA]
         exact hC.cell _ _ (hp.inv.mem.mine (.inl k) b o hlv hf).1 (fun hm => (hM _ _ hm).1 (.inl k) hlv hf)
        have hpe : TR c.sh ghq q.st.ar q.st.bx w (.pe id pre qq.1 qq.2) (.pointer (some ad)) := hp.holds (.pe id pre qq.1 qq.2) _ hs3
        have hpe' : TR c.sh ghq q.st.ar q.st.bx w' (.pe id pre qq.1 qq.2) (.pointer (some ad)) := TR_congr hp.inv.mem.rows hag _ hpe
        obtain ⟨A, hA, hB⟩ := hp.one _ _ _ _ hbk
        have hcell : cellAt w' ad.block ad.off = some (hv 0) ∨ (pre = [] ∨ ∃ n' sz' h, atP (setP A.g (pre ++ [qq]) .bad) pre = .own n' sz' h) → cellAt w' ad.block ad.off = some (hv 0) := by
         rintro (h | hat)
         · exact h
         · obtain ⟨_, _, _, hinF0, _⟩ := place_cell pre (hp.inv.mem.rows id _ hB) (hpe _ hB) hat
           rw [(hag id _ hB _ _ hinF0).1]; exact hs2
        exact backI_sound (F' := Fe' 0) (FL := F) hI1 hbs hA hB hs1 hcell (hpe' _ hB) hrv (hGF.mono fun b o hb => hb.imp (fun h => h) (fun h => ⟨0, by omega, h⟩)) (fun b o hb => hFd 0 b o (by omega) hb)
      · rename_i hnot
        cases hni : q.bk.any Back.isInn with
        | true => rw [hni] at hbs; simp at hbs
        | false =>
         rw [hni] at hbs
         simp only [cond_false, Option.some.injEq] at hbs
         subst hbs
         obtain ⟨gh1, h1, t1, f1⟩ := backA_sound h.fix rr.2 q.bk (hv := hv) (Fe := Fe') (FL := F) hbl hni hrel hH.disj hFd hI1 hTold (hG.mono fun b o hb => by
          rcases hb with hb | ⟨k, hk, hb⟩
          · exact hFb b o hb
          · exact hH.mine k b o hk hb)
         obtain ⟨gh2, h2, f2⟩ := backB_sound h.fix (fun b B eb => (h.mem.boxes b B.1 B.2 eb).1) rr.2 q.bk (hv := hv) (Fe := Fe') (FL := F) (base := aid d 2048) (aid_lo c d 2048) hbl hni hrel hH.disj hFd h1 ⟨t1.t, fun b sz g eb o ho v hv => (t1.b b sz g eb o ho v hv).imp (fun h => h) (fun h => by simp at h)⟩ f1
         exact ⟨gh2, h2, f2⟩
     obtain ⟨gh2, h2, f2⟩ := fin
     have hR' := RR_ow (w1 := c.w0) (ok1 := c.ok) c.tok hR
     rw [how1] at hR'
     obtain ⟨gh3, h3, t3⟩ := layR_sound (base := aid d 0) (aid_lo c d 0) h2 hR' hfit f2
     exact ⟨_, _, gh3, e, h3, t3⟩
   · simp at e
 · simp at e
end
end Go.Fw
namespace Go.Fw
variable [Tok]
section
variable {c : Cx} {gh : Gh} {nt : Nat} {st : St} {a : Act} {w W : World} {P : Program}
theorem rowSet {id : Nat} {A : Arr} {g' : Nat → Nat → AV} {D : Cells} (h : Inv c gh nt st a w) (e : st.ar id = some A) (hC : Chg w W D) (hD : ∀ b o, D b o → gh.fa id b o)
  (hr : RO W c.sh (.own A.n A.sz g') (.slice (gh.hd id).1 A.n (gh.hd id).2) (gh.fa id)) : ∃ gh', Inv c gh' nt ((st.map (AV.killN id)).setA id (some ⟨A.n, A.sz, g'⟩)) a W := by
 have T := takeRow (FL := fun _ _ => False) h .none e (h.mem.rows id A e)
 obtain ⟨hI, hF⟩ := T.inv.chgFree hC (FL := fun b o => False ∨ gh.fa id b o) (fun b o hd => .inr (hD b o hd)) T.free
 have hl : live st.ar st.bx (.inl id) := by simp [live, e]
 have told : ToldS c gh st w true gh (st.setA id none) a W := by
  refine ⟨fun t => h.temps t, fun b sz g eb o ho v hv => .inl ?_⟩
  obtain ⟨v0, h1, _, _, h2⟩ := (h.mem.boxes b sz g eb).2 o ho
  have hf : fp gh st.bx (.inr b) (gh.ba b).block ((gh.ba b).off + o) := ⟨(sz, g), eb, rfl, by omega, by simp only; omega⟩
  have hlv : live st.ar st.bx (.inr b) := by simp [live, show st.bx b = some (sz, g) from eb]
  have := (hC.cell _ _ (h.mem.mine (.inr b) _ _ hlv hf).1 (fun hd => h.mem.disj (.inr b) (.inl id) _ _ (by simp) hlv hl hf (hD _ _ hd))).1
  rw [this, h1] at hv
  obtain rfl := Option.some.inj hv
  exact h2
 obtain ⟨gh2, _, hI2, _, _⟩ := hI.backA (gh0 := gh) (st0 := st) (w0 := w) (FL := fun _ _ => False) h.fix told e rfl rfl hr hF (fun _ _ _ h => h)
 refine ⟨gh2, ?_⟩
 have : ((St.map (AV.killN id) (st.setA id none)).setA id (some ⟨A.n, A.sz, g'⟩)) = (st.map (AV.killN id)).setA id (some ⟨A.n, A.sz, g'⟩) := setA_setA (st.map (AV.killN id)) id none _
 rw [← this]; exact hI2
theorem setRange {id : Nat} {A : Arr} {i0 m : Nat} {hn : Nat → Nat → AV} {vs : List Value} (h : Inv c gh nt st a w) (e : st.ar id = some A) (hm : 0 < m) (hle : i0 + m ≤ A.n) (hl : vs.length = m * A.sz)
  (hone : ∀ k, k < vs.length → (vs.getD k undef).oneCell' = true) (hro : ∀ i, i < m → ∀ j, j < A.sz → ∀ W : World, RO W c.sh (hn i j) (vs.getD (i * A.sz + j) undef) (fun _ _ => False)) :
  ∃ ad : Addr, (gh.hd id).1 = some ad ∧ ad.spot = none ∧ A.n ≤ (gh.hd id).2 ∧ 0 < A.sz ∧ (∀ k, k < vs.length → (∃ u, cellAt w ad.block (ad.off + i0 * A.sz + k) = some u) ∧ frozAt w ad.block (ad.off + i0 * A.sz + k) = false) ∧
   ∃ gh', Inv c gh' nt ((st.map (AV.killN id)).setA id (some ⟨A.n, A.sz, rngG A.g i0 m hn⟩)) a (w.setCells ad.block (ad.off + i0 * A.sz) vs) := by
 obtain ⟨A1, cap, e1, q1, q2, q3⟩ := h.mem.rows id A e
 obtain ⟨hA1, hcap⟩ : (gh.hd id).1 = A1 ∧ (gh.hd id).2 = cap := by simpa using e1
 have hlive : live st.ar st.bx (.inl id) := by simp [live, e]
 rcases q3 with q3 | ⟨ad, ea, hs, hc, F1, f1, f2, f3⟩
 · omega
 have hin : ∀ k, k < vs.length → i0 * A.sz + k < cap * A.sz := fun k hk => by
  have : (i0 + m) * A.sz ≤ cap * A.sz := Nat.mul_le_mul_right _ (by omega)
  rw [Nat.add_mul] at this; omega
 refine ⟨ad, by rw [hA1, ea], hs, by omega, q2, fun k hk => ?_, ?_⟩
 · obtain ⟨_, ⟨u, hu, _⟩, hf⟩ := hc (i0 * A.sz + k) (hin k hk)
   exact ⟨⟨u, by rw [Nat.add_assoc]; exact hu⟩, by rw [Nat.add_assoc]; exact hf⟩
 obtain ⟨c1, c2, c3⟩ := setCells_spec ad.block vs (ad.off + i0 * A.sz) w (fun j hj => by
  obtain ⟨_, ⟨u, hu, _⟩, _⟩ := hc (i0 * A.sz + j) (hin j hj)
  exact ⟨u, by rw [Nat.add_assoc]; exact hu⟩)
 have hDF : ∀ b o, (b = ad.block ∧ ad.off + i0 * A.sz ≤ o ∧ o < ad.off + i0 * A.sz + vs.length) → gh.fa id b o := by
  rintro b o ⟨rfl, h5, h6⟩
  have := (hc (o - ad.off) (by have := hin (o - ad.off - i0 * A.sz) (by omega); omega)).1
  rw [show ad.off + (o - ad.off) = o by omega] at this
  exact this
 refine rowSet h e c2 hDF ?_
 have hblk : ad.block < w.heap.size := by
  have := h.mem.mine (.inl id) _ _ hlive (hDF ad.block (ad.off + i0 * A.sz) ⟨rfl, by omega, by rw [hl]; have := Nat.mul_pos hm q2; omega⟩)
  exact this.1
 rw [hA1, hcap, ea]
 refine ⟨some ad, cap, rfl, by omega, q2, .inr ⟨ad, rfl, hs, fun k hk => ?_, fun i j b o => ¬ (i0 ≤ i ∧ i < i0 + m) ∧ F1 i j b o, fun i j b o hi hj hb => f1 i j b o hi hj hb.2, fun i j i' j' b o hi hj hi' hj' hne hb hb' => f2 i j i' j' b o hi hj hi' hj' hne hb.2 hb'.2, fun i hi j hj => ?_⟩⟩
 · obtain ⟨r1, ⟨u, r2, r3⟩, r4⟩ := hc k hk
   refine ⟨r1, ?_, by rw [c3]; exact r4⟩
   by_cases hr : i0 * A.sz ≤ k ∧ k < i0 * A.sz + vs.length
   · have hlt : k - i0 * A.sz < vs.length := by omega
     have := c1 (k - i0 * A.sz) (vs.getD (k - i0 * A.sz) undef) (by simp [List.getD_eq_getElem?_getD, hlt])
     rw [show ad.off + i0 * A.sz + (k - i0 * A.sz) = ad.off + k by omega] at this
     exact ⟨_, this, hone _ hlt⟩
   · have := (c2.cell ad.block (ad.off + k) hblk (by rintro ⟨_, _, _⟩; omega)).1
     exact ⟨u, this.trans r2, r3⟩
 · have hjl : i * A.sz + j < (i + 1) * A.sz := by rw [Nat.add_mul]; omega
   by_cases hir : i0 ≤ i ∧ i < i0 + m
   · have hi2 : i - i0 < m := by omega
     have hlt : (i - i0) * A.sz + j < vs.length := by rw [hl]; exact cell_lt hi2 hj (Nat.le_refl _)
     have := c1 ((i - i0) * A.sz + j) (vs.getD ((i - i0) * A.sz + j) undef) (by simp [List.getD_eq_getElem?_getD, hlt])
     refine ⟨_, by rw [← this]; congr 1; have h7 : i * A.sz = i0 * A.sz + (i - i0) * A.sz := by rw [← Nat.add_mul]; congr 1; omega
                   omega, ?_⟩
     have e2 : rngG A.g i0 m hn i j = hn (i - i0) j := by
      unfold rngG
      rw [decide_eq_true hir.1, decide_eq_true hir.2]; exact mrg_true _ _
     rw [e2]
     exact RO_mono _ (fun b o hb => hb.elim) (hro (i - i0) hi2 j hj _)
   · obtain ⟨u, hu, hr⟩ := f3 i hi j hj
     have hne : ¬ (ad.off + i0 * A.sz ≤ ad.off + (i * A.sz + j) ∧ ad.off + (i * A.sz + j) < ad.off + i0 * A.sz + vs.length) := by
      rintro ⟨h5, h6⟩
      rw [hl] at h6
      apply hir
      constructor
      · by_cases h8 : i0 ≤ i
        · exact h8
        · have : (i + 1) * A.sz ≤ i0 * A.sz := Nat.mul_le_mul_right _ (by omega)
          omega
      · by_cases h8 : i < i0 + m
        · exact h8
        · have : (i0 + m) * A.sz ≤ i * A.sz := Nat.mul_le_mul_right _ (by omega)
          rw [Nat.add_mul] at this; omega
     refine ⟨u, ((c2.cell ad.block (ad.off + (i * A.sz + j)) hblk (by rintro ⟨_, h5, h6⟩; exact hne ⟨h5, h6⟩)).1).trans hu, ?_⟩
     have e2 : rngG A.g i0 m hn i j = A.g i j := by
      unfold rngG
      have : (decide (i0 ≤ i) && decide (i < i0 + m)) = false := by
       cases h9 : decide (i0 ≤ i) with
       | false => rfl
       | true => simp only [Bool.true_and, decide_eq_false_iff_not]; intro h10; exact hir ⟨of_decide_eq_true h9, h10⟩
      rw [this]; exact mrg_false _ _
     rw [e2]
     have hmine : ∀ b o, F1 i j b o → b < w.heap.size := fun b o hb => (h.mem.mine (.inl id) b o hlive (f1 i j b o hi hj hb).1).1
     refine RO_mono _ (fun b o hb => ⟨hir, hb⟩) (RO_congr _ (fun b o hb => c2.cell b o (hmine b o hb) ?_) hr)
     rintro ⟨rfl, h5, h6⟩
     exact (f1 i j _ _ hi hj hb).2 ⟨rfl, by omega, by have := hin (o - ad.off - i0 * A.sz) (by omega); omega⟩
end
end Go.Fw
namespace Go.Fw
variable [Tok]
section
variable {c : Cx} {gh : Gh} {nt : Nat} {st : St} {a : Act} {w W : World} {P : Program}
theorem zc_get {z : Array Value} {sz m : Nat} (hz : z.size = sz) {k : Nat} (hk : k < m * sz) : (Builtin.zeroCells z m).toList.getD k undef = z.getD (k % sz) undef := by
 have hsz : 0 < sz := by
  rcases Nat.eq_zero_or_pos sz with h | h
  · subst h; simp at hk
  · exact h
 have hlt : k % sz < z.size := by rw [hz]; exact Nat.mod_lt _ hsz
 simp [Builtin.zeroCells, List.getD_eq_getElem?_getD, hz, hk, Array.getD_eq_getD_getElem?]
 rw [getElem!_pos z (k % sz) hlt, Array.getElem?_eq_getElem hlt]
 rfl
theorem zc_len {z : Array Value} {m : Nat} : (Builtin.zeroCells z m).toList.length = m * z.size := by simp [Builtin.zeroCells]
theorem clear_run {t e ty : TypeId} {i : TypeInfo} {z : Value} (hu : P.underlying t = some (.slice e)) (hi : P.info? e = some i) (hz : i.zero = some z) {ad : Addr} (hs : ad.spot = none) {m cap : Nat} (hm : 0 < m)
  (hc : ∀ k, k < m * z.cells.size → (∃ u, cellAt w ad.block (ad.off + k) = some u) ∧ frozAt w ad.block (ad.off + k) = false) (hone : ∀ k, k < m * z.cells.size → ((Builtin.zeroCells z.cells m).toList.getD k undef).oneCell' = true) :
  (Builtin.clear_ #[t] ty #[.slice (some ad) m cap]).run P w = .ok (.tuple #[]) (w.setCells ad.block ad.off (Builtin.zeroCells z.cells m).toList) := by
 have had : ad = ⟨ad.block, ad.off, none⟩ := by cases ad; simp at hs; subst hs; rfl
 have hst := run_storeCells_cells (P := P) ad.block ad.off (Builtin.zeroCells z.cells m).toList 0 w (fun j hj => by
   rw [zc_len] at hj
   exact Option.isSome_iff_exists.2 (hc j hj).1) (fun j hj => by rw [zc_len] at hj; exact (hc j hj).2) (fun v hv => by
   obtain ⟨k, hk, e⟩ := List.mem_iff_getElem.1 hv
   have := hone k (by rw [← zc_len]; exact hk)
   rw [List.getD_eq_getElem?_getD, List.getElem?_eq_getElem hk, e] at this
   exact this)
 simp only [Nat.add_zero] at hst
 rw [← had] at hst
 obtain ⟨m, rfl⟩ : ∃ k, m = k + 1 := ⟨m - 1, by omega⟩
 simp [Builtin.clear_, run_underlying hu, zeroValue, typeInfo, hi, hz, hst]
theorem killN_inv (id : Nat) (h : Inv c gh nt st a w) : Inv c gh nt (st.map (AV.killN id)) a w := h.map _ fun x v t => TR_killN id x t
theorem clear_sound {t e ty : TypeId} {id p m : Nat} {A : Arr} {v : Value} (h : Inv c gh nt st a w) (hA : st.ar id = some A) (hu : P.underlying t = some (.slice e)) (hz : zOk P e = true) (hsz : A.sz = P.cellsOf e) (hx : TR c.sh gh st.ar st.bx w (.rs id p m) v) :
  ∃ gh' W, (Builtin.clear_ #[t] ty #[v]).run P w = .ok (.tuple #[]) W ∧ Inv c gh' nt ((st.map (AV.killN id)).setA id (some ⟨A.n, A.sz, rngG A.g p m (fun _ j => zc P 12 e j)⟩)) a W := by
 obtain ⟨hle, A', rfl, hA'⟩ := hx A hA
 obtain ⟨i, z, hi, hzz, hzs, his, hzf⟩ := zOk_spec hz
 rcases Nat.eq_zero_or_pos m with hm | hm
 · subst hm
   have hg : rngG A.g p 0 (fun _ j => zc P 12 e j) = A.g := by
    funext i j
    unfold rngG
    have : (decide (p ≤ i) && decide (i < p + 0)) = false := by
     cases h9 : decide (p ≤ i) with
     | false => rfl
     | true => simp only [Bool.true_and, decide_eq_false_iff_not]; have := of_decide_eq_true h9; omega
    rw [this]; exact mrg_false _ _
   refine ⟨gh, w, by cases A' <;> simp [Builtin.clear_, run_underlying hu], ?_⟩
   rw [hg]
   have hs : (st.map (AV.killN id)).setA id (some ⟨A.n, A.sz, A.g⟩) = st.map (AV.killN id) := by
    unfold St.setA
    congr 1
    funext k
    by_cases ek : k = id
    · subst ek; rw [upd_self]; exact hA.symm
    · rw [upd_ne _ _ ek]; rfl
   rw [hs]; exact killN_inv id h
 · have hzl : (Builtin.zeroCells z.cells m).toList.length = m * A.sz := by rw [zc_len, hzs, hsz]
   obtain ⟨ad, had, hs, hcap, hpos, hcells, gh', hI⟩ := setRange (hn := fun _ j => zc P 12 e j) (vs := (Builtin.zeroCells z.cells m).toList) h hA hm hle hzl (fun k hk => by
     rw [zc_get hzs (by rw [hzl, hsz] at hk; exact hk)]
     have hp : 0 < P.cellsOf e := by
      rcases Nat.eq_zero_or_pos (P.cellsOf e) with h0 | h0
      · rw [hzl, hsz, h0] at hk; simp at hk
      · exact h0
     exact (zFits_RO (w := w) (c := c) (hzf _ (Nat.mod_lt _ hp))).1) (fun i hi j hj W => by
     rw [zc_get hzs (by rw [← hsz]; exact cell_lt hi hj (Nat.le_refl _))]
     have e1 : (i * A.sz + j) % P.cellsOf e = j := by rw [← hsz, Nat.mul_comm, Nat.mul_add_mod, Nat.mod_eq_of_lt hj]
     rw [e1]
     exact (zFits_RO (w := W) (c := c) (hzf j (by rw [← hsz]; exact hj))).2)
   have hne : ¬ (gh.hd id).2 - p = 0 := by omega
   rcases hA' with h0 | ⟨ad', had', rfl⟩
   · exact absurd h0 hne
   · rw [had] at had'
     obtain rfl := Option.some.inj had'
     refine ⟨gh', _, clear_run (ad := ⟨ad.block, ad.off + p * A.sz, none⟩) hu hi hzz rfl hm (fun k hk => hcells k (by rw [hzl, hsz, ← hzs]; exact hk)) (fun k hk => ?_), hI⟩
     rw [hzs] at hk
     rw [zc_get hzs hk]
     have hp : 0 < P.cellsOf e := by
      rcases Nat.eq_zero_or_pos (P.cellsOf e) with h0 | h0
      · rw [h0] at hk; simp at hk
      · exact h0
     exact (zFits_RO (w := w) (c := c) (hzf _ (Nat.mod_lt _ hp))).1
theorem RO_lit {sh : AV → Value → Prop} {x : AV} {v : Value} {F F' : Cells} (h : RO w sh x.noOwn v F) : RO W sh x.noOwn v F' := by
 cases x <;> exact h
theorem appIn_sound {t tx e e' ty : TypeId} {id p m : Nat} {A B : Arr} {y : AV} {u v : Value} (h : Inv c gh nt st a w) (hA : st.ar id = some A) (hu : P.underlying t = some (.slice e)) (hu' : P.underlying tx = some (.slice e')) (hi' : ∃ i, P.info? e = some i ∧ i.size = P.cellsOf e) (hsz : A.sz = P.cellsOf e)
  (hB : st.rowsOf y = some B) (hszB : A.sz = B.sz) (hle : p + m + B.n ≤ A.n) (hx : TR c.sh gh st.ar st.bx w (.rs id p m) u) (hy : TR c.sh gh st.ar st.bx w y v) :
  ∃ W val, (Builtin.append_ #[t, tx] ty #[u, v]).run P w = .ok val W ∧ TR c.sh gh st.ar st.bx w (.rs id p (m + B.n)) val ∧
   ∀ {st1 : St} {a1 : Act}, Inv c gh nt st1 a1 w → st1.ar = st.ar → ∃ gh', Inv c gh' nt ((st1.map (AV.killN id)).setA id (some ⟨A.n, A.sz, rngG A.g (p + m) B.n (fun i j => (B.g i j).noOwn)⟩)) a1 W := by
 obtain ⟨i, hi, his⟩ := hi'
 obtain ⟨_, A', rfl, hA'⟩ := hx A hA
 obtain ⟨A1, cap, e1, q1, q2, q3⟩ := h.mem.rows id A hA
 obtain ⟨hA1, hcap⟩ : (gh.hd id).1 = A1 ∧ (gh.hd id).2 = cap := by simpa using e1
 have hsrc := rows_src h hB hy
 obtain ⟨news, hS, hnl, hnr, hno⟩ := hsrc.src (P := P) hu' (by show 0 < B.sz; omega)
 have hS' : Src P i.size tx v B.n news w := by rw [his, ← hsz, hszB]; exact hS
 have hmc : m ≤ (gh.hd id).2 - p := by omega
 rcases Nat.eq_zero_or_pos B.n with hb0 | hbp
 · rw [hb0] at hS'
   have hnil : news = [] := by
    have : news.length = 0 := by rw [hnl]; show B.n * B.sz = 0; rw [hb0]; simp
    exact List.length_eq_zero_iff.1 this
   subst hnil
   refine ⟨w, _, run_append_nothing (P := P) w t tx ty e i hu hi A' m _ hmc v hS', ?_, fun {st1 a1} h1 har => ?_⟩
   · rw [hb0]; exact hx
   · have hg : rngG A.g (p + m) B.n (fun i j => (B.g i j).noOwn) = A.g := by
      funext i j
      unfold rngG
      rw [hb0]
      have : (decide (p + m ≤ i) && decide (i < p + m + 0)) = false := by
       cases h9 : decide (p + m ≤ i) with
       | false => rfl
       | true => simp only [Bool.true_and, decide_eq_false_iff_not]; have := of_decide_eq_true h9; omega
      rw [this]; exact mrg_false _ _
     have hs : (st1.map (AV.killN id)).setA id (some ⟨A.n, A.sz, A.g⟩) = st1.map (AV.killN id) := by
      unfold St.setA
      congr 1
      funext k
      by_cases ek : k = id
      · subst ek; rw [upd_self]; show some _ = st1.ar k; rw [har]; exact hA.symm
      · rw [upd_ne _ _ ek]; rfl
     rw [hg, hs]
     exact ⟨gh, killN_inv id h1⟩
 · have hne : ¬ (gh.hd id).2 - p = 0 := by omega
   rcases hA' with h0 | ⟨ad, had, rfl⟩
   · exact absurd h0 hne
   have hnl' : news.length = B.n * A.sz := by rw [hnl, hszB]
   have key : ∀ {st1 : St} {a1 : Act}, Inv c gh nt st1 a1 w → st1.ar = st.ar → _ := fun {st1 a1} h1 har =>
    setRange (i0 := p + m) (m := B.n) (hn := fun i j => (B.g i j).noOwn) (vs := news) h1 (by rw [har]; exact hA) hbp (by omega) hnl' hno (fun i hi j hj W => RO_lit (w := w) (F := fun _ _ => False) (by have := hnr i hi j (by show j < B.sz; omega); rw [hszB]; exact this))
   obtain ⟨ad', had', hs, _, _, hcells, _⟩ := key h rfl
   rw [had] at had'
   obtain rfl := Option.some.inj had'
   have hoff : ad.off + p * A.sz + m * i.size = ad.off + (p + m) * A.sz := by rw [his, ← hsz, Nat.add_mul]; omega
   have hrun := run_append_room_src (P := P) w t tx ty e i hu hi ad.block (ad.off + p * A.sz) m ((gh.hd id).2 - p) v B.n news hS' (by omega) (fun j hj => by
     rw [hoff]; exact Option.isSome_iff_exists.2 (hcells j hj).1) (fun j hj => by rw [hoff]; exact (hcells j hj).2)
   rw [hoff] at hrun
   refine ⟨_, _, hrun, fun A2 hA2 => ?_, fun {st1 a1} h1 har => ?_⟩
   · rw [hA] at hA2
     obtain rfl := Option.some.inj hA2
     exact ⟨by omega, _, rfl, .inr ⟨ad, had, rfl⟩⟩
   · obtain ⟨ad', had', _, _, _, _, gh', hI⟩ := key h1 har
     rw [had] at had'
     obtain rfl := Option.some.inj had'
     exact ⟨gh', hI⟩
theorem slice3_run {t e : TypeId} {A : Option Addr} {n cap : Nat} {lo hi : Option Value} {l : Option Int} {hh m : Int} {kn : IntKind} (hu : P.underlying t = some (.slice e)) (hi' : ∃ x, P.info? e = some x) (hl : IvR lo l) (hh' : IvR hi (some hh))
  (h0 : 0 ≤ l.getD 0) (h1 : l.getD 0 ≤ hh) (h2 : hh ≤ m) (h3 : m ≤ (cap : Int)) :
  ∃ z, (Instr.sliceAt t (.slice A n cap) lo hi (some (.int kn m))).run P w = .ok z w := by
 obtain ⟨x, hx⟩ := hi'
 cases hi with
 | none => exact hh'.elim
 | some _ =>
  obtain ⟨k', rfl⟩ := hh'
  have h4 : 0 ≤ hh := by omega
  have h5 : 0 ≤ m := by omega
  have e : (m.toNat : Int) = m := Int.toNat_of_nonneg h5
  have e2 : (hh.toNat : Int) = hh := Int.toNat_of_nonneg h4
  cases l with
  | none =>
   cases lo with
   | some _ => exact hl.elim
   | none => exact ⟨_, by simp [Instr.sliceAt, Instr.slice, run_underlying hu, Instr.sliceBounds, run_sliceBound, h3, h4, h5, e, h2, sizeOf_run hx]; rfl⟩
  | some l =>
   cases lo with
   | none => exact hl.elim
   | some _ =>
    obtain ⟨k, rfl⟩ := hl
    simp only [Option.getD_some] at h0 h1
    exact ⟨_, by simp [Instr.sliceAt, Instr.slice, run_underlying hu, Instr.sliceBounds, run_sliceBound, h3, h4, h5, e, e2, h2, h0, h1, sizeOf_run hx]; rfl⟩
end
end Go.Fw
namespace Go.Fw
variable [Tok]
section
variable {c : Cx} {gh : Gh} {nt : Nat} {st : St} {a : Act} {w : World} {P : Program} {R : Type} {r : R}
theorem wp_of_val {o : Oper} {K : St → Option R} {Kc : Act → World → Prop} {Q : Exit → Act → World → Prop} {y : AV} {v : Value} {w' : World} {st' : St} {gh' : Gh} (hd : ∀ k, o.dst = some k → k < nt)
  (hK : ∀ st' gh' a' w', Inv c gh' nt st' a' w' → K st' = some r → Kc a' w') (e : K (st'.put o.dst y) = some r) (h : Inv c gh' nt st' a w') (hr : (execOp a.eval o).run P w = .ok (.value v) w') (ht : TR c.sh gh' st'.ar st'.bx w' y v) : o.wp P a w Kc Q :=
 wp_val hr (hK _ _ _ _ (h.put hd ht) e)
theorem wp_of_row {o : Oper} {K : St → Option R} {Kc : Act → World → Prop} {Q : Exit → Act → World → Prop} {n sz : Nat} {g : Nat → Nat → AV} {v : Value} {w' : World} {st' : St} {gh' : Gh} {F : Cells} {d : Nat} (hd : ∀ k, o.dst = some k → k < nt) (ho : o.dst = some d)
  (hK : ∀ st' gh' a' w', Inv c gh' nt st' a' w' → K st' = some r → Kc a' w') (e : K ((st'.layR (aid d 0) (.own n sz g)).put o.dst ((AV.own n sz g).refR (aid d 0))) = some r) (h : Inv c gh' nt st' a w') (hF : Free c gh' st'.ar st'.bx w' F)
  (hr : (execOp a.eval o).run P w = .ok (.value v) w') (hro : RO w' c.sh (.own n sz g) v F) : o.wp P a w Kc Q := by
 obtain ⟨gh3, h3, t3⟩ := layR_sound (base := aid d 0) (y := .own n sz g) (aid_lo c d 0) h hro rfl hF
 exact wp_of_val hd hK e h3 hr t3
theorem len_run {t : TypeId} {d : TypeDesc} {v : Value} {n : Nat} {ty : TypeId} (hu : P.underlying t = some d) (hv : (∃ s : ByteArray, d = .string ∧ v = .string s ∧ n = s.size) ∨ ∃ e A cap, d = .slice e ∧ v = .slice A n cap) :
  (Builtin.len_ #[t] ty #[v]).run P w = .ok (.int .i64 n) w := by
 rcases hv with ⟨s, rfl, rfl, rfl⟩ | ⟨e, A, cap, rfl, rfl⟩ <;> simp [Builtin.len_, run_underlying hu, goInt]
theorem iv_some {st : St} {t : TypeId} {x : Option Operand} {l : Option Int} (h : Inv c gh nt st a w) (e : (match x with
      | none => some none
      | some y => match st.get P t y with | .I _ n => some (some n) | _ => none : Option (Option Int)) = some l) : IvR (x.map a.eval) l := by
 cases x with
 | none => simp at e; subst e; trivial
 | some y =>
  simp only at e
  split at e
  · rename_i k n hg
    simp at e; subst e
    have := get_TR (P := P) h t y
    rw [hg] at this
    exact ⟨k, TR_I this⟩
  · simp at e
theorem arr_one {α : Type} {x : Array α} (h : x.size = 1) (d : α) : x = #[x.getD 0 d] := by
 apply Array.ext
 · simp [h]
 · intro i h1 h2
   simp at h2
   subst h2
   simp [Array.getD_eq_getD_getElem?, h]
theorem arr_two {α : Type} {x : Array α} (h : x.size = 2) (d : α) : x = #[x.getD 0 d, x.getD 1 d] := by
 apply Array.ext
 · simp [h]
 · intro i h1 h2
   have h3 : i = 0 ∨ i = 1 := by omega
   rcases h3 with rfl | rfl <;> simp [Array.getD_eq_getD_getElem?, h]
theorem intsL_eq : ∀ {xs : List AV} {ns : List Int}, intsL xs = some ns → xs = ns.map (AV.I .i64) := by
 intro xs
 induction xs with
 | nil => intro ns h; simp only [intsL, Option.some.injEq] at h; subst h; rfl
 | cons y r ih =>
  intro ns h
  cases y with
  | I k n =>
   cases k with
   | i64 =>
    simp only [intsL] at h
    cases hr : intsL r with
    | none => rw [hr] at h; simp at h
    | some l =>
     rw [hr] at h
     simp only [Option.some.injEq] at h
     subst h
     rw [ih hr]; rfl
   | _ => simp [intsL] at h
  | _ => simp [intsL] at h
theorem fold_min (P : Program) (w : World) : ∀ (r : List Int) (x : Int), ((r.map (Value.int .i64)).foldlM Builtin.min2 (Value.int .i64 x)).run P w = .ok (.int .i64 (r.foldl (fun x y => bif decide (y < x) then y else x) x)) w := by
 intro r
 induction r with
 | nil => intro x; rfl
 | cons y r ih =>
  intro x
  have e : (if y < x then y else x) = (bif decide (y < x) then y else x) := by by_cases h : y < x <;> simp [h]
  simp only [List.map_cons, List.foldlM_cons, Sem.run_bind, Builtin.min2, Sem.run_pure, Result.andThen_ok, List.foldl_cons, ih, e]
theorem fold_max (P : Program) (w : World) : ∀ (r : List Int) (x : Int), ((r.map (Value.int .i64)).foldlM Builtin.max2 (Value.int .i64 x)).run P w = .ok (.int .i64 (r.foldl (fun x y => bif decide (x < y) then y else x) x)) w := by
 intro r
 induction r with
 | nil => intro x; rfl
 | cons y r ih =>
  intro x
  have e : (if y > x then y else x) = (bif decide (x < y) then y else x) := by by_cases h : x < y <;> simp [h]
  simp only [List.map_cons, List.foldlM_cons, Sem.run_bind, Builtin.max2, Sem.run_pure, Result.andThen_ok, List.foldl_cons, ih, e]
theorem evOp_sound {C : Cfg} {Γ : Orc} {o : Oper} {K : St → Option R} {Kc : Act → World → Prop} {Q : Exit → Act → World → Prop} (hΓ : OrcOk P C Γ) (h : Inv c gh nt st a w) (hd : ∀ k, o.dst = some k → k < nt)
  (e : evOp P C Γ o st K = some r) (hK : ∀ st' gh' a' w', Inv c gh' nt st' a' w' → K st' = some r → Kc a' w') : o.wp P a w Kc Q := by
 have get : ∀ (t : TypeId) (x : Operand), TR c.sh gh st.ar st.bx w (st.get P t x) (a.eval x) := fun t x => get_TR h t x
 cases hop : o.op with
 | move x =>
  simp only [evOp, hop] at e
  exact wp_of_val hd hK e h (by simp [execOp, hop]) (get _ x)
 | assign x =>
  simp only [evOp, hop] at e
  exact wp_of_val hd hK e h (by simp [execOp, hop]) (get _ x)
 | pick c' x y =>
  simp only [evOp, hop] at e
  split at e
  · rename_i b hb
    have h1 := get o.type c'
    rw [hb] at h1
    have h1 := TR_B h1
    exact wp_of_val hd hK e h (by simp [execOp, hop, h1, asBool]) (pickAV_TR (get _ x) (get _ y))
  · simp at e
 | alloc t =>
  simp only [evOp, hop] at e
  split at e
  · rename_i d sz g ho hz
    obtain ⟨z, hz1, hz2, hz3⟩ := zBox_spec (c := c) (gh := gh) (st := st) (w := w) hz
    obtain ⟨gh', h'⟩ := newVar_sound (t := t) (b := bid d) (bid_lo c d) h hd hz2 hz3
    refine wp_val (v := .pointer (some ⟨w.heap.size, 0, none⟩)) (w' := w.alloc (.cells z.cells t)) ?_ (hK _ _ _ _ h' e)
    simp [execOp, hop, Instr.alloc, hz1, newVar, newRow]
  · simp at e
 | box t x =>
  simp only [evOp, hop] at e
  split at e
  · rename_i d ho
    obtain ⟨hk, e⟩ := K2_some e
    obtain ⟨hs, hc⟩ := cells_TR h hk (get t x)
    obtain ⟨gh', h'⟩ := newVar_sound (t := t) (b := bid d) (bid_lo c d) h hd hs hc
    refine wp_val (v := .pointer (some ⟨w.heap.size, 0, none⟩)) (w' := w.alloc (.cells (a.eval x).cells t)) ?_ (hK _ _ _ _ h' e)
    simp [execOp, hop, Instr.box, newVar, newRow]
  · simp at e
 | load t x =>
  simp only [evOp, hop] at e
  obtain ⟨y, v, e, hr, ht⟩ := loadK_sound h e (get _ x)
  exact wp_of_val hd hK e h (by simp [execOp, hop, hr]) ht
 | store t p x =>
  simp only [evOp, hop] at e
  obtain ⟨st', gh', w', e, hr, h'⟩ := storeK_sound h e (get _ p) (get t x)
  exact wp_skip' (w' := w') (by simp [execOp, hop, hr]) (hK _ _ _ _ (h'.put hd (by trivial)) e)
 | nilCheck x =>
  simp only [evOp, hop] at e
  have h1 := get o.type x
  have hpt : ∀ ad : Addr, a.eval x = .pointer (some ad) → (execOp a.eval o).run P w = .ok (.value (a.eval x)) w := fun ad hv => by simp [execOp, hop, hv]
  split at e
  · rename_i b o' hg
    obtain ⟨hB, e⟩ := K2_some e
    obtain ⟨B, hB⟩ := Option.isSome_iff_exists.1 hB
    rw [hg] at h1
    exact wp_of_val hd hK e h (hpt _ (h1 B hB)) h1
  · rename_i id p i j hg
    obtain ⟨hs, e⟩ := K2_some e
    rw [hg] at h1
    have : ∃ ad, a.eval x = .pointer (some ad) := by
     simp only [St.sure] at hs
     cases p with
     | nil =>
      obtain ⟨A, e⟩ := Option.isSome_iff_exists.1 hs
      obtain ⟨_, _, ad, _, hv⟩ := h1 A e; exact ⟨_, hv⟩
     | cons q p =>
      simp only at hs
      split at hs
      · rename_i n sz g he
        obtain ⟨A, e, he⟩ := Option.map_eq_some_iff.1 he
        obtain ⟨_, _, ad, _, _, hv⟩ := h1 A e n sz g he; exact ⟨_, hv⟩
      · simp at hs
    obtain ⟨ad, hv⟩ := this
    exact wp_of_val hd hK e h (hpt _ hv) h1
  · rename_i sz g hg
    rw [hg] at h1
    obtain ⟨ad, hv, _⟩ := id h1
    exact wp_of_val hd hK e h (hpt _ hv) h1
  · simp at e
 | binOp op t x y yt =>
  simp only [evOp, hop] at e
  obtain ⟨z, vz, e, hr, ht⟩ := binK_sound x y e (get t x) (get yt y)
  refine wp_of_val hd hK e h ?_ (ht _ _ _)
  unfold BinRun at hr
  simp only [execOp, hop, Sem.run_bind, Sem.run_pure] at hr ⊢
  rw [hr]; rfl
 | unOp op t x =>
  simp only [evOp, hop] at e
  obtain ⟨hk, e⟩ := K2_some e
  obtain ⟨z, hz, ht⟩ := unAV_run (P := P) hk (get o.type x)
  exact wp_of_val hd hK e h (by simp [execOp, hop, hz]) ht
 | convert src dst x =>
  simp only [evOp, hop] at e
  split at e
  · rename_i k' k k2 n hs hd' hg
    have h1 := get src x
    rw [hg] at h1
    have h1 := TR_I h1
    exact wp_of_val hd hK e h (by simp [execOp, hop, h1, convert_run hs hd']) rfl
  · rename_i e0 id hs hd' hg
    split at e
    · rename_i A he hA
      obtain ⟨hk, e⟩ := K2_some e
      rw [Bool.and_eq_true, List.all_eq_true] at hk
      have hsz : A.sz = 1 := beq_eq.1 hk.1
      have h1 := get src x
      rw [hg] at h1
      have hv := h1 A hA
      have hrow := h.mem.rows id A hA
      have hrun : (Conv.bytesToString (.slice (gh.hd id).1 A.n (gh.hd id).2)).run P w = .ok (.string (byS A.n A.g)) w := by
       obtain ⟨A1, cap1, e1, h2, h3, h4⟩ := hrow
       obtain ⟨e1a, e1b⟩ : (gh.hd id).1 = A1 ∧ (gh.hd id).2 = cap1 := by simpa using e1
       cases hh : (gh.hd id).1 with
       | none =>
        have hn : A.n = 0 := by
         rcases h4 with h4 | ⟨a0, ea, _⟩
         · omega
         · rw [← e1a, hh] at ea; simp at ea
        rw [hn]
        simp [Conv.bytesToString, byS, Sem.run_pure]
       | some ad =>
        refine run_bytesToString w ad A.n _ ((List.range A.n).map fun i => asI (A.g i 0)) ?_
        have hcell : ∀ j, j < A.n → w.cell? (ad.add j) = some (.int .u8 (asI (A.g j 0))) := fun j hj => by
         rcases h4 with h4 | ⟨a0, ea, hs0, hc, Fs, _, _, h7⟩
         · omega
         · rw [← e1a, hh] at ea
           obtain rfl := Option.some.inj ea
           obtain ⟨u, hu, hr⟩ := h7 j hj 0 (by omega)
           have h8 := hk.2 j (List.mem_range.2 hj)
           rw [hsz, Nat.mul_one, Nat.add_zero] at hu
           rw [add_eq hs0]
           cases hgj : A.g j 0 with
           | I k m =>
            rw [hgj] at h8 hr
            cases k <;> simp [isU8] at h8
            have hr' : u = .int .u8 m := hr
            subst hr'
            exact hu
           | _ => rw [hgj] at h8; simp [isU8] at h8
        have := run_loadCells (P := P) w ad A.n (fun j => .int .u8 (asI (A.g j 0))) hcell
        rw [List.map_map]
        exact this
      refine wp_of_val (v := .string (byS A.n A.g)) hd hK e h ?_ rfl
      simp only [execOp, hop, hv, Sem.run_bind, run_convert_bytes_string w src dst e0 _ _ _ hs he hd', hrun, Result.andThen_ok, Sem.run_pure]
    · simp at e
  · rename_i k' k2 n hs hd' hg
    have h1 := get src x
    rw [hg] at h1
    have h1 := TR_I h1
    exact wp_of_val hd hK e h (by simp [execOp, hop, h1, convert, run_underlying hs, run_underlying hd', Conv.intToString]) rfl
  · simp at e
 | fieldAddr t x f =>
  simp only [evOp, hop] at e
  have h1 := get o.type x
  split at e
  · rename_i off fs ft hf
    obtain ⟨hk, e⟩ := K2_some e
    have h0 : 0 < fs := Nat.le_of_ble_eq_true hk
    split at e
    · rename_i b o' hg
      obtain ⟨hB, e⟩ := K2_some e
      obtain ⟨B, hB⟩ := Option.isSome_iff_exists.1 hB
      rw [hg] at h1
      have hv := h1 B hB
      have hrun := fieldAt_run (P := P) (w := w) (ad := ⟨(gh.ba b).block, (gh.ba b).off + o', none⟩) rfl hf h0
      refine wp_of_val (v := .pointer (some ⟨(gh.ba b).block, (gh.ba b).off + o' + off, none⟩)) hd hK e h (by simp only [execOp, hop, hv, Sem.run_bind, hrun, Result.andThen_ok, Sem.run_pure]) ?_
      intro B' _
      simp only [Nat.add_assoc]
    · rename_i id p i j hg
      obtain ⟨hs, e⟩ := K2_some e
      obtain ⟨A, hA⟩ : ∃ A, st.ar id = some A := by
       split at hs
       · rename_i A hA; exact ⟨A, hA⟩
       · simp at hs
      rw [hA] at hs
      have hlt : j + off < A.szAt p := Nat.le_of_ble_eq_true hs
      rw [hg] at h1
      have hpl := h1 A hA
      have hat := szAt_own (A := A) (p := p) (j := j) (by omega)
      have hat' : p = [] ∨ ∃ n' sz' h, atP A.g p = .own n' sz' h := hat.imp (fun h => h) fun ⟨n', sz', h', e, _⟩ => ⟨n', sz', h', e⟩
      obtain ⟨ad, hv⟩ : ∃ ad, a.eval x = .pointer (some ad) := by
       cases p with
       | nil => obtain ⟨_, _, ad, _, hv⟩ := hpl; exact ⟨_, hv⟩
       | cons q r =>
        rcases hat' with hat' | ⟨n', sz', h', e'⟩
        · simp at hat'
        · obtain ⟨_, _, ad, _, _, hv⟩ := hpl n' sz' h' e'; exact ⟨_, hv⟩
      rw [hv] at hpl
      obtain ⟨_, _, _, _, _, _, _, _, hsp, hmore⟩ := place_cell p (h.mem.rows id A hA) hpl hat'
      have hrun := fieldAt_run (P := P) (w := w) hsp hf h0
      refine wp_of_val (v := .pointer (some ⟨ad.block, ad.off + off, none⟩)) hd hK e h (by simp only [execOp, hop, hv, Sem.run_bind, hrun, Result.andThen_ok, Sem.run_pure]) ?_
      intro A' hA'
      rw [hA] at hA'
      obtain rfl := Option.some.inj hA'
      exact hmore off hlt
    · rename_i sz g hg
      obtain ⟨hs, e⟩ := K2_some e
      have hle : off ≤ sz := Nat.le_of_ble_eq_true hs
      rw [hg] at h1
      obtain ⟨ad, hv, hsp, hc⟩ := h1
      have hrun := fieldAt_run (P := P) (w := w) hsp hf h0
      refine wp_of_val (v := .pointer (some ⟨ad.block, ad.off + off, none⟩)) hd hK e h (by simp only [execOp, hop, hv, Sem.run_bind, hrun, Result.andThen_ok, Sem.run_pure]) ⟨_, rfl, rfl, fun j hj => ?_⟩
      have := hc (off + j) (by omega)
      simp only [Nat.add_assoc]
      exact this
    · simp at e
  · simp at e
 | field t x f =>
  simp only [evOp, hop] at e
  have h1 := get t x
  split at e
  · rename_i off fs ft sz g hf hg
    obtain ⟨hk, e⟩ := K2_some e
    rw [Bool.and_eq_true] at hk
    have hle : off + fs ≤ sz := Nat.le_of_ble_eq_true hk.1
    obtain ⟨⟨i, hi⟩, ⟨dd, hdd⟩, hpos⟩ := tyOk_iff hk.2
    have hfs : fs = P.cellsOf ft := by
     unfold fieldOf at hf
     split at hf
     · split at hf
       · simp only [Option.some.injEq, Prod.mk.injEq] at hf
         obtain ⟨_, rfl, rfl⟩ := hf; rfl
       · simp at hf
     · simp at hf
    rw [hg] at h1
    obtain ⟨vs, hv, hs, hc⟩ := h1
    have hrun := field_run (P := P) (w := w) (cs := vs) hf (by omega) hk.2
    refine wp_of_val (v := if isAggT P ft then .agg ((List.range (P.cellsOf ft)).map fun j => vs.getD (off + j) undef).toArray else vs.getD (off + 0) undef) hd hK e h (by simp only [execOp, hop, hv, Sem.run_bind, hrun, Result.andThen_ok, Sem.run_pure]) ?_
    exact valOf_TR (f := fun j => vs.getD (off + j) undef) (fun j hj => hc (off + j) (by omega)) (fun _ => hpos)
  · simp at e
 | indexAddr t x i =>
  simp only [evOp, hop] at e
  split at e
  · rename_i k n hg
    have h1 := get o.type i
    rw [hg] at h1
    obtain ⟨y, z, e, hr, ht⟩ := indexAddrK_sound h e (get t x) (TR_I h1)
    exact wp_of_val hd hK e h (by simp [execOp, hop, hr]) ht
  · simp at e
 | slice t x lo hi mx =>
  simp only [evOp, hop] at e
  cases mx with
  | some m =>
   simp only at e
   split at e
   · rename_i l hh kn n hl' hh' hmx
     have hx := get t x
     unfold slice3K at e
     split at e
     · rename_i el id hu hxx
       rw [hxx] at hx
       split at e
       · rename_i A hA
         obtain ⟨hk, e⟩ := K2_some e
         obtain ⟨hk2, e⟩ := K2_some e
         simp only [Bool.and_eq_true, decide_eq_true_eq] at hk2
         obtain ⟨hi', hsz⟩ := szOk_iff hk
         obtain ⟨A1, cap, e1, hn, _, _⟩ := h.mem.rows id A hA
         obtain ⟨_, hcap⟩ : (gh.hd id).1 = A1 ∧ (gh.hd id).2 = cap := by simpa using e1
         have hm1 := get o.type m
         rw [hmx] at hm1
         obtain ⟨z, hr⟩ := slice3_run (P := P) (w := w) (A := (gh.hd id).1) (n := A.n) (cap := (gh.hd id).2) hu hi' (iv_some h hl') (iv_some h hh') (kn := kn) hk2.1.1.1 hk2.1.1.2 hk2.1.2 (by omega)
         exact wp_of_val (y := .bad) (v := z) hd hK e h (by simp [execOp, hop, hx A hA, TR_I hm1, hr]) trivial
       · simp at e
     · simp at e
   · simp at e
  | none =>
   simp only at e
   split at e
   · rename_i l hh hl' hh'
     obtain ⟨y, z, e, hr, ht⟩ := sliceK_sound h e (get t x) (iv_some h hl') (iv_some h hh')
     exact wp_of_val hd hK e h (by simp [execOp, hop, hr]) ht
   · simp at e
 | index t x i =>
  simp only [evOp, hop] at e
  split at e
  · rename_i s k n hu hgx hgi
    obtain ⟨hk, e⟩ := K2_some e
    obtain ⟨h0, h1⟩ := inB_iff.1 hk
    have h2 := get t x
    have h3 := get o.type i
    rw [hgx] at h2
    rw [hgi] at h3
    have hlt : n.toNat < s.size := by omega
    have hs : s[n.toNat]? = some s[n.toNat] := by simp [hlt]
    rw [hs] at e
    refine wp_of_val hd hK e h (v := .int .u8 (s[n.toNat]).toNat) ?_ rfl
    simp [execOp, hop, TR_S h2, TR_I h3, Instr.index, asIntOf, run_underlying hu, h0, hs]
  · simp at e
 | extract x k =>
  simp only [evOp, hop] at e
  split at e
  · rename_i n g hg
    obtain ⟨hk, e⟩ := K2_some e
    have hlt : k < n := Nat.le_of_ble_eq_true hk
    have h1 := get o.type x
    rw [hg] at h1
    obtain ⟨vs, hv, hs, hc⟩ := h1
    refine wp_of_val (v := vs.getD k undef) hd hK e h ?_ (hc k hlt)
    have : vs[k]? = some (vs.getD k undef) := by simp [Array.getD_eq_getD_getElem?, hs, hlt]
    simp only [execOp, hop, hv, Instr.extract, this, Sem.run_bind, Sem.run_pure, Result.andThen_ok]
  · simp at e
 | makeFunc fn first caps =>
  simp only [evOp, hop] at e
  split at e
  · rename_i f
    obtain ⟨hk, e⟩ := K2_some e
    have h0 : first = #[] := Array.eq_empty_of_size_eq_zero (beq_eq.1 hk)
    subst h0
    refine wp_of_val hd hK e h (v := .func (.func f) #[] (caps.map a.eval)) (by simp [execOp, hop, Instr.makeFunc]) ⟨_, rfl, by simp, fun j hj => ?_⟩
    have : (caps.map a.eval).getD j undef = a.eval (caps.getD j (.const undef)) := by simp [Array.getD_eq_getD_getElem?, hj]
    rw [this]
    exact get _ _
  · simp at e
 | build t parts =>
  simp only [evOp, hop] at e
  split at e
  · rename_i sz g0 hz
    split at e
    · rename_i fs hu
      split at e
      · rename_i g hg
        obtain ⟨hk, e⟩ := K2_some e
        obtain ⟨cells, hr, ht⟩ := build_sound h hz hu hg hk
        exact wp_of_val hd hK e h (by simp [execOp, hop, hr]) ht
      · simp at e
    · simp at e
  · simp at e
 | buildSlice t len parts =>
  simp only [evOp, hop] at e
  split at e
  · rename_i d el ho hu
    obtain ⟨hk, e⟩ := K2_some e
    split at e
    · rename_i l s hl
      obtain ⟨gh', W, F, v, hr, h', hF, hro⟩ := buildSlice_sound h hu hk hl
      exact wp_of_row hd ho hK e h' hF (by simp [execOp, hop, hr]) hro
    · simp at e
  · simp at e
 | makeSlice t l cp =>
  simp only [evOp, hop] at e
  split at e
  · rename_i d el kn n km m ho hu hgl hgc
    obtain ⟨hk, e⟩ := K2_some e
    have h1 := get o.type l
    have h2 := get o.type cp
    rw [hgl] at h1
    rw [hgc] at h2
    obtain ⟨W, F, v, hr, h', hF, hro⟩ := makeSlice_sound (k := kn) (k' := km) h hu hk
    exact wp_of_row hd ho hK e h' hF (by simp [execOp, hop, TR_I h1, TR_I h2, hr]) hro
  · simp at e
 | call cl =>
  simp only [evOp, hop] at e
  unfold opCall at e
  simp only at e
  have args : ∀ i, i < cl.args.size → TR c.sh gh st.ar st.bx w (st.get P (cl.argTypes.getD i 0) (cl.args.getD i (.const undef))) ((cl.args.map a.eval).getD i undef) := fun i hi => by
   have : (cl.args.map a.eval).getD i undef = a.eval (cl.args.getD i (.const undef)) := by simp [Array.getD_eq_getD_getElem?, hi]
   rw [this]; exact get _ _
  split at e
  · rename_i hcal
    obtain ⟨hk, e⟩ := K2_some e
    rw [Bool.and_eq_true] at hk
    have ha := arr_one (beq_eq.1 hk.1) (.const undef)
    have ht := arr_one (beq_eq.1 hk.2) 0
    have h1 := get (cl.argTypes.getD 0 0) (cl.args.getD 0 (.const undef))
    have hex : ∀ v : Value, (Builtin.len_ #[cl.argTypes.getD 0 0] o.type #[a.eval (cl.args.getD 0 (.const undef))]).run P w = .ok v w → (execOp a.eval o).run P w = .ok (.value v) w := fun v hr => by
     have e1 : cl.args.map a.eval = #[a.eval (cl.args.getD 0 (.const undef))] := by conv => lhs; rw [ha]
                                                                                    simp
     simp only [execOp, hop, resolve, hcal, Sem.run_bind, Sem.run_pure, Result.andThen_ok, invoke, builtin, e1]
     rw [ht]
     simp only [Sem.run_bind, hr, Result.andThen_ok, Sem.run_pure]
    split at e
    · rename_i hu
      split at e
      · rename_i s hg
        rw [hg] at h1
        have h1 := TR_S h1
        exact wp_of_val hd hK e h (hex _ (len_run hu (.inl ⟨s, rfl, h1, rfl⟩))) rfl
      · simp at e
    · rename_i el hu
      split at e
      · rename_i A hA
        obtain ⟨ad, cap, hv⟩ := rowsOf_len h hA h1
        exact wp_of_val hd hK e h (hex _ (len_run hu (.inr ⟨el, ad, cap, rfl, hv⟩))) rfl
      · simp at e
    · simp at e
  · rename_i hcal
    split at e
    · rename_i d ho
      obtain ⟨hk, e⟩ := K2_some e
      rw [Bool.and_eq_true] at hk
      have ha := arr_two (beq_eq.1 hk.1) (.const undef)
      have ht := arr_two (beq_eq.1 hk.2) 0
      have e1 : cl.args.map a.eval = #[a.eval (cl.args.getD 0 (.const undef)), a.eval (cl.args.getD 1 (.const undef))] := by conv => lhs; rw [ha]
                                                                                                                             simp
      have hex : ∀ (v : Value) (w' : World), (Builtin.append_ #[cl.argTypes.getD 0 0, cl.argTypes.getD 1 0] o.type #[a.eval (cl.args.getD 0 (.const undef)), a.eval (cl.args.getD 1 (.const undef))]).run P w = .ok v w' → (execOp a.eval o).run P w = .ok (.value v) w' := fun v w' hr => by
       simp only [execOp, hop, resolve, hcal, Sem.run_bind, Sem.run_pure, Result.andThen_ok, invoke, builtin, e1]
       rw [ht]
       simp only [Sem.run_bind, hr, Result.andThen_ok, Sem.run_pure]
      have old : appendK P st (cl.argTypes.getD 0 0) (cl.argTypes.getD 1 0) (st.get P (cl.argTypes.getD 0 0) (cl.args.getD 0 (.const undef))) (st.get P (cl.argTypes.getD 1 0) (cl.args.getD 1 (.const undef))) (fun x st' => K ((st'.layR (aid d 0) x).put o.dst (x.refR (aid d 0)))) = some r → o.wp P a w Kc Q := fun e => by
       obtain ⟨n, sz, g, st', gh', W, F, val, e, hr, h', hF, hro⟩ := appendK_sound (ty := o.type) h e (get _ _) (get _ _)
       exact wp_of_row hd ho hK e h' hF (hex _ _ hr) hro
      split at e
      · rename_i id p m A B hin
        cases hc : decide (p + m + B.n ≤ A.n) with
        | false => rw [hc] at e; exact old e
        | true =>
         rw [hc] at e
         have hc := of_decide_eq_true hc
         unfold appIn at hin
         split at hin
         · rename_i el el' id' p' m' hu hu' hxx
           cases hsc : scalT P el with
           | false => rw [hsc] at hin; simp at hin
           | true =>
            rw [hsc] at hin
            simp only [cond_true] at hin
            split at hin
            · rename_i A' B' hA hB
              cases hz : szOk P el A'.sz && Nat.beq A'.sz B'.sz with
              | false => rw [hz] at hin; simp at hin
              | true =>
               rw [hz] at hin
               simp only [cond_true, Option.some.injEq, Prod.mk.injEq] at hin
               obtain ⟨rfl, rfl, rfl, rfl, rfl⟩ := hin
               rw [Bool.and_eq_true] at hz
               obtain ⟨⟨i, hi⟩, hsz⟩ := szOk_iff hz.1
               have h1 := get (cl.argTypes.getD 0 0) (cl.args.getD 0 (.const undef))
               rw [hxx] at h1
               obtain ⟨W, val, hr, hv, hkey⟩ := appIn_sound (ty := o.type) h hA hu hu' ⟨i, hi, (cellsOf_eq hi).symm⟩ hsz hB (beq_eq.1 hz.2) hc h1 (get _ _)
               obtain ⟨gh', hI⟩ := hkey (h.put hd hv) (by rw [ho]; rfl)
               exact wp_val (hex _ _ hr) (hK _ _ _ _ hI e)
            · simp at hin
         · simp at hin
      · exact old e
    · simp at e
  · rename_i hcal
    obtain ⟨hk, e⟩ := K2_some e
    rw [Bool.and_eq_true] at hk
    have ha := arr_one (beq_eq.1 hk.1) (.const undef)
    have ht := arr_one (beq_eq.1 hk.2) 0
    have hex : ∀ (v : Value) (w' : World), (Builtin.clear_ #[cl.argTypes.getD 0 0] o.type #[a.eval (cl.args.getD 0 (.const undef))]).run P w = .ok v w' → (execOp a.eval o).run P w = .ok (.value v) w' := fun v w' hr => by
     have e1 : cl.args.map a.eval = #[a.eval (cl.args.getD 0 (.const undef))] := by conv => lhs; rw [ha]
                                                                                    simp
     simp only [execOp, hop, resolve, hcal, Sem.run_bind, Sem.run_pure, Result.andThen_ok, invoke, builtin, e1]
     rw [ht]
     simp only [Sem.run_bind, hr, Result.andThen_ok, Sem.run_pure]
    split at e
    · rename_i id p m A el hin
      unfold clrIn at hin
      split at hin
      · rename_i el' id' p' m' hu hxx
        split at hin
        · rename_i A' hA
          cases hz : szOk P el' A'.sz && zOk P el' with
          | false => rw [hz] at hin; simp at hin
          | true =>
           rw [hz] at hin
           simp only [cond_true, Option.some.injEq, Prod.mk.injEq] at hin
           obtain ⟨rfl, rfl, rfl, rfl, rfl⟩ := hin
           rw [Bool.and_eq_true] at hz
           obtain ⟨_, hsz⟩ := szOk_iff hz.1
           have h1 := get (cl.argTypes.getD 0 0) (cl.args.getD 0 (.const undef))
           rw [hxx] at h1
           have har : (st.put o.dst .bad).ar = st.ar := by cases o.dst <;> rfl
           have hbx : (st.put o.dst .bad).bx = st.bx := by cases o.dst <;> rfl
           obtain ⟨gh', W, hr, hI⟩ := clear_sound (ty := o.type) (h.put (x := .bad) (v := .tuple #[]) hd trivial) (by rw [har]; exact hA) hu hz.2 hsz (by rw [har, hbx]; exact h1)
           exact wp_val (hex _ _ hr) (hK _ _ _ _ hI e)
        · simp at hin
      · simp at hin
    · simp at e
  · rename_i v hcal
    split at e
    · rename_i f n g hg
      have h1 := get 0 v
      rw [hg] at h1
      obtain ⟨cs, hv, hcs, hcc⟩ := h1
      have hmn : (cl.args.map a.eval).size = cl.args.size := by simp
      obtain ⟨⟨fn, hfn, hbody, hname⟩, hcalls⟩ := callK_sound (vs := cl.args.map a.eval ++ cs) hΓ h e (by simp [hcs]) (fun j hj => by
       simp only [List.length_append, List.length_map, List.length_range] at hj
       by_cases hja : j < cl.args.size
       · have e1 : (cl.args.map a.eval ++ cs).getD j undef = (cl.args.map a.eval).getD j undef := by
          simp [Array.getD_eq_getD_getElem?, Array.getElem?_append_left, hja]
         have e2 : ((List.range cl.args.size).map (fun i => st.get P (cl.argTypes.getD i 0) (cl.args.getD i (.const undef))) ++ (List.range n).map g).getD j .bad = st.get P (cl.argTypes.getD j 0) (cl.args.getD j (.const undef)) := by
          rw [List.getD_eq_getElem?_getD, List.getElem?_append_left (by simpa using hja)]
          simp [hja]
         rw [e1, e2]; exact args j hja
       · have hjn : j - cl.args.size < n := by omega
         have e1 : (cl.args.map a.eval ++ cs).getD j undef = cs.getD (j - cl.args.size) undef := by
          simp only [Array.getD_eq_getD_getElem?]
          rw [Array.getElem?_append_right (by simp; omega)]
          simp
         have e2 : ((List.range cl.args.size).map (fun i => st.get P (cl.argTypes.getD i 0) (cl.args.getD i (.const undef))) ++ (List.range n).map g).getD j .bad = g (j - cl.args.size) := by
          rw [List.getD_eq_getElem?_getD, List.getElem?_append_right (by simp; omega)]
          simp [hjn]
         rw [e1, e2]; exact hcc _ hjn)
      unfold Oper.wp
      have hex : (execOp a.eval o).run P w = .ok (.enter f (cl.args.map a.eval ++ cs)) w := by
       have hnb : fn.body.isNone = false := by
        cases hb : fn.body with
        | none => rw [hb] at hbody; simp at hbody
        | some _ => rfl
       have hname' : ¬ fn.name = "runtime.NumGoroutine" := by simpa using hname
       have hbody' : ¬ fn.body = none := fun hb => by rw [hb] at hbody; simp at hbody
       simp [execOp, hop, resolve, hcal, hv, Deferred.ofValue, invoke, callFunc, hfn, hname', hbody']
      rw [hex, Oper.upon_enter]
      refine hcalls.mono fun en w' ⟨v, hv, y, st', gh', e', h', t'⟩ => ?_
      subst hv
      exact hK _ _ _ _ (h'.put hd t') e'
    · simp at e
  · rename_i bi _ _ _ hcal
    split at e
    · rename_i g x r hg hL
      have hx := intsL_eq hL
      have hlen : cl.args.size = (x :: r).length := by
       have := congrArg List.length hx
       simpa using this
      have hl : (cl.args.map a.eval).toList = (x :: r).map (Value.int .i64) := by
       refine List.ext_getElem (by simpa using hlen) fun i h1 h2 => ?_
       have hi : i < cl.args.size := by simpa using h1
       have h3 := args i hi
       have h4 : st.get P (cl.argTypes.getD i 0) (cl.args.getD i (.const undef)) = ((x :: r).map (AV.I .i64)).getD i .bad := by
        rw [← hx]; simp [List.getD_eq_getElem?_getD, hi]
       have h5 : i < (x :: r).length := by rw [← hlen]; exact hi
       have h6 : ((x :: r).map (AV.I .i64)).getD i .bad = .I .i64 ((x :: r)[i]) := by
        rw [List.getD_eq_getElem?_getD, List.getElem?_map, List.getElem?_eq_getElem h5]; rfl
       rw [h4, h6] at h3
       have h7 := TR_I h3
       have h8 : (cl.args.map a.eval).getD i undef = (cl.args.map a.eval).toList[i] := by simp [Array.getD_eq_getD_getElem?, hi]
       rw [← h8, h7, List.getElem_map]
      have hex : ∀ v : Value, (∀ cs, (builtin bi cl.argTypes o.type cs (cl.args.map a.eval)).run P w = .ok (.value v) w) → (execOp a.eval o).run P w = .ok (.value v) w := fun v hr => by
       simp only [execOp, hop, resolve, hcal, Sem.run_bind, Sem.run_pure, Result.andThen_ok, invoke]
       exact hr _
      cases bi with
      | min =>
       obtain rfl : (fun x y => bif decide (y < x) then y else x) = g := Option.some.inj hg
       refine wp_of_val hd hK e h (hex _ fun cs => ?_) rfl
       simp only [builtin, Builtin.min_, hl, List.map_cons, Sem.run_bind, fold_min, Result.andThen_ok, Sem.run_pure]
      | max =>
       obtain rfl : (fun x y => bif decide (x < y) then y else x) = g := Option.some.inj hg
       refine wp_of_val hd hK e h (hex _ fun cs => ?_) rfl
       simp only [builtin, Builtin.max_, hl, List.map_cons, Sem.run_bind, fold_max, Result.andThen_ok, Sem.run_pure]
      | _ => simp [mmF] at hg
    · simp at e
  · simp at e
 | _ => simp [evOp, hop] at e
end
end Go.Fw
