/- The by-value interpreter: append. -/
import Derived.Test.YtkhfkekbfjkpcaaFwU
set_option linter.unusedVariables false
set_option linter.unusedSectionVars false
set_option linter.unusedSimpArgs false
namespace Go.Fw
variable [Tok]

section
variable {c : Cx} {gh : Gh} {nt : Nat} {st : St} {a : Act} {w : World} {P : Program} {R : Type} {r : R}

theorem RO_ext {sh : AV → Value → Prop} {n sz : Nat} {g g' : Nat → Nat → AV} {v : Value} {F : Cells} (h : RO w sh (.own n sz g) v F) (hg : ∀ i, i < n → ∀ j, j < sz → g' i j = g i j) : RO w sh (.own n sz g') v F := by
  obtain ⟨A, cap, rfl, h1, h2, h3⟩ := h
  refine ⟨A, cap, rfl, h1, h2, h3.imp (fun h => h) fun ⟨ad, e, hs, hc, Fs, f1, f2, f3⟩ => ⟨ad, e, hs, hc, Fs, f1, f2, fun i hi j hj => ?_⟩⟩
  rw [hg i hi j hj]; exact f3 i hi j hj

theorem drew_alloc_ext (w : World) (o : Obj) : Ext w (w.drew.alloc o) := alloc_ext w.drew o

theorem catA_left {A B : Arr} {i j : Nat} (h : i < A.n) : (catA A B).g i j = A.g i j := by simp [catA, h, mrg_true]
theorem catA_right {A B : Arr} {i j : Nat} (h : A.n ≤ i) : (catA A B).g i j = B.g (i - A.n) j := by simp [catA, Nat.not_lt.2 h, mrg_false]

theorem appendK_sound {t tx ty : TypeId} {x y : AV} {u v : Value} {K : AV → St → Option R} (h : Inv c gh nt st a w) (e : appendK P st t tx x y K = some r) (hx : TR c.sh gh st.ar st.bx w x u) (hy : TR c.sh gh st.ar st.bx w y v) :
    ∃ n sz g st' gh' W F val, K (.own n sz g) st' = some r ∧ (Builtin.append_ #[t, tx] ty #[u, v]).run P w = .ok val W ∧ Inv c gh' nt st' a W ∧ Free c gh' st'.ar st'.bx W F ∧ RO W c.sh (.own n sz g) val F := by
  unfold appendK at e
  split at e
  · rename_i el el' hu hu'
    split at e
    · rename_i B st1 hgv
      obtain ⟨hB0, gh1, FB, Fs, hI1, hF1, hH1, hsrc, s1, s2⟩ := giveR_sound h hgv hy
      split at e
      · rename_i n sz g st2 htk
        obtain ⟨hk, e⟩ := K2_some e
        simp only [Bool.and_eq_true, decide_eq_true_eq] at hk
        obtain ⟨⟨⟨⟨hk1, hk2⟩, hk3⟩, hk4⟩, hk5⟩ := hk
        have hszB : sz = B.sz := beq_eq.1 hk2
        have hszE : sz = P.cellsOf el := beq_eq.1 hk3
        obtain ⟨i, z, hi, hz, hzs, his, hzf⟩ := zOk_spec hk5
        have hby : i.bytes ≤ 4096 := by
          have := Nat.le_of_ble_eq_true hk4
          simpa [hi] using this
        have hlim : n + B.n ≤ 4294967296 := hk1
        obtain ⟨gh2, F0, hT⟩ := takeC_sound hI1 hF1 (hH1 _ _ hx) htk
        obtain ⟨A, cap, rfl, h1, h2, h3⟩ := hT.own
        obtain ⟨news, hS, hnl, hnr, hno⟩ := hsrc.src (P := P) hu' hB0
        have hS' : Src P i.size tx v B.n news w := by rw [his, ← hszE, hszB]; exact hS
        have hown : RO w c.sh (.own n sz g) (.slice A n cap) F0 := ⟨A, cap, rfl, h1, h2, h3⟩
        refine ⟨(catA ⟨n, sz, g⟩ B).n, (catA ⟨n, sz, g⟩ B).sz, (catA ⟨n, sz, g⟩ B).g, st2, gh2, ?_⟩
        by_cases hB : B.n = 0
        · -- nothing is appended
          rw [hB] at hS'
          have hnil : news = [] := by
            have : news.length = 0 := by rw [hnl, hB]; simp
            exact List.length_eq_zero_iff.1 this
          subst hnil
          have hrun := run_append_nothing (P := P) w t tx ty el i hu hi A n cap h1 v hS'
          refine ⟨w, F0, _, e, hrun, hT.inv, hT.free.mono fun x y hx => .inr hx, ?_⟩
          have hn' : (catA ⟨n, sz, g⟩ B).n = n := by simp [catA, hB]
          rw [hn']
          exact RO_ext hown fun i hi j hj => catA_left hi
        · by_cases hroom : n + B.n ≤ cap
          · -- there is room
            rcases h3 with h3 | ⟨ad, rfl, hs, hc, F1, f1, f2, f3⟩
            · omega
            · have had : ad = ⟨ad.block, ad.off, none⟩ := by cases ad; simp at hs; subst hs; rfl
              have hnl' : news.length = B.n * sz := by rw [hnl, hszB]
              have hin : ∀ k, k < B.n * sz → n * sz + k < cap * sz := fun k hk => by
                have : (n + B.n) * sz ≤ cap * sz := Nat.mul_le_mul_right _ hroom
                rw [Nat.add_mul] at this; omega
              have hrun := run_append_room_src (P := P) w t tx ty el i hu hi ad.block ad.off n cap v B.n news hS' hroom (fun j hj => by
                  obtain ⟨u, hu, _⟩ := (hc (n * sz + j) (hin j (by omega))).2.1
                  rw [his, ← hszE]
                  simp only [Nat.add_assoc]
                  exact Option.isSome_iff_exists.2 ⟨u, hu⟩) (fun j hj => by
                  rw [his, ← hszE]
                  simp only [Nat.add_assoc]
                  exact (hc (n * sz + j) (hin j (by omega))).2.2)
              rw [← had] at hrun
              rw [his, ← hszE] at hrun
              obtain ⟨c1, c2, c3⟩ := setCells_spec ad.block news (ad.off + n * sz) w (fun j hj => by
                obtain ⟨u, hu, _⟩ := (hc (n * sz + j) (hin j (by omega))).2.1
                exact ⟨u, by rw [Nat.add_assoc]; exact hu⟩)
              have hDF : ∀ b o, (b = ad.block ∧ ad.off + n * sz ≤ o ∧ o < ad.off + n * sz + news.length) → F0 b o := by
                rintro b o ⟨rfl, h5, h6⟩
                have := (hc (o - ad.off) (by have := hin (o - ad.off - n * sz) (by omega); omega)).1
                rw [show ad.off + (o - ad.off) = o by omega] at this
                exact this
              obtain ⟨hI', hF'⟩ := hT.inv.chgFree c2 (FL := fun b o => FB b o ∨ F0 b o) (fun b o hd => .inr (hDF b o hd)) hT.free
              refine ⟨_, fun b o => FB b o ∨ F0 b o, _, e, hrun, hI', hF', ?_⟩
              have hblk : ad.block < w.heap.size := (hT.free _ _ (.inr (hc 0 (by have := hin 0 (Nat.mul_pos (Nat.pos_of_ne_zero hB) h2); omega)).1)).2.1
              show RO _ c.sh (.own (n + B.n) sz (catA ⟨n, sz, g⟩ B).g) _ _
              refine ⟨some ad, cap, rfl, hroom, h2, .inr ⟨ad, rfl, hs, fun k hk => ?_, fun i j => if i < n then F1 i j else Fs (i - n) j, fun i j b o hi hj hb => ?_, fun i j i' j' b o hi hj hi' hj' hne hb hb' => ?_, fun i hi j hj => ?_⟩⟩
              · obtain ⟨q1, ⟨u, q2, q3⟩, q4⟩ := hc k hk
                refine ⟨.inr q1, ?_, by rw [c3]; exact q4⟩
                by_cases hr : n * sz ≤ k ∧ k < n * sz + news.length
                · have hlt : k - n * sz < news.length := by omega
                  have := c1 (k - n * sz) (news.getD (k - n * sz) undef) (by simp [List.getD_eq_getElem?_getD, hlt])
                  rw [show ad.off + n * sz + (k - n * sz) = ad.off + k by omega] at this
                  exact ⟨_, this, hno _ hlt⟩
                · have := (c2.cell ad.block (ad.off + k) hblk (by rintro ⟨_, _, _⟩; omega)).1
                  exact ⟨u, this.trans q2, q3⟩
              · simp only at hb
                by_cases hin' : i < n
                · rw [if_pos hin'] at hb
                  exact ⟨.inr (f1 i j b o hin' hj hb).1, (f1 i j b o hin' hj hb).2⟩
                · rw [if_neg hin'] at hb
                  have hi2 : i - n < B.n := by have : i < n + B.n := hi; omega
                  have hfb := s1 (i - n) j b o hi2 (by rw [← hszB]; exact hj) hb
                  refine ⟨.inl hfb, fun hin2 => ?_⟩
                  have := (hc (o - ad.off) (by have h5 := hin2.2.1; have h6 := hin2.2.2; omega)).1
                  rw [show ad.off + (o - ad.off) = o by have h5 := hin2.2.1; omega, ← hin2.1] at this
                  exact hT.apart b o this hfb
              · simp only at hb hb'
                by_cases hi1 : i < n
                · rw [if_pos hi1] at hb
                  by_cases hi2 : i' < n
                  · rw [if_pos hi2] at hb'
                    exact f2 i j i' j' b o hi1 hj hi2 hj' hne hb hb'
                  · rw [if_neg hi2] at hb'
                    have hi3 : i' - n < B.n := by have : i' < n + B.n := hi'; omega
                    exact hT.apart b o (f1 i j b o hi1 hj hb).1 (s1 (i' - n) j' b o hi3 (by rw [← hszB]; exact hj') hb')
                · rw [if_neg hi1] at hb
                  have hi4 : i - n < B.n := by have : i < n + B.n := hi; omega
                  by_cases hi2 : i' < n
                  · rw [if_pos hi2] at hb'
                    exact hT.apart b o (f1 i' j' b o hi2 hj' hb').1 (s1 (i - n) j b o hi4 (by rw [← hszB]; exact hj) hb)
                  · rw [if_neg hi2] at hb'
                    have hi3 : i' - n < B.n := by have : i' < n + B.n := hi'; omega
                    exact s2 (i - n) j (i' - n) j' b o hi4 (by rw [← hszB]; exact hj) hi3 (by rw [← hszB]; exact hj') (fun e => hne ⟨by omega, e.2⟩) hb hb'
              · simp only
                by_cases hi1 : i < n
                · obtain ⟨u, hu, hr⟩ := f3 i hi1 j hj
                  have hlt := cell_lt hi1 hj (Nat.le_refl n)
                  refine ⟨u, ?_, ?_⟩
                  · have := (c2.cell ad.block (ad.off + (i * sz + j)) hblk (by rintro ⟨_, _, _⟩; omega)).1
                    exact this.trans hu
                  · have e1 : (catA ⟨n, sz, g⟩ B).g i j = g i j := catA_left (A := ⟨n, sz, g⟩) hi1
                    rw [e1, if_pos hi1]
                    refine RO_congr _ (fun b o hb => c2.cell b o (hT.free _ _ (.inr (f1 i j b o hi1 hj hb).1)).2.1 ?_) hr
                    rintro ⟨rfl, h5, h6⟩
                    exact (f1 i j _ _ hi1 hj hb).2 ⟨rfl, by omega, by have := hin (o - ad.off - n * sz) (by omega); omega⟩
                · have hi2 : i - n < B.n := by have : i < n + B.n := hi; omega
                  have hjB : j < B.sz := by rw [← hszB]; exact hj
                  have hr := hnr (i - n) hi2 j hjB
                  have hlt : (i - n) * sz + j < news.length := by rw [hnl']; exact cell_lt hi2 hj (Nat.le_refl _)
                  have := c1 ((i - n) * sz + j) (news.getD ((i - n) * sz + j) undef) (by simp [List.getD_eq_getElem?_getD, hlt])
                  refine ⟨_, by rw [← this]; congr 1; have h7 : i * sz = n * sz + (i - n) * sz := by rw [← Nat.add_mul]; congr 1; omega
                                omega, ?_⟩
                  have e1 : (catA ⟨n, sz, g⟩ B).g i j = B.g (i - n) j := catA_right (A := ⟨n, sz, g⟩) (by show n ≤ i; omega)
                  rw [e1, if_neg hi1]
                  rw [← hszB] at hr
                  refine RO_congr _ (fun b o hb => c2.cell b o (hT.free _ _ (.inl (s1 _ _ b o hi2 hjB hb))).2.1 fun hd => ?_) hr
                  exact hT.apart b o (hDF b o hd) (s1 _ _ b o hi2 hjB hb)
          · -- there is none
            obtain ⟨olds, holds, hol, holdr, holo⟩ : ∃ olds : List Value, (Builtin.firstCells i.size n (.slice A n cap)).run P w.drew = .ok olds.toArray w.drew ∧ olds.length = n * sz ∧
                (∃ F1 : Nat → Nat → Cells, (∀ i j b o, i < n → j < sz → F1 i j b o → F0 b o) ∧ (∀ i j i' j' b o, i < n → j < sz → i' < n → j' < sz → ¬ (i = i' ∧ j = j') → F1 i j b o → ¬ F1 i' j' b o) ∧
                  ∀ i, i < n → ∀ j, j < sz → RO w c.sh (g i j) (olds.getD (i * sz + j) undef) (F1 i j)) ∧ ∀ k, k < olds.length → (olds.getD k undef).oneCell' = true := by
              obtain ⟨_, F1, hs1, hs2, hs3⟩ := SrcR.ofRO hown
              obtain ⟨olds, hS2, hl2, hr2, ho2⟩ := hs1.src (P := P) hu (by exact h2)
              exact ⟨olds, by rw [his, ← hszE]; exact hS2.cellsD, hl2, ⟨F1, hs2, hs3, hr2⟩, ho2⟩
            obtain ⟨F1, f1, f2, f3⟩ := holdr
            have hfit := growslice_fits (need := n + B.n) (old := cap) (bytes := i.bytes) (by omega) (by
              have : (n + B.n) * i.bytes ≤ 4294967296 * 4096 := Nat.mul_le_mul hlim hby
              omega)
            have hrun := run_append_grow_src (P := P) w t tx ty el i z hu hi hz A n cap olds holds v B.n news hS' (by omega) (by omega) hfit
            have hge := grownCap_ge w (n + B.n) cap el
            generalize hN : grownCap w (n + B.n) cap el = N at hrun hge
            have hnl' : news.length = B.n * sz := by rw [hnl, hszB]
            have hzc : Builtin.zeroCells z.cells (N - (n + B.n)) = madeCells z.cells ((N - (n + B.n)) * sz) := by
              unfold Builtin.zeroCells madeCells; rw [hzs, ← hszE]
            let cells : Array Value := (olds ++ news).toArray ++ Builtin.zeroCells z.cells (N - (n + B.n))
            have hon : (olds ++ news).length = (n + B.n) * sz := by rw [List.length_append, hol, hnl', Nat.add_mul]
            have hsum : (n + B.n) * sz = n * sz + B.n * sz := Nat.add_mul ..
            have hNs : (n + B.n) * sz + (N - (n + B.n)) * sz = N * sz := by rw [← Nat.add_mul]; congr 1; omega
            have hlow : ∀ k, k < (n + B.n) * sz → cells[k]? = some ((olds ++ news).getD k undef) := fun k hk => by
              have hk' : k < (olds ++ news).length := by omega
              simp only [cells]
              rw [Array.getElem?_append_left (by simpa using hk')]
              simp only [List.getElem?_toArray, List.getD_eq_getElem?_getD, List.getElem?_eq_getElem hk', Option.getD_some]
            have hhigh : ∀ k, (n + B.n) * sz ≤ k → k < N * sz → cells[k]? = some (z.cells.getD ((k - (n + B.n) * sz) % sz) undef) := fun k hk hk' => by
              simp only [cells]
              rw [Array.getElem?_append_right (by simp only [List.size_toArray]; omega), hzc]
              simp only [List.size_toArray, hon]
              have hlt : k - (n + B.n) * sz < (N - (n + B.n)) * sz := by omega
              obtain ⟨d1, d2, d3⟩ := div_lt h2 hlt
              have := zero_cell (i := (k - (n + B.n) * sz) / sz) (hzs.trans hszE.symm) d2
              rw [d3] at this
              simp only [madeCells, Array.getElem?_map, Array.getElem?_range, hlt]
              simpa using this
            have hone : ∀ k, k < (n + B.n) * sz → ((olds ++ news).getD k undef).oneCell' = true := fun k hk => by
              by_cases hk' : k < olds.length
              · have := holo k hk'
                simpa [List.getD_eq_getElem?_getD, List.getElem?_append_left hk'] using this
              · have hk2 : k - olds.length < news.length := by omega
                have := hno _ hk2
                simpa [List.getD_eq_getElem?_getD, List.getElem?_append_right (Nat.not_lt.1 hk')] using this
            obtain ⟨q1, q2, q3⟩ := freshRow (W := w.drew.alloc (.cells cells el)) (bl := w.heap.size) (cap := N) (n := n + B.n) (sz := sz) (g := (catA ⟨n, sz, g⟩ B).g) (Fs := fun i j => if i < n then F1 i j else Fs (i - n) j) (FB := fun b o => FB b o ∨ F0 b o) hT.inv (drew_alloc_ext w _) (Nat.le_refl _)
              (by rw [alloc_heap]; show w.heap.size < (w.heap.push _).size; simp) hge h2
              (fun k hk => by
                refine ⟨?_, alloc_froz w.drew cells el k⟩
                have hcell : cellAt (w.drew.alloc (.cells cells el)) w.heap.size k = cells[k]? := alloc_cell w.drew cells el k
                rw [hcell]
                by_cases hlt : k < (n + B.n) * sz
                · exact ⟨_, hlow k hlt, hone k hlt⟩
                · exact ⟨_, hhigh k (by omega) hk, (zFits_RO (w := w) (c := c) (hzf _ (by rw [← hszE]; exact Nat.mod_lt _ h2))).1⟩)
              (fun i hi j hj => by
                have hcell : cellAt (w.drew.alloc (.cells cells el)) w.heap.size (i * sz + j) = cells[i * sz + j]? := alloc_cell w.drew cells el _
                rw [hcell]
                refine ⟨_, hlow _ (cell_lt hi hj (Nat.le_refl _)), ?_⟩
                by_cases hi1 : i < n
                · have e1 : (catA ⟨n, sz, g⟩ B).g i j = g i j := catA_left (A := ⟨n, sz, g⟩) hi1
                  rw [e1, if_pos hi1]
                  have hk' : i * sz + j < olds.length := by rw [hol]; exact cell_lt hi1 hj (Nat.le_refl _)
                  have := f3 i hi1 j hj
                  simpa [List.getD_eq_getElem?_getD, List.getElem?_append_left hk'] using this
                · have hi2 : i - n < B.n := by omega
                  have e1 : (catA ⟨n, sz, g⟩ B).g i j = B.g (i - n) j := catA_right (A := ⟨n, sz, g⟩) (by show n ≤ i; omega)
                  rw [e1, if_neg hi1]
                  have h7 : i * sz = n * sz + (i - n) * sz := by rw [← Nat.add_mul]; congr 1; omega
                  have hk' : olds.length ≤ i * sz + j := by omega
                  have := hnr (i - n) hi2 j (by rw [← hszB]; exact hj)
                  rw [← hszB] at this
                  rw [List.getD_eq_getElem?_getD, List.getElem?_append_right hk', show i * sz + j - olds.length = (i - n) * sz + j by omega, ← List.getD_eq_getElem?_getD]
                  exact this)
              (fun i j b o hi hj hb => by
                by_cases hi1 : i < n
                · rw [if_pos hi1] at hb; exact .inr (f1 i j b o hi1 hj hb)
                · rw [if_neg hi1] at hb; exact .inl (s1 (i - n) j b o (by omega) (by rw [← hszB]; exact hj) hb))
              (fun i j i' j' b o hi hj hi' hj' hne hb hb' => by
                by_cases hi1 : i < n
                · rw [if_pos hi1] at hb
                  by_cases hi2 : i' < n
                  · rw [if_pos hi2] at hb'
                    exact f2 i j i' j' b o hi1 hj hi2 hj' hne hb hb'
                  · rw [if_neg hi2] at hb'
                    exact hT.apart b o (f1 i j b o hi1 hj hb) (s1 (i' - n) j' b o (by omega) (by rw [← hszB]; exact hj') hb')
                · rw [if_neg hi1] at hb
                  by_cases hi2 : i' < n
                  · rw [if_pos hi2] at hb'
                    exact hT.apart b o (f1 i' j' b o hi2 hj' hb') (s1 (i - n) j b o (by omega) (by rw [← hszB]; exact hj) hb)
                  · rw [if_neg hi2] at hb'
                    exact s2 (i - n) j (i' - n) j' b o (by omega) (by rw [← hszB]; exact hj) (by omega) (by rw [← hszB]; exact hj') (fun e => hne ⟨by omega, e.2⟩) hb hb')
              hT.free
            exact ⟨_, _, _, e, hrun, q1, q2, q3⟩
      · simp at e
    · simp at e
  · simp at e

end
end Go.Fw
