/- Stuck's law returns true whatever its arguments, and its arguments read as they did: the given statement. No condition beyond the statement's own. -/
import Derived.Test.YtndmnbgcneaggaaGreatDoorRows
import Derived.Test.YtndmnbgcneaggaaGreatDoorL1
import Derived.Test.YtndmnbgcneaggaaGreatDoorV5
import Derived.Test.YtndmnbgcneaggaaGreatDoorVb
import Derived.Test.YtndmnbgcneaggaaGreatDoorTie
import Derived.Test.YtndmnbgcneaggaaGreatDoorCards
import Derived.Lay
import Derived.LaidMore
import Derived.SevenTiedAt
import Derived.Shelf.Vars
import Derived.WideShapes
set_option linter.unusedVariables false
namespace Go.Proofs.YtndmnbgcneaggaaGreatDoor.fnExactStuck
open Go.ChangeShapes Go.WideShapes Go.ChangeAt Go.RowKit Go.Fw
theorem own : ownKnob Tryz.prog.godebug = none := by kernel_rfl
theorem laidOut : laidOutB Tryz.prog = true := by kernel_rfl
variable {H : Type} {enc : TypeId × Value → H}
theorem ret_and_shaped {a : Assume} {C : Checked} {os : Os} {f : FuncId} {fn : Func} {s : ChangeSpec} {conds : List PathCond} {apart fresh handsOn again : Bool} {X : World → Array Value → Prop}
  (hX : ∀ (w w' : World) (args : Array Value), w.heap = w'.heap → X w args → X w' args)
  (own : ownKnob C.prog.godebug = none) (started : os.Started) (noInit : C.prog.inits.idxOf? f = none) (hfn : C.prog.funcs[f]? = some fn)
  (witness : ∃ (w : World) (tape : Tape) (i : Input), w.os = os ∧ (w.forCall tape i).Shaped C.prog ∧ i.vars = [] ∧ Input.okWide C.prog (w.forCall tape i) .any w.heap.size f i ∧
   ((s.pre enc C.prog fn conds apart (w.forCall tape i).memory i.args ∧ X (w.forCall tape i).memory i.args) ∧ sizedMet enc C.prog fn (OpenSpec.ofChange s) apart (w.forCall tape i).memory i.args) ∧ a.holds C.prog (lone (Frame.enter C.prog f i.args .normal) [] (w.forCall tape i)))
  (contract : ∀ (W : World) (base : Nat) (args : Array Value) (ds gs : List (DataW H)) (before : List MemPlace),
   (∀ (j : Nat) t v, fn.params[j]? = some t → args[j]? = some v → Value.okWide C.prog W .any base t v) →
   DataW.Whole enc C.prog fn.params.toList s.vars apart W args.toList ds gs before →
   W.ShapedOpen C.prog →
   Calls C.prog f args W fun e W' => ∃ v, e = .returned v ∧ s.post enc C.prog fn apart fresh handsOn again W args v W') :
  ReturnsInHanded a C os f .any (fun w args => (s.pre enc C.prog fn conds apart w args ∧ X w args) ∧ sizedMet enc C.prog fn (OpenSpec.ofChange s) apart w args) (s.post enc C.prog fn apart fresh handsOn again) := by
 refine returnsInHanded_of_calls own started noInit witness ?_
 intro w tape i _ hsh _ hok hpre hholds
 obtain ⟨_, _, _, fn', hfn', _, _, _, _, hval⟩ := hok
 have e : fn' = fn := Option.some.inj (hfn'.symm.trans hfn)
 subst e
 obtain ⟨⟨⟨ds, gs, before, hw, hc⟩, hx⟩, hz⟩ := hpre
 have hw' := DataW.Whole.of_heap (w' := w.forCall tape i) (by rfl) hw
 refine (contract (w.forCall tape i) w.heap.size i.args ds gs before hval hw' hsh).mono fun e W' ⟨v, he, hp⟩ => ?_
 subst he
 exact ChangeSpec.post_blind hp
theorem maxLen_cell {W : World} (h : W.ShapedOpen Tryz.prog) : ∃ m, W.cell? ⟨0, 0, none⟩ = some (.int .i64 m) :=
 cell_of_shapedOpen_int (zero := #[.int .i64 0]) (t := 3) h (of_decide_eq_true (by kernel_rfl)) (by kernel_rfl) rfl (by kernel_rfl) (by kernel_rfl) Tryz.underlying3
set_option maxRecDepth 100000 in
theorem lifted (os : Os) (started : os.Started) (H : Type) (enc : TypeId × Value → H) :
  ReturnsInHanded {} Tryz.checked os 5 .any (fun w args => (Rows.fnExactStuckSpec.pre enc Tryz.prog Tryz.f5 Rows.fnExactStuckRow.domain false w args ∧ laidMetH Tryz.prog Rows.fnExactStuckRow.laid w) ∧ sizedMet enc Tryz.prog Tryz.f5 (OpenSpec.ofChange Rows.fnExactStuckSpec) false w args) (Rows.fnExactStuckSpec.post enc Tryz.prog Tryz.f5 false true false false) := by
 refine ret_and_shaped (C := Tryz.checked) (X := fun w _ => laidMetH Tryz.prog Rows.fnExactStuckRow.laid w) (fun _ _ _ hh h => h.of_heap hh) own started (by kernel_rfl) Tryz.func5
  (ChangeSpec.witness_shaped (enc := enc) (C := Tryz.checked) (os := os) (X := fun w _ => laidMetH Tryz.prog Rows.fnExactStuckRow.laid w) false (World.laidAll Tryz.prog os Rows.fnExactStuckRow.laid) #[.agg #[.slice none 0 0, .slice none 0 0, .int .i64 0, .slice none 0 0, .slice none 0 0, .slice none 0 0, .slice none 0 0, .slice none 0 0, .slice none 0 0, .slice none 0 0, .slice none 0 0, .slice none 0 0]] 13 (World.laidAll_os _ _ _)
   (World.shaped_of_ZipB (by kernel_rfl) (by kernel_rfl)) (by kernel_rfl) (by kernel_rfl) (by kernel_rfl)
   (by rw [MakeChecks.laidMetH_plain _ _ _ (by kernel_rfl)]; exact laidMet_laidAll _ (by kernel_rfl) (by kernel_rfl))) ?_
 intro W base args ds gs before hval0 hW hsh
 have hW' := hW
 obtain ⟨p, q, hA0, hV, rfl, hfz, hnd⟩ := hW
 have hA : DataW.TrodAll enc Tryz.prog W 0 (fun _ => true) true Tryz.f5.params.toList args.toList ds p := hA0
 rw [Tryz.params5] at hA
 obtain ⟨v0, vs0, d0, ds0, p0, q0, hargs, rfl, rfl, k0, r0⟩ := trodAll_cons hA
 obtain ⟨rfl, rfl, rfl⟩ := trodAll_nil r0
 obtain rfl : args = #[v0] := by cases args; simp_all
 obtain ⟨rfl, rfl⟩ := trodVars_none hV
 obtain ⟨m, hm⟩ := maxLen_cell hsh
 letI tk : Go.Fw.Tok := ⟨.slice none 0 0, [], some (0, .int .i64 m)⟩
 have htok : RS W (okOf W (fun _ _ => False)) (.gv tk.bs) tk.val := ⟨rfl, rfl, fun b u hb => by
  have hb2 : some ((0 : Nat), Value.int .i64 m) = some (b, u) := hb
  obtain ⟨rfl, rfl⟩ := Prod.mk.inj (Option.some.inj hb2)
  exact ⟨⟨Go.Fw.lt_of_cell hm, fun h => h⟩, hm⟩, none, 0, rfl, ⟨Nat.le_refl _, fun _ => rfl⟩, .inl rfl⟩
 have lt0 : ∀ x ∈ p0, x.block < W.heap.size := by obtain ⟨m, hm⟩ := k0; exact DataW.trod_lt m _ _ _ hm
 obtain ⟨fuel0, hf0⟩ := id k0
 obtain ⟨hl0, b0, ok0, hrs0⟩ := op_State hf0
 obtain ⟨hv0, hvs0⟩ := agg_of_cells hl0 (by omega)
 have hget0 : ∀ j, v0.cells.toList.getD j undef = v0.cells.getD j undef := fun j => by simp [List.getD_eq_getElem?_getD, Array.getD_eq_getD_getElem?]
 have hcon := ev_con (outs_ok m rfl) (v5 b0 ok0) W (fun _ _ => False) (fun _ => undef) (fun _ _ _ => False) #[v0] htok (by simp) (fun x hx => by simp at hx)
  ⟨fun k x hk => by simp at hk, fun k m b o hk => by simp at hk, fun k b o hk => by simp at hk⟩ (fun b o h => h.elim) rfl (fun j hj => by
   obtain rfl : j = 0 := by simpa using hj
   refine ⟨v0.cells, hv0, hvs0, fun j hj => ?_⟩
   have h1 := hrs0 j hj
   rw [hget0] at h1
   refine ⟨RS_one h1, ?_⟩
   have h2 : j = 0 ∨ j = 1 ∨ j = 2 ∨ j = 3 ∨ j = 4 ∨ j = 5 ∨ j = 6 ∨ j = 7 ∨ j = 8 ∨ j = 9 ∨ j = 10 ∨ j = 11 := by omega
   rcases h2 with rfl | rfl | rfl | rfl | rfl | rfl | rfl | rfl | rfl | rfl | rfl | rfl <;> exact h1)
 refine hcon.mono fun e W' ⟨v, he, hC, F, Fe', hR, _⟩ => ?_
 obtain rfl : v = .bool true := hR
 have bel : Below W.heap.size W W' := ⟨hC.io.1, hC.io.2.2, hC.io.2.1, hC.size, fun k hk => hC.blk k hk (fun o h => h)⟩
 subst he
 exact ⟨_, rfl, _, _, _, [], _, [], hW', trodAll_mk1 (shut_bool Tryz.underlying4 _), (trodAll_cons_mk (Below.trod laidOut (by kernel_rfl) (of_decide_eq_true (by kernel_rfl)) k0 bel lt0) trodAll_mk0), rfl, bel.frame _, fun h => by cases h⟩
theorem f1 : (Rows.fnExactStuckRow.inPlace == Program.inPlace Tryz.pinned.checked.prog 5) = true := by kernel_rfl
theorem f2 : (Rows.fnExactStuckRow.unfollowed == Program.unfollowed Tryz.pinned.checked.prog 5) = true := by kernel_rfl
theorem f3 : (Rows.fnExactStuckRow.recurses == Program.recurses Tryz.pinned.checked.prog 5) = true := by kernel_rfl
theorem f4 : (Rows.fnExactStuckRow.named == Program.varsNamed Tryz.pinned.checked.prog 5) = true := by kernel_rfl
theorem f5 : Program.stopsHeard Tryz.pinned.checked.prog = true := by kernel_rfl
theorem f6 : Program.mayEnter Tryz.pinned.checked.prog = true := by kernel_rfl
theorem f7 : (Rows.fnExactStuckRow.lifted == Program.liftsFinal Tryz.pinned.checked.prog) = true := by kernel_rfl
theorem f8 : (Program.make Tryz.pinned.checked.prog == some Rows.fnExactStuckRow.make) = true := by kernel_rfl
theorem f9 : (Rows.fnExactStuckRow.plainKeys == Program.plainKeys Tryz.pinned.checked.prog) = true := by kernel_rfl
theorem named : Tryz.pinned.checked.prog.funcNamed Rows.fnExactStuckRow.func = some 5 := by kernel_rfl
theorem closed : joinedFacts Tryz.pinned.checked.prog 5 Tryz.f5 Rows.fnExactStuckSpec Rows.fnExactStuckRow = true := by
 unfold joinedFacts
 rw [f1, f2, f3, f4, f5, f6, f7, f8, f9]
 kernel_rfl
theorem over : Rows.fnExactStuckRow.holds Tryz.pinned (OpenSpec.ofChange Rows.fnExactStuckSpec) :=
 OpenClaim.holds_of_wide 5 Tryz.f5 rfl rfl rfl rfl rfl rfl rfl ⟨rfl, rfl, rfl, rfl, rfl⟩ rfl rfl rfl rfl rfl named Tryz.func5 closed
  (of_decide_eq_true (by kernel_rfl)) (by unfold Func.isWrapper; first | (rw [if_pos (by decide +kernel)]; kernel_rfl) | (rw [if_neg (by decide +kernel)]; exact ⟨rfl, rfl⟩))
  (fun os started H enc _ => lifted os started H enc)
theorem card : Rows.FnExactStuckCardSaid :=
 Claim7.holds_tied_plain_at .later [] [.data, .pinned] true Rows.fnExactStuckCard.stood.harness false over (fun _ h => by cases h) (by kernel_rfl) (fun _ h => by cases h) fnExactStuck_row_tie rfl ⟨rfl, rfl⟩ (by kernel_rfl) rfl
  (fun f fn hf hfn => by
   obtain rfl : f = 5 := Option.some.inj ((show Tryz.prog.funcNamed Rows.fnExactStuckRow.func = some 5 by kernel_rfl).symm.trans hf) |>.symm
   obtain rfl : fn = Tryz.f5 := (Option.some.inj (Tryz.func5.symm.trans hfn)).symm
   exact ⟨by kernel_rfl, fun j t ht => by
    rw [Tryz.params5] at ht
    have hm : t ∈ [40] := by simpa using Array.mem_of_getElem? ht
    have hall : ([40].all fun u => !Tryz.prog.wantsStandIn u) = true := by kernel_rfl
    exact (show Tryz.prog.wantsStandIn t = false by simpa using List.all_eq_true.1 hall t hm)⟩)
  (by kernel_rfl)
end Go.Proofs.YtndmnbgcneaggaaGreatDoor.fnExactStuck
namespace Go.Proofs.YtndmnbgcneaggaaGreatDoor
theorem fnExactStuck_holds : Rows.FnExactStuckCardSaid := fnExactStuck.card
end Go.Proofs.YtndmnbgcneaggaaGreatDoor
#print axioms Go.Proofs.YtndmnbgcneaggaaGreatDoor.fnExactStuck_holds
