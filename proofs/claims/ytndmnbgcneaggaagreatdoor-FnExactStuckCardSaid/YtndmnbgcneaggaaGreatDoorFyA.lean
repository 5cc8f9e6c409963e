/- The by-value interpreter with loops as named states: heads told by their place in the code. -/
import Derived.Test.YtndmnbgcneaggaaGreatDoorFxJ
set_option linter.unusedVariables false
set_option linter.unusedSimpArgs false
namespace Go.Fw
abbrev Hd := List Bool → St → Option (AV × List AV)
section
variable (P : Program) (C : Cfg) (Γ : Orc) (f : Nat)
def goH (H : Hd) (r : Nat) (p : List Bool) (st : St) : Option (AV × List AV) :=
 match st.focus (C.foc f r) with
 | some st' => H p st'
 | none => none
def cutH (H : Hd) (id : Nat) (p : List Bool) (K : Ex → St → Option (AV × List AV)) (st : St) : Option (AV × List AV) :=
 bif C.cut f id then goH C f H id p st else K .normal st
noncomputable def evH (H : Hd) : List Bool → Code → (Ex → St → Option (AV × List AV)) → St → Option (AV × List AV)
 | _, .skip, K, st => K .normal st
 | _, .label _, K, st => K .normal st
 | p, .region id ops false, K, st => evOps P C Γ ops (List.range ops.size) st (cutH C f H id p K)
 | p, .region id ops true, K, st => K2 (P.follows .mixedOrders && Region.noSelect ops) (evDraw P C Γ ops (cutH C f H id p K) ops.size (Array.replicate ops.size false) [] st)
 | p, .seq a b, K, st => evH H (p ++ [false]) a (fun e st' => match e with
   | .normal => evH H (p ++ [true]) b K st'
   | e => K e st') st
 | p, .cond c a b, K, st => match st.get P 0 c with
  | .B x => bif x then evH H (p ++ [false]) a K st else evH H (p ++ [true]) b K st
  | _ => none
 | p, .block id c, K, st => evH H p c (fun e st' => match e with
   | .exit k => bif Nat.beq k id then K .normal st' else K (.exit k) st'
   | e => K e st') st
 | p, .loop c, K, st => goH C f H (firstR c) p st
 | _, .exit id, K, st => K (.exit id) st
 | _, .ret, K, st => K .ret st
 | _, _, _, _ => none
def loopK (H : Hd) (p : List Bool) (c : Code) (K : Ex → St → Option (AV × List AV)) : Ex → St → Option (AV × List AV) := fun e st' => match e with
 | .normal => goH C f H (firstR c) p st'
 | e => K e st'
noncomputable def fnd (H : Hd) : List Bool → Code → (Ex → St → Option (AV × List AV)) → List Bool → St → Option (AV × List AV)
 | p, .seq a b, K, q, st => match q with
  | false :: q => fnd H (p ++ [false]) a (fun e st' => match e with
   | .normal => evH P C Γ f H (p ++ [true]) b K st'
   | e => K e st') q st
  | true :: q => fnd H (p ++ [true]) b K q st
  | [] => none
 | p, .cond c a b, K, q, st => match q with
  | false :: q => fnd H (p ++ [false]) a K q st
  | true :: q => fnd H (p ++ [true]) b K q st
  | [] => none
 | p, .block id c, K, q, st => fnd H p c (fun e st' => match e with
   | .exit k => bif Nat.beq k id then K .normal st' else K (.exit k) st'
   | e => K e st') q st
 | p, .loop c, K, q, st => match q with
  | [] => evH P C Γ f H (p ++ [true]) c (loopK C f H p c K) st
  | true :: q => fnd H (p ++ [true]) c (loopK C f H p c K) q st
  | false :: _ => none
 | _, .region _ _ _, K, q, st => match q with
  | [] => K .normal st
  | _ :: _ => none
 | _, _, _, _, _ => none
noncomputable def finK (giv : Bool) (fn : Func) (exts : List AV) : Ex → St → Option (AV × List AV) := fun e st => match e with
 | .exit _ => none
 | _ => finishN P giv fn exts st
noncomputable def ent (H : Hd) (args exts : List AV) : Option (AV × List AV) :=
 match P.funcs[f]? with
 | some fn => match fn.body with
  | some c => K2 (dstOk fn.ntmps c && Nat.ble args.length fn.ntmps && !(fn.name == "runtime.NumGoroutine")) (evH P C Γ f H [] c (finK P (C.give f) fn exts) (initSt args exts))
  | none => none
 | none => none
noncomputable def hed (H : Hd) (exts : List AV) (q : List Bool) (st : St) : Option (AV × List AV) :=
 match P.funcs[f]? with
 | some fn => match fn.body with
  | some c => fnd P C Γ f H [] c (finK P (C.give f) fn exts) q st
  | none => none
 | none => none
noncomputable def HF (exts : List AV) : Nat → Hd
 | 0 => fun _ _ => none
 | n + 1 => fun q st => hed P C Γ f (HF exts n) exts q st
end
section
variable {P : Program} {C : Cfg} {Γ : Orc} {f : Nat}
theorem evOps_mono {ops : Array Oper} {is : List Nat} {st : St} {K K' : St → Option (AV × List AV)} (h : ∀ st x, K st = some x → K' st = some x) {x : AV × List AV}
  (e : evOps P C Γ ops is st K = some x) : evOps P C Γ ops is st K' = some x := by
 obtain ⟨k, hk⟩ := evOps_lim (hΓ := fun f a e x h => .of fun _ => h) is (Γ' := fun _ => Γ) (K' := fun _ => K') (r' := x) (fun st e => .of fun _ => h st x e) e
 exact hk k (Nat.le_refl _)
theorem evH_ok {code : Code} {K0 : Ex → St → Option (AV × List AV)} {HH : Nat → Hd} (h0 : ∀ q st, HH 0 q st = none) (hs : ∀ n q st, HH (n + 1) q st = fnd P C Γ f (HH n) [] code K0 q st) (N : Nat) :
  ∀ (c : Code) (p : List Bool) (n : Nat) (κ : Hd → Ex → St → Option (AV × List AV)) (KR : Ex → St → Option (AV × List AV)), n ≤ N →
  (∀ m q st, fnd P C Γ f (HH m) [] code K0 (p ++ q) st = fnd P C Γ f (HH m) p c (κ (HH m)) q st) →
  (∀ m, m ≤ n → ∀ e st x, κ (HH m) e st = some x → KR e st = some x) →
  ∀ st x, evH P C Γ f (HH n) p c (κ (HH n)) st = some x → evC P C Γ N f c KR st = some x := by
 intro c
 induction c with
 | skip => intro p n κ KR hn pos good st x e; exact good n (Nat.le_refl _) _ _ _ e
 | label => intro p n κ KR hn pos good st x e; exact good n (Nat.le_refl _) _ _ _ e
 | region id ops d =>
  intro p n κ KR hn pos good st x e
  have hcut : ∀ st x, cutH C f (HH n) id p (κ (HH n)) st = some x → cutK C f id KR st = some x := fun st x e => by
   unfold cutH at e
   unfold cutK
   cases hc : C.cut f id with
   | false => rw [hc] at e; exact good n (Nat.le_refl _) _ _ _ e
   | true =>
    rw [hc] at e
    simp only [cond_true] at e ⊢
    unfold goH at e
    split at e
    · rename_i st' hf
      cases n with
      | zero => rw [h0] at e; simp at e
      | succ m =>
       rw [hs] at e
       have e1 := pos m [] st'
       rw [List.append_nil] at e1
       rw [e1] at e
       simp only [fnd] at e
       rw [hf]
       exact good m (by omega) _ _ _ e
    · simp at e
  cases d with
  | true =>
   simp only [evH] at e
   simp only [evC]
   obtain ⟨hk, e⟩ := K2_some e
   rw [K2_true hk]
   obtain ⟨k, h⟩ := evDraw_lim (Γ' := fun _ => Γ) (K' := fun _ => cutK C f id KR) (r' := x) (fun f a e x h => .of fun _ => h) (fun st e => .of fun _ => hcut st x e) _ _ _ _ e
   exact h k (Nat.le_refl _)
  | false => exact evOps_mono hcut e
 | seq a b iha ihb =>
  intro p n κ KR hn pos good st x e
  simp only [evH] at e
  simp only [evC]
  refine iha (p ++ [false]) n (fun H e st' => match e with
   | .normal => evH P C Γ f H (p ++ [true]) b (κ H) st'
   | e => κ H e st') _ hn (fun m q st => ?_) (fun m hm e st x h => ?_) st x e
  · rw [List.append_assoc]; exact pos m (false :: q) st
  · cases e with
    | normal =>
     refine ihb (p ++ [true]) m κ KR (by omega) (fun m q st => ?_) (fun m' hm' => good m' (by omega)) st x h
     rw [List.append_assoc]; exact pos m (true :: q) st
    | exit k => exact good m hm _ _ _ h
    | ret => exact good m hm _ _ _ h
 | cond c a b iha ihb =>
  intro p n κ KR hn pos good st x e
  simp only [evH] at e
  simp only [evC]
  split at e
  · rename_i y hy
    rw [hy]
    cases y with
    | true =>
     refine iha (p ++ [false]) n κ KR hn (fun m q st => ?_) good st x e
     rw [List.append_assoc]; exact pos m (false :: q) st
    | false =>
     refine ihb (p ++ [true]) n κ KR hn (fun m q st => ?_) good st x e
     rw [List.append_assoc]; exact pos m (true :: q) st
  · simp at e
 | block id c ih =>
  intro p n κ KR hn pos good st x e
  simp only [evH] at e
  simp only [evC]
  refine ih p n (fun H e st' => match e with
   | .exit k => bif Nat.beq k id then κ H .normal st' else κ H (.exit k) st'
   | e => κ H e st') _ hn (fun m q st => pos m q st) (fun m hm e st x h => ?_) st x e
  cases e with
  | normal => exact good m hm _ _ _ h
  | exit k =>
   simp only at h ⊢
   cases hk : Nat.beq k id with
   | true => rw [hk] at h; exact good m hm _ _ _ h
   | false => rw [hk] at h; exact good m hm _ _ _ h
  | ret => exact good m hm _ _ _ h
 | loop c ih =>
  intro p n κ KR hn pos good
  have key : ∀ k, ∀ n, n ≤ k → n ≤ N → (∀ m, m ≤ n → ∀ e st x, κ (HH m) e st = some x → KR e st = some x) → ∀ M, n ≤ M → ∀ st x, goH C f (HH n) (firstR c) p st = some x →
    evL (C.foc f (firstR c)) (fun K' => evC P C Γ N f c K') KR M st = some x := by
   intro k
   induction k with
   | zero =>
    intro n hk _ _ M _ st x e
    obtain rfl : n = 0 := by omega
    unfold goH at e
    split at e
    · rw [h0] at e; simp at e
    · simp at e
   | succ k ihk =>
    intro n hk hN hg M hM st x e
    cases n with
    | zero =>
     unfold goH at e
     split at e
     · rw [h0] at e; simp at e
     · simp at e
    | succ m =>
     obtain ⟨M', rfl⟩ : ∃ M', M = M' + 1 := ⟨M - 1, by omega⟩
     unfold goH at e
     simp only [evL]
     split at e
     · rename_i st' hf
       rw [hf]
       rw [hs] at e
       have e1 := pos m [] st'
       rw [List.append_nil] at e1
       rw [e1] at e
       simp only [fnd] at e
       refine ih (p ++ [true]) m (fun H => loopK C f H p c (κ H)) _ (by omega) (fun m q st => ?_) (fun m' hm' e st x h => ?_) st' x e
       · rw [List.append_assoc]; exact pos m (true :: q) st
       · cases e with
         | normal => exact ihk m' (by omega) (by omega) (fun m'' h'' => hg m'' (by omega)) M' (by omega) st x h
         | exit k => exact hg m' (by omega) _ _ _ h
         | ret => exact hg m' (by omega) _ _ _ h
     · simp at e
  intro st x e
  simp only [evH] at e
  simp only [evC]
  exact key n n (Nat.le_refl _) hn good N hn st x e
 | exit id => intro p n κ KR hn pos good st x e; exact good n (Nat.le_refl _) _ _ _ e
 | ret => intro p n κ KR hn pos good st x e; exact good n (Nat.le_refl _) _ _ _ e
 | _ => intro p n κ KR hn pos good st x e; simp [evH] at e
theorem ev_ent {n : Nat} {args exts : List AV} {r : AV × List AV} (hn : (C.nil f && isSl args || C.outF f) = false) (e : ent P C (ev P C) f (HF P C (ev P C) f exts n) args exts = some r) : ev P C f args exts = some r := by
 unfold ent at e
 split at e
 · rename_i fn hf
   split at e
   · rename_i c hb
     obtain ⟨hk, e⟩ := K2_some e
     refine ev_intro (N := n) hf hb hk hn ?_
     refine evH_ok (HH := HF P C (ev P C) f exts) (code := c) (K0 := finK P (C.give f) fn exts) (fun _ _ => rfl) (fun m q st => ?_) n c [] n (fun _ => finK P (C.give f) fn exts) _ (Nat.le_refl _) (fun m q st => rfl) (fun m hm e st x h => ?_) _ _ e
     · simp only [HF, hed, hf, hb]
     · cases e <;> exact h
   · simp at e
 · simp at e
end
end Go.Fw
