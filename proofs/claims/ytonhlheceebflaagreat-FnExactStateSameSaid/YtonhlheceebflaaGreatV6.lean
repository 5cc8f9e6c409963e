/- Values of the reference's comparison of states: 'equal' is told of each part. -/
import Derived.Test.YtonhlheceebflaaGreatV0
import Derived.Test.YtonhlheceebflaaGreatKb
import Derived.Test.YtonhlheceebflaaGreatKc
set_option linter.unusedVariables false
set_option linter.unusedSimpArgs false
set_option maxRecDepth 10000
namespace Go.Fw
open Go.Proofs
open Classical in
noncomputable def dB (p : Prop) : Bool := decide p
theorem dB_t {p : Prop} (h : p) : dB p = true := by simp [dB, h]
theorem dB_f {p : Prop} (h : ¬ p) : dB p = false := by simp [dB, h]
theorem dB_and (p q : Prop) : dB (p ∧ q) = (dB p && dB q) := by by_cases h : p <;> by_cases h' : q <;> simp [dB, h, h']
theorem dB_iff {p q : Prop} (h : p ↔ q) : dB p = dB q := by rw [propext h]
abbrev RB (b : Bool) : Option (AV × List AV) := some (AV.B b, [])
theorem sN {c b w : Bool} {t : Option (AV × List AV)} (hc : c = b) (h : t = RB w) : (bif !c then some (AV.B false, []) else t) = RB (b && w) := by subst hc h; cases c <;> rfl
theorem sP {c b w : Bool} {t : Option (AV × List AV)} (hc : c = b) (h : t = RB w) : (bif c then t else some (AV.B false, [])) = RB (b && w) := by subst hc h; cases c <;> rfl
theorem sL {α β : Type} {x : List α} {y : List β} {w : Bool} {t : Option (AV × List AV)} [Decidable (zN x.length = zN y.length)] (h0 : x.length ≠ y.length → w = false) (h : x.length = y.length → t = RB w) : (bif !decide (zN x.length = zN y.length) then some (AV.B false, []) else t) = RB w := by
  by_cases e : x.length = y.length
  · rw [decide_eq_true (by rw [e] : zN x.length = zN y.length)]; exact h e
  · rw [decide_eq_false (fun e' => e (by simp only [zN] at e'; omega)), h0 e]; rfl
theorem sC {g : Option (AV × List AV)} {b w : Bool} {t : AV × List AV → Option (AV × List AV)} (hc : g = RB b) (h : t (AV.B b, []) = RB w) : Option.bind g (fun r => bif !asB r.fst then some (AV.B false, []) else t r) = RB (b && w) := by
  subst hc
  cases b
  · rfl
  · exact h
theorem sD {g : Option (AV × List AV)} {b w : Bool} {t : AV × List AV → Option (AV × List AV)} (hc : g = RB b) (h : t (AV.B b, []) = RB w) : Option.bind g (fun r => bif asB r.fst then t r else some (AV.B false, [])) = RB (b && w) := by
  subst hc
  cases b
  · rfl
  · exact h
theorem sE {g : Option (AV × List AV)} {b : Bool} (hc : g = RB b) : Option.bind g (fun r => some (AV.B (asB r.fst), [])) = RB (b && true) := by subst hc; rw [Bool.and_true]; rfl
theorem bndL' {n i : Nat} (h : i < n) : (bif decide (0 ≤ (i : Int)) then decide ((i : Int) < zN n) else false) = true := by simp [zN]; omega
theorem c_dec {p : Prop} [i : Decidable p] : decide p = dB p := by by_cases h : p <;> simp [dB, h]
theorem c_bool (p q : Bool) : (p == q) = dB (p = q) := by by_cases h : p = q <;> simp [dB, h]
theorem c_text (a b : ByteArray) : (a.toList == b.toList) = dB (a = b) := by
  by_cases h : a = b
  · rw [dB_t h, h]; simp
  · rw [dB_f h]
    refine beq_eq_false_iff_ne.2 (fun e => h ?_)
    rw [ByteArray.toList_eq, ByteArray.toList_eq] at e
    obtain ⟨⟨a⟩⟩ := a
    obtain ⟨⟨b⟩⟩ := b
    simp at e; subst e; rfl
theorem bbF (c d : Bool) : (bif c then d else false) = (c && d) := by cases c <;> rfl
theorem len_ne {α : Type} {A B : List α} (h : A.length ≠ B.length) : dB (A = B) = false := dB_f (fun e => h (congrArg List.length e))
theorem dB_cons {α : Type} {a b : α} {u v : List α} : dB (a :: u = b :: v) = (dB (a = b) && dB (u = v)) := by rw [← dB_and]; exact dB_iff (by simp)
theorem u_same {f : Nat} {p : List Bool} {S : Nat → St} {α : Type} {d : α} {x y : List α} {kb : Bool} (hl : x.length = y.length) (hend : L f [] p (S x.length) = RB kb)
    (hstep : ∀ i c, i < x.length → i < y.length → L f [] p (S (i + 1)) = RB c → L f [] p (S i) = RB (dB (x.getD i d = y.getD i d) && c)) :
    L f [] p (S 0) = RB (dB (x = y) && kb) := by
  have key : ∀ (m i : Nat), i + m = x.length → L f [] p (S i) = RB (dB (x.drop i = y.drop i) && kb) := by
    intro m
    induction m with
    | zero =>
      intro i hi
      have e : i = x.length := by omega
      subst e
      rw [hend, dB_t (by rw [List.drop_length, hl, List.drop_length])]; rfl
    | succ m ih =>
      intro i hi
      rw [hstep i _ (by omega) (by omega) (ih (i + 1) (by omega)), drop_getD (d := d) (xs := x) (i := i) (by omega), drop_getD (d := d) (xs := y) (i := i) (by omega), dB_cons, Bool.and_assoc]
  have := key x.length 0 (by omega)
  simpa using this
theorem eqv_Term (x y : VTerm) (c : Bool) : (dB (x = y) && c) = (dB (x.Op = y.Op) && (dB (x.Num = y.Num) && (dB (x.Text = y.Text) && c))) := by
  rw [dB_iff (show x = y ↔ (x.Op = y.Op ∧ x.Num = y.Num ∧ x.Text = y.Text) from ⟨fun h => by subst h; simp, fun h => by cases x; cases y; simp_all⟩)]
  simp only [dB_and, Bool.and_assoc]
theorem c_Term (p q : VTerm) : (bif decide (p.Op = q.Op) then bif decide (p.Num = q.Num) then bif p.Text.toList == q.Text.toList then true else false else false else false) = dB (p = q) := by
  rw [← Bool.and_true (dB (p = q)), eqv_Term]
  simp only [bbF, c_dec, c_bool, c_text]
theorem eqv_Msg (x y : VMsg) (c : Bool) : (dB (x = y) && c) = (dB (x.Kind = y.Kind) && (dB (x.Num = y.Num) && (dB (x.Text = y.Text) && c))) := by
  rw [dB_iff (show x = y ↔ (x.Kind = y.Kind ∧ x.Num = y.Num ∧ x.Text = y.Text) from ⟨fun h => by subst h; simp, fun h => by cases x; cases y; simp_all⟩)]
  simp only [dB_and, Bool.and_assoc]
theorem c_Msg (p q : VMsg) : (bif decide (p.Kind = q.Kind) then bif decide (p.Num = q.Num) then bif p.Text.toList == q.Text.toList then true else false else false else false) = dB (p = q) := by
  rw [← Bool.and_true (dB (p = q)), eqv_Msg]
  simp only [bbF, c_dec, c_bool, c_text]
theorem eqv_Timer (x y : VTimer) (c : Bool) : (dB (x = y) && c) = (dB (x.At = y.At) && (dB (x.Token = y.Token) && c)) := by
  rw [dB_iff (show x = y ↔ (x.At = y.At ∧ x.Token = y.Token) from ⟨fun h => by subst h; simp, fun h => by cases x; cases y; simp_all⟩)]
  simp only [dB_and, Bool.and_assoc]
theorem c_Timer (p q : VTimer) : (bif decide (p.At = q.At) then bif decide (p.Token = q.Token) then true else false else false) = dB (p = q) := by
  rw [← Bool.and_true (dB (p = q)), eqv_Timer]
  simp only [bbF, c_dec, c_bool, c_text]
theorem eqv_Grant (x y : VGrant) (c : Bool) : (dB (x = y) && c) = (dB (x.Who = y.Who) && (dB (x.One = y.One) && c)) := by
  rw [dB_iff (show x = y ↔ (x.Who = y.Who ∧ x.One = y.One) from ⟨fun h => by subst h; simp, fun h => by cases x; cases y; simp_all⟩)]
  simp only [dB_and, Bool.and_assoc]
theorem c_Grant (p q : VGrant) : (bif decide (p.Who = q.Who) then bif p.One == q.One then true else false else false) = dB (p = q) := by
  rw [← Bool.and_true (dB (p = q)), eqv_Grant]
  simp only [bbF, c_dec, c_bool, c_text]
theorem eqv_Leg (x y : VLeg) (c : Bool) : (dB (x = y) && c) = (dB (x.Topic = y.Topic) && (dB (x.Id = y.Id) && (dB (x.Lost = y.Lost) && (dB (x.Over = y.Over) && c)))) := by
  rw [dB_iff (show x = y ↔ (x.Topic = y.Topic ∧ x.Id = y.Id ∧ x.Lost = y.Lost ∧ x.Over = y.Over) from ⟨fun h => by subst h; simp, fun h => by cases x; cases y; simp_all⟩)]
  simp only [dB_and, Bool.and_assoc]
theorem c_Leg (p q : VLeg) : (bif decide (p.Topic = q.Topic) then bif decide (p.Id = q.Id) then bif decide (p.Lost = q.Lost) then bif p.Over == q.Over then true else false else false else false else false) = dB (p = q) := by
  rw [← Bool.and_true (dB (p = q)), eqv_Leg]
  simp only [bbF, c_dec, c_bool, c_text]
theorem eqv_Hit (x y : VHit) (c : Bool) : (dB (x = y) && c) = (dB (x.Topic = y.Topic) && (dB (x.Id = y.Id) && c)) := by
  rw [dB_iff (show x = y ↔ (x.Topic = y.Topic ∧ x.Id = y.Id) from ⟨fun h => by subst h; simp, fun h => by cases x; cases y; simp_all⟩)]
  simp only [dB_and, Bool.and_assoc]
theorem c_Hit (p q : VHit) : (bif decide (p.Topic = q.Topic) then bif decide (p.Id = q.Id) then true else false else false) = dB (p = q) := by
  rw [← Bool.and_true (dB (p = q)), eqv_Hit]
  simp only [bbF, c_dec, c_bool, c_text]
theorem q76 (x y : List Int) (hb : szIntS x ≤ 1048576) : E 76 [slIntS x, slIntS y] [] = RB (dB (x = y)) := by
  have hlen : x.length ≤ 1048576 := sumL_len hb
  refine evK rfl ((e76 ..).trans (sL (fun h => len_ne h) (fun hl => ?_)))
  refine (u_same (S := fun i : Nat => S76 x y i) (d := 0) (kb := true) hl (lstep ((h76 ..).trans (bf' (decide_eq_false (by simp only [zN]; omega)) rfl))) (fun i c hi hj hc => ?_)).trans (by rw [Bool.and_true])
  refine lstep ((h76 ..).trans (bt' (decide_eq_true (by simp only [zN]; omega)) ?_))
  rw [wrapN (by omega)]
  simp only [Int.toNat_natCast]
  repeat' first
    | exact hc
    | refine sL (fun h => by rw [len_ne h]; simp) (fun hl => ?_)
    | refine bt' (bndL' (by assumption)) ?_
    | refine and2_both ?_ ?_
    | refine sN c_dec ?_
    | refine sN (c_bool _ _) ?_
    | refine sN (c_text _ _) ?_
    | refine sN (c_Term _ _) ?_
    | refine sN (c_Msg _ _) ?_
    | refine sN (c_Timer _ _) ?_
    | refine sN (c_Grant _ _) ?_
    | refine sN (c_Leg _ _) ?_
    | refine sN (c_Hit _ _) ?_
theorem q28 (x y : List VTerm) (hb : szTermS x ≤ 1048576) : E 28 [slTermS x, slTermS y] [] = RB (dB (x = y)) := by
  have hlen : x.length ≤ 1048576 := sumL_len hb
  refine evK rfl ((e28 ..).trans (sL (fun h => len_ne h) (fun hl => ?_)))
  refine (u_same (S := fun i : Nat => S28 x y i) (d := zTerm) (kb := true) hl (lstep ((h28 ..).trans (bf' (decide_eq_false (by simp only [zN]; omega)) rfl))) (fun i c hi hj hc => ?_)).trans (by rw [Bool.and_true])
  refine lstep ((h28 ..).trans (bt' (decide_eq_true (by simp only [zN]; omega)) ?_))
  rw [wrapN (by omega)]
  simp only [Int.toNat_natCast]
  repeat' first
    | exact hc
    | refine sL (fun h => by rw [len_ne h]; simp) (fun hl => ?_)
    | refine bt' (bndL' (by assumption)) ?_
    | refine and2_both ?_ ?_
    | refine sN c_dec ?_
    | refine sN (c_bool _ _) ?_
    | refine sN (c_text _ _) ?_
    | refine sN (c_Term _ _) ?_
    | refine sN (c_Msg _ _) ?_
    | refine sN (c_Timer _ _) ?_
    | refine sN (c_Grant _ _) ?_
    | refine sN (c_Leg _ _) ?_
    | refine sN (c_Hit _ _) ?_
theorem eqv_Event (x y : VEvent) (c : Bool) : (dB (x = y) && c) = (dB (x.Auto = y.Auto) && (dB (x.Up = y.Up) && (dB (x.Line = y.Line) && (dB (x.Grants = y.Grants) && (dB (x.Sets = y.Sets) && (dB (x.Spilt = y.Spilt) && (dB (x.Taken = y.Taken) && c))))))) := by
  rw [dB_iff (show x = y ↔ (x.Auto = y.Auto ∧ x.Up = y.Up ∧ x.Line = y.Line ∧ x.Grants = y.Grants ∧ x.Sets = y.Sets ∧ x.Spilt = y.Spilt ∧ x.Taken = y.Taken) from ⟨fun h => by subst h; simp, fun h => by cases x; cases y; simp_all⟩)]
  simp only [dB_and, Bool.and_assoc]
theorem q32 (x y : List VEvent) (hb : szEventS x ≤ 1048576) : E 32 [slEventS x, slEventS y] [] = RB (dB (x = y)) := by
  have hlen : x.length ≤ 1048576 := sumL_len hb
  refine evK rfl ((e32 ..).trans (sL (fun h => len_ne h) (fun hl => ?_)))
  refine (u_same (S := fun i : Nat => S32 x y i) (d := zEvent) (kb := true) hl (lstep ((h32 ..).trans (bf' (decide_eq_false (by simp only [zN]; omega)) rfl))) (fun i c hi hj hc => ?_)).trans (by rw [Bool.and_true])
  have hz := sumL_get (d := zEvent) hb hi
  unfold szEvent at hz
  refine lstep ((h32 ..).trans (bt' (decide_eq_true (by simp only [zN]; omega)) ?_))
  rw [wrapN (by omega)]
  simp only [Int.toNat_natCast]
  rw [eqv_Event]
  repeat' first
    | exact hc
    | refine sL (fun h => by rw [len_ne h]; simp) (fun hl => ?_)
    | refine bt' (bndL' (by assumption)) ?_
    | refine and2_both ?_ ?_
    | refine sN c_dec ?_
    | refine sN (c_bool _ _) ?_
    | refine sN (c_text _ _) ?_
    | refine sN (c_Term _ _) ?_
    | refine sN (c_Msg _ _) ?_
    | refine sN (c_Timer _ _) ?_
    | refine sN (c_Grant _ _) ?_
    | refine sN (c_Leg _ _) ?_
    | refine sN (c_Hit _ _) ?_
    | refine sC (q76 _ _ (by omega)) ?_
theorem eqv_Latch (x y : VLatch) (c : Bool) : (dB (x = y) && c) = (dB (x.Count = y.Count) && (dB (x.Line = y.Line) && (dB (x.Grants = y.Grants) && c))) := by
  rw [dB_iff (show x = y ↔ (x.Count = y.Count ∧ x.Line = y.Line ∧ x.Grants = y.Grants) from ⟨fun h => by subst h; simp, fun h => by cases x; cases y; simp_all⟩)]
  simp only [dB_and, Bool.and_assoc]
theorem q33 (x y : List VLatch) (hb : szLatchS x ≤ 1048576) : E 33 [slLatchS x, slLatchS y] [] = RB (dB (x = y)) := by
  have hlen : x.length ≤ 1048576 := sumL_len hb
  refine evK rfl ((e33 ..).trans (sL (fun h => len_ne h) (fun hl => ?_)))
  refine (u_same (S := fun i : Nat => S33 x y i) (d := zLatch) (kb := true) hl (lstep ((h33 ..).trans (bf' (decide_eq_false (by simp only [zN]; omega)) rfl))) (fun i c hi hj hc => ?_)).trans (by rw [Bool.and_true])
  have hz := sumL_get (d := zLatch) hb hi
  unfold szLatch at hz
  refine lstep ((h33 ..).trans (bt' (decide_eq_true (by simp only [zN]; omega)) ?_))
  rw [wrapN (by omega)]
  simp only [Int.toNat_natCast]
  rw [eqv_Latch]
  repeat' first
    | exact hc
    | refine sL (fun h => by rw [len_ne h]; simp) (fun hl => ?_)
    | refine bt' (bndL' (by assumption)) ?_
    | refine and2_both ?_ ?_
    | refine sN c_dec ?_
    | refine sN (c_bool _ _) ?_
    | refine sN (c_text _ _) ?_
    | refine sN (c_Term _ _) ?_
    | refine sN (c_Msg _ _) ?_
    | refine sN (c_Timer _ _) ?_
    | refine sN (c_Grant _ _) ?_
    | refine sN (c_Leg _ _) ?_
    | refine sN (c_Hit _ _) ?_
    | refine sC (q76 _ _ (by omega)) ?_
theorem eqv_Cell (x y : VCell) (c : Bool) : (dB (x = y) && c) = (dB (x.Val = y.Val) && (dB (x.Version = y.Version) && (dB (x.Closed = y.Closed) && (dB (x.Line = y.Line) && (dB (x.Grants = y.Grants) && c))))) := by
  rw [dB_iff (show x = y ↔ (x.Val = y.Val ∧ x.Version = y.Version ∧ x.Closed = y.Closed ∧ x.Line = y.Line ∧ x.Grants = y.Grants) from ⟨fun h => by subst h; simp, fun h => by cases x; cases y; simp_all⟩)]
  simp only [dB_and, Bool.and_assoc]
theorem q34 (x y : List VCell) (hb : szCellS x ≤ 1048576) : E 34 [slCellS x, slCellS y] [] = RB (dB (x = y)) := by
  have hlen : x.length ≤ 1048576 := sumL_len hb
  refine evK rfl ((e34 ..).trans (sL (fun h => len_ne h) (fun hl => ?_)))
  refine (u_same (S := fun i : Nat => S34 x y i) (d := zCell) (kb := true) hl (lstep ((h34 ..).trans (bf' (decide_eq_false (by simp only [zN]; omega)) rfl))) (fun i c hi hj hc => ?_)).trans (by rw [Bool.and_true])
  have hz := sumL_get (d := zCell) hb hi
  unfold szCell at hz
  refine lstep ((h34 ..).trans (bt' (decide_eq_true (by simp only [zN]; omega)) ?_))
  rw [wrapN (by omega)]
  simp only [Int.toNat_natCast]
  rw [eqv_Cell]
  repeat' first
    | exact hc
    | refine sL (fun h => by rw [len_ne h]; simp) (fun hl => ?_)
    | refine bt' (bndL' (by assumption)) ?_
    | refine and2_both ?_ ?_
    | refine sN c_dec ?_
    | refine sN (c_bool _ _) ?_
    | refine sN (c_text _ _) ?_
    | refine sN (c_Term _ _) ?_
    | refine sN (c_Msg _ _) ?_
    | refine sN (c_Timer _ _) ?_
    | refine sN (c_Grant _ _) ?_
    | refine sN (c_Leg _ _) ?_
    | refine sN (c_Hit _ _) ?_
    | refine sC (q76 _ _ (by omega)) ?_
theorem eqv_Tokens (x y : VTokens) (c : Bool) : (dB (x = y) && c) = (dB (x.Parents = y.Parents) && (dB (x.Off = y.Off) && c)) := by
  rw [dB_iff (show x = y ↔ (x.Parents = y.Parents ∧ x.Off = y.Off) from ⟨fun h => by subst h; simp, fun h => by cases x; cases y; simp_all⟩)]
  simp only [dB_and, Bool.and_assoc]
theorem q29 (x y : VTokens) (hb : szTokens x ≤ 1048576) : E 29 [slTokens x, slTokens y] [] = RB (dB (x = y)) := by
  unfold szTokens at hb
  have hlen : x.Off.length ≤ 1048576 := sumL_len (f := fun _ => 0) (show szBoolS x.Off ≤ 1048576 by omega)
  have inner : x.Off.length = y.Off.length → L 29 [] P29 (S29 x y 0) = RB (dB (x.Off = y.Off) && true) := fun hl => by
    refine u_same (S := fun i : Nat => S29 x y i) (d := false) (kb := true) hl (lstep ((h29 ..).trans (bf' (decide_eq_false (by simp only [zN]; omega)) rfl))) (fun i c hi hj hc => ?_)
    refine lstep ((h29 ..).trans (bt' (decide_eq_true (by simp only [zN]; omega)) ?_))
    rw [wrapN (by omega)]
    simp only [Int.toNat_natCast]
    repeat' first
      | exact hc
      | refine sL (fun h => by rw [len_ne h]; simp) (fun hl => ?_)
      | refine bt' (bndL' (by assumption)) ?_
      | refine and2_both ?_ ?_
      | refine sN c_dec ?_
      | refine sN (c_bool _ _) ?_
      | refine sN (c_text _ _) ?_
      | refine sN (c_Term _ _) ?_
      | refine sN (c_Msg _ _) ?_
      | refine sN (c_Timer _ _) ?_
      | refine sN (c_Grant _ _) ?_
      | refine sN (c_Leg _ _) ?_
      | refine sN (c_Hit _ _) ?_
  refine evK rfl ((e29 ..).trans ?_)
  rw [← Bool.and_true (dB (x = y)), eqv_Tokens]
  repeat' first
    | exact inner hl
    | refine sL (fun h => by rw [len_ne h]; simp) (fun hl => ?_)
    | refine bt' (bndL' (by assumption)) ?_
    | refine and2_both ?_ ?_
    | refine sN c_dec ?_
    | refine sN (c_bool _ _) ?_
    | refine sN (c_text _ _) ?_
    | refine sN (c_Term _ _) ?_
    | refine sN (c_Msg _ _) ?_
    | refine sN (c_Timer _ _) ?_
    | refine sN (c_Grant _ _) ?_
    | refine sN (c_Leg _ _) ?_
    | refine sN (c_Hit _ _) ?_
    | refine sC (q76 _ _ (by omega)) ?_
theorem eqv_Clock (x y : VClock) (c : Bool) : (dB (x = y) && c) = (dB (x.Now = y.Now) && (dB (x.Timers = y.Timers) && c)) := by
  rw [dB_iff (show x = y ↔ (x.Now = y.Now ∧ x.Timers = y.Timers) from ⟨fun h => by subst h; simp, fun h => by cases x; cases y; simp_all⟩)]
  simp only [dB_and, Bool.and_assoc]
theorem q30 (x y : VClock) (hb : szClock x ≤ 1048576) : E 30 [slClock x, slClock y] [] = RB (dB (x = y)) := by
  unfold szClock at hb
  have hlen : x.Timers.length ≤ 1048576 := sumL_len (f := fun _ => 0) (show szTimerS x.Timers ≤ 1048576 by omega)
  have inner : x.Timers.length = y.Timers.length → L 30 [] P30 (S30 x y 0) = RB (dB (x.Timers = y.Timers) && true) := fun hl => by
    refine u_same (S := fun i : Nat => S30 x y i) (d := zTimer) (kb := true) hl (lstep ((h30 ..).trans (bf' (decide_eq_false (by simp only [zN]; omega)) rfl))) (fun i c hi hj hc => ?_)
    refine lstep ((h30 ..).trans (bt' (decide_eq_true (by simp only [zN]; omega)) ?_))
    rw [wrapN (by omega)]
    simp only [Int.toNat_natCast]
    repeat' first
      | exact hc
      | refine sL (fun h => by rw [len_ne h]; simp) (fun hl => ?_)
      | refine bt' (bndL' (by assumption)) ?_
      | refine and2_both ?_ ?_
      | refine sN c_dec ?_
      | refine sN (c_bool _ _) ?_
      | refine sN (c_text _ _) ?_
      | refine sN (c_Term _ _) ?_
      | refine sN (c_Msg _ _) ?_
      | refine sN (c_Timer _ _) ?_
      | refine sN (c_Grant _ _) ?_
      | refine sN (c_Leg _ _) ?_
      | refine sN (c_Hit _ _) ?_
  refine evK rfl ((e30 ..).trans ?_)
  rw [← Bool.and_true (dB (x = y)), eqv_Clock]
  repeat' first
    | exact inner hl
    | refine sL (fun h => by rw [len_ne h]; simp) (fun hl => ?_)
    | refine bt' (bndL' (by assumption)) ?_
    | refine and2_both ?_ ?_
    | refine sN c_dec ?_
    | refine sN (c_bool _ _) ?_
    | refine sN (c_text _ _) ?_
    | refine sN (c_Term _ _) ?_
    | refine sN (c_Msg _ _) ?_
    | refine sN (c_Timer _ _) ?_
    | refine sN (c_Grant _ _) ?_
    | refine sN (c_Leg _ _) ?_
    | refine sN (c_Hit _ _) ?_
theorem eqv_Notify (x y : VNotify) (c : Bool) : (dB (x = y) && c) = (dB (x.Permit = y.Permit) && (dB (x.Line = y.Line) && (dB (x.Ones = y.Ones) && (dB (x.Spilt = y.Spilt) && (dB (x.Taken = y.Taken) && (dB (x.Grants = y.Grants) && c)))))) := by
  rw [dB_iff (show x = y ↔ (x.Permit = y.Permit ∧ x.Line = y.Line ∧ x.Ones = y.Ones ∧ x.Spilt = y.Spilt ∧ x.Taken = y.Taken ∧ x.Grants = y.Grants) from ⟨fun h => by subst h; simp, fun h => by cases x; cases y; simp_all⟩)]
  simp only [dB_and, Bool.and_assoc]
theorem q31 (x y : List VNotify) (hb : szNotifyS x ≤ 1048576) : E 31 [slNotifyS x, slNotifyS y] [] = RB (dB (x = y)) := by
  have hlen : x.length ≤ 1048576 := sumL_len hb
  refine evK rfl ((e31 ..).trans (sL (fun h => len_ne h) (fun hl => ?_)))
  refine (u_same (S := fun i : Nat => S31a x y i) (d := zNotify) (kb := true) hl (lstep ((h31a ..).trans (bf' (decide_eq_false (by simp only [zN]; omega)) rfl))) (fun i c hi hj hc => ?_)).trans (by rw [Bool.and_true])
  have hz := sumL_get (d := zNotify) hb hi
  unfold szNotify at hz
  have hlen2 : (x.getD i zNotify).Grants.length ≤ 1048576 := sumL_len (f := fun _ => 0) (show szGrantS (x.getD i zNotify).Grants ≤ 1048576 by omega)
  have inner : (x.getD i zNotify).Grants.length = (y.getD i zNotify).Grants.length → L 31 [] P31b (S31b x y i (x.getD i zNotify) (y.getD i zNotify) 0) = RB (dB ((x.getD i zNotify).Grants = (y.getD i zNotify).Grants) && c) := fun hl => by
    refine u_same (S := fun j : Nat => S31b x y i (x.getD i zNotify) (y.getD i zNotify) j) (d := zGrant) (kb := c) hl (lstep ((h31b ..).trans (bf' (decide_eq_false (by simp only [zN]; omega)) ?_))) (fun j c hj1 hj2 hc => ?_)
    · rw [wrapN (by omega)]; exact hc
    refine lstep ((h31b ..).trans (bt' (decide_eq_true (by simp only [zN]; omega)) ?_))
    rw [wrapN (by omega)]
    simp only [Int.toNat_natCast]
    repeat' first
      | exact hc
      | refine sL (fun h => by rw [len_ne h]; simp) (fun hl => ?_)
      | refine bt' (bndL' (by assumption)) ?_
      | refine and2_both ?_ ?_
      | refine sN c_dec ?_
      | refine sN (c_bool _ _) ?_
      | refine sN (c_text _ _) ?_
      | refine sN (c_Term _ _) ?_
      | refine sN (c_Msg _ _) ?_
      | refine sN (c_Timer _ _) ?_
      | refine sN (c_Grant _ _) ?_
      | refine sN (c_Leg _ _) ?_
      | refine sN (c_Hit _ _) ?_
  refine lstep ((h31a ..).trans (bt' (decide_eq_true (by simp only [zN]; omega)) ?_))
  simp only [Int.toNat_natCast]
  rw [eqv_Notify]
  repeat' first
    | exact hc
    | exact inner hl
    | exact inner (by assumption)
    | refine sL (fun h => by rw [len_ne h]; simp) (fun hl => ?_)
    | refine bt' (bndL' (by assumption)) ?_
    | refine and2_both ?_ ?_
    | refine sN c_dec ?_
    | refine sN (c_bool _ _) ?_
    | refine sN (c_text _ _) ?_
    | refine sN (c_Term _ _) ?_
    | refine sN (c_Msg _ _) ?_
    | refine sN (c_Timer _ _) ?_
    | refine sN (c_Grant _ _) ?_
    | refine sN (c_Leg _ _) ?_
    | refine sN (c_Hit _ _) ?_
    | refine sC (q76 _ _ (by omega)) ?_
theorem eqv_Merge (x y : VMerge) (c : Bool) : (dB (x = y) && c) = (dB (x.Into = y.Into) && (dB (x.Moved = y.Moved) && (dB (x.Legs = y.Legs) && c))) := by
  rw [dB_iff (show x = y ↔ (x.Into = y.Into ∧ x.Moved = y.Moved ∧ x.Legs = y.Legs) from ⟨fun h => by subst h; simp, fun h => by cases x; cases y; simp_all⟩)]
  simp only [dB_and, Bool.and_assoc]
theorem q36 (x y : List VMerge) (hb : szMergeS x ≤ 1048576) : E 36 [slMergeS x, slMergeS y] [] = RB (dB (x = y)) := by
  have hlen : x.length ≤ 1048576 := sumL_len hb
  refine evK rfl ((e36 ..).trans (sL (fun h => len_ne h) (fun hl => ?_)))
  refine (u_same (S := fun i : Nat => S36a x y i) (d := zMerge) (kb := true) hl (lstep ((h36a ..).trans (bf' (decide_eq_false (by simp only [zN]; omega)) rfl))) (fun i c hi hj hc => ?_)).trans (by rw [Bool.and_true])
  have hz := sumL_get (d := zMerge) hb hi
  unfold szMerge at hz
  have hlen2 : (x.getD i zMerge).Legs.length ≤ 1048576 := sumL_len (f := fun _ => 0) (show szLegS (x.getD i zMerge).Legs ≤ 1048576 by omega)
  have inner : (x.getD i zMerge).Legs.length = (y.getD i zMerge).Legs.length → L 36 [] P36b (S36b x y i 0) = RB (dB ((x.getD i zMerge).Legs = (y.getD i zMerge).Legs) && c) := fun hl => by
    refine u_same (S := fun j : Nat => S36b x y i j) (d := zLeg) (kb := c) hl (lstep ((h36b ..).trans (bt' (bndL' hi) ?_))) (fun j c hj1 hj2 hc => ?_)
    · simp only [Int.toNat_natCast]; refine bf' (decide_eq_false (by simp only [zN]; omega)) ?_; rw [wrapN (by omega)]; exact hc
    refine lstep ((h36b ..).trans (bt' (bndL' hi) ?_))
    simp only [Int.toNat_natCast]
    refine bt' (decide_eq_true (by simp only [zN]; omega)) ?_
    rw [wrapN (by omega)]
    repeat' first
      | exact hc
      | refine sL (fun h => by rw [len_ne h]; simp) (fun hl => ?_)
      | refine bt' (bndL' (by assumption)) ?_
      | refine and2_both ?_ ?_
      | refine sN c_dec ?_
      | refine sN (c_bool _ _) ?_
      | refine sN (c_text _ _) ?_
      | refine sN (c_Term _ _) ?_
      | refine sN (c_Msg _ _) ?_
      | refine sN (c_Timer _ _) ?_
      | refine sN (c_Grant _ _) ?_
      | refine sN (c_Leg _ _) ?_
      | refine sN (c_Hit _ _) ?_
  refine lstep ((h36a ..).trans (bt' (decide_eq_true (by simp only [zN]; omega)) ?_))
  simp only [Int.toNat_natCast]
  rw [eqv_Merge]
  repeat' first
    | exact hc
    | exact inner hl
    | exact inner (by assumption)
    | refine sL (fun h => by rw [len_ne h]; simp) (fun hl => ?_)
    | refine bt' (bndL' (by assumption)) ?_
    | refine and2_both ?_ ?_
    | refine sN c_dec ?_
    | refine sN (c_bool _ _) ?_
    | refine sN (c_text _ _) ?_
    | refine sN (c_Term _ _) ?_
    | refine sN (c_Msg _ _) ?_
    | refine sN (c_Timer _ _) ?_
    | refine sN (c_Grant _ _) ?_
    | refine sN (c_Leg _ _) ?_
    | refine sN (c_Hit _ _) ?_
theorem eqv_User (x y : VUser) (c : Bool) : (dB (x = y) && c) = (dB (x.Seen = y.Seen) && (dB (x.Subs = y.Subs) && c)) := by
  rw [dB_iff (show x = y ↔ (x.Seen = y.Seen ∧ x.Subs = y.Subs) from ⟨fun h => by subst h; simp, fun h => by cases x; cases y; simp_all⟩)]
  simp only [dB_and, Bool.and_assoc]
theorem q37 (x y : List VUser) (hb : szUserS x ≤ 1048576) : E 37 [slUserS x, slUserS y] [] = RB (dB (x = y)) := by
  have hlen : x.length ≤ 1048576 := sumL_len hb
  refine evK rfl ((e37 ..).trans (sL (fun h => len_ne h) (fun hl => ?_)))
  refine (u_same (S := fun i : Nat => S37a x y i) (d := zUser) (kb := true) hl (lstep ((h37a ..).trans (bf' (decide_eq_false (by simp only [zN]; omega)) rfl))) (fun i c hi hj hc => ?_)).trans (by rw [Bool.and_true])
  have hz := sumL_get (d := zUser) hb hi
  unfold szUser at hz
  have hlen2 : (x.getD i zUser).Subs.length ≤ 1048576 := sumL_len (f := fun _ => 0) (show szHitS (x.getD i zUser).Subs ≤ 1048576 by omega)
  have inner : (x.getD i zUser).Subs.length = (y.getD i zUser).Subs.length → L 37 [] P37b (S37b x y i 0) = RB (dB ((x.getD i zUser).Subs = (y.getD i zUser).Subs) && c) := fun hl => by
    refine u_same (S := fun j : Nat => S37b x y i j) (d := zHit) (kb := c) hl (lstep ((h37b ..).trans (bt' (bndL' hi) ?_))) (fun j c hj1 hj2 hc => ?_)
    · simp only [Int.toNat_natCast]; refine bf' (decide_eq_false (by simp only [zN]; omega)) ?_; rw [wrapN (by omega)]; exact hc
    refine lstep ((h37b ..).trans (bt' (bndL' hi) ?_))
    simp only [Int.toNat_natCast]
    refine bt' (decide_eq_true (by simp only [zN]; omega)) ?_
    rw [wrapN (by omega)]
    repeat' first
      | exact hc
      | refine sL (fun h => by rw [len_ne h]; simp) (fun hl => ?_)
      | refine bt' (bndL' (by assumption)) ?_
      | refine and2_both ?_ ?_
      | refine sN c_dec ?_
      | refine sN (c_bool _ _) ?_
      | refine sN (c_text _ _) ?_
      | refine sN (c_Term _ _) ?_
      | refine sN (c_Msg _ _) ?_
      | refine sN (c_Timer _ _) ?_
      | refine sN (c_Grant _ _) ?_
      | refine sN (c_Leg _ _) ?_
      | refine sN (c_Hit _ _) ?_
  refine lstep ((h37a ..).trans (bt' (decide_eq_true (by simp only [zN]; omega)) ?_))
  simp only [Int.toNat_natCast]
  rw [eqv_User]
  repeat' first
    | exact hc
    | exact inner hl
    | exact inner (by assumption)
    | refine sL (fun h => by rw [len_ne h]; simp) (fun hl => ?_)
    | refine bt' (bndL' (by assumption)) ?_
    | refine and2_both ?_ ?_
    | refine sN c_dec ?_
    | refine sN (c_bool _ _) ?_
    | refine sN (c_text _ _) ?_
    | refine sN (c_Term _ _) ?_
    | refine sN (c_Msg _ _) ?_
    | refine sN (c_Timer _ _) ?_
    | refine sN (c_Grant _ _) ?_
    | refine sN (c_Leg _ _) ?_
    | refine sN (c_Hit _ _) ?_
    | refine sC (q76 _ _ (by omega)) ?_
theorem eqv_Sub (x y : VSub) (c : Bool) : (dB (x = y) && c) = (dB (x.Id = y.Id) && (dB (x.Start = y.Start) && (dB (x.Cursor = y.Cursor) && (dB (x.Got = y.Got) && (dB (x.Lost = y.Lost) && (dB (x.Passed = y.Passed) && (dB (x.Filter = y.Filter) && c))))))) := by
  rw [dB_iff (show x = y ↔ (x.Id = y.Id ∧ x.Start = y.Start ∧ x.Cursor = y.Cursor ∧ x.Got = y.Got ∧ x.Lost = y.Lost ∧ x.Passed = y.Passed ∧ x.Filter = y.Filter) from ⟨fun h => by subst h; simp, fun h => by cases x; cases y; simp_all⟩)]
  simp only [dB_and, Bool.and_assoc]
theorem eqv_Ring (x y : VRing) (c : Bool) : (dB (x = y) && c) = (dB (x.Cap = y.Cap) && (dB (x.Sent = y.Sent) && (dB (x.Next = y.Next) && (dB (x.Closed = y.Closed) && (dB (x.Line = y.Line) && (dB (x.Grants = y.Grants) && (dB (x.Items = y.Items) && (dB (x.Subs = y.Subs) && c)))))))) := by
  rw [dB_iff (show x = y ↔ (x.Cap = y.Cap ∧ x.Sent = y.Sent ∧ x.Next = y.Next ∧ x.Closed = y.Closed ∧ x.Line = y.Line ∧ x.Grants = y.Grants ∧ x.Items = y.Items ∧ x.Subs = y.Subs) from ⟨fun h => by subst h; simp, fun h => by cases x; cases y; simp_all⟩)]
  simp only [dB_and, Bool.and_assoc]
theorem q77 (x y : VRing) (hb : szRing x ≤ 1048576) : E 77 [slRing x, slRing y] [] = RB (dB (x = y)) := by
  unfold szRing at hb
  have hlen1 : x.Items.length ≤ 1048576 := sumL_len (f := szMsg) (show szMsgS x.Items ≤ 1048576 by omega)
  have hlen2 : x.Subs.length ≤ 1048576 := sumL_len (f := szSub) (show szSubS x.Subs ≤ 1048576 by omega)
  have inner2 : x.Subs.length = y.Subs.length → L 77 [] P77b (S77b x y 0) = RB (dB (x.Subs = y.Subs) && true) := fun hl => by
    refine u_same (S := fun i : Nat => S77b x y i) (d := zSub) (kb := true) hl (lstep ((h77b ..).trans (bf' (decide_eq_false (by simp only [zN]; omega)) rfl))) (fun i c hi hj hc => ?_)
    have hz := sumL_get (d := zSub) (f := szSub) (b := 1048576) (show szSubS x.Subs ≤ 1048576 by omega) hi
    unfold szSub at hz
    refine lstep ((h77b ..).trans (bt' (decide_eq_true (by simp only [zN]; omega)) ?_))
    rw [wrapN (by omega)]
    simp only [Int.toNat_natCast]
    rw [eqv_Sub]
    repeat' first
      | exact hc
      | refine sL (fun h => by rw [len_ne h]; simp) (fun hl => ?_)
      | refine bt' (bndL' (by assumption)) ?_
      | refine and2_both ?_ ?_
      | refine sN c_dec ?_
      | refine sN (c_bool _ _) ?_
      | refine sN (c_text _ _) ?_
      | refine sN (c_Term _ _) ?_
      | refine sN (c_Msg _ _) ?_
      | refine sN (c_Timer _ _) ?_
      | refine sN (c_Grant _ _) ?_
      | refine sN (c_Leg _ _) ?_
      | refine sN (c_Hit _ _) ?_
      | refine sC (q28 _ _ (by omega)) ?_
  have inner1 : x.Items.length = y.Items.length → x.Subs.length = y.Subs.length → L 77 [] P77a (S77a x y 0) = RB (dB (x.Items = y.Items) && (dB (x.Subs = y.Subs) && true)) := fun hl hl2 => by
    refine u_same (S := fun i : Nat => S77a x y i) (d := zMsg) hl (lstep ((h77a ..).trans (bf' (decide_eq_false (by simp only [zN]; omega)) (inner2 hl2)))) (fun i c hi hj hc => ?_)
    refine lstep ((h77a ..).trans (bt' (decide_eq_true (by simp only [zN]; omega)) ?_))
    rw [wrapN (by omega)]
    simp only [Int.toNat_natCast]
    repeat' first
      | exact hc
      | refine sL (fun h => by rw [len_ne h]; simp) (fun hl => ?_)
      | refine bt' (bndL' (by assumption)) ?_
      | refine and2_both ?_ ?_
      | refine sN c_dec ?_
      | refine sN (c_bool _ _) ?_
      | refine sN (c_text _ _) ?_
      | refine sN (c_Term _ _) ?_
      | refine sN (c_Msg _ _) ?_
      | refine sN (c_Timer _ _) ?_
      | refine sN (c_Grant _ _) ?_
      | refine sN (c_Leg _ _) ?_
      | refine sN (c_Hit _ _) ?_
  refine evK rfl ((e77 ..).trans ?_)
  rw [← Bool.and_true (dB (x = y)), eqv_Ring]
  repeat' first
    | exact inner1 (by assumption) (by assumption)
    | refine sL (fun h => by rw [len_ne h]; simp) (fun hl => ?_)
    | refine bt' (bndL' (by assumption)) ?_
    | refine and2_both ?_ ?_
    | refine sN c_dec ?_
    | refine sN (c_bool _ _) ?_
    | refine sN (c_text _ _) ?_
    | refine sN (c_Term _ _) ?_
    | refine sN (c_Msg _ _) ?_
    | refine sN (c_Timer _ _) ?_
    | refine sN (c_Grant _ _) ?_
    | refine sN (c_Leg _ _) ?_
    | refine sN (c_Hit _ _) ?_
    | refine sC (q76 _ _ (by omega)) ?_
theorem eqv_Topic (x y : VTopic) (c : Bool) : (dB (x = y) && c) = (dB (x.Name = y.Name) && (dB (x.Ring = y.Ring) && c)) := by
  rw [dB_iff (show x = y ↔ (x.Name = y.Name ∧ x.Ring = y.Ring) from ⟨fun h => by subst h; simp, fun h => by cases x; cases y; simp_all⟩)]
  simp only [dB_and, Bool.and_assoc]
theorem q35 (x y : List VTopic) (hb : szTopicS x ≤ 1048576) : E 35 [slTopicS x, slTopicS y] [] = RB (dB (x = y)) := by
  have hlen : x.length ≤ 1048576 := sumL_len hb
  refine evK rfl ((e35 ..).trans (sL (fun h => len_ne h) (fun hl => ?_)))
  refine (u_same (S := fun i : Nat => S35 x y i) (d := zTopic) (kb := true) hl (lstep ((h35 ..).trans (bf' (decide_eq_false (by simp only [zN]; omega)) rfl))) (fun i c hi hj hc => ?_)).trans (by rw [Bool.and_true])
  have hz := sumL_get (d := zTopic) hb hi
  unfold szTopic at hz
  refine lstep ((h35 ..).trans (bt' (decide_eq_true (by simp only [zN]; omega)) ?_))
  rw [wrapN (by omega)]
  simp only [Int.toNat_natCast]
  rw [eqv_Topic]
  repeat' first
    | exact hc
    | refine sL (fun h => by rw [len_ne h]; simp) (fun hl => ?_)
    | refine bt' (bndL' (by assumption)) ?_
    | refine and2_both ?_ ?_
    | refine sN c_dec ?_
    | refine sN (c_bool _ _) ?_
    | refine sN (c_text _ _) ?_
    | refine sN (c_Term _ _) ?_
    | refine sN (c_Msg _ _) ?_
    | refine sN (c_Timer _ _) ?_
    | refine sN (c_Grant _ _) ?_
    | refine sN (c_Leg _ _) ?_
    | refine sN (c_Hit _ _) ?_
    | refine sC (q77 _ _ (by omega)) ?_
theorem eqv_Call (x y : VCall) (c : Bool) : (dB (x = y) && c) = (dB (x.Op = y.Op) && (dB (x.A = y.A) && (dB (x.B = y.B) && (dB (x.Tok = y.Tok) && (dB (x.Name = y.Name) && (dB (x.Msg = y.Msg) && (dB (x.Filter = y.Filter) && c))))))) := by
  rw [dB_iff (show x = y ↔ (x.Op = y.Op ∧ x.A = y.A ∧ x.B = y.B ∧ x.Tok = y.Tok ∧ x.Name = y.Name ∧ x.Msg = y.Msg ∧ x.Filter = y.Filter) from ⟨fun h => by subst h; simp, fun h => by cases x; cases y; simp_all⟩)]
  simp only [dB_and, Bool.and_assoc]
theorem q11 (x y : VCall) (hb : szCall x ≤ 1048576) : E 11 [slCall x, slCall y] [] = RB (dB (x = y)) := by
  unfold szCall at hb
  refine evK rfl ((e11 ..).trans ?_)
  rw [← Bool.and_true (dB (x = y)), eqv_Call]
  refine sP c_dec (sP c_dec (sP c_dec (sP c_dec (sP (c_text _ _) (sP (c_Msg _ _) (sE (q28 _ _ (by omega))))))))
theorem eqv_Hub (x y : VHub) (c : Bool) : (dB (x = y) && c) = (dB (x.Tokens = y.Tokens) && (dB (x.Clock = y.Clock) && (dB (x.Notes = y.Notes) && (dB (x.Events = y.Events) && (dB (x.Latches = y.Latches) && (dB (x.Cells = y.Cells) && (dB (x.Topics = y.Topics) && (dB (x.Merges = y.Merges) && (dB (x.Users = y.Users) && c))))))))) := by
  rw [dB_iff (show x = y ↔ (x.Tokens = y.Tokens ∧ x.Clock = y.Clock ∧ x.Notes = y.Notes ∧ x.Events = y.Events ∧ x.Latches = y.Latches ∧ x.Cells = y.Cells ∧ x.Topics = y.Topics ∧ x.Merges = y.Merges ∧ x.Users = y.Users) from ⟨fun h => by subst h; simp, fun h => by cases x; cases y; simp_all⟩)]
  simp only [dB_and, Bool.and_assoc]
theorem q12 (x y : VHub) (hb : szHub x ≤ 1048576) : E 12 [slHub x, slHub y] [] = RB (dB (x = y)) := by
  unfold szHub at hb
  refine evK rfl ((e12 ..).trans ?_)
  rw [← Bool.and_true (dB (x = y)), eqv_Hub]
  refine sD (q29 _ _ (by omega)) (sD (q30 _ _ (by omega)) (sD (q31 _ _ (by omega)) (sD (q32 _ _ (by omega)) (sD (q33 _ _ (by omega)) (sD (q34 _ _ (by omega)) (sD (q35 _ _ (by omega)) (sD (q36 _ _ (by omega)) (sE (q37 _ _ (by omega))))))))))
theorem eqv_Client (x y : VClient) (c : Bool) : (dB (x = y) && c) = (dB (x.At = y.At) && (dB (x.Waiting = y.Waiting) && (dB (x.Prog = y.Prog) && c))) := by
  rw [dB_iff (show x = y ↔ (x.At = y.At ∧ x.Waiting = y.Waiting ∧ x.Prog = y.Prog) from ⟨fun h => by subst h; simp, fun h => by cases x; cases y; simp_all⟩)]
  simp only [dB_and, Bool.and_assoc]
theorem eqv_State (x y : VState) (c : Bool) : (dB (x = y) && c) = (dB (x.Clients = y.Clients) && (dB (x.Hub = y.Hub) && c)) := by
  rw [dB_iff (show x = y ↔ (x.Clients = y.Clients ∧ x.Hub = y.Hub) from ⟨fun h => by subst h; simp, fun h => by cases x; cases y; simp_all⟩)]
  simp only [dB_and, Bool.and_assoc]
theorem q5 (x y : VState) (hb : szState x ≤ 1048576) : E 5 [slState x, slState y] [] = RB (dB (x = y)) := by
  unfold szState at hb
  have hlen : x.Clients.length ≤ 1048576 := sumL_len (f := szClient) (show szClientS x.Clients ≤ 1048576 by omega)
  refine evK rfl ((e5 ..).trans ?_)
  rw [← Bool.and_true (dB (x = y)), eqv_State]
  refine sL (fun h => by rw [len_ne h]; simp) (fun hl => ?_)
  refine u_same (S := fun i : Nat => S5a x y i) (d := zClient) hl (lstep ((h5a ..).trans (bf' (decide_eq_false (by simp only [zN]; omega)) (sE (q12 _ _ (by omega)))))) (fun i c hi hj hc => ?_)
  have hz := sumL_get (d := zClient) (f := szClient) (b := 1048576) (show szClientS x.Clients ≤ 1048576 by omega) hi
  unfold szClient at hz
  have hlen2 : (x.Clients.getD i zClient).Prog.length ≤ 1048576 := sumL_len (f := szCall) (show szCallS (x.Clients.getD i zClient).Prog ≤ 1048576 by omega)
  have inner : (x.Clients.getD i zClient).Prog.length = (y.Clients.getD i zClient).Prog.length → L 5 [] P5b (S5b x y i (x.Clients.getD i zClient) (y.Clients.getD i zClient) 0) = RB (dB ((x.Clients.getD i zClient).Prog = (y.Clients.getD i zClient).Prog) && c) := fun hl => by
    refine u_same (S := fun j : Nat => S5b x y i (x.Clients.getD i zClient) (y.Clients.getD i zClient) j) (d := zCall) (kb := c) hl (lstep ((h5b ..).trans (bf' (decide_eq_false (by simp only [zN]; omega)) ?_))) (fun j c hj1 hj2 hc => ?_)
    · rw [wrapN (by omega)]; exact hc
    have hz2 := sumL_get (d := zCall) (f := szCall) (b := 1048576) (show szCallS (x.Clients.getD i zClient).Prog ≤ 1048576 by omega) hj1
    refine lstep ((h5b ..).trans (bt' (decide_eq_true (by simp only [zN]; omega)) ?_))
    rw [wrapN (by omega)]
    simp only [Int.toNat_natCast]
    repeat' first
      | exact hc
      | refine sL (fun h => by rw [len_ne h]; simp) (fun hl => ?_)
      | refine bt' (bndL' (by assumption)) ?_
      | refine and2_both ?_ ?_
      | refine sN c_dec ?_
      | refine sN (c_bool _ _) ?_
      | refine sN (c_text _ _) ?_
      | refine sN (c_Term _ _) ?_
      | refine sN (c_Msg _ _) ?_
      | refine sN (c_Timer _ _) ?_
      | refine sN (c_Grant _ _) ?_
      | refine sN (c_Leg _ _) ?_
      | refine sN (c_Hit _ _) ?_
      | refine sC (q11 _ _ (by omega)) ?_
  have leaf : L 5 [] P5c (S5c x y i (x.Clients.getD i zClient) (y.Clients.getD i zClient)) = RB (dB ((x.Clients.getD i zClient) = (y.Clients.getD i zClient)) && c) := by
    refine lstep ((h5c ..).trans ?_)
    rw [eqv_Client]
    repeat' first
      | exact inner hl
      | refine sL (fun h => by rw [len_ne h]; simp) (fun hl => ?_)
      | refine bt' (bndL' (by assumption)) ?_
      | refine and2_both ?_ ?_
      | refine sN c_dec ?_
      | refine sN (c_bool _ _) ?_
      | refine sN (c_text _ _) ?_
      | refine sN (c_Term _ _) ?_
      | refine sN (c_Msg _ _) ?_
      | refine sN (c_Timer _ _) ?_
      | refine sN (c_Grant _ _) ?_
      | refine sN (c_Leg _ _) ?_
      | refine sN (c_Hit _ _) ?_
  refine lstep ((h5a ..).trans (bt' (decide_eq_true (by simp only [zN]; omega)) ?_))
  simp only [Int.toNat_natCast]
  repeat' first
    | exact hc
    | exact leaf
    | refine sL (fun h => by rw [len_ne h]; simp) (fun hl => ?_)
    | refine bt' (bndL' (by assumption)) ?_
    | refine and2_both ?_ ?_
    | refine sN c_dec ?_
    | refine sN (c_bool _ _) ?_
    | refine sN (c_text _ _) ?_
    | refine sN (c_Term _ _) ?_
    | refine sN (c_Msg _ _) ?_
    | refine sN (c_Timer _ _) ?_
    | refine sN (c_Grant _ _) ?_
    | refine sN (c_Leg _ _) ?_
    | refine sN (c_Hit _ _) ?_
end Go.Fw
