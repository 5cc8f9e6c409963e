/- Values: a history's calls, by the reference. -/
import Derived.Test.YtgpigigeoanahaaBe
set_option linter.unusedVariables false
set_option linter.unusedSimpArgs false
namespace Go.Fw
open Go.Proofs

def opR (rs : List VRec) (la : List Int) (w : Nat) : Int := if 0 ≤ la.getD w 0 ∧ (lastR rs la w).Last < 0 then la.getD w 0 else -1
structure Rel (ps : List (List VCall)) (s : WS) (nx op : List Int) : Prop where
  nl : nx.length = ps.length
  ol : op.length = ps.length
  n : ∀ w, w < ps.length → nx.getD w 0 = numR s.rs s.la w
  o : ∀ w, w < ps.length → op.getD w 0 = opR s.rs s.la w
  who : ∀ w, w < ps.length → 0 ≤ s.la.getD w 0 → (lastR s.rs s.la w).Who = w
def doneR (m : VMark) : Bool := decide (m.Step.Kind = 3) || !decide (m.Reply.Code = 4)
/-- A mark's end, on the reference's side. -/
theorem rel_end {ps : List (List VCall)} {i : Nat} {m : VMark} {s : WS} {nx op : List Int} (h : WOk ps s.rs s.la) (r : Rel ps s nx op) {w : Nat} (hw : m.Step.Who = w) (hwl : w < ps.length) (ho : 0 ≤ op.getD w 0) :
    op.getD w 0 = s.la.getD w 0 ∧ endW i m s.rs s.la = some (s.rs.set (op.getD w 0).toNat (setR (s.rs.getD (op.getD w 0).toNat zRec) m.Step.Kind m.Reply.Code i)) ∧ op.getD w 0 < s.rs.length ∧
      Rel ps ⟨s.rs.set (op.getD w 0).toNat (setR (s.rs.getD (op.getD w 0).toNat zRec) m.Step.Kind m.Reply.Code i), s.la, s.fs ++ [op.getD w 0]⟩ nx (if doneR m = true then op.set w (-1) else op) := by
  have tw : m.Step.Who.toNat = w := by omega
  have e := r.o w hwl
  have e1 : op.getD w 0 = s.la.getD w 0 ∧ 0 ≤ s.la.getD w 0 ∧ (lastR s.rs s.la w).Last < 0 := by
    rw [e] at ho ⊢
    unfold opR at ho ⊢
    split
    · rename_i hc; exact ⟨rfl, hc.1, hc.2⟩
    · rename_i hc; rw [if_neg hc] at ho; omega
  obtain ⟨e1, e2, e3⟩ := e1
  rcases h.la w hwl with h' | ⟨g0, g1, g2, g3⟩
  · omega
  refine ⟨e1, ?_, by omega, ?_⟩
  · unfold endW
    rw [tw, if_neg (by omega), if_neg (by omega), e1]
    rfl
  · rw [e1]
    have hlt : (s.la.getD w 0).toNat < s.rs.length := by omega
    have hget : ∀ w', w' < ps.length → 0 ≤ s.la.getD w' 0 → w' ≠ w → (s.la.getD w' 0).toNat ≠ (s.la.getD w 0).toNat := fun w' hw' h0 hne he => by
      have a := r.who w' hw' h0
      have b := r.who w hwl e2
      unfold lastR at a b
      rw [he, b] at a
      omega
    have hL : ∀ w', w' < ps.length → 0 ≤ s.la.getD w' 0 → lastR (s.rs.set (s.la.getD w 0).toNat (setR (s.rs.getD (s.la.getD w 0).toNat zRec) m.Step.Kind m.Reply.Code i)) s.la w' =
        if w' = w then setR (lastR s.rs s.la w) m.Step.Kind m.Reply.Code i else lastR s.rs s.la w' := fun w' hw' h0 => by
      unfold lastR
      rw [getD_set hlt]
      by_cases hww : w' = w
      · subst hww; rw [if_pos rfl, if_pos rfl]
      · rw [if_neg hww, if_neg (hget w' hw' h0 hww)]
    refine ⟨r.nl, by split <;> simp [r.ol], fun w' hw' => ?_, fun w' hw' => ?_, fun w' hw' h0 => ?_⟩
    · rw [r.n w' hw']
      unfold numR
      split
      · rename_i h0
        rw [hL w' hw' h0]
        split
        · rename_i hww; subst hww; rfl
        · rfl
      · rfl
    · have hol := r.ol
      have eo : (if doneR m = true then op.set w (-1) else op).getD w' 0 = if doneR m = true ∧ w' = w then -1 else op.getD w' 0 := by
        by_cases hd : doneR m = true
        · rw [if_pos hd, getD_set (by omega)]
          by_cases hww : w' = w <;> simp [hd, hww]
        · rw [if_neg hd, if_neg (fun h => hd h.1)]
      rw [eo, r.o w' hw']
      unfold opR
      by_cases h0 : 0 ≤ s.la.getD w' 0
      · rw [hL w' hw' h0]
        by_cases hww : w' = w
        · subst hww
          simp only [if_true, and_true, h0, true_and, e3]
          unfold setR doneR
          by_cases hk : m.Step.Kind = 3 <;> by_cases hc : m.Reply.Code = 4 <;> simp [hk, hc]
          all_goals (try omega)
        · simp [hww]
      · simp only [h0, false_and, if_false]
        split <;> rfl
    · rw [hL w' hw' h0]
      split
      · rename_i hww; subst hww; exact r.who w' hw' h0
      · exact r.who w' hw' h0

def begX (ps : List (List VCall)) (i : Nat) (m : VMark) (nx : List Int) (w : Nat) : VRec := ⟨m.Step.Who, nx.getD w 0, (ps.getD w []).getD (nx.getD w 0).toNat zCall, i, -1, 0⟩
theorem set_last {α : Type} (xs : List α) (a b : α) : (xs ++ [a]).set xs.length b = xs ++ [b] := by simp
/-- A mark's begin, on the reference's side. -/
theorem rel_beg {ps : List (List VCall)} {i : Nat} {m : VMark} {s : WS} {nx op : List Int} (h : WOk ps s.rs s.la) (r : Rel ps s nx op) {w : Nat} (hw : m.Step.Who = w) (hwl : w < ps.length) (hk : m.Step.Kind = 1) (ho : op.getD w 0 < 0) (hn : nx.getD w 0 < ((ps.getD w []).length : Int)) :
    begW ps i m s.rs s.la = some (s.rs ++ [setR (begX ps i m nx w) m.Step.Kind m.Reply.Code i], s.la.set w (s.rs.length : Int)) ∧
      Rel ps ⟨s.rs ++ [setR (begX ps i m nx w) m.Step.Kind m.Reply.Code i], s.la.set w (s.rs.length : Int), s.fs ++ [(s.rs.length : Int)]⟩ (nx.set w (nx.getD w 0 + 1)) (if doneR m = true then (op.set w (s.rs.length : Int)).set w (-1) else op.set w (s.rs.length : Int)) := by
  have tw : m.Step.Who.toNat = w := by omega
  have hlen := h.len
  have hol := r.ol
  have hnl := r.nl
  have e := r.o w hwl
  have e1 : ¬ (0 ≤ s.la.getD w 0 ∧ (lastR s.rs s.la w).Last < 0) := fun hc => by
    unfold opR at e; rw [if_pos hc] at e; omega
  have e2 := r.n w hwl
  constructor
  · unfold begW
    rw [tw, if_neg e1, if_neg (by omega), ← e2]
    have : setR (begX ps i m nx w) m.Step.Kind m.Reply.Code i = ⟨m.Step.Who, nx.getD w 0, (ps.getD w []).getD (nx.getD w 0).toNat zCall, i, if m.Reply.Code = 4 then -1 else i, m.Reply.Code⟩ := by
      unfold setR begX
      by_cases hc : m.Reply.Code = 4 <;> simp [hk, hc]
    rw [this]
  · have hla : ∀ w', w' < ps.length → (s.la.set w (s.rs.length : Int)).getD w' 0 = if w' = w then (s.rs.length : Int) else s.la.getD w' 0 := fun w' hw' => by rw [getD_set (by omega)]
    have hL : ∀ w', w' < ps.length → 0 ≤ s.la.getD w' 0 → w' ≠ w → lastR (s.rs ++ [setR (begX ps i m nx w) m.Step.Kind m.Reply.Code i]) (s.la.set w (s.rs.length : Int)) w' = lastR s.rs s.la w' := fun w' hw' h0 hne => by
      unfold lastR
      rw [hla w' hw', if_neg hne, getD_app]
      rcases h.la w' hw' with h' | ⟨g0, g1, g2, g3⟩
      · omega
      · rw [if_pos (show (s.la.getD w' 0).toNat < s.rs.length by omega)]
    have hLw : lastR (s.rs ++ [setR (begX ps i m nx w) m.Step.Kind m.Reply.Code i]) (s.la.set w (s.rs.length : Int)) w = setR (begX ps i m nx w) m.Step.Kind m.Reply.Code i := by
      unfold lastR
      rw [hla w hwl, if_pos rfl, Int.toNat_natCast, getD_app, if_neg (show ¬ s.rs.length < s.rs.length by omega), if_pos rfl]
    refine ⟨by simp [r.nl], by split <;> simp [r.ol], fun w' hw' => ?_, fun w' hw' => ?_, fun w' hw' h0 => ?_⟩
    · rw [getD_set (by omega)]
      unfold numR
      rw [hla w' hw']
      by_cases hww : w' = w
      · subst hww
        rw [if_pos rfl, if_pos rfl, hLw, if_pos (by omega)]
        rfl
      · rw [if_neg hww, if_neg hww, r.n w' hw']
        unfold numR
        split
        · rename_i h0; rw [hL w' hw' h0 hww]
        · rfl
    · have eo : (if doneR m = true then (op.set w (s.rs.length : Int)).set w (-1) else op.set w (s.rs.length : Int)).getD w' 0 = if w' = w then (if doneR m = true then -1 else (s.rs.length : Int)) else op.getD w' 0 := by
        by_cases hd : doneR m = true
        · rw [if_pos hd, getD_set (by simp; omega), getD_set (by omega)]
          by_cases hww : w' = w <;> simp [hd, hww]
        · rw [if_neg hd, getD_set (by omega)]
          by_cases hww : w' = w <;> simp [hd, hww]
      rw [eo]
      unfold opR
      rw [hla w' hw']
      by_cases hww : w' = w
      · subst hww
        rw [if_pos rfl, if_pos rfl, hLw]
        unfold setR doneR begX
        by_cases hc : m.Reply.Code = 4 <;> simp [hk, hc] <;> omega
      · rw [if_neg hww, if_neg hww, r.o w' hw']
        unfold opR
        by_cases h0 : 0 ≤ s.la.getD w' 0
        · rw [hL w' hw' h0 hww]
        · simp only [h0, false_and, if_false]
    · by_cases hww : w' = w
      · subst hww; rw [hLw]; exact hw
      · have h0' : 0 ≤ s.la.getD w' 0 := by
          have h0 : 0 ≤ (s.la.set w (s.rs.length : Int)).getD w' 0 := h0
          rw [hla w' hw', if_neg hww] at h0; exact h0
        show (lastR (s.rs ++ [_]) (s.la.set w _) w').Who = _
        rw [hL w' hw' h0' hww]
        exact r.who w' hw' h0'
end Go.Fw
