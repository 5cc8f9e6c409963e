/- When a Notify is right, in words of lists; what each call makes of one that is right. No program in sight. -/
import Derived.Test.YtkhfkekbfjkpcaaG9
set_option linter.unusedVariables false
set_option linter.unusedSimpArgs false
namespace Go.Fw

def onesG (g : List (Int × Bool)) : Int := ((g.filter (·.2)).length : Int)
structure OkN (n : NT) : Prop where
  lnd : n.l.Nodup
  lin : ∀ x ∈ n.l, 0 ≤ x ∧ x ≤ 63
  lle : n.l.length ≤ 32
  gle : n.g.length ≤ 32
  pl : n.p = true → n.l = []
  o : 0 ≤ n.o ∧ n.o ≤ 1000000000
  s : 0 ≤ n.s ∧ n.s ≤ 1000000000
  t : 0 ≤ n.t ∧ n.t ≤ 1000000000
  gnd : (n.g.map (·.1)).Nodup
  gin : ∀ x ∈ n.g, 0 ≤ x.1 ∧ x.1 ≤ 63 ∧ x.1 ∉ n.l
  sum : n.t + n.s + onesG n.g + (if n.p = true then 1 else 0) = n.o

theorem hasF_iff (f : Nat → Int) (a : Int) (k i : Nat) : hasF f a k i = false ↔ ∀ j, i ≤ j → j < i + k → f j ≠ a := by
  refine ⟨hasF_none f a k i, ?_⟩
  induction k generalizing i with
  | zero => intro _; rfl
  | succ k ih =>
    intro h
    simp only [hasF]
    rw [if_neg (h i (by omega) (by omega))]
    exact ih (i + 1) fun j h1 h2 => h j (by omega) (by omega)
theorem mem_getD {α : Type} {d a : α} {xs : List α} : a ∈ xs ↔ ∃ j, j < xs.length ∧ xs.getD j d = a := by
  rw [List.mem_iff_getElem]
  constructor
  · rintro ⟨j, hj, rfl⟩; exact ⟨j, hj, by simp [List.getD_eq_getElem?_getD, hj]⟩
  · rintro ⟨j, hj, rfl⟩; exact ⟨j, hj, by simp [List.getD_eq_getElem?_getD, hj]⟩
theorem has_mem {xs : List Int} {a : Int} : hasF (fun j => xs.getD j 0) a xs.length 0 = false ↔ a ∉ xs := by
  rw [hasF_iff, mem_getD (d := (0 : Int))]
  constructor
  · rintro h ⟨j, hj, e⟩; exact h j (by omega) (by omega) e
  · intro h j _ hj e; exact h ⟨j, by omega, e⟩
theorem has_mem' {xs : List Int} {a : Int} : hasF (fun j => xs.getD j 0) a xs.length 0 = true ↔ a ∈ xs := by
  have := @has_mem xs a
  cases h : hasF (fun j => xs.getD j 0) a xs.length 0 with
  | true => rw [h] at this; simpa using this
  | false => rw [h] at this; simpa using this
theorem nodup_getD {xs : List Int} (f : Nat → Int) (hf : ∀ j, j < xs.length → xs.getD j 0 = f j) : xs.Nodup ↔ ∀ j, j < xs.length → hasF f (f j) j 0 = false := by
  unfold List.Nodup
  rw [List.pairwise_iff_getElem]
  have hg : ∀ j (h : j < xs.length), xs[j] = f j := fun j h => by rw [← hf j h]; simp [List.getD_eq_getElem?_getD, h]
  constructor
  · intro h j hj
    rw [hasF_iff]
    intro i _ hi
    have := h i j (by omega) hj (by omega)
    rw [hg, hg] at this; exact this
  · intro h i j hi hj hij
    rw [hg, hg]
    exact (hasF_iff _ _ _ _).1 (h j hj) i (by omega) (by omega)
theorem onesG_nil : onesG [] = 0 := rfl
theorem onesG_cons (x : Int × Bool) (g : List (Int × Bool)) : onesG (x :: g) = (if x.2 = true then 1 else 0) + onesG g := by
  unfold onesG
  simp only [List.filter_cons]
  split <;> simp; omega
theorem onesG_append (g h : List (Int × Bool)) : onesG (g ++ h) = onesG g + onesG h := by
  unfold onesG; simp
theorem onesG_pos (g : List (Int × Bool)) : 0 ≤ onesG g ∧ onesG g ≤ g.length := by
  unfold onesG
  have := List.length_filter_le (·.2) g
  omega
theorem sumF_eq (g : List (Int × Bool)) : ∀ (k i : Nat) (s : Int), i + k = g.length → 0 ≤ s → s + k ≤ 4611686018427387904 → sumF g s k i = s + onesG (g.drop i) := by
  intro k
  induction k with
  | zero => intro i s hi _ _; rw [List.drop_eq_nil_of_le (by omega)]; simp [sumF, onesG_nil]
  | succ k ih =>
    intro i s hi h0 h1
    rw [drop_getD (d := ((0 : Int), false)) (show i < g.length by omega), onesG_cons]
    simp only [sumF]
    by_cases h : (g.getD i (0, false)).2 = true
    · rw [if_pos h, if_pos h, wrapS (by omega) (by omega), ih (i + 1) _ (by omega) (by omega) (by omega)]; omega
    · rw [if_neg h, if_neg h, ih (i + 1) _ (by omega) (by omega) (by omega)]; omega
theorem inR_iff {a b c : Int} : inR a b c = true ↔ b ≤ a ∧ a ≤ c := by simp [inR]
theorem who_map (g : List (Int × Bool)) (j : Nat) (hj : j < (g.map (·.1)).length) : (g.map (·.1)).getD j 0 = whoF g j := by
  have : j < g.length := by simpa using hj
  simp [whoF, List.getD_eq_getElem?_getD, this]
theorem okSp_iff (n : NT) : okSp n = true ↔ OkN n := by
  have hl : lineF (fun j => n.l.getD j 0) n.l.length 0 = true ↔ n.l.Nodup ∧ ∀ x ∈ n.l, 0 ≤ x ∧ x ≤ 63 := by
    rw [lineF_iff, nodup_getD (fun j => n.l.getD j 0) (fun _ _ => rfl)]
    constructor
    · intro h
      refine ⟨fun j hj => (h j (by omega) (by omega)).2, fun x hx => ?_⟩
      obtain ⟨j, hj, rfl⟩ := (mem_getD (d := (0 : Int))).1 hx
      exact inR_iff.1 (h j (by omega) (by omega)).1
    · rintro ⟨h1, h2⟩ j _ hj
      exact ⟨inR_iff.2 (h2 _ ((mem_getD (d := (0 : Int))).2 ⟨j, by omega, rfl⟩)), h1 j (by omega)⟩
  have hg : (∀ j, j < n.g.length → inR (whoF n.g j) 0 63 = true ∧ ixF (whoF n.g) (whoF n.g j) n.g.length 0 = j ∧ hasF (fun j => n.l.getD j 0) (whoF n.g j) n.l.length 0 = false) ↔
      (n.g.map (·.1)).Nodup ∧ ∀ x ∈ n.g, 0 ≤ x.1 ∧ x.1 ≤ 63 ∧ x.1 ∉ n.l := by
    rw [nodup_getD (whoF n.g) (who_map n.g)]
    simp only [List.length_map]
    constructor
    · intro h
      refine ⟨fun j hj => by have := (h j hj).2.1; rwa [ix_first _ _ _ _ _ (Nat.zero_le _) (by omega) rfl] at this, fun x hx => ?_⟩
      obtain ⟨j, hj, rfl⟩ := (mem_getD (d := ((0 : Int), false))).1 hx
      obtain ⟨a1, _, a3⟩ := h j hj
      have := inR_iff.1 a1
      exact ⟨this.1, this.2, has_mem.1 a3⟩
    · rintro ⟨h1, h2⟩ j hj
      obtain ⟨b1, b2, b3⟩ := h2 _ ((mem_getD (d := ((0 : Int), false))).2 ⟨j, hj, rfl⟩)
      refine ⟨inR_iff.2 ⟨b1, b2⟩, ?_, has_mem.2 b3⟩
      rw [ix_first _ _ _ _ _ (Nat.zero_le _) (by omega) rfl]
      exact h1 j hj
  unfold okSp
  simp only [Bool.and_eq_true, decide_eq_true_eq, inR_iff, hl, specF_iff]
  have hp : (!(n.p && decide (0 < n.l.length))) = true ↔ (n.p = true → n.l = []) := by
    cases n.p
    · simp
    · cases hnl : n.l <;> simp
  rw [hp]
  have hs : 0 ≤ n.s ∧ n.s ≤ 1000000000 → 0 ≤ n.t ∧ n.t ≤ 1000000000 → n.g.length ≤ 32 →
      sumF n.g (if n.p = true then IntKind.i64.wrap (sum0 n + 1) else sum0 n) n.g.length 0 = n.t + n.s + onesG n.g + (if n.p = true then 1 else 0) := by
    intro h1 h2 h3
    have e0 : sum0 n = n.t + n.s := by unfold sum0; rw [wrapS (by omega) (by omega)]
    rw [e0]
    split
    · rw [wrapS (by omega) (by omega), sumF_eq _ _ _ _ (by omega) (by omega) (by omega)]; simp only [List.drop_zero]; omega
    · rw [sumF_eq _ _ _ _ (by omega) (by omega) (by omega)]; simp only [List.drop_zero]; omega
  constructor
  · rintro ⟨⟨⟨a1, a2⟩, a3⟩, a4, a5, a6, a7, a8, a9, a10⟩
    obtain ⟨b1, b2⟩ := hg.1 fun j hj => by have := a9 j (by omega) (by omega); exact ⟨inR_iff.2 this.1, this.2⟩
    rw [hs a7 a8 a4] at a10
    exact ⟨a1, a2, a3, a4, a5, a6, a7, a8, b1, b2, a10⟩
  · intro h
    refine ⟨⟨⟨h.lnd, h.lin⟩, h.lle⟩, h.gle, h.pl, h.o, h.s, h.t, fun j _ hj => by have := hg.2 ⟨h.gnd, h.gin⟩ j (by omega); exact ⟨inR_iff.1 this.1, this.2⟩, ?_⟩
    rw [hs h.s h.t h.gle]
    exact h.sum

/-! ### Calls -/
def tellAllN (n : NT) : NT × List Int × Int :=
  if okSp n = true then (if 32 < n.l.length + n.g.length then (n, [], 2) else (⟨n.p, [], n.g ++ n.l.map (·, false), n.o, n.s, n.t⟩, n.l, 0)) else (n, [], 1)
def resN (n : NT) (a : Int) : NT × Int :=
  if okSp n = true then
    if hasF (fun j => n.l.getD j 0) a n.l.length 0 = true then (n, 4)
    else if ixF (whoF n.g) a n.g.length 0 < 0 then (n, 3)
    else if (n.g.getD (ixF (whoF n.g) a n.g.length 0).toNat (0, false)).2 = true then
      (if 1000000000 ≤ n.t then (n, 2) else (⟨n.p, n.l, n.g.eraseIdx (ixF (whoF n.g) a n.g.length 0).toNat, n.o, n.s, IntKind.i64.wrap (n.t + 1)⟩, 0))
    else (lessG n (ixF (whoF n.g) a n.g.length 0).toNat, 0)
  else (n, 1)
def awN (n : NT) (a : Int) : NT × Int :=
  if okSp n = true then
    if inR a 0 63 = true then
      if hasF (fun j => n.l.getD j 0) a n.l.length 0 = true then (n, 5)
      else if 0 ≤ ixF (whoF n.g) a n.g.length 0 then (n, 5)
      else if n.t = 1000000000 then (n, 2)
      else if n.p = true then (⟨false, n.l, n.g, n.o, n.s, IntKind.i64.wrap (n.t + 1)⟩, 0)
      else if n.l.length = 32 then (n, 2)
      else (⟨n.p, n.l ++ [a], n.g, n.o, n.s, n.t⟩, 4)
    else (n, 1)
  else (n, 1)

theorem erase_split (g : List (Int × Bool)) (k : Nat) (hk : k < g.length) : g = g.take k ++ g.getD k (0, false) :: g.drop (k + 1) ∧ g.eraseIdx k = g.take k ++ g.drop (k + 1) := by
  refine ⟨?_, List.eraseIdx_eq_take_drop_succ g k⟩
  rw [← drop_getD (d := ((0 : Int), false)) hk, List.take_append_drop]
theorem onesG_erase (g : List (Int × Bool)) (k : Nat) (hk : k < g.length) : onesG g = onesG (g.eraseIdx k) + (if (g.getD k (0, false)).2 = true then 1 else 0) := by
  obtain ⟨h1, h2⟩ := erase_split g k hk
  rw [h2, onesG_append]
  conv => lhs; rw [h1]
  rw [onesG_append, onesG_cons]; omega
theorem erase_sub (g : List (Int × Bool)) (k : Nat) : (g.eraseIdx k).Sublist g := List.eraseIdx_sublist g k
theorem give_ok {n : NT} (hn : n.l.Nodup) (hli : ∀ x ∈ n.l, 0 ≤ x ∧ x ≤ 63) (hll : n.l.length ≤ 32) (hgl : n.l ≠ [] → n.g.length < 32) (hgl' : n.g.length ≤ 32) (hpl : n.p = true → n.l = []) (ho : 0 ≤ n.o ∧ n.o ≤ 1000000000) (hs : 0 ≤ n.s) (ht : 0 ≤ n.t)
    (hgn : (n.g.map (·.1)).Nodup) (hgi : ∀ x ∈ n.g, 0 ≤ x.1 ∧ x.1 ≤ 63 ∧ x.1 ∉ n.l) (hsum : n.t + n.s + onesG n.g + (if n.p = true then 1 else 0) + 1 = n.o) : OkN (giveN n).1 := by
  obtain ⟨p, l, g, o, s, t⟩ := n
  simp only at *
  have hp := onesG_pos g
  cases l with
  | nil =>
    simp only [giveN]
    by_cases hpp : p = true
    · simp only [hpp, if_true] at hsum ⊢
      rw [wrapS (by omega) (by omega)]
      exact ⟨hn, hli, hll, hgl', fun _ => rfl, ho, ⟨by simp only; omega, by simp only; omega⟩, ⟨ht, by simp only; omega⟩, hgn, hgi, by simp only [if_true]; omega⟩
    · simp only [hpp, Bool.false_eq_true, if_false] at hsum ⊢
      exact ⟨hn, hli, hll, hgl', fun _ => rfl, ho, ⟨hs, by simp only; omega⟩, ⟨ht, by simp only; omega⟩, hgn, hgi, by simp only [if_true]; omega⟩
  | cons w r =>
    simp only [giveN]
    have hpf : ¬ p = true := fun h => by simpa using hpl h
    rw [if_neg hpf] at hsum
    have hnd := List.nodup_cons.1 hn
    have hgl2 := hgl (by simp)
    have hw := hli w (by simp)
    refine ⟨hnd.2, fun x hx => hli x (by simp [hx]), by simp at hll ⊢; omega, by simp; omega, fun h => absurd h hpf, ho, ⟨hs, by simp only; omega⟩, ⟨ht, by simp only; omega⟩, ?_, ?_, ?_⟩
    · rw [List.map_append, List.nodup_append]
      refine ⟨hgn, by simp, fun a ha b hb => ?_⟩
      obtain ⟨x, hx, rfl⟩ := List.mem_map.1 ha
      have : b = w := by simpa using hb
      subst this
      intro e
      exact (hgi x hx).2.2 (by rw [e]; simp)
    · intro x hx
      rcases List.mem_append.1 hx with hx | hx
      · have := hgi x hx
        exact ⟨this.1, this.2.1, fun h => this.2.2 (by simp [h])⟩
      · have : x = (w, true) := by simpa using hx
        subst this
        exact ⟨hw.1, hw.2, hnd.1⟩
    · rw [onesG_append, onesG_cons, onesG_nil]
      simp only [if_true, if_neg hpf]; omega
theorem tell_ok {n : NT} (h : OkN n) (ho : n.o < 1000000000) (hg : n.l ≠ [] → n.g.length < 32) : tellN n = ((giveN (oneUp n)).1, (giveN (oneUp n)).2, 0) ∧ OkN (giveN (oneUp n)).1 := by
  constructor
  · unfold tellN
    rw [if_pos ((okSp_iff n).2 h), if_neg (by omega)]
    by_cases hl : n.l = []
    · rw [if_neg (by simp [hl])]
    · rw [if_pos (List.length_pos_iff.2 hl), if_neg (by have := hg hl; omega)]
  · have e : (oneUp n).o = n.o + 1 := by
      have := h.o
      show IntKind.i64.wrap (n.o + 1) = n.o + 1
      rw [wrapS (by omega) (by omega)]
    have h1 := h.sum
    have h2 := h.o
    exact give_ok (n := oneUp n) h.lnd h.lin h.lle hg h.gle h.pl (by rw [e]; omega) h.s.1 h.t.1 h.gnd h.gin (by rw [e]; show n.t + n.s + onesG n.g + (if n.p = true then 1 else 0) + 1 = n.o + 1; rw [h1])
theorem tellAll_ok {n : NT} (h : OkN n) (hle : n.l.length + n.g.length ≤ 32) : tellAllN n = (⟨n.p, [], n.g ++ n.l.map (·, false), n.o, n.s, n.t⟩, n.l, 0) ∧ OkN ⟨n.p, [], n.g ++ n.l.map (·, false), n.o, n.s, n.t⟩ := by
  constructor
  · unfold tellAllN; rw [if_pos ((okSp_iff n).2 h), if_neg (by omega)]
  · have hz : onesG (n.l.map (·, false)) = 0 := by
      unfold onesG
      have : (n.l.map (·, false)).filter (·.2) = [] := by
        rw [List.filter_eq_nil_iff]; intro x hx; obtain ⟨y, _, rfl⟩ := List.mem_map.1 hx; simp
      rw [this]; rfl
    refine ⟨by simp, by simp, by simp, by simp; omega, fun _ => rfl, h.o, h.s, h.t, ?_, ?_, ?_⟩
    · simp only [List.map_append, List.map_map]
      rw [show ((fun x : Int × Bool => x.1) ∘ fun x : Int => (x, false)) = id from rfl, List.map_id, List.nodup_append]
      refine ⟨h.gnd, h.lnd, fun a ha b hb e => ?_⟩
      obtain ⟨x, hx, rfl⟩ := List.mem_map.1 ha
      subst e
      exact (h.gin x hx).2.2 hb
    · intro x hx
      rcases List.mem_append.1 hx with hx | hx
      · have := h.gin x hx; exact ⟨this.1, this.2.1, by simp⟩
      · obtain ⟨y, hy, rfl⟩ := List.mem_map.1 hx
        have := h.lin y hy; exact ⟨this.1, this.2, by simp⟩
    · have := h.sum
      simp only [onesG_append, hz]; omega
theorem less_ok {n : NT} (h : OkN n) (k : Nat) (hk : k < n.g.length) : (n.l.length ≤ 32 ∧ (n.g.eraseIdx k).length = n.g.length - 1 ∧ ((n.g.eraseIdx k).map (·.1)).Nodup ∧ ∀ x ∈ n.g.eraseIdx k, 0 ≤ x.1 ∧ x.1 ≤ 63 ∧ x.1 ∉ n.l) :=
  ⟨h.lle, by rw [List.length_eraseIdx]; simp [hk], ((erase_sub n.g k).map _).nodup h.gnd, fun x hx => h.gin x ((erase_sub n.g k).subset hx)⟩
theorem ix_lt {f : Nat → Int} {a : Int} {k : Nat} (h : ¬ ixF f a k 0 < 0) : ∃ m : Nat, ixF f a k 0 = m ∧ m < k ∧ f m = a := by
  rcases ixF_spec f a k 0 with ⟨g1, _⟩ | ⟨m, g1, _, g3, g4, _⟩
  · omega
  · exact ⟨m, g1, by omega, g4⟩
theorem res_ok {n : NT} (h : OkN n) (a : Int) : OkN (resN n a).1 ∧ (resN n a).1.o = n.o ∧ (resN n a).1.l.length + (resN n a).1.g.length ≤ n.l.length + n.g.length := by
  unfold resN
  rw [if_pos ((okSp_iff n).2 h)]
  split
  · exact ⟨h, rfl, Nat.le_refl _⟩
  · split
    · exact ⟨h, rfl, Nat.le_refl _⟩
    · rename_i hix
      obtain ⟨m, e, hm, _⟩ := ix_lt hix
      rw [e, Int.toNat_natCast]
      obtain ⟨_, b2, b3, b4⟩ := less_ok h m hm
      have hs := onesG_erase n.g m hm
      have hsum := h.sum
      have h2 := h.t
      have h3 := h.s
      have h4 := h.o
      have h5 := onesG_pos (n.g.eraseIdx m)
      have hp : (0 : Int) ≤ (if n.p = true then 1 else 0) := by split <;> omega
      split
      · rename_i hd
        split
        · exact ⟨h, rfl, Nat.le_refl _⟩
        · rw [if_pos hd] at hs
          rw [wrapS (by omega) (by omega)]
          exact ⟨⟨h.lnd, h.lin, h.lle, by simp only; rw [b2]; have := h.gle; omega, h.pl, h.o, h.s, ⟨by simp only; omega, by simp only; omega⟩, b3, b4, by simp only; omega⟩, rfl, by simp only; rw [b2]; omega⟩
      · rename_i hd
        rw [if_neg hd] at hs
        exact ⟨⟨h.lnd, h.lin, h.lle, by show (n.g.eraseIdx m).length ≤ 32; rw [b2]; have := h.gle; omega, h.pl, h.o, h.s, h.t, b3, b4, by show n.t + n.s + onesG (n.g.eraseIdx m) + (if n.p = true then 1 else 0) = n.o; omega⟩, rfl, by show n.l.length + (n.g.eraseIdx m).length ≤ _; rw [b2]; omega⟩
theorem aw_ok {n : NT} (h : OkN n) (a : Int) : OkN (awN n a).1 ∧ (awN n a).1.o = n.o ∧ (awN n a).1.l.length + (awN n a).1.g.length ≤ n.l.length + n.g.length + 1 ∧ ((awN n a).2 = 0 → n.p = true) ∧ ((awN n a).2 = 4 → n.p = false) := by
  have triv : ∀ c : Int, c ≠ 0 → c ≠ 4 → OkN (n, c).1 ∧ (n, c).1.o = n.o ∧ (n, c).1.l.length + (n, c).1.g.length ≤ n.l.length + n.g.length + 1 ∧ ((n, c).2 = 0 → n.p = true) ∧ ((n, c).2 = 4 → n.p = false) :=
    fun c h1 h2 => ⟨h, rfl, Nat.le_succ _, fun e => absurd e h1, fun e => absurd e h2⟩
  unfold awN
  rw [if_pos ((okSp_iff n).2 h)]
  split
  · rename_i hin
    have hin := inR_iff.1 hin
    split
    · exact triv 5 (by omega) (by omega)
    · rename_i hnl
      have hnl : a ∉ n.l := has_mem.1 (eq_false_of_ne_true hnl)
      split
      · exact triv 5 (by omega) (by omega)
      · rename_i hix
        split
        · exact triv 2 (by omega) (by omega)
        · have hsum := h.sum
          have h2 := h.t
          have h3 := h.s
          have h4 := h.o
          have h5 := onesG_pos n.g
          split
          · rename_i hp
            rw [if_pos hp] at hsum
            rw [wrapS (by omega) (by omega)]
            exact ⟨⟨h.lnd, h.lin, h.lle, h.gle, fun e => by simp at e, h.o, h.s, ⟨by simp only; omega, by simp only; omega⟩, h.gnd, h.gin, by simp only [Bool.false_eq_true, if_false]; omega⟩, rfl, Nat.le_succ _, fun _ => hp, fun e => by simp at e⟩
          · rename_i hp
            split
            · exact triv 2 (by omega) (by omega)
            · rename_i hll
              have hng : ∀ x ∈ n.g, x.1 ≠ a := by
                intro x hx e
                obtain ⟨j, hj, rfl⟩ := (mem_getD (d := ((0 : Int), false))).1 hx
                rcases ixF_spec (whoF n.g) a n.g.length 0 with ⟨g1, g2⟩ | ⟨m, g1, _⟩
                · exact g2 j (by omega) (by omega) e
                · omega
              refine ⟨⟨?_, ?_, by simp only [List.length_append, List.length_singleton]; have := h.lle; omega, h.gle, fun e => absurd e hp, h.o, h.s, h.t, h.gnd, ?_, hsum⟩, rfl, by simp only [List.length_append, List.length_singleton]; omega, fun e => by simp at e, fun _ => by simpa using hp⟩
              · rw [List.nodup_append]
                exact ⟨h.lnd, by simp, fun x hx y hy e => hnl (by rw [← List.mem_singleton.1 hy, ← e]; exact hx)⟩
              · intro x hx
                rcases List.mem_append.1 hx with hx | hx
                · exact h.lin x hx
                · have : x = a := by simpa using hx
                  subst this; exact hin
              · intro x hx
                have := h.gin x hx
                refine ⟨this.1, this.2.1, fun e => ?_⟩
                rcases List.mem_append.1 e with e | e
                · exact this.2.2 e
                · exact hng x hx (by simpa using e)
  · exact triv 1 (by omega) (by omega)
theorem with_ok {n : NT} (h : OkN n) (a : Int) : OkN (withN n a).1 ∧ (withN n a).1.o = n.o ∧ (withN n a).1.t = n.t ∧ (withN n a).1.l.length + (withN n a).1.g.length ≤ n.l.length + n.g.length := by
  unfold withN
  rw [if_pos ((okSp_iff n).2 h)]
  split
  · have hsub : (n.l.erase a).Sublist n.l := List.erase_sublist
    have hle := hsub.length_le
    refine ⟨⟨hsub.nodup h.lnd, fun x hx => h.lin x (hsub.subset hx), by show (n.l.erase a).length ≤ 32; have := h.lle; omega, h.gle, fun e => ?_, h.o, h.s, h.t, h.gnd, fun x hx => ?_, h.sum⟩, rfl, rfl, by show (n.l.erase a).length + n.g.length ≤ _; omega⟩
    · have := h.pl e
      show n.l.erase a = []
      rw [this]; rfl
    · have := h.gin x hx
      exact ⟨this.1, this.2.1, fun e => this.2.2 (hsub.subset e)⟩
  · split
    · exact ⟨h, rfl, rfl, Nat.le_refl _⟩
    · rename_i hix
      obtain ⟨m, e, hm, _⟩ := ix_lt hix
      rw [e, Int.toNat_natCast]
      obtain ⟨_, b2, b3, b4⟩ := less_ok h m hm
      have hs := onesG_erase n.g m hm
      have hsum := h.sum
      have hgl := h.gle
      split
      · rename_i hd
        rw [if_pos hd] at hs
        split
        · exact ⟨h, rfl, rfl, Nat.le_refl _⟩
        · have hok := give_ok (n := lessG n m) h.lnd h.lin h.lle (fun _ => by show (n.g.eraseIdx m).length < 32; omega) (by show (n.g.eraseIdx m).length ≤ 32; omega) h.pl h.o h.s.1 h.t.1 b3 b4
            (by show n.t + n.s + onesG (n.g.eraseIdx m) + (if n.p = true then 1 else 0) + 1 = n.o; omega)
          refine ⟨hok, ?_, ?_, ?_⟩
          · unfold giveN lessG; simp only; split <;> rfl
          · unfold giveN lessG; simp only; split <;> rfl
          · unfold giveN lessG; simp only
            split
            · rename_i w r hr
              rw [hr]; simp only [List.length_append, List.length_cons, List.length_nil, b2]; omega
            · rename_i hr
              rw [hr]; simp only [b2]; omega
      · rename_i hd
        rw [if_neg hd] at hs
        exact ⟨⟨h.lnd, h.lin, h.lle, by show (n.g.eraseIdx m).length ≤ 32; omega, h.pl, h.o, h.s, h.t, b3, b4, by show n.t + n.s + onesG (n.g.eraseIdx m) + (if n.p = true then 1 else 0) = n.o; omega⟩, rfl, rfl, by show n.l.length + (n.g.eraseIdx m).length ≤ _; rw [b2]; omega⟩
end Go.Fw
