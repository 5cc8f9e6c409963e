/- What the program writes of a state is bounded by the state's size. No program in sight. -/
import Derived.Test.YtonhlheceebflaaGreatV4
import Derived.Test.YtonhlheceebflaaGreatW6
set_option linter.unusedVariables false
set_option linter.unusedSimpArgs false
namespace Go.Fw
open Go.Proofs
theorem wL_sz {α : Type} {f : α → ByteArray} {g : α → Nat} : ∀ {xs : List α}, (∀ x ∈ xs, (f x).size ≤ 400 * g x + 400) → (wL f xs).size ≤ 400 * sumL g xs := by
  intro xs
  induction xs with
  | nil => intro h; exact Nat.zero_le _
  | cons x r ih =>
    intro h
    obtain ⟨h1, h2⟩ := List.forall_mem_cons.1 h
    have := ih h2
    show (f x ++ wL f r).size ≤ _
    rw [ByteArray.size_append]
    unfold sumL at this ⊢
    simp only [List.length_cons, List.map_cons, List.sum_cons]
    omega
theorem num1_sz {n : Int} (h : i64R n) : (num1 n).size ≤ 22 := by
  rw [ByteArray.size_append, sz1]
  have := txt_20 h.1 h.2
  omega
theorem wLn_sz : ∀ {xs : List Int}, (∀ x ∈ xs, i64R x) → (wL num1 xs).size ≤ 22 * xs.length := by
  intro xs
  induction xs with
  | nil => intro h; exact Nat.zero_le _
  | cons x r ih =>
    intro h
    obtain ⟨h1, h2⟩ := List.forall_mem_cons.1 h
    have := ih h2
    have := num1_sz h1
    show (num1 x ++ wL num1 r).size ≤ _
    rw [ByteArray.size_append, List.length_cons]
    omega
theorem zrB {n : Nat} (h : n ≤ 9223372036854775807) : i64R (n : Int) := ⟨by omega, by omega⟩
theorem wN_sz {xs : List Int} (hl : xs.length ≤ 9223372036854775807) (h : ∀ x ∈ xs, i64R x) : (wN xs).size ≤ 22 * xs.length + 22 := by
  unfold wN
  rw [ByteArray.size_append, ByteArray.size_append, sz1]
  have := wLn_sz h
  have := txt_20 (zrB hl).1 (zrB hl).2
  omega
theorem wI_sz {xs : List Int} (h : arIntS xs) : (wN xs).size ≤ 400 * szIntS xs + 22 := by
  have h1 := wN_sz h.1 h.2
  have h2 : xs.length ≤ szIntS xs := sumL_len (Nat.le_refl _)
  omega
theorem wT_sz {s : ByteArray} (h : s.size ≤ 9223372036854775807) : (wT s).size ≤ 400 * s.size + 44 := by
  unfold wT
  rw [ByteArray.size_append]
  have := wN_sz (xs := [(s.size : Int)]) (by simp) (fa (zrB h) fa0)
  simp only [List.length_cons, List.length_nil] at this
  omega
theorem zMsg_ {x : VMsg} (h : arMsg x) : (wMsg x).size ≤ 400 * szMsg x + 110 := by
  unfold wMsg
  have p0 := wN_sz (xs := [x.Kind, x.Num]) (by simp) (fa (h.1) (fa (h.2.1) fa0))
  simp only [List.length_cons, List.length_nil] at p0
  have p1 := wT_sz (h.2.2)
  simp only [ByteArray.size_append]
  unfold szMsg
  omega
theorem zTerm_ {x : VTerm} (h : arTerm x) : (wTerm x).size ≤ 400 * szTerm x + 110 := by
  unfold wTerm
  have p0 := wN_sz (xs := [x.Op, x.Num]) (by simp) (fa (h.1) (fa (h.2.1) fa0))
  simp only [List.length_cons, List.length_nil] at p0
  have p1 := wT_sz (h.2.2)
  simp only [ByteArray.size_append]
  unfold szTerm
  omega
theorem zF {ts : List VTerm} (h : arTermS ts) : (wF ts).size ≤ 400 * szTermS ts + 44 := by
  unfold wF
  rw [ByteArray.size_append]
  have h1 := wN_sz (xs := [(ts.length : Int)]) (by simp) (fa (zrB h.1) fa0)
  have h2 : (wL wTerm ts).size ≤ 400 * szTermS ts := wL_sz fun x hx => Nat.le_trans (zTerm_ (h.2 x hx)) (by omega)
  simp only [List.length_cons, List.length_nil] at h1
  omega
theorem zBool_ (x : Bool) : (wBool x).size ≤ 44 := by
  unfold wBool
  have h1 := wN_sz (xs := [bN x]) (by simp) (fa (bN_r _) fa0)
  simp only [List.length_cons, List.length_nil] at h1
  omega
theorem zTimer_ {x : VTimer} (h : arTimer x) : (wTimer x).size ≤ 400 * 0 + 66 := by
  unfold wTimer
  have p0 := wN_sz (xs := [x.At, x.Token]) (by simp) (fa (h.1) (fa (h.2) fa0))
  simp only [List.length_cons, List.length_nil] at p0
  omega
theorem zGrant_ {x : VGrant} (h : arGrant x) : (wGrant x).size ≤ 400 * 0 + 66 := by
  unfold wGrant
  have p0 := wN_sz (xs := [x.Who, bN x.One]) (by simp) (fa h (fa (bN_r _) fa0))
  simp only [List.length_cons, List.length_nil] at p0
  omega
theorem zNote_ {x : VNotify} (h : arNotify x) : (wNote x).size ≤ 400 * szNotify x + 154 := by
  unfold wNote
  have p0 := wN_sz (xs := [bN x.Permit, x.Ones, x.Spilt, x.Taken, (x.Grants.length : Int)]) (by simp) (fa (bN_r _) (fa (h.2.2.1) (fa (h.2.2.2.1) (fa (h.2.2.2.2) (fa (zrB (h.2.1).1) fa0)))))
  simp only [List.length_cons, List.length_nil] at p0
  have p1 := wI_sz (h.1)
  have p2 : (wL wGrant x.Grants).size ≤ 400 * szGrantS x.Grants := wL_sz fun z hz => Nat.le_trans (zGrant_ ((h.2.1).2 z hz)) (by omega)
  simp only [ByteArray.size_append]
  unfold szNotify
  omega
theorem zEvent_ {x : VEvent} (h : arEvent x) : (wEvent x).size ≤ 400 * szEvent x + 176 := by
  unfold wEvent
  have p0 := wN_sz (xs := [bN x.Auto, bN x.Up, x.Sets, x.Spilt, x.Taken]) (by simp) (fa (bN_r _) (fa (bN_r _) (fa (h.2.2.1) (fa (h.2.2.2.1) (fa (h.2.2.2.2) fa0)))))
  simp only [List.length_cons, List.length_nil] at p0
  have p1 := wI_sz (h.1)
  have p2 := wI_sz (h.2.1)
  simp only [ByteArray.size_append]
  unfold szEvent
  omega
theorem zLatch_ {x : VLatch} (h : arLatch x) : (wLatch x).size ≤ 400 * szLatch x + 88 := by
  unfold wLatch
  have p0 := wN_sz (xs := [x.Count]) (by simp) (fa (h.1) fa0)
  simp only [List.length_cons, List.length_nil] at p0
  have p1 := wI_sz (h.2.1)
  have p2 := wI_sz (h.2.2)
  simp only [ByteArray.size_append]
  unfold szLatch
  omega
theorem zCell_ {x : VCell} (h : arCell x) : (wCell x).size ≤ 400 * szCell x + 220 := by
  unfold wCell
  have p0 := zMsg_ (h.1)
  have p1 := wN_sz (xs := [x.Version, bN x.Closed]) (by simp) (fa (h.2.1) (fa (bN_r _) fa0))
  simp only [List.length_cons, List.length_nil] at p1
  have p2 := wI_sz (h.2.2.1)
  have p3 := wI_sz (h.2.2.2)
  simp only [ByteArray.size_append]
  unfold szCell
  omega
theorem zSub_ {x : VSub} (h : arSub x) : (wSub x).size ≤ 400 * szSub x + 198 := by
  unfold wSub
  have p0 := wN_sz (xs := [x.Id, x.Start, x.Cursor, x.Got, x.Lost, x.Passed]) (by simp) (fa (h.1) (fa (h.2.1) (fa (h.2.2.1) (fa (h.2.2.2.1) (fa (h.2.2.2.2.1) (fa (h.2.2.2.2.2.1) fa0))))))
  simp only [List.length_cons, List.length_nil] at p0
  have p1 := zF (h.2.2.2.2.2.2)
  simp only [ByteArray.size_append]
  unfold szSub
  omega
theorem zTopic_ {x : VTopic} (h : arTopic x) : (wTopic x).size ≤ 400 * szTopic x + 242 := by
  unfold wTopic
  have p0 := wT_sz (h.1)
  have p1 := wN_sz (xs := [x.Ring.Cap, x.Ring.Sent, x.Ring.Next, bN x.Ring.Closed, (x.Ring.Items.length : Int), (x.Ring.Subs.length : Int)]) (by simp) (fa ((h.2).1) (fa ((h.2).2.1) (fa ((h.2).2.2.2.1) (fa (bN_r _) (fa (zrB ((h.2).2.2.1).1) (fa (zrB ((h.2).2.2.2.2.1).1) fa0))))))
  simp only [List.length_cons, List.length_nil] at p1
  have p2 : (wL wMsg x.Ring.Items).size ≤ 400 * szMsgS x.Ring.Items := wL_sz fun z hz => Nat.le_trans (zMsg_ (((h.2).2.2.1).2 z hz)) (by omega)
  have p3 : (wL wSub x.Ring.Subs).size ≤ 400 * szSubS x.Ring.Subs := wL_sz fun z hz => Nat.le_trans (zSub_ (((h.2).2.2.2.2.1).2 z hz)) (by omega)
  have p4 := wI_sz ((h.2).2.2.2.2.2.1)
  have p5 := wI_sz ((h.2).2.2.2.2.2.2)
  simp only [ByteArray.size_append]
  unfold szTopic szRing
  omega
theorem zLeg_ {x : VLeg} (h : arLeg x) : (wLeg x).size ≤ 400 * 0 + 110 := by
  unfold wLeg
  have p0 := wN_sz (xs := [x.Topic, x.Id, x.Lost, bN x.Over]) (by simp) (fa (h.1) (fa (h.2.1) (fa (h.2.2) (fa (bN_r _) fa0))))
  simp only [List.length_cons, List.length_nil] at p0
  omega
theorem zMerge_ {x : VMerge} (h : arMerge x) : (wMerge x).size ≤ 400 * szMerge x + 88 := by
  unfold wMerge
  have p0 := wN_sz (xs := [x.Into, x.Moved, (x.Legs.length : Int)]) (by simp) (fa (h.2.1) (fa (h.2.2) (fa (zrB (h.1).1) fa0)))
  simp only [List.length_cons, List.length_nil] at p0
  have p1 : (wL wLeg x.Legs).size ≤ 400 * szLegS x.Legs := wL_sz fun z hz => Nat.le_trans (zLeg_ ((h.1).2 z hz)) (by omega)
  simp only [ByteArray.size_append]
  unfold szMerge
  omega
theorem zHit_ {x : VHit} (h : arHit x) : (wHit x).size ≤ 400 * 0 + 66 := by
  unfold wHit
  have p0 := wN_sz (xs := [x.Topic, x.Id]) (by simp) (fa (h.1) (fa (h.2) fa0))
  simp only [List.length_cons, List.length_nil] at p0
  omega
theorem zUser_ {x : VUser} (h : arUser x) : (wUser x).size ≤ 400 * szUser x + 66 := by
  unfold wUser
  have p0 := wN_sz (xs := [(x.Subs.length : Int)]) (by simp) (fa (zrB (h.1).1) fa0)
  simp only [List.length_cons, List.length_nil] at p0
  have p1 : (wL wHit x.Subs).size ≤ 400 * szHitS x.Subs := wL_sz fun z hz => Nat.le_trans (zHit_ ((h.1).2 z hz)) (by omega)
  have p2 := wI_sz (h.2)
  simp only [ByteArray.size_append]
  unfold szUser
  omega
theorem zCall_ {x : VCall} (h : arCall x) : (wCall x).size ≤ 400 * szCall x + 308 := by
  unfold wCall
  have p0 := wN_sz (xs := [x.Op, x.A, x.B, x.Tok]) (by simp) (fa (h.1) (fa (h.2.1) (fa (h.2.2.1) (fa (h.2.2.2.1) fa0))))
  simp only [List.length_cons, List.length_nil] at p0
  have p1 := wT_sz (h.2.2.2.2.1)
  have p2 := zMsg_ (h.2.2.2.2.2.1)
  have p3 := zF (h.2.2.2.2.2.2)
  simp only [ByteArray.size_append]
  unfold szCall
  omega
theorem zClient_ {x : VClient} (h : arClient x) : (wClient x).size ≤ 400 * szClient x + 88 := by
  unfold wClient
  have p0 := wN_sz (xs := [x.At, bN x.Waiting, (x.Prog.length : Int)]) (by simp) (fa (h.2) (fa (bN_r _) (fa (zrB (h.1).1) fa0)))
  simp only [List.length_cons, List.length_nil] at p0
  have p1 : (wL wCall x.Prog).size ≤ 400 * szCallS x.Prog := wL_sz fun z hz => Nat.le_trans (zCall_ ((h.1).2 z hz)) (by omega)
  simp only [ByteArray.size_append]
  unfold szClient
  omega
theorem zWaits_ {x : VHub} (h : arHub x) : (wWaits x).size ≤ 400 * (szTokens x.Tokens + szClock x.Clock + szNotifyS x.Notes + szEventS x.Events + szLatchS x.Latches + szCellS x.Cells) + 220 := by
  unfold wWaits
  have p0 := wI_sz ((h.1).1)
  have p1 := wN_sz (xs := [(x.Tokens.Off.length : Int)]) (by simp) (fa (zrB ((h.1).2).1) fa0)
  simp only [List.length_cons, List.length_nil] at p1
  have p2 : (wL wBool x.Tokens.Off).size ≤ 400 * szBoolS x.Tokens.Off := wL_sz fun z hz => Nat.le_trans (zBool_ z) (by omega)
  have p3 := wN_sz (xs := [x.Clock.Now, (x.Clock.Timers.length : Int), (x.Notes.length : Int), (x.Events.length : Int), (x.Latches.length : Int), (x.Cells.length : Int)]) (by simp) (fa ((h.2.1).1) (fa (zrB ((h.2.1).2).1) (fa (zrB (h.2.2.1).1) (fa (zrB (h.2.2.2.1).1) (fa (zrB (h.2.2.2.2.1).1) (fa (zrB (h.2.2.2.2.2.1).1) fa0))))))
  simp only [List.length_cons, List.length_nil] at p3
  have p4 : (wL wTimer x.Clock.Timers).size ≤ 400 * szTimerS x.Clock.Timers := wL_sz fun z hz => Nat.le_trans (zTimer_ (((h.2.1).2).2 z hz)) (by omega)
  have p5 : (wL wNote x.Notes).size ≤ 400 * szNotifyS x.Notes := wL_sz fun z hz => Nat.le_trans (zNote_ ((h.2.2.1).2 z hz)) (by omega)
  have p6 : (wL wEvent x.Events).size ≤ 400 * szEventS x.Events := wL_sz fun z hz => Nat.le_trans (zEvent_ ((h.2.2.2.1).2 z hz)) (by omega)
  have p7 : (wL wLatch x.Latches).size ≤ 400 * szLatchS x.Latches := wL_sz fun z hz => Nat.le_trans (zLatch_ ((h.2.2.2.2.1).2 z hz)) (by omega)
  have p8 : (wL wCell x.Cells).size ≤ 400 * szCellS x.Cells := wL_sz fun z hz => Nat.le_trans (zCell_ ((h.2.2.2.2.2.1).2 z hz)) (by omega)
  simp only [ByteArray.size_append]
  unfold szTokens szClock
  omega
theorem zStreams_ {x : VHub} (h : arHub x) : (wStreams x).size ≤ 400 * (szTopicS x.Topics + szMergeS x.Merges) + 66 := by
  unfold wStreams
  have p0 := wN_sz (xs := [(x.Topics.length : Int), (x.Merges.length : Int)]) (by simp) (fa (zrB (h.2.2.2.2.2.2.1).1) (fa (zrB (h.2.2.2.2.2.2.2.1).1) fa0))
  simp only [List.length_cons, List.length_nil] at p0
  have p1 : (wL wTopic x.Topics).size ≤ 400 * szTopicS x.Topics := wL_sz fun z hz => Nat.le_trans (zTopic_ ((h.2.2.2.2.2.2.1).2 z hz)) (by omega)
  have p2 : (wL wMerge x.Merges).size ≤ 400 * szMergeS x.Merges := wL_sz fun z hz => Nat.le_trans (zMerge_ ((h.2.2.2.2.2.2.2.1).2 z hz)) (by omega)
  simp only [ByteArray.size_append]
  omega
theorem zState_ {x : VState} (h : arState x) : (wState x).size ≤ 400 * szState x + 352 := by
  unfold wState
  have p0 := zWaits_ (h.1)
  have p1 := zStreams_ (h.1)
  have p2 := wN_sz (xs := [(x.Hub.Users.length : Int), (x.Clients.length : Int)]) (by simp) (fa (zrB ((h.1).2.2.2.2.2.2.2.2).1) (fa (zrB (h.2).1) fa0))
  simp only [List.length_cons, List.length_nil] at p2
  have p3 : (wL wUser x.Hub.Users).size ≤ 400 * szUserS x.Hub.Users := wL_sz fun z hz => Nat.le_trans (zUser_ (((h.1).2.2.2.2.2.2.2.2).2 z hz)) (by omega)
  have p4 : (wL wClient x.Clients).size ≤ 400 * szClientS x.Clients := wL_sz fun z hz => Nat.le_trans (zClient_ ((h.2).2 z hz)) (by omega)
  simp only [ByteArray.size_append]
  unfold szState szHub
  omega
end Go.Fw
