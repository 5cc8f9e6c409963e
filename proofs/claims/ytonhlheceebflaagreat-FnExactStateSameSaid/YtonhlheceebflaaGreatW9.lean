/- Values: what the program writes of a state. -/
import Derived.Test.YtonhlheceebflaaGreatW8
set_option linter.unusedVariables false
set_option linter.unusedSimpArgs false
namespace Go.Fw
open Go.Proofs
theorem push_dl (r : ByteArray) (c : UInt8) : dl (r.push c) = dl r ++ [c] := by
  show (r.data.push c).toList = _
  simp [dl]
theorem byS_fold (w : ByteArray) : ∀ (n : Nat), n ≤ w.size → dl (((List.range n).map fun i => asI (bytG w i 0)).foldl (fun r n => r.push (UInt8.ofNat n.toNat)) ByteArray.empty) = (dl w).take n := by
  intro n
  induction n with
  | zero => intro _; rfl
  | succ n ih =>
    intro h
    rw [List.range_succ, List.map_append, List.foldl_append]
    show dl (ByteArray.push _ _) = _
    rw [push_dl, ih (by omega)]
    have hn : n < (dl w).length := by rw [dl_len]; omega
    rw [List.take_add_one]
    congr 1
    show [UInt8.ofNat (((w[n]?).getD 0).toNat : Int).toNat] = _
    rw [get_dl, List.getElem?_eq_getElem hn]
    simp
theorem byS_own (w : ByteArray) : byS w.size (bytG w) = w := by
  have h : dl (byS w.size (bytG w)) = dl w := by
    unfold byS
    rw [byS_fold w w.size (Nat.le_refl _)]
    exact List.take_of_length_le (by rw [dl_len]; omega)
  exact ByteArray.ext (Array.toList_inj.1 h)
theorem allT (n : Nat) : (List.range n).all (fun _ => true) = true := by simp
theorem NB0 : AV.nbx 1 (lstG [AV.own 0 1 fun _ => lstG [AV.I IntKind.u8 0]]) = NBw ByteArray.empty := by
  have e : ∀ i, byN ByteArray.empty i = 0 := fun i => by show zN ((ByteArray.empty[i]?).getD 0).toNat = 0; rw [get_dl]; rfl
  show _ = AV.nbx 1 (lstG [AV.own 0 1 fun i => lstG [AV.I IntKind.u8 (byN ByteArray.empty i)]])
  simp only [e]
set_option maxHeartbeats 2000000 in
theorem v_writing (s : VState) (ha0 : arState s) (hs0 : (wState s).size ≤ 4294967296) : E 15 [slState s] [] = some (.S (wState s), []) := by
  have e0 : wState s = wWaits s.Hub ++ wStreams s.Hub ++ wN [(s.Hub.Users.length : Int), (s.Clients.length : Int)] ++ wL wUser s.Hub.Users ++ wL wClient s.Clients := rfl
  rw [e0] at hs0 ⊢
  have hs1 := hs0
  simp only [ByteArray.size_append] at hs1
  have hl_1 := wL_len pos_User s.Hub.Users
  have hl_2 := wL_len pos_Client s.Clients
  have ee : ∀ x : ByteArray, ByteArray.empty ++ x = x := fun x => by simp
  have k1 : E 48 [.pb 0 0, slHub s.Hub] [NBw ByteArray.empty] = RW (wWaits s.Hub) := by
    have := v_waits s.Hub ByteArray.empty ha0.1 (by rw [ee]; omega)
    rw [ee] at this; exact this
  have k2 : E 48 [.pb 0 0, slHub s.Hub] [AV.nbx 1 (lstG [AV.own 0 1 fun _ => lstG [AV.I IntKind.u8 0]])] = RW (wWaits s.Hub) := by rw [NB0]; exact k1
  have hw1 : (wWaits s.Hub ++ wStreams s.Hub).size ≤ 4294967296 := by rw [ByteArray.size_append]; omega
  have k3 := v_streams s.Hub (wWaits s.Hub) ha0.1 hw1
  have k4 := v_numsG [(s.Hub.Users.length : Int), (s.Clients.length : Int)] (row2 ..) rfl (wWaits s.Hub ++ wStreams s.Hub) (fa (zr (by omega)) (fa (zr (by omega)) fa0)) (by simp only [ByteArray.size_append]; omega)
  refine evK rfl ((e15 ..).trans ?_)
  refine obind' k2 ?_
  refine obind' k3 ?_
  refine obind' k4 ?_
  refine u_listK (p := P15a) zUser wUser pos_User (s.Hub.Users) (fun i w' => S15a s s.Hub.Users (zN s.Hub.Users.length) i w') (fun i w' r hi hl hs hk => ?_) (wWaits s.Hub ++ wStreams s.Hub ++ wN [(s.Hub.Users.length : Int), (s.Clients.length : Int)]) (by simp only [ByteArray.size_append]; omega) ?_
  · have ha := (ha0.1.2.2.2.2.2.2.2.2).2 _ (getD_mem (d := zUser) hi)
    have e1 : w' ++ wUser (s.Hub.Users.getD i zUser) = w' ++ wN [((s.Hub.Users.getD i zUser).Subs.length : Int)] ++ wL wHit (s.Hub.Users.getD i zUser).Subs ++ wN (s.Hub.Users.getD i zUser).Seen := by unfold wUser; simp only [ByteArray.append_assoc]
    rw [e1] at hs hk
    have hs2 := hs
    simp only [ByteArray.size_append] at hs2
    have hl_Hit := wL_len pos_Hit (s.Hub.Users.getD i zUser).Subs
    refine lstep ((h15a ..).trans (bt' (decide_eq_true (by simp only [zN]; omega)) (bt' (bndL hi) ?_)))
    rw [Int.toNat_natCast]
    refine obind' (v_numsG [((s.Hub.Users.getD i zUser).Subs.length : Int)] (row1 ..) rfl (w') (fa (zr (by omega)) fa0) (by simp only [ByteArray.size_append]; omega)) (?_)
    refine u_listK (p := P15b) zHit wHit pos_Hit (s.Hub.Users.getD i zUser).Subs (fun j w'' => S15b s (s.Hub.Users.getD i zUser) s.Hub.Users (zN s.Hub.Users.length) i (s.Hub.Users.getD i zUser).Subs (zN (s.Hub.Users.getD i zUser).Subs.length) j w'') (fun j w'' r hj hlj hsj hh => ?_) (w' ++ wN [((s.Hub.Users.getD i zUser).Subs.length : Int)]) (by simp only [ByteArray.size_append]; omega) ?_
    · have hg := (ha.1).2 _ (getD_mem (d := zHit) hj)
      have e2 : w'' ++ wHit ((s.Hub.Users.getD i zUser).Subs.getD j zHit) = w'' ++ wN [((s.Hub.Users.getD i zUser).Subs.getD j zHit).Topic, ((s.Hub.Users.getD i zUser).Subs.getD j zHit).Id] := by unfold wHit; simp only [ByteArray.append_assoc]
      rw [e2] at hsj hh
      have hs3 := hsj
      simp only [ByteArray.size_append] at hs3
      refine lstep ((h15b ..).trans (bt' (decide_eq_true (by simp only [zN]; omega)) (bt' (bndL hj) ?_)))
      rw [Int.toNat_natCast, wrapN (by omega)]
      exact obind' (v_numsG [((s.Hub.Users.getD i zUser).Subs.getD j zHit).Topic, ((s.Hub.Users.getD i zUser).Subs.getD j zHit).Id] (row2 ..) rfl (w'') (fa (hg.1) (fa (hg.2) fa0)) (by simp only [ByteArray.size_append]; omega)) (hh)
    refine lstep ((h15b ..).trans (bf' (decide_eq_false (by simp only [zN]; omega)) ?_))
    rw [wrapN (by omega)]
    exact obind' (v_nums (s.Hub.Users.getD i zUser).Seen (w' ++ wN [((s.Hub.Users.getD i zUser).Subs.length : Int)] ++ wL wHit (s.Hub.Users.getD i zUser).Subs) (ha.2).2 (by simp only [ByteArray.size_append]; omega)) (hk)
  refine lstep ((h15a ..).trans (bf' (decide_eq_false (by simp only [zN]; omega)) ?_))
  refine u_listK (p := P15c) zClient wClient pos_Client (s.Clients) (fun i w' => S15c s.Clients (zN s.Clients.length) i w') (fun i w' r hi hl hs hk => ?_) (wWaits s.Hub ++ wStreams s.Hub ++ wN [(s.Hub.Users.length : Int), (s.Clients.length : Int)] ++ wL wUser s.Hub.Users) (by simp only [ByteArray.size_append]; omega) ?_
  · have ha := (ha0.2).2 _ (getD_mem (d := zClient) hi)
    have e1 : w' ++ wClient (s.Clients.getD i zClient) = w' ++ wN [(s.Clients.getD i zClient).At, bN (s.Clients.getD i zClient).Waiting, ((s.Clients.getD i zClient).Prog.length : Int)] ++ wL wCall (s.Clients.getD i zClient).Prog := by unfold wClient; simp only [ByteArray.append_assoc]
    rw [e1] at hs hk
    have hs2 := hs
    simp only [ByteArray.size_append] at hs2
    have hl_Call := wL_len pos_Call (s.Clients.getD i zClient).Prog
    refine lstep ((h15c ..).trans (bt' (decide_eq_true (by simp only [zN]; omega)) (bt' (bndL hi) ?_)))
    rw [Int.toNat_natCast]
    refine obind' (v51 _) (obind' (v_numsG [(s.Clients.getD i zClient).At, bN (s.Clients.getD i zClient).Waiting, ((s.Clients.getD i zClient).Prog.length : Int)] (row3 ..) rfl (w') (fa (ha.2) (fa (bN_r _) (fa (zr (by omega)) fa0))) (by simp only [ByteArray.size_append]; omega)) (?_))
    refine u_listK (p := P15d) zCall wCall pos_Call (s.Clients.getD i zClient).Prog (fun j w'' => S15d s.Clients (zN s.Clients.length) i (s.Clients.getD i zClient).Prog (zN (s.Clients.getD i zClient).Prog.length) j w'') (fun j w'' r hj hlj hsj hh => ?_) (w' ++ wN [(s.Clients.getD i zClient).At, bN (s.Clients.getD i zClient).Waiting, ((s.Clients.getD i zClient).Prog.length : Int)]) (by simp only [ByteArray.size_append]; omega) ?_
    · have hg := (ha.1).2 _ (getD_mem (d := zCall) hj)
      have e2 : w'' ++ wCall ((s.Clients.getD i zClient).Prog.getD j zCall) = w'' ++ wN [((s.Clients.getD i zClient).Prog.getD j zCall).Op, ((s.Clients.getD i zClient).Prog.getD j zCall).A, ((s.Clients.getD i zClient).Prog.getD j zCall).B, ((s.Clients.getD i zClient).Prog.getD j zCall).Tok] ++ wT ((s.Clients.getD i zClient).Prog.getD j zCall).Name ++ wMsg ((s.Clients.getD i zClient).Prog.getD j zCall).Msg ++ wF ((s.Clients.getD i zClient).Prog.getD j zCall).Filter := by unfold wCall; simp only [ByteArray.append_assoc]
      rw [e2] at hsj hh
      have hs3 := hsj
      simp only [ByteArray.size_append] at hs3
      refine lstep ((h15d ..).trans (bt' (decide_eq_true (by simp only [zN]; omega)) (bt' (bndL hj) ?_)))
      rw [Int.toNat_natCast, wrapN (by omega)]
      exact obind' (v_numsG [((s.Clients.getD i zClient).Prog.getD j zCall).Op, ((s.Clients.getD i zClient).Prog.getD j zCall).A, ((s.Clients.getD i zClient).Prog.getD j zCall).B, ((s.Clients.getD i zClient).Prog.getD j zCall).Tok] (row4 ..) rfl (w'') (fa (hg.1) (fa (hg.2.1) (fa (hg.2.2.1) (fa (hg.2.2.2.1) fa0)))) (by simp only [ByteArray.size_append]; omega)) (obind' (v_text ((s.Clients.getD i zClient).Prog.getD j zCall).Name (w'' ++ wN [((s.Clients.getD i zClient).Prog.getD j zCall).Op, ((s.Clients.getD i zClient).Prog.getD j zCall).A, ((s.Clients.getD i zClient).Prog.getD j zCall).B, ((s.Clients.getD i zClient).Prog.getD j zCall).Tok]) (by simp only [ByteArray.size_append]; omega)) (obind' (v_msg ((s.Clients.getD i zClient).Prog.getD j zCall).Msg (w'' ++ wN [((s.Clients.getD i zClient).Prog.getD j zCall).Op, ((s.Clients.getD i zClient).Prog.getD j zCall).A, ((s.Clients.getD i zClient).Prog.getD j zCall).B, ((s.Clients.getD i zClient).Prog.getD j zCall).Tok] ++ wT ((s.Clients.getD i zClient).Prog.getD j zCall).Name) (hg.2.2.2.2.2.1) (by simp only [ByteArray.size_append]; omega)) (obind' (v_filter ((s.Clients.getD i zClient).Prog.getD j zCall).Filter (w'' ++ wN [((s.Clients.getD i zClient).Prog.getD j zCall).Op, ((s.Clients.getD i zClient).Prog.getD j zCall).A, ((s.Clients.getD i zClient).Prog.getD j zCall).B, ((s.Clients.getD i zClient).Prog.getD j zCall).Tok] ++ wT ((s.Clients.getD i zClient).Prog.getD j zCall).Name ++ wMsg ((s.Clients.getD i zClient).Prog.getD j zCall).Msg) (hg.2.2.2.2.2.2) (by simp only [ByteArray.size_append]; omega)) (hh))))
    refine lstep ((h15d ..).trans (bf' (decide_eq_false (by simp only [zN]; omega)) ?_))
    rw [wrapN (by omega)]
    exact hk
  refine lstep ((h15c ..).trans (bf' (decide_eq_false (by simp only [zN]; omega)) (bt' (allT _) ?_)))
  exact congrArg (fun b => some (AV.S b, [])) (byS_own _)
end Go.Fw
