/- Trees of the functions' bodies, as printed by the framework's evaluation. -/
import Derived.Test.YtndmnbgcneaggaaGreatDoorProg
import Derived.Test.YtndmnbgcneaggaaGreatDoorFyB
import Derived.KernelRfl
import Derived.Test.YtndmnbgcneaggaaGreatDoorK
set_option linter.unusedVariables false
set_option maxRecDepth 100000
namespace Go.Fw
open Go.Proofs
theorem e22 (Γ : Orc) (H : Hd) (a b c : Int) : ent Tryz.prog cfg Γ 22 H [nI a, nI b, nI c] [] =
 bif decide (b ≤ a) then (some (AV.B (decide (a ≤ c)), [])) else (some (AV.B false, [])) := by kernel_rfl
theorem e86 (Γ : Orc) (H : Hd) (a b c : Int) : ent Tryz.prog cfg Γ 86 H [nI a, nI b, nI c] [] =
 bif decide (b ≤ a) then (some (AV.B (decide (a ≤ c)), [])) else (some (AV.B false, [])) := by kernel_rfl
theorem e24 (Γ : Orc) (H : Hd) (n : Int) : ent Tryz.prog cfg Γ 24 H [nI n] [] =
 bif decide (n = 3) then (some (AV.B true, [])) else (bif decide (n = 6) then (some (AV.B true, [])) else (bif decide (n = 8) then (some (AV.B true, [])) else (bif decide (n = 11) then (some (AV.B true, [])) else (some (AV.B (decide (n = 15)), []))))) := by kernel_rfl
theorem e87 (Γ : Orc) (H : Hd) (n : Int) : ent Tryz.prog cfg Γ 87 H [nI n] [] =
 bif decide (n = 3) then (some (AV.B true, [])) else (bif decide (n = 6) then (some (AV.B true, [])) else (bif decide (n = 8) then (some (AV.B true, [])) else (bif decide (n = 11) then (some (AV.B true, [])) else (some (AV.B (decide (n = 15)), []))))) := by kernel_rfl
theorem e198 (Γ : Orc) (H : Hd) (n : Int) : ent Tryz.prog cfg Γ 198 H [nI n] [] =
 Option.bind (Γ 22 [nI n, nI 0, nI 63] []) fun r0 => some (AV.B (asB r0.fst), []) := by kernel_rfl
theorem e258 (Γ : Orc) (H : Hd) (n : Int) : ent Tryz.prog cfg Γ 258 H [nI n] [] =
 Option.bind (Γ 86 [nI n, nI 0, nI 63] []) fun r0 => some (AV.B (asB r0.fst), []) := by kernel_rfl
theorem e148 (Γ : Orc) (H : Hd) (n : Int) : ent Tryz.prog cfg Γ 148 H [nI n] [] =
 Option.bind (Γ 86 [nI n, nI 0, nI 1000000000] []) fun r0 => some (AV.B (asB r0.fst), []) := by kernel_rfl
theorem e49 (Γ : Orc) (H : Hd) (m : VMsg) : ent Tryz.prog cfg Γ 49 H [slMsg m] [] =
 bif decide (m.Kind = 1) then (bif m.Text.toList == ByteArray.empty.toList then (Option.bind (Γ 22 [nI m.Num, nI (-999999999), nI 999999999] []) fun r2 => some (AV.B (asB r2.fst), [])) else (some (AV.B false, []))) else (bif decide (m.Kind = 2) then (bif decide (m.Num = 0) then (Option.bind (Γ 126 [AV.S m.Text] []) fun r3 => some (AV.B (asB r3.fst), [])) else (some (AV.B false, []))) else (some (AV.B false, []))) := by kernel_rfl
theorem e155 (Γ : Orc) (H : Hd) (m : VMsg) : ent Tryz.prog cfg Γ 155 H [slMsg m] [] =
 bif decide (m.Kind = 1) then (Option.bind (Γ 86 [nI m.Num, nI (-999999999), nI 999999999] []) fun r1 => bif asB r1.fst then (some (AV.B (m.Text.toList == ByteArray.empty.toList), [])) else (some (AV.B false, []))) else (bif decide (m.Kind = 2) then (H [true, false, true, true, true, true, false, false, true] (hdS [(1, AV.pb 65 0), (20, nI (zN m.Text.size)), (21, nI 0)] [] [(65, 3, (clMsg m))])) else (some (AV.B false, []))) := by kernel_rfl
theorem e23 (Γ : Orc) (H : Hd) (c : VCall) : ent Tryz.prog cfg Γ 23 H [slCall c] [] =
 (fun t0_ => Option.bind (Γ 24 [nI c.Op] []) fun r0 => bif asB r0.fst then (bif decide (-1 ≤ c.Tok) then (H [true, true, true, false, false] (hdS [(1, AV.pb 65 0), (3, AV.pb 67 0), (21, nI c.Op)] [] [(65, 9, (clCall c)), (67, 9, [nI c.Op, nI c.A, nI 0, nI c.Tok, AV.S ByteArray.empty, nI 0, nI 0, AV.S ByteArray.empty, AV.nsl 3 fun x => lstG [nI 0, nI 0, AV.S ByteArray.empty]])])) else t0_) else t0_) (H [true, true, true, false, false] (hdS [(1, AV.pb 65 0), (3, AV.pb 67 0), (21, nI c.Op)] [] [(65, 9, (clCall c)), (67, 9, [nI c.Op, nI c.A, nI 0, nI (-1), AV.S ByteArray.empty, nI 0, nI 0, AV.S ByteArray.empty, AV.nsl 3 fun x => lstG [nI 0, nI 0, AV.S ByteArray.empty]])])) := by kernel_rfl
theorem e85 (Γ : Orc) (H : Hd) (c : VCall) : ent Tryz.prog cfg Γ 85 H [slCall c] [] =
 (fun t0_ => (fun t1_ => (fun t2_ => (fun t3_ => (fun t4_ => (fun t5_ => (fun t6_ => (fun t7_ => (fun t8_ => Option.bind (Γ 86 [nI c.Op, nI 1, nI 19] []) fun r0 => bif asB r0.fst then (bif decide (-1 ≤ c.Tok) then (Option.bind (Γ 165 [slTermS c.Filter] []) fun r3 => bif decide (c.Op = 7) then (bif decide (c.Op = 7) then (bif asB r3.fst then t0_ else (some (AV.B false, []))) else (bif decide (c.Op = 9) then (bif asB r3.fst then t3_ else (some (AV.B false, []))) else (bif decide (c.Op = 13) then (bif asB r3.fst then t4_ else (some (AV.B false, []))) else (bif decide (c.Op = 14) then (bif asB r3.fst then t5_ else (some (AV.B false, []))) else (bif decide (c.Op = 15) then (bif decide (c.Op = 15) then (bif asB r3.fst then t6_ else (some (AV.B false, []))) else (bif asB r3.fst then t7_ else (some (AV.B false, [])))) else (bif decide (c.Op = 16) then (bif asB r3.fst then t6_ else (some (AV.B false, []))) else (bif asB r3.fst then t7_ else (some (AV.B false, []))))))))) else (bif decide (c.Op = 19) then (bif asB r3.fst then t0_ else (some (AV.B false, []))) else (bif decide (c.Op = 9) then (bif asB r3.fst then t3_ else (some (AV.B false, []))) else (bif decide (c.Op = 13) then (bif asB r3.fst then t4_ else (some (AV.B false, []))) else (bif decide (c.Op = 14) then (bif asB r3.fst then t5_ else (some (AV.B false, []))) else (bif decide (c.Op = 15) then (bif decide (c.Op = 15) then (bif asB r3.fst then t6_ else (some (AV.B false, []))) else (bif asB r3.fst then t7_ else (some (AV.B false, [])))) else (bif decide (c.Op = 16) then (bif asB r3.fst then t6_ else (some (AV.B false, []))) else (bif asB r3.fst then t7_ else (some (AV.B false, [])))))))))) else t8_) else t8_) (bif decide (c.Op = 7) then (bif decide (c.Op = 7) then (some (AV.B false, [])) else t1_) else (bif decide (c.Op = 19) then (some (AV.B false, [])) else t1_))) (bif decide (c.B = 0) then t0_ else (some (AV.B false, [])))) (bif decide (c.A = 0) then t0_ else (some (AV.B false, [])))) (Option.bind (Γ 86 [nI c.B, nI 0, nI 1] []) fun r10 => bif asB r10.fst then (Option.bind (Γ 87 [nI c.Op] []) fun r12 => bif asB r12.fst then t2_ else (bif decide (c.Tok = -1) then t2_ else (some (AV.B false, [])))) else (some (AV.B false, [])))) (Option.bind (Γ 166 [AV.S c.Name] []) fun r9 => bif asB r9.fst then (Option.bind (Γ 155 [slMsg c.Msg] []) fun r11 => bif asB r11.fst then (bif decide (c.A = 0) then (bif decide (c.B = 0) then (Option.bind (Γ 87 [nI c.Op] []) fun r15 => bif asB r15.fst then (some (AV.B (decide (zN c.Filter.length = 0)), [])) else (bif decide (c.Tok = -1) then (some (AV.B (decide (zN c.Filter.length = 0)), [])) else (some (AV.B false, [])))) else (some (AV.B false, []))) else (some (AV.B false, []))) else (some (AV.B false, []))) else (some (AV.B false, [])))) (Option.bind (Γ 86 [nI c.B, nI 1, nI 4] []) fun r8 => bif asB r8.fst then (Option.bind (Γ 155 [slMsg c.Msg] []) fun r10 => bif asB r10.fst then (Option.bind (Γ 87 [nI c.Op] []) fun r12 => bif asB r12.fst then (bif c.Name.toList == ByteArray.empty.toList then (some (AV.B (decide (zN c.Filter.length = 0)), [])) else (some (AV.B false, []))) else (bif decide (c.Tok = -1) then (bif c.Name.toList == ByteArray.empty.toList then (some (AV.B (decide (zN c.Filter.length = 0)), [])) else (some (AV.B false, []))) else (some (AV.B false, [])))) else (some (AV.B false, []))) else (some (AV.B false, [])))) (bif c.Name.toList == ByteArray.empty.toList then (bif bif decide (c.Msg.Kind = 0) then bif decide (c.Msg.Num = 0) then bif c.Msg.Text.toList == ByteArray.empty.toList then true else false else false else false then (some (AV.B true, [])) else (some (AV.B false, []))) else (some (AV.B false, [])))) (bif decide (c.Op = 9) then (some (AV.B false, [])) else (bif decide (c.Op = 13) then (some (AV.B false, [])) else (bif decide (c.Op = 14) then (some (AV.B false, [])) else (bif decide (c.Op = 15) then (bif decide (c.Op = 15) then (some (AV.B false, [])) else (some (AV.B false, []))) else (bif decide (c.Op = 16) then (some (AV.B false, [])) else (some (AV.B false, [])))))))) (Option.bind (Γ 87 [nI c.Op] []) fun r7 => bif asB r7.fst then (bif c.Name.toList == ByteArray.empty.toList then (bif bif decide (c.Msg.Kind = 0) then bif decide (c.Msg.Num = 0) then bif c.Msg.Text.toList == ByteArray.empty.toList then true else false else false else false then (some (AV.B (decide (zN c.Filter.length = 0)), [])) else (some (AV.B false, []))) else (some (AV.B false, []))) else (bif decide (c.Tok = -1) then (bif c.Name.toList == ByteArray.empty.toList then (bif bif decide (c.Msg.Kind = 0) then bif decide (c.Msg.Num = 0) then bif c.Msg.Text.toList == ByteArray.empty.toList then true else false else false else false then (some (AV.B (decide (zN c.Filter.length = 0)), [])) else (some (AV.B false, []))) else (some (AV.B false, []))) else (some (AV.B false, [])))) := by kernel_rfl
theorem e51 (Γ : Orc) (H : Hd) (xs : List VTerm) : ent Tryz.prog cfg Γ 51 H [slTermS xs] [] =
 bif decide (12 < zN xs.length) then (some (AV.B false, [])) else (H [true, true, true, false, true] (hdS [(0, slTermS xs), (3, nI 0), (4, nI 0)] [] [])) := by kernel_rfl
theorem e165 (Γ : Orc) (H : Hd) (xs : List VTerm) : ent Tryz.prog cfg Γ 165 H [slTermS xs] [] =
 H [true, true, false, true] (hdS [(0, slTermS xs), (3, nI 0), (6, slTermS xs), (7, nI (zN xs.length)), (8, nI 0)] [] []) := by kernel_rfl
theorem e50 (Γ : Orc) (H : Hd) (s : ByteArray) : ent Tryz.prog cfg Γ 50 H [.S s] [] =
 Option.bind (Γ 127 [AV.S s, AV.B true] []) fun r0 => some (AV.B (asB r0.fst), []) := by kernel_rfl
theorem e166 (Γ : Orc) (H : Hd) (s : ByteArray) : ent Tryz.prog cfg Γ 166 H [.S s] [] =
 Option.bind (Γ 213 [AV.S s, AV.S (bs [46])] []) fun r0 => H [true, true, false, true] (hdS [(0, AV.S s), (3, AV.rf 290816), (8, AV.rf 290816), (9, nI (zN (asN r0.fst))), (10, nI 0)] [(290816, ⟨asN r0.fst, 1, fun i => lstG [AV.S (asS (asG r0.fst i 0))]⟩)] []) := by kernel_rfl
theorem e119 (Γ : Orc) (H : Hd) (s : ByteArray) : ent Tryz.prog cfg Γ 119 H [.S s] [] =
 Option.bind (Γ 127 [AV.S s, AV.B false] []) fun r0 => some (AV.B (asB r0.fst), []) := by kernel_rfl
theorem e142 (Γ : Orc) (H : Hd) (s : ByteArray) : ent Tryz.prog cfg Γ 142 H [.S s] [] =
 Option.bind (Γ 86 [nI (zN s.size), nI 1, nI 24] []) fun r0 => bif asB r0.fst then (Option.bind (Γ 213 [AV.S s, AV.S (bs [46])] []) fun r2 => Option.bind (Γ 212 [vslStrS r2.fst, AV.clo 214 0 (lstG [])] []) fun r3 => some (AV.B !asB r3.fst, [])) else (some (AV.B false, [])) := by kernel_rfl
theorem e215 (Γ : Orc) (H : Hd) (s : ByteArray) : ent Tryz.prog cfg Γ 215 H [.S s] [] =
 H [true, false, true] (hdS [(0, AV.S s), (5, nI (zN s.size)), (6, nI 0)] [] []) := by kernel_rfl
theorem e263 (Γ : Orc) (H : Hd) (s : ByteArray) : ent Tryz.prog cfg Γ 263 H [.S s] [] =
 H [true, false, true] (hdS [(0, AV.S s), (5, nI (zN s.size)), (6, nI 0)] [] []) := by kernel_rfl
theorem e126 (Γ : Orc) (H : Hd) (s : ByteArray) : ent Tryz.prog cfg Γ 126 H [.S s] [] =
 bif decide (40 < zN s.size) then (some (AV.B false, [])) else (H [true, true, false, true] (hdS [(0, AV.S s), (3, nI 0)] [] [])) := by kernel_rfl
theorem e201 (Γ : Orc) (H : Hd) (s : ByteArray) : ent Tryz.prog cfg Γ 201 H [.S s] [] =
 H [true, true, true, false, true] (hdS [(0, AV.S s), (3, AV.rf 380928), (4, nI 0), (5, nI 0)] [(380928, ⟨0, 1, fun i => lstG [AV.S ByteArray.empty]⟩)] []) := by kernel_rfl
theorem e202 (Γ : Orc) (H : Hd) (s : ByteArray) : ent Tryz.prog cfg Γ 202 H [.S s] [] =
 bif s.toList == ByteArray.empty.toList then (some (AV.B false, [])) else (H [true, true, false, true] (hdS [(0, AV.S s), (3, nI 0)] [] [])) := by kernel_rfl
theorem e203 (Γ : Orc) (H : Hd) (s : ByteArray) : ent Tryz.prog cfg Γ 203 H [.S s] [] =
 Option.bind (Γ 22 [nI (zN s.size), nI 1, nI 10] []) fun r0 => bif !asB r0.fst then (some (AV.B false, [])) else (H [true, true, false, true] (hdS [(0, AV.S s), (3, nI 0)] [] [])) := by kernel_rfl
theorem e127 (Γ : Orc) (H : Hd) (s : ByteArray) (b : Bool) : ent Tryz.prog cfg Γ 127 H [.S s, .B b] [] =
 Option.bind (Γ 22 [nI (zN s.size), nI 1, nI 24] []) fun r0 => bif !asB r0.fst then (some (AV.B false, [])) else (Option.bind (Γ 201 [AV.S s] []) fun r2 => H [true, true, true, false, true] (hdS [(1, AV.B b), (5, AV.rf 315392), (6, nI 0)] [(315392, ⟨asN r2.fst, 1, fun i => lstG [AV.S (asS (asG r2.fst i 0))]⟩)] [])) := by kernel_rfl
theorem e236 (Γ : Orc) (H : Hd) (t : VTerm) : ent Tryz.prog cfg Γ 236 H [slTerm t] [] =
 (fun t0_ => (fun t1_ => bif decide (t.Op = 1) then (bif decide (t.Op = 1) then t1_ else t0_) else (bif decide (t.Op = 2) then (bif decide (t.Op = 2) then t1_ else t0_) else (bif decide (t.Op = 3) then (bif decide (t.Op = 3) then t1_ else t0_) else (bif decide (t.Op = 8) then (bif decide (t.Op = 8) then t1_ else t0_) else (bif decide (t.Op = 9) then (bif decide (t.Op = 9) then t1_ else t0_) else (bif decide (t.Op = 10) then t1_ else t0_)))))) (bif decide (t.Num = 0) then (some (AV.B (t.Text.toList == ByteArray.empty.toList), [])) else (some (AV.B false, [])))) (bif decide (t.Op = 4) then (Option.bind (Γ 86 [nI t.Num, nI (-999999999), nI 999999999] []) fun r3 => bif asB r3.fst then (some (AV.B (t.Text.toList == ByteArray.empty.toList), [])) else (some (AV.B false, []))) else (bif decide (t.Op = 5) then (Option.bind (Γ 86 [nI t.Num, nI 1, nI 999999999] []) fun r4 => bif asB r4.fst then (some (AV.B (t.Text.toList == ByteArray.empty.toList), [])) else (some (AV.B false, []))) else (bif decide (t.Op = 6) then (bif decide (t.Op = 6) then (bif decide (t.Num = 0) then (Option.bind (Γ 263 [AV.S t.Text] []) fun r7 => some (AV.B (asB r7.fst), [])) else (some (AV.B false, []))) else (some (AV.B false, []))) else (bif decide (t.Op = 7) then (bif decide (t.Num = 0) then (Option.bind (Γ 263 [AV.S t.Text] []) fun r7 => some (AV.B (asB r7.fst), [])) else (some (AV.B false, []))) else (some (AV.B false, [])))))) := by kernel_rfl
theorem e237 (Γ : Orc) (H : Hd) (t : VTerm) : ent Tryz.prog cfg Γ 237 H [slTerm t] [] =
 bif decide (t.Op = 8) then (some (nI 1, [])) else (bif decide (t.Op = 9) then (bif decide (t.Op = 9) then (some (nI 2, [])) else (some (nI 0, []))) else (bif decide (t.Op = 10) then (some (nI 2, [])) else (some (nI 0, [])))) := by kernel_rfl
theorem e128 (Γ : Orc) (H : Hd) (t : VTerm) : ent Tryz.prog cfg Γ 128 H [slTerm t] [] =
 (fun t0_ => (fun t1_ => (fun t2_ => bif decide (t.Num = 0) then (bif decide (t.Op = 1) then (bif decide (t.Op = 1) then t2_ else t0_) else (bif decide (t.Op = 2) then (bif decide (t.Op = 2) then t2_ else t0_) else (bif decide (t.Op = 3) then t2_ else t0_))) else (bif decide (t.Op = 1) then (bif decide (t.Op = 1) then (some (nI (-1), [])) else t1_) else (bif decide (t.Op = 2) then (bif decide (t.Op = 2) then (some (nI (-1), [])) else t1_) else (bif decide (t.Op = 3) then (some (nI (-1), [])) else t1_)))) (bif t.Text.toList == ByteArray.empty.toList then (some (nI 0, [])) else (some (nI (-1), [])))) (bif decide (t.Op = 4) then (bif t.Text.toList == ByteArray.empty.toList then (Option.bind (Γ 22 [nI t.Num, nI (-999999999), nI 999999999] []) fun r5 => bif asB r5.fst then (some (nI 0, [])) else (some (nI (-1), []))) else (some (nI (-1), []))) else (bif decide (t.Op = 5) then (bif t.Text.toList == ByteArray.empty.toList then (Option.bind (Γ 22 [nI t.Num, nI 1, nI 999999999] []) fun r6 => bif asB r6.fst then (some (nI 0, [])) else (some (nI (-1), []))) else (some (nI (-1), []))) else (bif decide (t.Op = 6) then (bif decide (t.Op = 6) then (bif decide (t.Num = 0) then (Option.bind (Γ 203 [AV.S t.Text] []) fun r8 => bif asB r8.fst then (some (nI 0, [])) else (some (nI (-1), []))) else (some (nI (-1), []))) else (bif decide (t.Op = 8) then (some (nI (-1), [])) else (bif decide (t.Op = 9) then (bif decide (t.Op = 9) then (some (nI (-1), [])) else (some (nI (-1), []))) else (bif decide (t.Op = 10) then (some (nI (-1), [])) else (some (nI (-1), [])))))) else (bif decide (t.Op = 7) then (bif decide (t.Num = 0) then (Option.bind (Γ 203 [AV.S t.Text] []) fun r8 => bif asB r8.fst then (some (nI 0, [])) else (some (nI (-1), []))) else (some (nI (-1), []))) else (bif decide (t.Op = 8) then (some (nI (-1), [])) else (bif decide (t.Op = 9) then (bif decide (t.Op = 9) then (some (nI (-1), [])) else (some (nI (-1), []))) else (bif decide (t.Op = 10) then (some (nI (-1), [])) else (some (nI (-1), [])))))))))) (bif decide (t.Op = 4) then (bif t.Text.toList == ByteArray.empty.toList then (Option.bind (Γ 22 [nI t.Num, nI (-999999999), nI 999999999] []) fun r5 => bif asB r5.fst then (some (nI 0, [])) else (some (nI (-1), []))) else (some (nI (-1), []))) else (bif decide (t.Op = 5) then (bif t.Text.toList == ByteArray.empty.toList then (Option.bind (Γ 22 [nI t.Num, nI 1, nI 999999999] []) fun r6 => bif asB r6.fst then (some (nI 0, [])) else (some (nI (-1), []))) else (some (nI (-1), []))) else (bif decide (t.Op = 6) then (bif decide (t.Op = 6) then (bif decide (t.Num = 0) then (Option.bind (Γ 203 [AV.S t.Text] []) fun r8 => bif asB r8.fst then (some (nI 0, [])) else (some (nI (-1), []))) else (some (nI (-1), []))) else (bif decide (t.Op = 8) then (bif t.Text.toList == ByteArray.empty.toList then (some (nI 1, [])) else (some (nI (-1), []))) else (bif decide (t.Op = 9) then (bif decide (t.Op = 9) then (bif t.Text.toList == ByteArray.empty.toList then (some (nI 2, [])) else (some (nI (-1), []))) else (some (nI (-1), []))) else (bif decide (t.Op = 10) then (bif t.Text.toList == ByteArray.empty.toList then (some (nI 2, [])) else (some (nI (-1), []))) else (some (nI (-1), [])))))) else (bif decide (t.Op = 7) then (bif decide (t.Num = 0) then (Option.bind (Γ 203 [AV.S t.Text] []) fun r8 => bif asB r8.fst then (some (nI 0, [])) else (some (nI (-1), []))) else (some (nI (-1), []))) else (bif decide (t.Op = 8) then (bif t.Text.toList == ByteArray.empty.toList then (some (nI 1, [])) else (some (nI (-1), []))) else (bif decide (t.Op = 9) then (bif decide (t.Op = 9) then (bif t.Text.toList == ByteArray.empty.toList then (some (nI 2, [])) else (some (nI (-1), []))) else (some (nI (-1), []))) else (bif decide (t.Op = 10) then (bif t.Text.toList == ByteArray.empty.toList then (some (nI 2, [])) else (some (nI (-1), []))) else (some (nI (-1), []))))))))) := by kernel_rfl
theorem h201 (Γ : Orc) (H : Hd) (s : ByteArray) (os : List ByteArray) (a i : Int) : hed Tryz.prog cfg Γ 201 H [] [true, true, true, false, true] (hdS [(0, .S s), (3, .rf 380928), (4, nI a), (5, nI i)] [(380928, ⟨os.length, 1, gsStrS os⟩)] []) =
 bif decide (i ≤ zN s.size) then
  (bif decide (i = zN s.size) then
   (bif decide (0 ≤ a) && decide (a ≤ i) && decide (i ≤ zN s.size) then
    (bif decide (os.length + 1 ≤ 4294967296) && true && true && true && true then
     (H [true, true, true, false, true] (hdS [(0, AV.S s), (3, AV.rf 380928), (4, nI (IntKind.i64.wrap (i + 1))), (5, nI (IntKind.i64.wrap (i + 1)))] [(380928, ⟨os.length + 1, 1, fun i_1 => lstG [AV.S (bif decide (i_1 < os.length) then os.getD i_1 ByteArray.empty else bif decide (i_1 - os.length = 0) then s.extract a.toNat i.toNat else ByteArray.empty)]⟩)] []))
    else
     (none))
   else
    (none))
  else
   (bif bif decide (0 ≤ i) then decide (i < zN s.size) else false then
    (bif decide (byN s i.toNat = 46) then
     (bif decide (0 ≤ a) && decide (a ≤ i) && decide (i ≤ zN s.size) then
      (bif decide (os.length + 1 ≤ 4294967296) && true && true && true && true then
       (H [true, true, true, false, true] (hdS [(0, AV.S s), (3, AV.rf 380928), (4, nI (IntKind.i64.wrap (i + 1))), (5, nI (IntKind.i64.wrap (i + 1)))] [(380928, ⟨os.length + 1, 1, fun i_1 => lstG [AV.S (bif decide (i_1 < os.length) then os.getD i_1 ByteArray.empty else bif decide (i_1 - os.length = 0) then s.extract a.toNat i.toNat else ByteArray.empty)]⟩)] []))
      else
       (none))
     else
      (none))
    else
     (H [true, true, true, false, true] (hdS [(0, AV.S s), (3, AV.rf 380928), (4, nI a), (5, nI (IntKind.i64.wrap (i + 1)))] [(380928, ⟨os.length, 1, fun i => lstG [AV.S (os.getD i ByteArray.empty)]⟩)] [])))
   else
    (none)))
 else
  (bif okT then
   (some (AV.own os.length 1 fun i => lstG [AV.S (os.getD i ByteArray.empty)], []))
  else
   (none)) := by kernel_rfl
theorem h127 (Γ : Orc) (H : Hd) (b : Bool) (ps : List ByteArray) (i : Int) : hed Tryz.prog cfg Γ 127 H [] [true, true, true, false, true] (hdS [(1, .B b), (5, .rf 315392), (6, nI i)] [(315392, ⟨ps.length, 1, gsStrS ps⟩)] []) =
 bif decide (i < zN ps.length) then
  (bif b then
   (bif bif decide (0 ≤ i) then decide (i < zN ps.length) else false then
    (bif (ps.getD i.toNat ByteArray.empty).toList == (bs [42]).toList then
     (H [true, true, true, false, true] (hdS [(1, AV.B b), (5, AV.rf 315392), (6, nI (IntKind.i64.wrap (i + 1)))] [(315392, ⟨ps.length, 1, fun i => lstG [AV.S (ps.getD i ByteArray.empty)]⟩)] []))
    else
     (bif bif decide (0 ≤ i) then decide (i < zN ps.length) else false then
      (bif (ps.getD i.toNat ByteArray.empty).toList == (bs [62]).toList then
       (bif !decide (i = IntKind.i64.wrap (zN ps.length - 1)) then
        (bif bif decide (0 ≤ i) then decide (i < zN ps.length) else false then
         (Option.bind (Γ 202 [AV.S (ps.getD i.toNat ByteArray.empty)] []) fun r8 =>
         bif !asB r8.fst then
          (some (AV.B false, []))
         else
          (H [true, true, true, false, true] (hdS [(1, AV.B b), (5, AV.rf 315392), (6, nI (IntKind.i64.wrap (i + 1)))] [(315392, ⟨ps.length, 1, fun i => lstG [AV.S (ps.getD i ByteArray.empty)]⟩)] [])))
        else
         (none))
       else
        (H [true, true, true, false, true] (hdS [(1, AV.B b), (5, AV.rf 315392), (6, nI (IntKind.i64.wrap (i + 1)))] [(315392, ⟨ps.length, 1, fun i => lstG [AV.S (ps.getD i ByteArray.empty)]⟩)] [])))
      else
       (bif bif decide (0 ≤ i) then decide (i < zN ps.length) else false then
        (Option.bind (Γ 202 [AV.S (ps.getD i.toNat ByteArray.empty)] []) fun r7 =>
        bif !asB r7.fst then
         (some (AV.B false, []))
        else
         (H [true, true, true, false, true] (hdS [(1, AV.B b), (5, AV.rf 315392), (6, nI (IntKind.i64.wrap (i + 1)))] [(315392, ⟨ps.length, 1, fun i => lstG [AV.S (ps.getD i ByteArray.empty)]⟩)] [])))
       else
        (none)))
     else
      (none)))
   else
    (none))
  else
   (bif bif decide (0 ≤ i) then decide (i < zN ps.length) else false then
    (Option.bind (Γ 202 [AV.S (ps.getD i.toNat ByteArray.empty)] []) fun r3 =>
    bif !asB r3.fst then
     (some (AV.B false, []))
    else
     (H [true, true, true, false, true] (hdS [(1, AV.B b), (5, AV.rf 315392), (6, nI (IntKind.i64.wrap (i + 1)))] [(315392, ⟨ps.length, 1, fun i => lstG [AV.S (ps.getD i ByteArray.empty)]⟩)] [])))
   else
    (none)))
 else
  (some (AV.B true, [])) := by kernel_rfl
theorem h166 (Γ : Orc) (H : Hd) (s : ByteArray) (ps : List ByteArray) (m i : Int) : hed Tryz.prog cfg Γ 166 H [] [true, true, false, true] (hdS [(0, .S s), (3, .rf 290816), (8, .rf 290816), (9, nI m), (10, nI i)] [(290816, ⟨ps.length, 1, gsStrS ps⟩)] []) =
 bif decide (i < m) then
  (bif bif decide (0 ≤ i) then decide (i < zN ps.length) else false then
   (bif !(ps.getD i.toNat ByteArray.empty).toList == (bs [42]).toList then
    (bif (ps.getD i.toNat ByteArray.empty).toList == (bs [62]).toList then
     (bif !decide (i = IntKind.i64.wrap (zN ps.length - 1)) then
      (Option.bind (Γ 215 [AV.S (ps.getD i.toNat ByteArray.empty)] []) fun r5 =>
      bif !asB r5.fst then
       (some (AV.B false, []))
      else
       (H [true, true, false, true] (hdS [(0, AV.S s), (3, AV.rf 290816), (8, AV.rf 290816), (9, nI m), (10, nI (IntKind.i64.wrap (i + 1)))] [(290816, ⟨ps.length, 1, fun i => lstG [AV.S (ps.getD i ByteArray.empty)]⟩)] [])))
     else
      (H [true, true, false, true] (hdS [(0, AV.S s), (3, AV.rf 290816), (8, AV.rf 290816), (9, nI m), (10, nI (IntKind.i64.wrap (i + 1)))] [(290816, ⟨ps.length, 1, fun i => lstG [AV.S (ps.getD i ByteArray.empty)]⟩)] [])))
    else
     (Option.bind (Γ 215 [AV.S (ps.getD i.toNat ByteArray.empty)] []) fun r4 =>
     bif !asB r4.fst then
      (some (AV.B false, []))
     else
      (H [true, true, false, true] (hdS [(0, AV.S s), (3, AV.rf 290816), (8, AV.rf 290816), (9, nI m), (10, nI (IntKind.i64.wrap (i + 1)))] [(290816, ⟨ps.length, 1, fun i => lstG [AV.S (ps.getD i ByteArray.empty)]⟩)] []))))
   else
    (H [true, true, false, true] (hdS [(0, AV.S s), (3, AV.rf 290816), (8, AV.rf 290816), (9, nI m), (10, nI (IntKind.i64.wrap (i + 1)))] [(290816, ⟨ps.length, 1, fun i => lstG [AV.S (ps.getD i ByteArray.empty)]⟩)] [])))
  else
   (none))
 else
  (Option.bind (Γ 86 [nI (zN s.size), nI 1, nI 24] []) fun r1 =>
  some (AV.B (asB r1.fst), [])) := by kernel_rfl
theorem h51 (Γ : Orc) (H : Hd) (ts : List VTerm) (n i : Int) : hed Tryz.prog cfg Γ 51 H [] [true, true, true, false, true] (hdS [(0, slTermS ts), (3, nI n), (4, nI i)] [] []) =
 bif decide (i < zN ts.length) then
  (bif bif decide (0 ≤ i) then decide (i < zN ts.length) else false then
   (Option.bind (Γ 128 [slTerm (ts.getD i.toNat zTerm)] []) fun r2 =>
   bif decide (asI r2.fst < 0) then
    (some (AV.B false, []))
   else
    (bif decide (n < asI r2.fst) then
     (some (AV.B false, []))
    else
     (H [true, true, true, false, true] (hdS [(0, slTermS ts), (3, nI (IntKind.i64.wrap (IntKind.i64.wrap (n - asI r2.fst) + 1))), (4, nI (IntKind.i64.wrap (i + 1)))] [] []))))
  else
   (none))
 else
  (bif decide (n = 1) then
   (some (AV.B true, []))
  else
   (some (AV.B (decide (zN ts.length = 0)), []))) := by kernel_rfl
theorem h165 (Γ : Orc) (H : Hd) (ts : List VTerm) (n m i : Int) : hed Tryz.prog cfg Γ 165 H [] [true, true, false, true] (hdS [(0, slTermS ts), (3, nI n), (6, slTermS ts), (7, nI m), (8, nI i)] [] []) =
 bif decide (i < m) then
  (bif bif decide (0 ≤ i) then decide (i < zN ts.length) else false then
   (Option.bind (Γ 236 [slTerm (ts.getD i.toNat zTerm)] []) fun r2 =>
   bif !asB r2.fst then
    (some (AV.B false, []))
   else
    (Option.bind (Γ 237 [slTerm (ts.getD i.toNat zTerm)] []) fun r4 =>
    bif decide (n < asI r4.fst) then
     (some (AV.B false, []))
    else
     (Option.bind (Γ 237 [slTerm (ts.getD i.toNat zTerm)] []) fun r6 =>
     H [true, true, false, true] (hdS [(0, slTermS ts), (3, nI (IntKind.i64.wrap (n + IntKind.i64.wrap (1 - asI r6.fst)))), (6, slTermS ts), (7, nI m), (8, nI (IntKind.i64.wrap (i + 1)))] [] []))))
  else
   (none))
 else
  (bif decide (zN ts.length ≤ 12) then
   (bif decide (n = 1) then
    (some (AV.B true, []))
   else
    (some (AV.B (decide (zN ts.length = 0)), [])))
  else
   (some (AV.B false, []))) := by kernel_rfl
theorem h155 (Γ : Orc) (H : Hd) (x : VMsg) (m i : Int) : hed Tryz.prog cfg Γ 155 H [] [true, false, true, true, true, true, false, false, true] (hdS [(1, .pb 65 0), (20, nI m), (21, nI i)] [] [(65, 3, [nI x.Kind, nI x.Num, .S x.Text])]) =
 bif decide (i < m) then
  (bif bif decide (0 ≤ i) then decide (i < zN x.Text.size) else false then
   (Option.bind (Γ 86 [nI (IntKind.i64.wrap (byN x.Text i.toNat)), nI 32, nI 126] []) fun r2 =>
   bif !asB r2.fst then
    (some (AV.B false, []))
   else
    (bif bif decide (0 ≤ i) then decide (i < zN x.Text.size) else false then
     (bif decide (byN x.Text i.toNat = 34) then
      (some (AV.B false, []))
     else
      (H [true, false, true, true, true, true, false, false, true] (hdS [(1, AV.pb 65 0), (20, nI m), (21, nI (IntKind.i64.wrap (i + 1)))] [] [(65, 3, (clMsg x))])))
    else
     (none)))
  else
   (none))
 else
  (bif decide (x.Num = 0) then
   (some (AV.B (decide (zN x.Text.size ≤ 40)), []))
  else
   (some (AV.B false, []))) := by kernel_rfl
theorem h126 (Γ : Orc) (H : Hd) (s : ByteArray) (i : Int) : hed Tryz.prog cfg Γ 126 H [] [true, true, false, true] (hdS [(0, .S s), (3, nI i)] [] []) =
 bif decide (i < zN s.size) then
  (bif bif decide (0 ≤ i) then decide (i < zN s.size) else false then
   (bif decide (byN s i.toNat < 32) then
    (some (AV.B false, []))
   else
    (bif bif decide (0 ≤ i) then decide (i < zN s.size) else false then
     (bif decide (126 < byN s i.toNat) then
      (some (AV.B false, []))
     else
      (bif bif decide (0 ≤ i) then decide (i < zN s.size) else false then
       (bif decide (byN s i.toNat = 34) then
        (some (AV.B false, []))
       else
        (H [true, true, false, true] (hdS [(0, AV.S s), (3, nI (IntKind.i64.wrap (i + 1)))] [] [])))
      else
       (none)))
    else
     (none)))
  else
   (none))
 else
  (some (AV.B true, [])) := by kernel_rfl
theorem h202 (Γ : Orc) (H : Hd) (s : ByteArray) (i : Int) : hed Tryz.prog cfg Γ 202 H [] [true, true, false, true] (hdS [(0, .S s), (3, nI i)] [] []) =
 bif decide (i < zN s.size) then
  (bif bif decide (0 ≤ i) then decide (i < zN s.size) else false then
   (bif decide (97 ≤ byN s i.toNat) then
    (bif bif decide (0 ≤ i) then decide (i < zN s.size) else false then
     (bif decide (byN s i.toNat ≤ 122) then
      (H [true, true, false, true] (hdS [(0, AV.S s), (3, nI (IntKind.i64.wrap (i + 1)))] [] []))
     else
      (bif bif decide (0 ≤ i) then decide (i < zN s.size) else false then
       (bif decide (48 ≤ byN s i.toNat) then
        (bif bif decide (0 ≤ i) then decide (i < zN s.size) else false then
         (bif !decide (byN s i.toNat ≤ 57) then
          (some (AV.B false, []))
         else
          (H [true, true, false, true] (hdS [(0, AV.S s), (3, nI (IntKind.i64.wrap (i + 1)))] [] [])))
        else
         (none))
       else
        (some (AV.B false, [])))
      else
       (none)))
    else
     (none))
   else
    (bif bif decide (0 ≤ i) then decide (i < zN s.size) else false then
     (bif decide (48 ≤ byN s i.toNat) then
      (bif bif decide (0 ≤ i) then decide (i < zN s.size) else false then
       (bif !decide (byN s i.toNat ≤ 57) then
        (some (AV.B false, []))
       else
        (H [true, true, false, true] (hdS [(0, AV.S s), (3, nI (IntKind.i64.wrap (i + 1)))] [] [])))
      else
       (none))
     else
      (some (AV.B false, [])))
    else
     (none)))
  else
   (none))
 else
  (some (AV.B true, [])) := by kernel_rfl
theorem h203 (Γ : Orc) (H : Hd) (s : ByteArray) (i : Int) : hed Tryz.prog cfg Γ 203 H [] [true, true, false, true] (hdS [(0, .S s), (3, nI i)] [] []) =
 bif decide (i < zN s.size) then
  (bif bif decide (0 ≤ i) then decide (i < zN s.size) else false then
   (bif decide (byN s i.toNat < 97) then
    (some (AV.B false, []))
   else
    (bif bif decide (0 ≤ i) then decide (i < zN s.size) else false then
     (bif decide (122 < byN s i.toNat) then
      (some (AV.B false, []))
     else
      (H [true, true, false, true] (hdS [(0, AV.S s), (3, nI (IntKind.i64.wrap (i + 1)))] [] [])))
    else
     (none)))
  else
   (none))
 else
  (some (AV.B true, [])) := by kernel_rfl
theorem h215 (Γ : Orc) (H : Hd) (s : ByteArray) (m i : Int) : hed Tryz.prog cfg Γ 215 H [] [true, false, true] (hdS [(0, .S s), (5, nI m), (6, nI i)] [] []) =
 bif decide (i < m) then
  (bif bif decide (0 ≤ i) then decide (i < zN s.size) else false then
   (bif decide (byN s i.toNat < 97) then
    (bif bif decide (0 ≤ i) then decide (i < zN s.size) else false then
     (bif decide (byN s i.toNat < 48) then
      (some (AV.B false, []))
     else
      (bif bif decide (0 ≤ i) then decide (i < zN s.size) else false then
       (bif decide (57 < byN s i.toNat) then
        (some (AV.B false, []))
       else
        (H [true, false, true] (hdS [(0, AV.S s), (5, nI m), (6, nI (IntKind.i64.wrap (i + 1)))] [] [])))
      else
       (none)))
    else
     (none))
   else
    (bif bif decide (0 ≤ i) then decide (i < zN s.size) else false then
     (bif decide (122 < byN s i.toNat) then
      (bif bif decide (0 ≤ i) then decide (i < zN s.size) else false then
       (bif decide (byN s i.toNat < 48) then
        (some (AV.B false, []))
       else
        (bif bif decide (0 ≤ i) then decide (i < zN s.size) else false then
         (bif decide (57 < byN s i.toNat) then
          (some (AV.B false, []))
         else
          (H [true, false, true] (hdS [(0, AV.S s), (5, nI m), (6, nI (IntKind.i64.wrap (i + 1)))] [] [])))
        else
         (none)))
      else
       (none))
     else
      (H [true, false, true] (hdS [(0, AV.S s), (5, nI m), (6, nI (IntKind.i64.wrap (i + 1)))] [] [])))
    else
     (none)))
  else
   (none))
 else
  (some (AV.B !s.toList == ByteArray.empty.toList, [])) := by kernel_rfl
theorem h263 (Γ : Orc) (H : Hd) (s : ByteArray) (m i : Int) : hed Tryz.prog cfg Γ 263 H [] [true, false, true] (hdS [(0, .S s), (5, nI m), (6, nI i)] [] []) =
 bif decide (i < m) then
  (bif bif decide (0 ≤ i) then decide (i < zN s.size) else false then
   (bif decide (byN s i.toNat < 97) then
    (some (AV.B false, []))
   else
    (bif bif decide (0 ≤ i) then decide (i < zN s.size) else false then
     (bif decide (122 < byN s i.toNat) then
      (some (AV.B false, []))
     else
      (H [true, false, true] (hdS [(0, AV.S s), (5, nI m), (6, nI (IntKind.i64.wrap (i + 1)))] [] [])))
    else
     (none)))
  else
   (none))
 else
  (Option.bind (Γ 86 [nI (zN s.size), nI 1, nI 10] []) fun r1 =>
  some (AV.B (asB r1.fst), [])) := by kernel_rfl
theorem h23a (Γ : Orc) (H : Hd) (c : VCall) (s t : Int) : hed Tryz.prog cfg Γ 23 H [] [true, true, true, false, false] (hdS [(1, .pb 65 0), (3, .pb 67 0), (21, nI s)] [] [(65, 9, [nI c.Op, nI c.A, nI c.B, nI c.Tok, .S c.Name, nI c.Msg.Kind, nI c.Msg.Num, .S c.Msg.Text, slTermS c.Filter]), (67, 9, [nI c.Op, nI c.A, nI 0, nI t, .S ByteArray.empty, nI 0, nI 0, .S ByteArray.empty, .nsl 3 (fun _ => lstG [nI 0, nI 0, .S ByteArray.empty])])]) =
 bif decide (s = 7) then
  (bif decide (s = 7) then
   (bif !decide (c.Op = 14) then
    (H [true, true, true, true, false, false] (hdS [(1, AV.pb 65 0), (3, AV.pb 67 0), (99, AV.B (decide (0 < zN c.Filter.length)))] [] [(65, 9, (clCall c)), (67, 9, [nI c.Op, nI c.A, nI c.B, nI t, AV.S ByteArray.empty, nI 0, nI 0, AV.S ByteArray.empty, AV.nsl 3 fun x => lstG [nI 0, nI 0, AV.S ByteArray.empty]])]))
   else
    (H [true, true, true, true, false, false] (hdS [(1, AV.pb 65 0), (3, AV.pb 67 0), (99, AV.B false)] [] [(65, 9, (clCall c)), (67, 9, [nI c.Op, nI c.A, nI c.B, nI t, AV.S ByteArray.empty, nI 0, nI 0, AV.S ByteArray.empty, AV.nsl 3 fun x => lstG [nI 0, nI 0, AV.S ByteArray.empty]])])))
  else
   (bif decide (s = 9) then
    (Option.bind (Γ 22 [nI c.B, nI 1, nI 4] []) fun r3 =>
    bif !asB r3.fst then
     (some (AV.B false, []))
    else
     (Option.bind (Γ 49 [slMsg c.Msg] []) fun r5 =>
     bif !asB r5.fst then
      (some (AV.B false, []))
     else
      (bif !decide (c.Op = 14) then
       (H [true, true, true, true, false, false] (hdS [(1, AV.pb 65 0), (3, AV.pb 67 0), (99, AV.B (decide (0 < zN c.Filter.length)))] [] [(65, 9, (clCall c)), (67, 9, [nI c.Op, nI c.A, nI c.B, nI t, AV.S ByteArray.empty, nI c.Msg.Kind, nI c.Msg.Num, AV.S c.Msg.Text, AV.nsl 3 fun x => lstG [nI 0, nI 0, AV.S ByteArray.empty]])]))
      else
       (H [true, true, true, true, false, false] (hdS [(1, AV.pb 65 0), (3, AV.pb 67 0), (99, AV.B false)] [] [(65, 9, (clCall c)), (67, 9, [nI c.Op, nI c.A, nI c.B, nI t, AV.S ByteArray.empty, nI c.Msg.Kind, nI c.Msg.Num, AV.S c.Msg.Text, AV.nsl 3 fun x => lstG [nI 0, nI 0, AV.S ByteArray.empty]])])))))
   else
    (bif decide (s = 13) then
     (Option.bind (Γ 50 [AV.S c.Name] []) fun r4 =>
     bif !asB r4.fst then
      (some (AV.B false, []))
     else
      (Option.bind (Γ 49 [slMsg c.Msg] []) fun r6 =>
      bif !asB r6.fst then
       (some (AV.B false, []))
      else
       (bif !decide (c.Op = 14) then
        (H [true, true, true, true, false, false] (hdS [(1, AV.pb 65 0), (3, AV.pb 67 0), (99, AV.B (decide (0 < zN c.Filter.length)))] [] [(65, 9, (clCall c)), (67, 9, [nI c.Op, nI 0, nI 0, nI t, AV.S c.Name, nI c.Msg.Kind, nI c.Msg.Num, AV.S c.Msg.Text, AV.nsl 3 fun x => lstG [nI 0, nI 0, AV.S ByteArray.empty]])]))
       else
        (H [true, true, true, true, false, false] (hdS [(1, AV.pb 65 0), (3, AV.pb 67 0), (99, AV.B false)] [] [(65, 9, (clCall c)), (67, 9, [nI c.Op, nI 0, nI 0, nI t, AV.S c.Name, nI c.Msg.Kind, nI c.Msg.Num, AV.S c.Msg.Text, AV.nsl 3 fun x => lstG [nI 0, nI 0, AV.S ByteArray.empty]])])))))
    else
     (bif decide (s = 14) then
      (bif !decide (c.B = 0) then
       (bif !decide (c.B = 1) then
        (some (AV.B false, []))
       else
        (Option.bind (Γ 51 [slTermS c.Filter] []) fun r7 =>
        bif !asB r7.fst then
         (some (AV.B false, []))
        else
         (bif !decide (c.Op = 14) then
          (H [true, true, true, true, false, false] (hdS [(1, AV.pb 65 0), (3, AV.pb 67 0), (99, AV.B (decide (0 < zN c.Filter.length)))] [] [(65, 9, (clCall c)), (67, 9, [nI c.Op, nI c.A, nI c.B, nI t, AV.S ByteArray.empty, nI 0, nI 0, AV.S ByteArray.empty, AV.nsl 3 fun x => lstG [nI 0, nI 0, AV.S ByteArray.empty]])]))
         else
          (H [true, true, true, true, false, false] (hdS [(1, AV.pb 65 0), (3, AV.pb 67 0), (99, AV.B false)] [] [(65, 9, (clCall c)), (67, 9, [nI c.Op, nI c.A, nI c.B, nI t, AV.S ByteArray.empty, nI 0, nI 0, AV.S ByteArray.empty, AV.nsl 3 fun x => lstG [nI 0, nI 0, AV.S ByteArray.empty]])])))))
      else
       (Option.bind (Γ 51 [slTermS c.Filter] []) fun r6 =>
       bif !asB r6.fst then
        (some (AV.B false, []))
       else
        (bif !decide (c.Op = 14) then
         (H [true, true, true, true, false, false] (hdS [(1, AV.pb 65 0), (3, AV.pb 67 0), (99, AV.B (decide (0 < zN c.Filter.length)))] [] [(65, 9, (clCall c)), (67, 9, [nI c.Op, nI c.A, nI c.B, nI t, AV.S ByteArray.empty, nI 0, nI 0, AV.S ByteArray.empty, AV.nsl 3 fun x => lstG [nI 0, nI 0, AV.S ByteArray.empty]])]))
        else
         (H [true, true, true, true, false, false] (hdS [(1, AV.pb 65 0), (3, AV.pb 67 0), (99, AV.B false)] [] [(65, 9, (clCall c)), (67, 9, [nI c.Op, nI c.A, nI c.B, nI t, AV.S ByteArray.empty, nI 0, nI 0, AV.S ByteArray.empty, AV.nsl 3 fun x => lstG [nI 0, nI 0, AV.S ByteArray.empty]])])))))
     else
      (bif decide (s = 15) then
       (bif decide (s = 15) then
        (bif !decide (c.Op = 14) then
         (H [true, true, true, true, false, false] (hdS [(1, AV.pb 65 0), (3, AV.pb 67 0), (99, AV.B (decide (0 < zN c.Filter.length)))] [] [(65, 9, (clCall c)), (67, 9, [nI c.Op, nI 0, nI c.B, nI t, AV.S ByteArray.empty, nI 0, nI 0, AV.S ByteArray.empty, AV.nsl 3 fun x => lstG [nI 0, nI 0, AV.S ByteArray.empty]])]))
        else
         (H [true, true, true, true, false, false] (hdS [(1, AV.pb 65 0), (3, AV.pb 67 0), (99, AV.B false)] [] [(65, 9, (clCall c)), (67, 9, [nI c.Op, nI 0, nI c.B, nI t, AV.S ByteArray.empty, nI 0, nI 0, AV.S ByteArray.empty, AV.nsl 3 fun x => lstG [nI 0, nI 0, AV.S ByteArray.empty]])])))
       else
        (bif !decide (c.Op = 14) then
         (H [true, true, true, true, false, false] (hdS [(1, AV.pb 65 0), (3, AV.pb 67 0), (99, AV.B (decide (0 < zN c.Filter.length)))] [] [(65, 9, (clCall c)), (67, 9, [nI c.Op, nI c.A, nI 0, nI t, AV.S ByteArray.empty, nI 0, nI 0, AV.S ByteArray.empty, AV.nsl 3 fun x => lstG [nI 0, nI 0, AV.S ByteArray.empty]])]))
        else
         (H [true, true, true, true, false, false] (hdS [(1, AV.pb 65 0), (3, AV.pb 67 0), (99, AV.B false)] [] [(65, 9, (clCall c)), (67, 9, [nI c.Op, nI c.A, nI 0, nI t, AV.S ByteArray.empty, nI 0, nI 0, AV.S ByteArray.empty, AV.nsl 3 fun x => lstG [nI 0, nI 0, AV.S ByteArray.empty]])]))))
      else
       (bif decide (s = 16) then
        (bif !decide (c.Op = 14) then
         (H [true, true, true, true, false, false] (hdS [(1, AV.pb 65 0), (3, AV.pb 67 0), (99, AV.B (decide (0 < zN c.Filter.length)))] [] [(65, 9, (clCall c)), (67, 9, [nI c.Op, nI 0, nI c.B, nI t, AV.S ByteArray.empty, nI 0, nI 0, AV.S ByteArray.empty, AV.nsl 3 fun x => lstG [nI 0, nI 0, AV.S ByteArray.empty]])]))
        else
         (H [true, true, true, true, false, false] (hdS [(1, AV.pb 65 0), (3, AV.pb 67 0), (99, AV.B false)] [] [(65, 9, (clCall c)), (67, 9, [nI c.Op, nI 0, nI c.B, nI t, AV.S ByteArray.empty, nI 0, nI 0, AV.S ByteArray.empty, AV.nsl 3 fun x => lstG [nI 0, nI 0, AV.S ByteArray.empty]])])))
       else
        (bif !decide (c.Op = 14) then
         (H [true, true, true, true, false, false] (hdS [(1, AV.pb 65 0), (3, AV.pb 67 0), (99, AV.B (decide (0 < zN c.Filter.length)))] [] [(65, 9, (clCall c)), (67, 9, [nI c.Op, nI c.A, nI 0, nI t, AV.S ByteArray.empty, nI 0, nI 0, AV.S ByteArray.empty, AV.nsl 3 fun x => lstG [nI 0, nI 0, AV.S ByteArray.empty]])]))
        else
         (H [true, true, true, true, false, false] (hdS [(1, AV.pb 65 0), (3, AV.pb 67 0), (99, AV.B false)] [] [(65, 9, (clCall c)), (67, 9, [nI c.Op, nI c.A, nI 0, nI t, AV.S ByteArray.empty, nI 0, nI 0, AV.S ByteArray.empty, AV.nsl 3 fun x => lstG [nI 0, nI 0, AV.S ByteArray.empty]])])))))))))
 else
  (bif decide (s = 19) then
   (bif !decide (c.Op = 14) then
    (H [true, true, true, true, false, false] (hdS [(1, AV.pb 65 0), (3, AV.pb 67 0), (99, AV.B (decide (0 < zN c.Filter.length)))] [] [(65, 9, (clCall c)), (67, 9, [nI c.Op, nI c.A, nI c.B, nI t, AV.S ByteArray.empty, nI 0, nI 0, AV.S ByteArray.empty, AV.nsl 3 fun x => lstG [nI 0, nI 0, AV.S ByteArray.empty]])]))
   else
    (H [true, true, true, true, false, false] (hdS [(1, AV.pb 65 0), (3, AV.pb 67 0), (99, AV.B false)] [] [(65, 9, (clCall c)), (67, 9, [nI c.Op, nI c.A, nI c.B, nI t, AV.S ByteArray.empty, nI 0, nI 0, AV.S ByteArray.empty, AV.nsl 3 fun x => lstG [nI 0, nI 0, AV.S ByteArray.empty]])])))
  else
   (bif decide (s = 9) then
    (Option.bind (Γ 22 [nI c.B, nI 1, nI 4] []) fun r3 =>
    bif !asB r3.fst then
     (some (AV.B false, []))
    else
     (Option.bind (Γ 49 [slMsg c.Msg] []) fun r5 =>
     bif !asB r5.fst then
      (some (AV.B false, []))
     else
      (bif !decide (c.Op = 14) then
       (H [true, true, true, true, false, false] (hdS [(1, AV.pb 65 0), (3, AV.pb 67 0), (99, AV.B (decide (0 < zN c.Filter.length)))] [] [(65, 9, (clCall c)), (67, 9, [nI c.Op, nI c.A, nI c.B, nI t, AV.S ByteArray.empty, nI c.Msg.Kind, nI c.Msg.Num, AV.S c.Msg.Text, AV.nsl 3 fun x => lstG [nI 0, nI 0, AV.S ByteArray.empty]])]))
      else
       (H [true, true, true, true, false, false] (hdS [(1, AV.pb 65 0), (3, AV.pb 67 0), (99, AV.B false)] [] [(65, 9, (clCall c)), (67, 9, [nI c.Op, nI c.A, nI c.B, nI t, AV.S ByteArray.empty, nI c.Msg.Kind, nI c.Msg.Num, AV.S c.Msg.Text, AV.nsl 3 fun x => lstG [nI 0, nI 0, AV.S ByteArray.empty]])])))))
   else
    (bif decide (s = 13) then
     (Option.bind (Γ 50 [AV.S c.Name] []) fun r4 =>
     bif !asB r4.fst then
      (some (AV.B false, []))
     else
      (Option.bind (Γ 49 [slMsg c.Msg] []) fun r6 =>
      bif !asB r6.fst then
       (some (AV.B false, []))
      else
       (bif !decide (c.Op = 14) then
        (H [true, true, true, true, false, false] (hdS [(1, AV.pb 65 0), (3, AV.pb 67 0), (99, AV.B (decide (0 < zN c.Filter.length)))] [] [(65, 9, (clCall c)), (67, 9, [nI c.Op, nI 0, nI 0, nI t, AV.S c.Name, nI c.Msg.Kind, nI c.Msg.Num, AV.S c.Msg.Text, AV.nsl 3 fun x => lstG [nI 0, nI 0, AV.S ByteArray.empty]])]))
       else
        (H [true, true, true, true, false, false] (hdS [(1, AV.pb 65 0), (3, AV.pb 67 0), (99, AV.B false)] [] [(65, 9, (clCall c)), (67, 9, [nI c.Op, nI 0, nI 0, nI t, AV.S c.Name, nI c.Msg.Kind, nI c.Msg.Num, AV.S c.Msg.Text, AV.nsl 3 fun x => lstG [nI 0, nI 0, AV.S ByteArray.empty]])])))))
    else
     (bif decide (s = 14) then
      (bif !decide (c.B = 0) then
       (bif !decide (c.B = 1) then
        (some (AV.B false, []))
       else
        (Option.bind (Γ 51 [slTermS c.Filter] []) fun r7 =>
        bif !asB r7.fst then
         (some (AV.B false, []))
        else
         (bif !decide (c.Op = 14) then
          (H [true, true, true, true, false, false] (hdS [(1, AV.pb 65 0), (3, AV.pb 67 0), (99, AV.B (decide (0 < zN c.Filter.length)))] [] [(65, 9, (clCall c)), (67, 9, [nI c.Op, nI c.A, nI c.B, nI t, AV.S ByteArray.empty, nI 0, nI 0, AV.S ByteArray.empty, AV.nsl 3 fun x => lstG [nI 0, nI 0, AV.S ByteArray.empty]])]))
         else
          (H [true, true, true, true, false, false] (hdS [(1, AV.pb 65 0), (3, AV.pb 67 0), (99, AV.B false)] [] [(65, 9, (clCall c)), (67, 9, [nI c.Op, nI c.A, nI c.B, nI t, AV.S ByteArray.empty, nI 0, nI 0, AV.S ByteArray.empty, AV.nsl 3 fun x => lstG [nI 0, nI 0, AV.S ByteArray.empty]])])))))
      else
       (Option.bind (Γ 51 [slTermS c.Filter] []) fun r6 =>
       bif !asB r6.fst then
        (some (AV.B false, []))
       else
        (bif !decide (c.Op = 14) then
         (H [true, true, true, true, false, false] (hdS [(1, AV.pb 65 0), (3, AV.pb 67 0), (99, AV.B (decide (0 < zN c.Filter.length)))] [] [(65, 9, (clCall c)), (67, 9, [nI c.Op, nI c.A, nI c.B, nI t, AV.S ByteArray.empty, nI 0, nI 0, AV.S ByteArray.empty, AV.nsl 3 fun x => lstG [nI 0, nI 0, AV.S ByteArray.empty]])]))
        else
         (H [true, true, true, true, false, false] (hdS [(1, AV.pb 65 0), (3, AV.pb 67 0), (99, AV.B false)] [] [(65, 9, (clCall c)), (67, 9, [nI c.Op, nI c.A, nI c.B, nI t, AV.S ByteArray.empty, nI 0, nI 0, AV.S ByteArray.empty, AV.nsl 3 fun x => lstG [nI 0, nI 0, AV.S ByteArray.empty]])])))))
     else
      (bif decide (s = 15) then
       (bif decide (s = 15) then
        (bif !decide (c.Op = 14) then
         (H [true, true, true, true, false, false] (hdS [(1, AV.pb 65 0), (3, AV.pb 67 0), (99, AV.B (decide (0 < zN c.Filter.length)))] [] [(65, 9, (clCall c)), (67, 9, [nI c.Op, nI 0, nI c.B, nI t, AV.S ByteArray.empty, nI 0, nI 0, AV.S ByteArray.empty, AV.nsl 3 fun x => lstG [nI 0, nI 0, AV.S ByteArray.empty]])]))
        else
         (H [true, true, true, true, false, false] (hdS [(1, AV.pb 65 0), (3, AV.pb 67 0), (99, AV.B false)] [] [(65, 9, (clCall c)), (67, 9, [nI c.Op, nI 0, nI c.B, nI t, AV.S ByteArray.empty, nI 0, nI 0, AV.S ByteArray.empty, AV.nsl 3 fun x => lstG [nI 0, nI 0, AV.S ByteArray.empty]])])))
       else
        (bif !decide (c.Op = 14) then
         (H [true, true, true, true, false, false] (hdS [(1, AV.pb 65 0), (3, AV.pb 67 0), (99, AV.B (decide (0 < zN c.Filter.length)))] [] [(65, 9, (clCall c)), (67, 9, [nI c.Op, nI c.A, nI 0, nI t, AV.S ByteArray.empty, nI 0, nI 0, AV.S ByteArray.empty, AV.nsl 3 fun x => lstG [nI 0, nI 0, AV.S ByteArray.empty]])]))
        else
         (H [true, true, true, true, false, false] (hdS [(1, AV.pb 65 0), (3, AV.pb 67 0), (99, AV.B false)] [] [(65, 9, (clCall c)), (67, 9, [nI c.Op, nI c.A, nI 0, nI t, AV.S ByteArray.empty, nI 0, nI 0, AV.S ByteArray.empty, AV.nsl 3 fun x => lstG [nI 0, nI 0, AV.S ByteArray.empty]])]))))
      else
       (bif decide (s = 16) then
        (bif !decide (c.Op = 14) then
         (H [true, true, true, true, false, false] (hdS [(1, AV.pb 65 0), (3, AV.pb 67 0), (99, AV.B (decide (0 < zN c.Filter.length)))] [] [(65, 9, (clCall c)), (67, 9, [nI c.Op, nI 0, nI c.B, nI t, AV.S ByteArray.empty, nI 0, nI 0, AV.S ByteArray.empty, AV.nsl 3 fun x => lstG [nI 0, nI 0, AV.S ByteArray.empty]])]))
        else
         (H [true, true, true, true, false, false] (hdS [(1, AV.pb 65 0), (3, AV.pb 67 0), (99, AV.B false)] [] [(65, 9, (clCall c)), (67, 9, [nI c.Op, nI 0, nI c.B, nI t, AV.S ByteArray.empty, nI 0, nI 0, AV.S ByteArray.empty, AV.nsl 3 fun x => lstG [nI 0, nI 0, AV.S ByteArray.empty]])])))
       else
        (bif !decide (c.Op = 14) then
         (H [true, true, true, true, false, false] (hdS [(1, AV.pb 65 0), (3, AV.pb 67 0), (99, AV.B (decide (0 < zN c.Filter.length)))] [] [(65, 9, (clCall c)), (67, 9, [nI c.Op, nI c.A, nI 0, nI t, AV.S ByteArray.empty, nI 0, nI 0, AV.S ByteArray.empty, AV.nsl 3 fun x => lstG [nI 0, nI 0, AV.S ByteArray.empty]])]))
        else
         (H [true, true, true, true, false, false] (hdS [(1, AV.pb 65 0), (3, AV.pb 67 0), (99, AV.B false)] [] [(65, 9, (clCall c)), (67, 9, [nI c.Op, nI c.A, nI 0, nI t, AV.S ByteArray.empty, nI 0, nI 0, AV.S ByteArray.empty, AV.nsl 3 fun x => lstG [nI 0, nI 0, AV.S ByteArray.empty]])]))))))))) := by kernel_rfl
theorem h23b (Γ : Orc) (H : Hd) (c d : VCall) (b : Bool) : hed Tryz.prog cfg Γ 23 H [] [true, true, true, true, false, false] (hdS [(1, .pb 65 0), (3, .pb 67 0), (99, .B b)] [] [(65, 9, [nI c.Op, nI c.A, nI c.B, nI c.Tok, .S c.Name, nI c.Msg.Kind, nI c.Msg.Num, .S c.Msg.Text, slTermS c.Filter]), (67, 9, [nI d.Op, nI d.A, nI d.B, nI d.Tok, .S d.Name, nI d.Msg.Kind, nI d.Msg.Num, .S d.Msg.Text, .nsl 3 (fun _ => lstG [nI 0, nI 0, .S ByteArray.empty])])]) =
 bif b then
  (some (AV.B false, []))
 else
  (Option.bind (Γ 22 [nI c.Op, nI 1, nI 19] []) fun r1 =>
  bif asB r1.fst then
   (bif decide (c.A = d.A) then
    (bif decide (c.B = d.B) then
     (bif decide (c.Tok = d.Tok) then
      (bif c.Name.toList == d.Name.toList then
       (some (AV.B (bif decide (c.Msg.Kind = d.Msg.Kind) then bif decide (c.Msg.Num = d.Msg.Num) then bif c.Msg.Text.toList == d.Msg.Text.toList then true else false else false else false), []))
      else
       (some (AV.B false, [])))
     else
      (some (AV.B false, [])))
    else
     (some (AV.B false, [])))
   else
    (some (AV.B false, [])))
  else
   (some (AV.B false, []))) := by kernel_rfl
theorem e196 (Γ : Orc) (H : Hd) (m : Nat) (xs : List Int) (a : Int) : ent Tryz.prog cfg Γ 196 H [.sl m 1 (gsIntS xs), nI a] [] =
 H P196 (S196 m xs a 0) := by kernel_rfl
theorem e228 (Γ : Orc) (H : Hd) (m : Nat) (xs : List Int) (a : Int) : ent Tryz.prog cfg Γ 228 H [.sl m 1 (gsIntS xs), nI a] [] =
 Option.bind (Γ 260 [AV.sl m 1 (gsIntS xs), nI a] []) fun r0 => some (AV.B (decide (0 ≤ asI r0.fst)), []) := by kernel_rfl
theorem e260 (Γ : Orc) (H : Hd) (m : Nat) (xs : List Int) (a : Int) : ent Tryz.prog cfg Γ 260 H [.sl m 1 (gsIntS xs), nI a] [] =
 H P260 (S260 m xs a (zN m) 0) := by kernel_rfl
theorem h196 (Γ : Orc) (H : Hd) (m : Nat) (xs : List Int) (a i : Int) : hed Tryz.prog cfg Γ 196 H [] P196 (S196 m xs a i) =
 bif decide (i < zN m) then (bif bif decide (0 ≤ i) then decide (i < zN m) else false then (bif decide (xs.getD i.toNat 0 = a) then (some (AV.B true, [])) else (H P196 (S196 m xs a (IntKind.i64.wrap (i + 1))))) else (none)) else (some (AV.B false, [])) := by kernel_rfl
theorem h260 (Γ : Orc) (H : Hd) (m : Nat) (xs : List Int) (a k i : Int) : hed Tryz.prog cfg Γ 260 H [] P260 (S260 m xs a k i) =
 bif decide (i < k) then (bif bif decide (0 ≤ i) then decide (i < zN m) else false then (bif decide (a = xs.getD i.toNat 0) then (some (nI i, [])) else (H P260 (S260 m xs a k (IntKind.i64.wrap (i + 1))))) else (none)) else (some (nI (-1), [])) := by kernel_rfl
theorem e197 (Γ : Orc) (H : Hd) (xs : List Int) : ent Tryz.prog cfg Γ 197 H [slIntS xs] [] =
 bif decide (32 < zN xs.length) then (some (AV.B false, [])) else (H P197 (S197 xs 0)) := by kernel_rfl
theorem e224 (Γ : Orc) (H : Hd) (xs : List Int) : ent Tryz.prog cfg Γ 224 H [slIntS xs] [] =
 Option.bind (Γ 225 [slIntS xs] []) fun r0 => some (AV.B (asB r0.fst), []) := by kernel_rfl
theorem e225 (Γ : Orc) (H : Hd) (xs : List Int) : ent Tryz.prog cfg Γ 225 H [slIntS xs] [] =
 H P225 (S225 xs (zN xs.length) 0) := by kernel_rfl
theorem e194 (Γ : Orc) (H : Hd) (xs : List Int) : ent Tryz.prog cfg Γ 194 H [slIntS xs] [] =
 bif decide (0 + xs.length ≤ 4294967296) && true && true && true && true then (bif okT then (some (AV.own (0 + xs.length) 1 fun i => lstG [nI (xs.getD (i - 0) 0)], [])) else (none)) else (none) := by kernel_rfl
theorem h197 (Γ : Orc) (H : Hd) (xs : List Int) (i : Int) : hed Tryz.prog cfg Γ 197 H [] P197 (S197 xs i) =
 bif decide (i < zN xs.length) then (bif bif decide (0 ≤ i) then decide (i < zN xs.length) else false then (Option.bind (Γ 198 [nI (xs.getD i.toNat 0)] []) fun r2 => bif !asB r2.fst then (some (AV.B false, [])) else (bif decide (0 ≤ i) && decide (i ≤ zN xs.length) then (bif bif decide (0 ≤ i) then decide (i < zN xs.length) else false then (Option.bind (Γ 196 [AV.sl (i.toNat - 0) 1 fun i_1 j => mrg (decide (i_1 < i.toNat - 0)) (gsIntS xs (0 + i_1) j) (gsIntS xs xs.length j), nI (xs.getD i.toNat 0)] []) fun r6 => bif asB r6.fst then (some (AV.B false, [])) else (H P197 (S197 xs (IntKind.i64.wrap (i + 1))))) else (none)) else (none))) else (none)) else (some (AV.B true, [])) := by kernel_rfl
theorem h225 (Γ : Orc) (H : Hd) (xs : List Int) (m i : Int) : hed Tryz.prog cfg Γ 225 H [] P225 (S225 xs m i) =
 bif decide (i < m) then (bif bif decide (0 ≤ i) then decide (i < zN xs.length) else false then (Option.bind (Γ 258 [nI (xs.getD i.toNat 0)] []) fun r2 => bif !asB r2.fst then (some (AV.B false, [])) else (bif decide (0 ≤ i) && decide (i ≤ zN xs.length) then (Option.bind (Γ 228 [AV.sl (i.toNat - 0) 1 fun i_1 j => mrg (decide (i_1 < i.toNat - 0)) (gsIntS xs (0 + i_1) j) (gsIntS xs xs.length j), nI (xs.getD i.toNat 0)] []) fun r5 => bif asB r5.fst then (some (AV.B false, [])) else (H P225 (S225 xs m (IntKind.i64.wrap (i + 1))))) else (none))) else (none)) else (some (AV.B (decide (zN xs.length ≤ 32)), [])) := by kernel_rfl
theorem e200 (Γ : Orc) (H : Hd) (xs ys : List Int) : ent Tryz.prog cfg Γ 200 H [slIntS xs, slIntS ys] [] =
 Option.bind (Γ 197 [slIntS xs] []) fun r0 => bif !asB r0.fst then (some (AV.B false, [])) else (Option.bind (Γ 197 [slIntS ys] []) fun r2 => bif !asB r2.fst then (some (AV.B false, [])) else (H P200 (S200 xs ys 0))) := by kernel_rfl
theorem e147 (Γ : Orc) (H : Hd) (xs ys : List Int) : ent Tryz.prog cfg Γ 147 H [slIntS xs, slIntS ys] [] =
 Option.bind (Γ 224 [slIntS xs] []) fun r0 => bif asB r0.fst then (Option.bind (Γ 225 [slIntS ys] []) fun r2 => bif asB r2.fst then (Option.bind (Γ 226 [slIntS ys, AV.clo 227 1 (lstG [AV.sp 1 (lstG [slIntS xs])])] []) fun r4 => some (AV.B !asB r4.fst, [])) else (some (AV.B false, []))) else (some (AV.B false, [])) := by kernel_rfl
theorem h200 (Γ : Orc) (H : Hd) (xs ys : List Int) (i : Int) : hed Tryz.prog cfg Γ 200 H [] P200 (S200 xs ys i) =
 bif decide (i < zN ys.length) then (bif bif decide (0 ≤ i) then decide (i < zN ys.length) else false then (Option.bind (Γ 196 [slIntS xs, nI (ys.getD i.toNat 0)] []) fun r2 => bif asB r2.fst then (some (AV.B false, [])) else (H P200 (S200 xs ys (IntKind.i64.wrap (i + 1))))) else (none)) else (some (AV.B true, [])) := by kernel_rfl
theorem e226 (Γ : Orc) (H : Hd) (m : Nat) (xs : List Int) (ys : List Int) : ent Tryz.prog cfg Γ 226 H [.sl m 1 (gsIntS xs), .clo 227 1 (lstG [.sp 1 (lstG [slIntS ys])])] [] =
 Option.bind (Γ 259 [AV.sl m 1 (gsIntS xs), AV.clo 227 1 (lstG [AV.sp 1 (lstG [slIntS ys])])] []) fun r0 => some (AV.B (decide (0 ≤ asI r0.fst)), []) := by kernel_rfl
theorem e259 (Γ : Orc) (H : Hd) (m : Nat) (xs : List Int) (ys : List Int) : ent Tryz.prog cfg Γ 259 H [.sl m 1 (gsIntS xs), .clo 227 1 (lstG [.sp 1 (lstG [slIntS ys])])] [] =
 H P259 (S259 m xs ys (zN m) 0) := by kernel_rfl
theorem h259 (Γ : Orc) (H : Hd) (m : Nat) (xs : List Int) (ys : List Int) (k i : Int) : hed Tryz.prog cfg Γ 259 H [] P259 (S259 m xs ys k i) =
 bif decide (i < k) then (bif bif decide (0 ≤ i) then decide (i < zN m) else false then (Option.bind (Γ 227 [nI (xs.getD i.toNat 0), AV.sp 1 (lstG [slIntS ys])] []) fun r2 => bif asB r2.fst then (some (nI i, [])) else (H P259 (S259 m xs ys k (IntKind.i64.wrap (i + 1))))) else (none)) else (some (nI (-1), [])) := by kernel_rfl
theorem e227 (Γ : Orc) (H : Hd) (x : Int) (ys : List Int) : ent Tryz.prog cfg Γ 227 H [nI x, .sp 1 (lstG [slIntS ys])] [] =
 Option.bind (Γ 228 [slIntS ys, nI x] []) fun r0 => some (AV.B (asB r0.fst), []) := by kernel_rfl
theorem e212 (Γ : Orc) (H : Hd) (m : Nat) (xs : List ByteArray)  : ent Tryz.prog cfg Γ 212 H [.sl m 1 (gsStrS xs), .clo 214 0 (lstG [])] [] =
 Option.bind (Γ 254 [AV.sl m 1 (gsStrS xs), AV.clo 214 0 (lstG [])] []) fun r0 => some (AV.B (decide (0 ≤ asI r0.fst)), []) := by kernel_rfl
theorem e254 (Γ : Orc) (H : Hd) (m : Nat) (xs : List ByteArray)  : ent Tryz.prog cfg Γ 254 H [.sl m 1 (gsStrS xs), .clo 214 0 (lstG [])] [] =
 H P254 (S254 m xs (zN m) 0) := by kernel_rfl
theorem h254 (Γ : Orc) (H : Hd) (m : Nat) (xs : List ByteArray)  (k i : Int) : hed Tryz.prog cfg Γ 254 H [] P254 (S254 m xs k i) =
 bif decide (i < k) then (bif bif decide (0 ≤ i) then decide (i < zN m) else false then (Option.bind (Γ 214 [AV.S (xs.getD i.toNat ByteArray.empty)] []) fun r2 => bif asB r2.fst then (some (nI i, [])) else (H P254 (S254 m xs k (IntKind.i64.wrap (i + 1))))) else (none)) else (some (nI (-1), [])) := by kernel_rfl
theorem e214 (Γ : Orc) (H : Hd) (x : ByteArray)  : ent Tryz.prog cfg Γ 214 H [.S x] [] =
 Option.bind (Γ 215 [AV.S x] []) fun r0 => some (AV.B !asB r0.fst, []) := by kernel_rfl
theorem e216 (Γ : Orc) (H : Hd) (m : Nat) (xs : List VTopic) (s : ByteArray) : ent Tryz.prog cfg Γ 216 H [.sl m 9 (gsTopicS xs), .clo 217 1 (lstG [.sp 1 (lstG [.S s])])] [] =
 H P216 (S216 m xs s (zN m) 0) := by kernel_rfl
theorem h216 (Γ : Orc) (H : Hd) (m : Nat) (xs : List VTopic) (s : ByteArray) (k i : Int) : hed Tryz.prog cfg Γ 216 H [] P216 (S216 m xs s k i) =
 bif decide (i < k) then (bif bif decide (0 ≤ i) then decide (i < zN m) else false then (Option.bind (Γ 217 [slTopic (xs.getD i.toNat zTopic), AV.sp 1 (lstG [AV.S s])] []) fun r2 => bif asB r2.fst then (some (nI i, [])) else (H P216 (S216 m xs s k (IntKind.i64.wrap (i + 1))))) else (none)) else (some (nI (-1), [])) := by kernel_rfl
theorem e217 (Γ : Orc) (H : Hd) (x : VTopic) (s : ByteArray) : ent Tryz.prog cfg Γ 217 H [slTopic x, .sp 1 (lstG [.S s])] [] =
 some (AV.B (x.Name.toList == s.toList), []) := by kernel_rfl
theorem e261 (Γ : Orc) (H : Hd) (m : Nat) (xs : List VSub) (a : Int) : ent Tryz.prog cfg Γ 261 H [.sl m 7 (gsSubS xs), .clo 262 1 (lstG [.sp 1 (lstG [nI a])])] [] =
 H P261 (S261 m xs a (zN m) 0) := by kernel_rfl
theorem h261 (Γ : Orc) (H : Hd) (m : Nat) (xs : List VSub) (a : Int) (k i : Int) : hed Tryz.prog cfg Γ 261 H [] P261 (S261 m xs a k i) =
 bif decide (i < k) then (bif bif decide (0 ≤ i) then decide (i < zN m) else false then (Option.bind (Γ 262 [slSub (xs.getD i.toNat zSub), AV.sp 1 (lstG [nI a])] []) fun r2 => bif asB r2.fst then (some (nI i, [])) else (H P261 (S261 m xs a k (IntKind.i64.wrap (i + 1))))) else (none)) else (some (nI (-1), [])) := by kernel_rfl
theorem e262 (Γ : Orc) (H : Hd) (x : VSub) (a : Int) : ent Tryz.prog cfg Γ 262 H [slSub x, .sp 1 (lstG [nI a])] [] =
 some (AV.B (decide (x.Id = a)), []) := by kernel_rfl
theorem e219 (Γ : Orc) (H : Hd) (m : Nat) (xs : List VMsg)  : ent Tryz.prog cfg Γ 219 H [.sl m 3 (gsMsgS xs), .clo 220 0 (lstG [])] [] =
 Option.bind (Γ 256 [AV.sl m 3 (gsMsgS xs), AV.clo 220 0 (lstG [])] []) fun r0 => some (AV.B (decide (0 ≤ asI r0.fst)), []) := by kernel_rfl
theorem e256 (Γ : Orc) (H : Hd) (m : Nat) (xs : List VMsg)  : ent Tryz.prog cfg Γ 256 H [.sl m 3 (gsMsgS xs), .clo 220 0 (lstG [])] [] =
 H P256 (S256 m xs (zN m) 0) := by kernel_rfl
theorem h256 (Γ : Orc) (H : Hd) (m : Nat) (xs : List VMsg)  (k i : Int) : hed Tryz.prog cfg Γ 256 H [] P256 (S256 m xs k i) =
 bif decide (i < k) then (bif bif decide (0 ≤ i) then decide (i < zN m) else false then (Option.bind (Γ 220 [slMsg (xs.getD i.toNat zMsg)] []) fun r2 => bif asB r2.fst then (some (nI i, [])) else (H P256 (S256 m xs k (IntKind.i64.wrap (i + 1))))) else (none)) else (some (nI (-1), [])) := by kernel_rfl
theorem e220 (Γ : Orc) (H : Hd) (x : VMsg)  : ent Tryz.prog cfg Γ 220 H [slMsg x] [] =
 Option.bind (Γ 155 [slMsg x] []) fun r0 => some (AV.B !asB r0.fst, []) := by kernel_rfl
theorem e159 (Γ : Orc) (H : Hd) (m : Nat) (xs : List VLeg) (g : VLeg) : ent Tryz.prog cfg Γ 159 H [.sl m 4 (gsLegS xs), .clo 160 1 (lstG [.sp 4 (lstG (clLeg g))])] [] =
 Option.bind (Γ 234 [AV.sl m 4 (gsLegS xs), AV.clo 160 1 (lstG [AV.sp 4 (lstG (clLeg g))])] []) fun r0 => some (AV.B (decide (0 ≤ asI r0.fst)), []) := by kernel_rfl
theorem e234 (Γ : Orc) (H : Hd) (m : Nat) (xs : List VLeg) (g : VLeg) : ent Tryz.prog cfg Γ 234 H [.sl m 4 (gsLegS xs), .clo 160 1 (lstG [.sp 4 (lstG (clLeg g))])] [] =
 H P234 (S234 m xs g (zN m) 0) := by kernel_rfl
theorem h234 (Γ : Orc) (H : Hd) (m : Nat) (xs : List VLeg) (g : VLeg) (k i : Int) : hed Tryz.prog cfg Γ 234 H [] P234 (S234 m xs g k i) =
 bif decide (i < k) then (bif bif decide (0 ≤ i) then decide (i < zN m) else false then (Option.bind (Γ 160 [slLeg (xs.getD i.toNat zLeg), AV.sp 4 (lstG (clLeg g))] []) fun r2 => bif asB r2.fst then (some (nI i, [])) else (H P234 (S234 m xs g k (IntKind.i64.wrap (i + 1))))) else (none)) else (some (nI (-1), [])) := by kernel_rfl
theorem e160 (Γ : Orc) (H : Hd) (x : VLeg) (g : VLeg) : ent Tryz.prog cfg Γ 160 H [slLeg x, .sp 4 (lstG (clLeg g))] [] =
 some (AV.B (decide (x.Topic = g.Topic)), []) := by kernel_rfl
theorem e83 (Γ : Orc) (H : Hd) (m : Nat) (xs : List VCall)  : ent Tryz.prog cfg Γ 83 H [.sl m 9 (gsCallS xs), .clo 84 0 (lstG [])] [] =
 Option.bind (Γ 164 [AV.sl m 9 (gsCallS xs), AV.clo 84 0 (lstG [])] []) fun r0 => some (AV.B (decide (0 ≤ asI r0.fst)), []) := by kernel_rfl
theorem e164 (Γ : Orc) (H : Hd) (m : Nat) (xs : List VCall)  : ent Tryz.prog cfg Γ 164 H [.sl m 9 (gsCallS xs), .clo 84 0 (lstG [])] [] =
 H P164 (S164 m xs (zN m) 0) := by kernel_rfl
theorem h164 (Γ : Orc) (H : Hd) (m : Nat) (xs : List VCall)  (k i : Int) : hed Tryz.prog cfg Γ 164 H [] P164 (S164 m xs k i) =
 bif decide (i < k) then (bif bif decide (0 ≤ i) then decide (i < zN m) else false then (Option.bind (Γ 84 [slCall (xs.getD i.toNat zCall)] []) fun r2 => bif asB r2.fst then (some (nI i, [])) else (H P164 (S164 m xs k (IntKind.i64.wrap (i + 1))))) else (none)) else (some (nI (-1), [])) := by kernel_rfl
theorem e84 (Γ : Orc) (H : Hd) (x : VCall)  : ent Tryz.prog cfg Γ 84 H [slCall x] [] =
 Option.bind (Γ 85 [slCall x] []) fun r0 => some (AV.B !asB r0.fst, []) := by kernel_rfl
theorem e81 (Γ : Orc) (H : Hd) (m : Nat) (xs : List VClient)  : ent Tryz.prog cfg Γ 81 H [.sl m 3 (gsClientS xs), .clo 82 1 (lstG [.sp 1 (lstG [.clo 29 0 (lstG [])])])] [] =
 Option.bind (Γ 163 [AV.sl m 3 (gsClientS xs), AV.clo 82 1 (lstG [AV.sp 1 (lstG [AV.clo 29 0 (lstG [])])])] []) fun r0 => some (AV.B (decide (0 ≤ asI r0.fst)), []) := by kernel_rfl
theorem e163 (Γ : Orc) (H : Hd) (m : Nat) (xs : List VClient)  : ent Tryz.prog cfg Γ 163 H [.sl m 3 (gsClientS xs), .clo 82 1 (lstG [.sp 1 (lstG [.clo 29 0 (lstG [])])])] [] =
 H P163 (S163 m xs (zN m) 0) := by kernel_rfl
theorem h163 (Γ : Orc) (H : Hd) (m : Nat) (xs : List VClient)  (k i : Int) : hed Tryz.prog cfg Γ 163 H [] P163 (S163 m xs k i) =
 bif decide (i < k) then (bif bif decide (0 ≤ i) then decide (i < zN m) else false then (Option.bind (Γ 82 [slClient (xs.getD i.toNat zClient), AV.sp 1 (lstG [AV.clo 29 0 (lstG [])])] []) fun r2 => bif asB r2.fst then (some (nI i, [])) else (H P163 (S163 m xs k (IntKind.i64.wrap (i + 1))))) else (none)) else (some (nI (-1), [])) := by kernel_rfl
theorem e82 (Γ : Orc) (H : Hd) (x : VClient)  : ent Tryz.prog cfg Γ 82 H [slClient x, .sp 1 (lstG [.clo 29 0 (lstG [])])] [] =
 Option.bind (Γ 29 [slClient x] []) fun r0 => some (AV.B !asB r0.fst, []) := by kernel_rfl
theorem e28 (Γ : Orc) (H : Hd) (m : Int) (xs : List VClient)  : ent Tryz.prog cfg Γ 28 H [slClientS xs, nI m, .clo 29 0 (lstG [])] [] =
 bif decide (zN xs.length ≤ m) then (Option.bind (Γ 81 [slClientS xs, AV.clo 82 1 (lstG [AV.sp 1 (lstG [AV.clo 29 0 (lstG [])])])] []) fun r1 => some (AV.B !asB r1.fst, [])) else (some (AV.B false, [])) := by kernel_rfl
theorem e140 (Γ : Orc) (H : Hd) (m : Nat) (xs : List VHit) (h : VHub) : ent Tryz.prog cfg Γ 140 H [.sl m 2 (gsHitS xs), .clo 141 1 (lstG [.sp 1 (lstG [.clo 64 1 (lstG [.sp 11 (lstG (clHub h))])])])] [] =
 Option.bind (Γ 211 [AV.sl m 2 (gsHitS xs), AV.clo 141 1 (lstG [AV.sp 1 (lstG [AV.clo 64 1 (lstG [AV.sp 11 (lstG (clHub h))])])])] []) fun r0 => some (AV.B (decide (0 ≤ asI r0.fst)), []) := by kernel_rfl
theorem e211 (Γ : Orc) (H : Hd) (m : Nat) (xs : List VHit) (h : VHub) : ent Tryz.prog cfg Γ 211 H [.sl m 2 (gsHitS xs), .clo 141 1 (lstG [.sp 1 (lstG [.clo 64 1 (lstG [.sp 11 (lstG (clHub h))])])])] [] =
 H P211 (S211 m xs h (zN m) 0) := by kernel_rfl
theorem h211 (Γ : Orc) (H : Hd) (m : Nat) (xs : List VHit) (h : VHub) (k i : Int) : hed Tryz.prog cfg Γ 211 H [] P211 (S211 m xs h k i) =
 bif decide (i < k) then (bif bif decide (0 ≤ i) then decide (i < zN m) else false then (Option.bind (Γ 141 [slHit (xs.getD i.toNat zHit), AV.sp 1 (lstG [AV.clo 64 1 (lstG [AV.sp 11 (lstG (clHub h))])])] []) fun r2 => bif asB r2.fst then (some (nI i, [])) else (H P211 (S211 m xs h k (IntKind.i64.wrap (i + 1))))) else (none)) else (some (nI (-1), [])) := by kernel_rfl
theorem e141 (Γ : Orc) (H : Hd) (x : VHit) (h : VHub) : ent Tryz.prog cfg Γ 141 H [slHit x, .sp 1 (lstG [.clo 64 1 (lstG [.sp 11 (lstG (clHub h))])])] [] =
 Option.bind (Γ 64 [slHit x, AV.sp 11 (lstG (clHub h))] []) fun r0 => some (AV.B !asB r0.fst, []) := by kernel_rfl
theorem e63 (Γ : Orc) (H : Hd) (m : Int) (xs : List VHit) (h : VHub) : ent Tryz.prog cfg Γ 63 H [slHitS xs, nI m, .clo 64 1 (lstG [.sp 11 (lstG (clHub h))])] [] =
 bif decide (zN xs.length ≤ m) then (Option.bind (Γ 140 [slHitS xs, AV.clo 141 1 (lstG [AV.sp 1 (lstG [AV.clo 64 1 (lstG [AV.sp 11 (lstG (clHub h))])])])] []) fun r1 => some (AV.B !asB r1.fst, [])) else (some (AV.B false, [])) := by kernel_rfl
theorem e64 (Γ : Orc) (H : Hd) (x : VHit) (h : VHub) : ent Tryz.prog cfg Γ 64 H [slHit x, .sp 11 (lstG (clHub h))] [] =
 Option.bind (Γ 65 [slTopicS h.Topics, nI x.Topic] []) fun r0 => some (AV.B (asB r0.fst), []) := by kernel_rfl
theorem e145 (Γ : Orc) (H : Hd) (m : Nat) (xs : List VNotify)  : ent Tryz.prog cfg Γ 145 H [.sl m 6 (gsNotifyS xs), .clo 146 1 (lstG [.sp 1 (lstG [.clo 70 0 (lstG [])])])] [] =
 Option.bind (Γ 223 [AV.sl m 6 (gsNotifyS xs), AV.clo 146 1 (lstG [AV.sp 1 (lstG [AV.clo 70 0 (lstG [])])])] []) fun r0 => some (AV.B (decide (0 ≤ asI r0.fst)), []) := by kernel_rfl
theorem e223 (Γ : Orc) (H : Hd) (m : Nat) (xs : List VNotify)  : ent Tryz.prog cfg Γ 223 H [.sl m 6 (gsNotifyS xs), .clo 146 1 (lstG [.sp 1 (lstG [.clo 70 0 (lstG [])])])] [] =
 H P223 (S223 m xs (zN m) 0) := by kernel_rfl
theorem h223 (Γ : Orc) (H : Hd) (m : Nat) (xs : List VNotify)  (k i : Int) : hed Tryz.prog cfg Γ 223 H [] P223 (S223 m xs k i) =
 bif decide (i < k) then (bif bif decide (0 ≤ i) then decide (i < zN m) else false then (Option.bind (Γ 146 [slNotify (xs.getD i.toNat zNotify), AV.sp 1 (lstG [AV.clo 70 0 (lstG [])])] []) fun r2 => bif asB r2.fst then (some (nI i, [])) else (H P223 (S223 m xs k (IntKind.i64.wrap (i + 1))))) else (none)) else (some (nI (-1), [])) := by kernel_rfl
theorem e146 (Γ : Orc) (H : Hd) (x : VNotify)  : ent Tryz.prog cfg Γ 146 H [slNotify x, .sp 1 (lstG [.clo 70 0 (lstG [])])] [] =
 Option.bind (Γ 70 [slNotify x] []) fun r0 => some (AV.B !asB r0.fst, []) := by kernel_rfl
theorem e69 (Γ : Orc) (H : Hd) (m : Int) (xs : List VNotify)  : ent Tryz.prog cfg Γ 69 H [slNotifyS xs, nI m, .clo 70 0 (lstG [])] [] =
 bif decide (zN xs.length ≤ m) then (Option.bind (Γ 145 [slNotifyS xs, AV.clo 146 1 (lstG [AV.sp 1 (lstG [AV.clo 70 0 (lstG [])])])] []) fun r1 => some (AV.B !asB r1.fst, [])) else (some (AV.B false, [])) := by kernel_rfl
theorem e149 (Γ : Orc) (H : Hd) (m : Nat) (xs : List VEvent)  : ent Tryz.prog cfg Γ 149 H [.sl m 7 (gsEventS xs), .clo 150 1 (lstG [.sp 1 (lstG [.clo 72 0 (lstG [])])])] [] =
 Option.bind (Γ 229 [AV.sl m 7 (gsEventS xs), AV.clo 150 1 (lstG [AV.sp 1 (lstG [AV.clo 72 0 (lstG [])])])] []) fun r0 => some (AV.B (decide (0 ≤ asI r0.fst)), []) := by kernel_rfl
theorem e229 (Γ : Orc) (H : Hd) (m : Nat) (xs : List VEvent)  : ent Tryz.prog cfg Γ 229 H [.sl m 7 (gsEventS xs), .clo 150 1 (lstG [.sp 1 (lstG [.clo 72 0 (lstG [])])])] [] =
 H P229 (S229 m xs (zN m) 0) := by kernel_rfl
theorem h229 (Γ : Orc) (H : Hd) (m : Nat) (xs : List VEvent)  (k i : Int) : hed Tryz.prog cfg Γ 229 H [] P229 (S229 m xs k i) =
 bif decide (i < k) then (bif bif decide (0 ≤ i) then decide (i < zN m) else false then (Option.bind (Γ 150 [slEvent (xs.getD i.toNat zEvent), AV.sp 1 (lstG [AV.clo 72 0 (lstG [])])] []) fun r2 => bif asB r2.fst then (some (nI i, [])) else (H P229 (S229 m xs k (IntKind.i64.wrap (i + 1))))) else (none)) else (some (nI (-1), [])) := by kernel_rfl
theorem e150 (Γ : Orc) (H : Hd) (x : VEvent)  : ent Tryz.prog cfg Γ 150 H [slEvent x, .sp 1 (lstG [.clo 72 0 (lstG [])])] [] =
 Option.bind (Γ 72 [slEvent x] []) fun r0 => some (AV.B !asB r0.fst, []) := by kernel_rfl
theorem e71 (Γ : Orc) (H : Hd) (m : Int) (xs : List VEvent)  : ent Tryz.prog cfg Γ 71 H [slEventS xs, nI m, .clo 72 0 (lstG [])] [] =
 bif decide (zN xs.length ≤ m) then (Option.bind (Γ 149 [slEventS xs, AV.clo 150 1 (lstG [AV.sp 1 (lstG [AV.clo 72 0 (lstG [])])])] []) fun r1 => some (AV.B !asB r1.fst, [])) else (some (AV.B false, [])) := by kernel_rfl
theorem e151 (Γ : Orc) (H : Hd) (m : Nat) (xs : List VLatch)  : ent Tryz.prog cfg Γ 151 H [.sl m 3 (gsLatchS xs), .clo 152 1 (lstG [.sp 1 (lstG [.clo 74 0 (lstG [])])])] [] =
 Option.bind (Γ 230 [AV.sl m 3 (gsLatchS xs), AV.clo 152 1 (lstG [AV.sp 1 (lstG [AV.clo 74 0 (lstG [])])])] []) fun r0 => some (AV.B (decide (0 ≤ asI r0.fst)), []) := by kernel_rfl
theorem e230 (Γ : Orc) (H : Hd) (m : Nat) (xs : List VLatch)  : ent Tryz.prog cfg Γ 230 H [.sl m 3 (gsLatchS xs), .clo 152 1 (lstG [.sp 1 (lstG [.clo 74 0 (lstG [])])])] [] =
 H P230 (S230 m xs (zN m) 0) := by kernel_rfl
theorem h230 (Γ : Orc) (H : Hd) (m : Nat) (xs : List VLatch)  (k i : Int) : hed Tryz.prog cfg Γ 230 H [] P230 (S230 m xs k i) =
 bif decide (i < k) then (bif bif decide (0 ≤ i) then decide (i < zN m) else false then (Option.bind (Γ 152 [slLatch (xs.getD i.toNat zLatch), AV.sp 1 (lstG [AV.clo 74 0 (lstG [])])] []) fun r2 => bif asB r2.fst then (some (nI i, [])) else (H P230 (S230 m xs k (IntKind.i64.wrap (i + 1))))) else (none)) else (some (nI (-1), [])) := by kernel_rfl
theorem e152 (Γ : Orc) (H : Hd) (x : VLatch)  : ent Tryz.prog cfg Γ 152 H [slLatch x, .sp 1 (lstG [.clo 74 0 (lstG [])])] [] =
 Option.bind (Γ 74 [slLatch x] []) fun r0 => some (AV.B !asB r0.fst, []) := by kernel_rfl
theorem e73 (Γ : Orc) (H : Hd) (m : Int) (xs : List VLatch)  : ent Tryz.prog cfg Γ 73 H [slLatchS xs, nI m, .clo 74 0 (lstG [])] [] =
 bif decide (zN xs.length ≤ m) then (Option.bind (Γ 151 [slLatchS xs, AV.clo 152 1 (lstG [AV.sp 1 (lstG [AV.clo 74 0 (lstG [])])])] []) fun r1 => some (AV.B !asB r1.fst, [])) else (some (AV.B false, [])) := by kernel_rfl
theorem e153 (Γ : Orc) (H : Hd) (m : Nat) (xs : List VCell)  : ent Tryz.prog cfg Γ 153 H [.sl m 7 (gsCellS xs), .clo 154 1 (lstG [.sp 1 (lstG [.clo 76 0 (lstG [])])])] [] =
 Option.bind (Γ 231 [AV.sl m 7 (gsCellS xs), AV.clo 154 1 (lstG [AV.sp 1 (lstG [AV.clo 76 0 (lstG [])])])] []) fun r0 => some (AV.B (decide (0 ≤ asI r0.fst)), []) := by kernel_rfl
theorem e231 (Γ : Orc) (H : Hd) (m : Nat) (xs : List VCell)  : ent Tryz.prog cfg Γ 231 H [.sl m 7 (gsCellS xs), .clo 154 1 (lstG [.sp 1 (lstG [.clo 76 0 (lstG [])])])] [] =
 H P231 (S231 m xs (zN m) 0) := by kernel_rfl
theorem h231 (Γ : Orc) (H : Hd) (m : Nat) (xs : List VCell)  (k i : Int) : hed Tryz.prog cfg Γ 231 H [] P231 (S231 m xs k i) =
 bif decide (i < k) then (bif bif decide (0 ≤ i) then decide (i < zN m) else false then (Option.bind (Γ 154 [slCell (xs.getD i.toNat zCell), AV.sp 1 (lstG [AV.clo 76 0 (lstG [])])] []) fun r2 => bif asB r2.fst then (some (nI i, [])) else (H P231 (S231 m xs k (IntKind.i64.wrap (i + 1))))) else (none)) else (some (nI (-1), [])) := by kernel_rfl
theorem e154 (Γ : Orc) (H : Hd) (x : VCell)  : ent Tryz.prog cfg Γ 154 H [slCell x, .sp 1 (lstG [.clo 76 0 (lstG [])])] [] =
 Option.bind (Γ 76 [slCell x] []) fun r0 => some (AV.B !asB r0.fst, []) := by kernel_rfl
theorem e75 (Γ : Orc) (H : Hd) (m : Int) (xs : List VCell)  : ent Tryz.prog cfg Γ 75 H [slCellS xs, nI m, .clo 76 0 (lstG [])] [] =
 bif decide (zN xs.length ≤ m) then (Option.bind (Γ 153 [slCellS xs, AV.clo 154 1 (lstG [AV.sp 1 (lstG [AV.clo 76 0 (lstG [])])])] []) fun r1 => some (AV.B !asB r1.fst, [])) else (some (AV.B false, [])) := by kernel_rfl
theorem e156 (Γ : Orc) (H : Hd) (m : Nat) (xs : List VMerge) (h : VHub) : ent Tryz.prog cfg Γ 156 H [.sl m 3 (gsMergeS xs), .clo 157 1 (lstG [.sp 1 (lstG [.clo 78 1 (lstG [.sp 11 (lstG (clHub h))])])])] [] =
 Option.bind (Γ 232 [AV.sl m 3 (gsMergeS xs), AV.clo 157 1 (lstG [AV.sp 1 (lstG [AV.clo 78 1 (lstG [AV.sp 11 (lstG (clHub h))])])])] []) fun r0 => some (AV.B (decide (0 ≤ asI r0.fst)), []) := by kernel_rfl
theorem e232 (Γ : Orc) (H : Hd) (m : Nat) (xs : List VMerge) (h : VHub) : ent Tryz.prog cfg Γ 232 H [.sl m 3 (gsMergeS xs), .clo 157 1 (lstG [.sp 1 (lstG [.clo 78 1 (lstG [.sp 11 (lstG (clHub h))])])])] [] =
 H P232 (S232 m xs h (zN m) 0) := by kernel_rfl
theorem h232 (Γ : Orc) (H : Hd) (m : Nat) (xs : List VMerge) (h : VHub) (k i : Int) : hed Tryz.prog cfg Γ 232 H [] P232 (S232 m xs h k i) =
 bif decide (i < k) then (bif bif decide (0 ≤ i) then decide (i < zN m) else false then (Option.bind (Γ 157 [slMerge (xs.getD i.toNat zMerge), AV.sp 1 (lstG [AV.clo 78 1 (lstG [AV.sp 11 (lstG (clHub h))])])] []) fun r2 => bif asB r2.fst then (some (nI i, [])) else (H P232 (S232 m xs h k (IntKind.i64.wrap (i + 1))))) else (none)) else (some (nI (-1), [])) := by kernel_rfl
theorem e157 (Γ : Orc) (H : Hd) (x : VMerge) (h : VHub) : ent Tryz.prog cfg Γ 157 H [slMerge x, .sp 1 (lstG [.clo 78 1 (lstG [.sp 11 (lstG (clHub h))])])] [] =
 Option.bind (Γ 78 [slMerge x, AV.sp 11 (lstG (clHub h))] []) fun r0 => some (AV.B !asB r0.fst, []) := by kernel_rfl
theorem e77 (Γ : Orc) (H : Hd) (m : Int) (xs : List VMerge) (h : VHub) : ent Tryz.prog cfg Γ 77 H [slMergeS xs, nI m, .clo 78 1 (lstG [.sp 11 (lstG (clHub h))])] [] =
 bif decide (zN xs.length ≤ m) then (Option.bind (Γ 156 [slMergeS xs, AV.clo 157 1 (lstG [AV.sp 1 (lstG [AV.clo 78 1 (lstG [AV.sp 11 (lstG (clHub h))])])])] []) fun r1 => some (AV.B !asB r1.fst, [])) else (some (AV.B false, [])) := by kernel_rfl
theorem e78 (Γ : Orc) (H : Hd) (x : VMerge) (h : VHub) : ent Tryz.prog cfg Γ 78 H [slMerge x, .sp 11 (lstG (clHub h))] [] =
 Option.bind (Γ 79 [slTopicS h.Topics, slMerge x] []) fun r0 => some (AV.B (asB r0.fst), []) := by kernel_rfl
theorem e161 (Γ : Orc) (H : Hd) (m : Nat) (xs : List VUser) (h : VHub) : ent Tryz.prog cfg Γ 161 H [.sl m 2 (gsUserS xs), .clo 162 1 (lstG [.sp 1 (lstG [.clo 62 1 (lstG [.sp 11 (lstG (clHub h))])])])] [] =
 Option.bind (Γ 235 [AV.sl m 2 (gsUserS xs), AV.clo 162 1 (lstG [AV.sp 1 (lstG [AV.clo 62 1 (lstG [AV.sp 11 (lstG (clHub h))])])])] []) fun r0 => some (AV.B (decide (0 ≤ asI r0.fst)), []) := by kernel_rfl
theorem e235 (Γ : Orc) (H : Hd) (m : Nat) (xs : List VUser) (h : VHub) : ent Tryz.prog cfg Γ 235 H [.sl m 2 (gsUserS xs), .clo 162 1 (lstG [.sp 1 (lstG [.clo 62 1 (lstG [.sp 11 (lstG (clHub h))])])])] [] =
 H P235 (S235 m xs h (zN m) 0) := by kernel_rfl
theorem h235 (Γ : Orc) (H : Hd) (m : Nat) (xs : List VUser) (h : VHub) (k i : Int) : hed Tryz.prog cfg Γ 235 H [] P235 (S235 m xs h k i) =
 bif decide (i < k) then (bif bif decide (0 ≤ i) then decide (i < zN m) else false then (Option.bind (Γ 162 [slUser (xs.getD i.toNat zUser), AV.sp 1 (lstG [AV.clo 62 1 (lstG [AV.sp 11 (lstG (clHub h))])])] []) fun r2 => bif asB r2.fst then (some (nI i, [])) else (H P235 (S235 m xs h k (IntKind.i64.wrap (i + 1))))) else (none)) else (some (nI (-1), [])) := by kernel_rfl
theorem e162 (Γ : Orc) (H : Hd) (x : VUser) (h : VHub) : ent Tryz.prog cfg Γ 162 H [slUser x, .sp 1 (lstG [.clo 62 1 (lstG [.sp 11 (lstG (clHub h))])])] [] =
 Option.bind (Γ 62 [slUser x, AV.sp 11 (lstG (clHub h))] []) fun r0 => some (AV.B !asB r0.fst, []) := by kernel_rfl
theorem e80 (Γ : Orc) (H : Hd) (m : Int) (xs : List VUser) (h : VHub) : ent Tryz.prog cfg Γ 80 H [slUserS xs, nI m, .clo 62 1 (lstG [.sp 11 (lstG (clHub h))])] [] =
 bif decide (zN xs.length ≤ m) then (Option.bind (Γ 161 [slUserS xs, AV.clo 162 1 (lstG [AV.sp 1 (lstG [AV.clo 62 1 (lstG [AV.sp 11 (lstG (clHub h))])])])] []) fun r1 => some (AV.B !asB r1.fst, [])) else (some (AV.B false, [])) := by kernel_rfl
theorem e62 (Γ : Orc) (H : Hd) (x : VUser) (h : VHub) : ent Tryz.prog cfg Γ 62 H [slUser x, .sp 11 (lstG (clHub h))] [] =
 bif decide (zN x.Seen.length = zN h.Cells.length) then (Option.bind (Γ 63 [slHitS x.Subs, nI 12, AV.clo 64 1 (lstG [AV.sp 11 (lstG (clHub h))])] []) fun r1 => some (AV.B (asB r1.fst), [])) else (some (AV.B false, [])) := by kernel_rfl
theorem e121 (Γ : Orc) (H : Hd) (x : VNotify) : ent Tryz.prog cfg Γ 121 H [slNotify x] [] =
 (fun t0_ => Option.bind (Γ 197 [slIntS x.Line] []) fun r0 => bif !asB r0.fst then (some (AV.B false, [])) else (bif decide (32 < zN x.Grants.length) then (some (AV.B false, [])) else (bif x.Permit then (bif decide (0 < zN x.Line.length) then (some (AV.B false, [])) else t0_) else t0_))) (Option.bind (Γ 22 [nI x.Ones, nI 0, nI 1000000000] []) fun r5 => bif !asB r5.fst then (some (AV.B false, [])) else (Option.bind (Γ 22 [nI x.Spilt, nI 0, nI 1000000000] []) fun r7 => bif !asB r7.fst then (some (AV.B false, [])) else (Option.bind (Γ 22 [nI x.Taken, nI 0, nI 1000000000] []) fun r9 => bif !asB r9.fst then (some (AV.B false, [])) else (bif x.Permit then (H P121 (S121 x (IntKind.i64.wrap (IntKind.i64.wrap (x.Taken + x.Spilt) + 1)) 0)) else (H P121 (S121 x (IntKind.i64.wrap (x.Taken + x.Spilt)) 0)))))) := by kernel_rfl
theorem e70 (Γ : Orc) (H : Hd) (x : VNotify) : ent Tryz.prog cfg Γ 70 H [slNotify x] [] =
 H [true, true, true, false, true] (hdS [(1, AV.pb 65 0), (3, AV.rf 360448), (4, nI (IntKind.i64.wrap (x.Taken + x.Spilt))), (14, slGrantS x.Grants), (15, nI (zN x.Grants.length)), (16, nI 0)] [(360448, ⟨0, 1, fun i => lstG [nI 0]⟩)] [(65, 6, (clNotify x))]) := by kernel_rfl
theorem e122 (Γ : Orc) (H : Hd) (x : VEvent) : ent Tryz.prog cfg Γ 122 H [slEvent x] [] =
 (fun t0_ => Option.bind (Γ 200 [slIntS x.Line, slIntS x.Grants] []) fun r0 => bif !asB r0.fst then (some (AV.B false, [])) else (bif x.Up then (bif decide (0 < zN x.Line.length) then (some (AV.B false, [])) else t0_) else t0_)) (Option.bind (Γ 22 [nI x.Sets, nI 0, nI 1000000000] []) fun r4 => bif !asB r4.fst then (some (AV.B false, [])) else (Option.bind (Γ 22 [nI x.Spilt, nI 0, nI 1000000000] []) fun r6 => bif !asB r6.fst then (some (AV.B false, [])) else (Option.bind (Γ 22 [nI x.Taken, nI 0, nI 1000000000] []) fun r8 => bif !asB r8.fst then (some (AV.B false, [])) else (bif !x.Auto then (bif decide (x.Sets = 0) then (bif decide (x.Spilt = 0) then (some (AV.B (decide (x.Taken = 0)), [])) else (some (AV.B false, []))) else (some (AV.B false, []))) else (bif x.Up then (some (AV.B (decide (x.Sets = IntKind.i64.wrap (IntKind.i64.wrap (IntKind.i64.wrap (x.Spilt + x.Taken) + zN x.Grants.length) + 1))), [])) else (some (AV.B (decide (x.Sets = IntKind.i64.wrap (IntKind.i64.wrap (x.Spilt + x.Taken) + zN x.Grants.length))), []))))))) := by kernel_rfl
theorem e72 (Γ : Orc) (H : Hd) (x : VEvent) : ent Tryz.prog cfg Γ 72 H [slEvent x] [] =
 (fun t0_ => Option.bind (Γ 147 [slIntS x.Line, slIntS x.Grants] []) fun r0 => bif !asB r0.fst then (some (AV.B false, [])) else (bif x.Up then (bif decide (0 < zN x.Line.length) then (some (AV.B false, [])) else t0_) else t0_)) (Option.bind (Γ 148 [nI x.Sets] []) fun r4 => bif !asB r4.fst then (some (AV.B false, [])) else (Option.bind (Γ 148 [nI x.Spilt] []) fun r6 => bif !asB r6.fst then (some (AV.B false, [])) else (Option.bind (Γ 148 [nI x.Taken] []) fun r8 => bif !asB r8.fst then (some (AV.B false, [])) else (bif !x.Auto then (bif decide (x.Sets = 0) then (bif decide (x.Spilt = 0) then (some (AV.B (decide (x.Taken = 0)), [])) else (some (AV.B false, []))) else (some (AV.B false, []))) else (bif x.Up then (some (AV.B (decide (IntKind.i64.wrap (IntKind.i64.wrap (IntKind.i64.wrap (x.Spilt + x.Taken) + zN x.Grants.length) + 1) = x.Sets)), [])) else (some (AV.B (decide (IntKind.i64.wrap (IntKind.i64.wrap (x.Spilt + x.Taken) + zN x.Grants.length) = x.Sets)), []))))))) := by kernel_rfl
theorem e123 (Γ : Orc) (H : Hd) (x : VLatch) : ent Tryz.prog cfg Γ 123 H [slLatch x] [] =
 Option.bind (Γ 22 [nI x.Count, nI 0, nI 1000000000] []) fun r0 => bif asB r0.fst then (Option.bind (Γ 200 [slIntS x.Line, slIntS x.Grants] []) fun r2 => bif asB r2.fst then (bif decide (0 < x.Count) then (some (AV.B true, [])) else (some (AV.B (decide (zN x.Line.length = 0)), []))) else (some (AV.B false, []))) else (some (AV.B false, [])) := by kernel_rfl
theorem e74 (Γ : Orc) (H : Hd) (x : VLatch) : ent Tryz.prog cfg Γ 74 H [slLatch x] [] =
 Option.bind (Γ 148 [nI x.Count] []) fun r0 => bif asB r0.fst then (Option.bind (Γ 147 [slIntS x.Line, slIntS x.Grants] []) fun r2 => bif asB r2.fst then (bif decide (x.Count = 0) then (some (AV.B !decide (0 < zN x.Line.length), [])) else (some (AV.B true, []))) else (some (AV.B false, []))) else (some (AV.B false, [])) := by kernel_rfl
theorem e124 (Γ : Orc) (H : Hd) (x : VCell) : ent Tryz.prog cfg Γ 124 H [slCell x] [] =
 Option.bind (Γ 49 [slMsg x.Val] []) fun r0 => bif asB r0.fst then (Option.bind (Γ 22 [nI x.Version, nI 0, nI 1000000000] []) fun r2 => bif asB r2.fst then (Option.bind (Γ 200 [slIntS x.Line, slIntS x.Grants] []) fun r4 => bif asB r4.fst then (bif x.Closed then (some (AV.B !decide (0 < zN x.Line.length), [])) else (some (AV.B true, []))) else (some (AV.B false, []))) else (some (AV.B false, []))) else (some (AV.B false, [])) := by kernel_rfl
theorem e76 (Γ : Orc) (H : Hd) (x : VCell) : ent Tryz.prog cfg Γ 76 H [slCell x] [] =
 Option.bind (Γ 155 [slMsg x.Val] []) fun r0 => bif asB r0.fst then (Option.bind (Γ 148 [nI x.Version] []) fun r2 => bif asB r2.fst then (Option.bind (Γ 147 [slIntS x.Line, slIntS x.Grants] []) fun r4 => bif asB r4.fst then (bif x.Closed then (some (AV.B !decide (0 < zN x.Line.length), [])) else (some (AV.B true, []))) else (some (AV.B false, []))) else (some (AV.B false, []))) else (some (AV.B false, [])) := by kernel_rfl
theorem e44 (Γ : Orc) (H : Hd) (x : VTokens) : ent Tryz.prog cfg Γ 44 H [slTokens x] [] =
 bif !decide (zN x.Parents.length = zN x.Off.length) then (some (AV.B false, [])) else (bif decide (24 < zN x.Parents.length) then (some (AV.B false, [])) else (H P44 (S44 x 0))) := by kernel_rfl
theorem e66 (Γ : Orc) (H : Hd) (x : VTokens) : ent Tryz.prog cfg Γ 66 H [slTokens x] [] =
 bif !decide (zN x.Parents.length = zN x.Off.length) then (some (AV.B false, [])) else (bif decide (24 < zN x.Parents.length) then (some (AV.B false, [])) else (H P66 (S66 x x.Parents (zN x.Parents.length) 0))) := by kernel_rfl
theorem e45 (Γ : Orc) (H : Hd) (x : VClock) : ent Tryz.prog cfg Γ 45 H [slClock x] [] =
 Option.bind (Γ 22 [nI x.Now, nI 0, nI 1000000000] []) fun r0 => bif !asB r0.fst then (some (AV.B false, [])) else (bif decide (40 < zN x.Timers.length) then (some (AV.B false, [])) else (H P45 (S45 x 0))) := by kernel_rfl
theorem e67 (Γ : Orc) (H : Hd) (x : VClock) : ent Tryz.prog cfg Γ 67 H [slClock x] [] =
 H P67 (S67 x x.Timers (zN x.Timers.length) 0) := by kernel_rfl
theorem e120 (Γ : Orc) (H : Hd) (x : VRing) : ent Tryz.prog cfg Γ 120 H [slRing x] [] =
 Option.bind (Γ 22 [nI x.Cap, nI 1, nI 16] []) fun r0 => bif !asB r0.fst then (some (AV.B false, [])) else (Option.bind (Γ 22 [nI x.Sent, nI 0, nI 1000000000] []) fun r2 => bif !asB r2.fst then (some (AV.B false, [])) else (Option.bind (Γ 22 [nI x.Next, nI 0, nI 1000000000] []) fun r4 => bif !asB r4.fst then (some (AV.B false, [])) else (bif decide (12 < zN x.Subs.length) then (some (AV.B false, [])) else (bif decide (16 < zN x.Items.length) then (some (AV.B false, [])) else (H P120a (S120a x 0)))))) := by kernel_rfl
theorem e144 (Γ : Orc) (H : Hd) (x : VRing) : ent Tryz.prog cfg Γ 144 H [slRing x] [] =
 Option.bind (Γ 86 [nI x.Cap, nI 1, nI 16] []) fun r0 => bif !asB r0.fst then (some (AV.B false, [])) else (Option.bind (Γ 86 [nI x.Sent, nI 0, nI 1000000000] []) fun r2 => bif !asB r2.fst then (some (AV.B false, [])) else (Option.bind (Γ 148 [nI x.Next] []) fun r4 => bif !asB r4.fst then (some (AV.B false, [])) else (bif decide (12 < zN x.Subs.length) then (some (AV.B false, [])) else (H P144 (S144 x x.Subs (zN x.Subs.length) 0))))) := by kernel_rfl
theorem e21 (Γ : Orc) (H : Hd) (x : VHub) : ent Tryz.prog cfg Γ 21 H [slHub x] [] =
 Option.bind (Γ 44 [slTokens x.Tokens] []) fun r0 => bif !asB r0.fst then (some (AV.B false, [])) else (Option.bind (Γ 45 [slClock x.Clock] []) fun r2 => bif !asB r2.fst then (some (AV.B false, [])) else (Option.bind (Γ 46 [slTopicS x.Topics] []) fun r4 => bif !asB r4.fst then (some (AV.B false, [])) else (Option.bind (Γ 47 [slHub x] []) fun r6 => bif !asB r6.fst then (some (AV.B false, [])) else (bif decide (4 < zN x.Merges.length) then (some (AV.B false, [])) else (bif decide (64 < zN x.Users.length) then (some (AV.B false, [])) else (H P21a (S21a x 0))))))) := by kernel_rfl
theorem e27 (Γ : Orc) (H : Hd) (x : VHub) : ent Tryz.prog cfg Γ 27 H [slHub x] [] =
 Option.bind (Γ 66 [slTokens x.Tokens] []) fun r0 => bif asB r0.fst then (Option.bind (Γ 67 [slClock x.Clock] []) fun r2 => bif asB r2.fst then (Option.bind (Γ 68 [slTopicS x.Topics] []) fun r4 => bif asB r4.fst then (Option.bind (Γ 69 [slNotifyS x.Notes, nI 8, AV.clo 70 0 (lstG [])] []) fun r6 => bif asB r6.fst then (Option.bind (Γ 71 [slEventS x.Events, nI 8, AV.clo 72 0 (lstG [])] []) fun r8 => bif asB r8.fst then (Option.bind (Γ 73 [slLatchS x.Latches, nI 8, AV.clo 74 0 (lstG [])] []) fun r10 => bif asB r10.fst then (Option.bind (Γ 75 [slCellS x.Cells, nI 8, AV.clo 76 0 (lstG [])] []) fun r12 => bif asB r12.fst then (Option.bind (Γ 77 [slMergeS x.Merges, nI 4, AV.clo 78 1 (lstG [AV.sp 11 (lstG (clHub x))])] []) fun r14 => bif asB r14.fst then (Option.bind (Γ 80 [slUserS x.Users, nI 64, AV.clo 62 1 (lstG [AV.sp 11 (lstG (clHub x))])] []) fun r16 => some (AV.B (asB r16.fst), [])) else (some (AV.B false, []))) else (some (AV.B false, []))) else (some (AV.B false, []))) else (some (AV.B false, []))) else (some (AV.B false, []))) else (some (AV.B false, []))) else (some (AV.B false, []))) else (some (AV.B false, [])) := by kernel_rfl
theorem e7 (Γ : Orc) (H : Hd) (x : VState) : ent Tryz.prog cfg Γ 7 H [slState x] [] =
 Option.bind (Γ 21 [slHub x.Hub] []) fun r0 => bif !asB r0.fst then (some (AV.B false, [])) else (bif decide (6 < zN x.Clients.length) then (some (AV.B false, [])) else (bif !decide (zN x.Hub.Users.length = zN x.Clients.length) then (some (AV.B false, [])) else (H P7a (S7a x 0)))) := by kernel_rfl
theorem e9 (Γ : Orc) (H : Hd) (x : VState) : ent Tryz.prog cfg Γ 9 H [slState x] [] =
 Option.bind (Γ 27 [slHub x.Hub] []) fun r0 => bif asB r0.fst then (bif decide (zN x.Hub.Users.length = zN x.Clients.length) then (Option.bind (Γ 28 [slClientS x.Clients, nI 6, AV.clo 29 0 (lstG [])] []) fun r3 => some (AV.B (asB r3.fst), [])) else (some (AV.B false, []))) else (some (AV.B false, [])) := by kernel_rfl
theorem e199 (Γ : Orc) (H : Hd) (gs : List VGrant) (a : Int) : ent Tryz.prog cfg Γ 199 H [slGrantS gs, nI a] [] =
 H P199 (S199 gs a 0) := by kernel_rfl
theorem h199 (Γ : Orc) (H : Hd) (gs : List VGrant) (a i : Int) : hed Tryz.prog cfg Γ 199 H [] P199 (S199 gs a i) =
 bif decide (i < zN gs.length) then (bif bif decide (0 ≤ i) then decide (i < zN gs.length) else false then (bif decide ((gs.getD i.toNat zGrant).Who = a) then (some (nI i, [])) else (H P199 (S199 gs a (IntKind.i64.wrap (i + 1))))) else (none)) else (some (nI (-1), [])) := by kernel_rfl
theorem h121 (Γ : Orc) (H : Hd) (x : VNotify) (s i : Int) : hed Tryz.prog cfg Γ 121 H [] P121 (S121 x s i) =
 bif decide (i < zN x.Grants.length) then (bif bif decide (0 ≤ i) then decide (i < zN x.Grants.length) else false then (Option.bind (Γ 198 [nI (x.Grants.getD i.toNat zGrant).Who] []) fun r2 => bif !asB r2.fst then (some (AV.B false, [])) else (Option.bind (Γ 199 [slGrantS x.Grants, nI (x.Grants.getD i.toNat zGrant).Who] []) fun r4 => bif !decide (asI r4.fst = i) then (some (AV.B false, [])) else (Option.bind (Γ 196 [slIntS x.Line, nI (x.Grants.getD i.toNat zGrant).Who] []) fun r6 => bif asB r6.fst then (some (AV.B false, [])) else (bif (x.Grants.getD i.toNat zGrant).One then (H P121 (S121 x (IntKind.i64.wrap (s + 1)) (IntKind.i64.wrap (i + 1)))) else (H P121 (S121 x s (IntKind.i64.wrap (i + 1)))))))) else (none)) else (some (AV.B (decide (s = x.Ones)), [])) := by kernel_rfl
theorem h70 (Γ : Orc) (H : Hd) (x : VNotify) (os : List Int) (gs : List VGrant) (s m i : Int) : hed Tryz.prog cfg Γ 70 H [] P70 (S70 x os gs s m i) =
 (fun t0_ => (fun t1_ => bif decide (i < m) then (bif bif decide (0 ≤ i) then decide (i < zN gs.length) else false then (bif decide (os.length + 1 ≤ 4294967296) && true && true && true && true then (bif (gs.getD i.toNat zGrant).One then (H [true, true, true, false, true] (hdS [(1, AV.pb 65 0), (3, AV.rf 360448), (4, nI (IntKind.i64.wrap (s + 1))), (14, slGrantS gs), (15, nI m), (16, nI (IntKind.i64.wrap (i + 1)))] [(360448, ⟨os.length + 1, 1, fun i_1 => lstG [nI (bif decide (i_1 < os.length) then os.getD i_1 0 else bif decide (i_1 - os.length = 0) then (gs.getD i.toNat zGrant).Who else 0)]⟩)] [(65, 6, (clNotify x))])) else (H [true, true, true, false, true] (hdS [(1, AV.pb 65 0), (3, AV.rf 360448), (4, nI s), (14, slGrantS gs), (15, nI m), (16, nI (IntKind.i64.wrap (i + 1)))] [(360448, ⟨os.length + 1, 1, fun i_1 => lstG [nI (bif decide (i_1 < os.length) then os.getD i_1 0 else bif decide (i_1 - os.length = 0) then (gs.getD i.toNat zGrant).Who else 0)]⟩)] [(65, 6, (clNotify x))]))) else (none)) else (none)) else (bif x.Permit then (Option.bind (Γ 147 [slIntS x.Line, AV.sl os.length 1 (gI os)] []) fun r2 => bif asB r2.fst then (bif x.Permit then (bif !decide (0 < zN x.Line.length) then t0_ else (some (AV.B false, []))) else t0_) else (some (AV.B false, []))) else (Option.bind (Γ 147 [slIntS x.Line, AV.sl os.length 1 (gI os)] []) fun r2 => bif asB r2.fst then (bif x.Permit then (bif !decide (0 < zN x.Line.length) then t1_ else (some (AV.B false, []))) else t1_) else (some (AV.B false, []))))) (Option.bind (Γ 148 [nI x.Ones] []) fun r6 => bif asB r6.fst then (Option.bind (Γ 148 [nI x.Spilt] []) fun r8 => bif asB r8.fst then (Option.bind (Γ 148 [nI x.Taken] []) fun r10 => bif asB r10.fst then (some (AV.B (decide (s = x.Ones)), [])) else (some (AV.B false, []))) else (some (AV.B false, []))) else (some (AV.B false, [])))) (Option.bind (Γ 148 [nI x.Ones] []) fun r6 => bif asB r6.fst then (Option.bind (Γ 148 [nI x.Spilt] []) fun r8 => bif asB r8.fst then (Option.bind (Γ 148 [nI x.Taken] []) fun r10 => bif asB r10.fst then (some (AV.B (decide (IntKind.i64.wrap (s + 1) = x.Ones)), [])) else (some (AV.B false, []))) else (some (AV.B false, []))) else (some (AV.B false, []))) := by kernel_rfl
theorem h44 (Γ : Orc) (H : Hd) (x : VTokens) (i : Int) : hed Tryz.prog cfg Γ 44 H [] P44 (S44 x i) =
 bif decide (i < zN x.Parents.length) then (bif bif decide (0 ≤ i) then decide (i < zN x.Parents.length) else false then (Option.bind (Γ 22 [nI (x.Parents.getD i.toNat 0), nI (-1), nI (IntKind.i64.wrap (i - 1))] []) fun r2 => bif !asB r2.fst then (some (AV.B false, [])) else (bif decide (0 ≤ x.Parents.getD i.toNat 0) then (bif bif decide (0 ≤ x.Parents.getD i.toNat 0) then decide (x.Parents.getD i.toNat 0 < zN x.Off.length) else false then (bif x.Off.getD (x.Parents.getD i.toNat 0).toNat false then (bif bif decide (0 ≤ i) then decide (i < zN x.Off.length) else false then (bif !x.Off.getD i.toNat false then (some (AV.B false, [])) else (H P44 (S44 x (IntKind.i64.wrap (i + 1))))) else (none)) else (H P44 (S44 x (IntKind.i64.wrap (i + 1))))) else (none)) else (H P44 (S44 x (IntKind.i64.wrap (i + 1)))))) else (none)) else (some (AV.B true, [])) := by kernel_rfl
theorem h66 (Γ : Orc) (H : Hd) (x : VTokens) (xs : List Int) (m i : Int) : hed Tryz.prog cfg Γ 66 H [] P66 (S66 x xs m i) =
 (fun t0_ => bif decide (i < m) then (bif bif decide (0 ≤ i) then decide (i < zN xs.length) else false then (Option.bind (Γ 86 [nI (xs.getD i.toNat 0), nI (-1), nI (IntKind.i64.wrap (i - 1))] []) fun r2 => bif !asB r2.fst then (some (AV.B false, [])) else (bif decide (0 ≤ xs.getD i.toNat 0) then (bif bif decide (0 ≤ xs.getD i.toNat 0) then decide (xs.getD i.toNat 0 < zN x.Off.length) else false then (bif x.Off.getD (xs.getD i.toNat 0).toNat false then (bif bif decide (0 ≤ i) then decide (i < zN x.Off.length) else false then (bif !x.Off.getD i.toNat false then (some (AV.B false, [])) else t0_) else (none)) else t0_) else (none)) else t0_)) else (none)) else (some (AV.B true, []))) (H P66 (S66 x xs m (IntKind.i64.wrap (i + 1)))) := by kernel_rfl
end Go.Fw
