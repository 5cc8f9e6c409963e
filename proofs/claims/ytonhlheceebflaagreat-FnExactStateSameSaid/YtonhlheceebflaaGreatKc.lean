/- Trees of the functions' bodies, as printed by the framework's evaluation. -/
import Derived.Test.YtonhlheceebflaaGreatProg
import Derived.Test.YtonhlheceebflaaGreatFyB
import Derived.KernelRfl
import Derived.Test.YtonhlheceebflaaGreatK
set_option linter.unusedVariables false
set_option maxRecDepth 100000
namespace Go.Fw
open Go.Proofs
theorem h77b (Γ : Orc) (H : Hd) (x y : VRing) (i : Int) : hed Tryz.prog cfg Γ 77 H [] P77b (S77b x y i) =
  bif decide (i < zN x.Subs.length) then
    (bif bif decide (0 ≤ i) then decide (i < zN x.Subs.length) else false then
      (and2
      (bif bif decide (0 ≤ i) then decide (i < zN y.Subs.length) else false then
          (and2
          (and2
            (bif !decide ((x.Subs.getD i.toNat zSub).Id = (y.Subs.getD i.toNat zSub).Id) then
                (some (AV.B false, []))
              else
                (bif !decide ((x.Subs.getD i.toNat zSub).Start = (y.Subs.getD i.toNat zSub).Start) then
                  (some (AV.B false, []))
                else
                  (bif !decide ((x.Subs.getD i.toNat zSub).Cursor = (y.Subs.getD i.toNat zSub).Cursor) then
                    (some (AV.B false, []))
                  else
                    (bif !decide ((x.Subs.getD i.toNat zSub).Got = (y.Subs.getD i.toNat zSub).Got) then
                      (some (AV.B false, []))
                    else
                      (bif !decide ((x.Subs.getD i.toNat zSub).Lost = (y.Subs.getD i.toNat zSub).Lost) then
                        (some (AV.B false, []))
                      else
                        (bif !decide ((x.Subs.getD i.toNat zSub).Passed = (y.Subs.getD i.toNat zSub).Passed) then
                          (some (AV.B false, []))
                        else
                          (Option.bind (Γ 28 [slTermS (x.Subs.getD i.toNat zSub).Filter, slTermS (y.Subs.getD i.toNat zSub).Filter] []) fun r12 =>
                          bif !asB r12.fst then
                            (some (AV.B false, []))
                          else
                            (H P77b (S77b x y (IntKind.i64.wrap (i + 1)))))))))))
            (bif !decide ((x.Subs.getD i.toNat zSub).Id = (y.Subs.getD i.toNat zSub).Id) then
                (some (AV.B false, []))
              else
                (bif !decide ((x.Subs.getD i.toNat zSub).Start = (y.Subs.getD i.toNat zSub).Start) then
                  (some (AV.B false, []))
                else
                  (bif !decide ((x.Subs.getD i.toNat zSub).Cursor = (y.Subs.getD i.toNat zSub).Cursor) then
                    (some (AV.B false, []))
                  else
                    (bif !decide ((x.Subs.getD i.toNat zSub).Got = (y.Subs.getD i.toNat zSub).Got) then
                      (some (AV.B false, []))
                    else
                      (bif !decide ((x.Subs.getD i.toNat zSub).Lost = (y.Subs.getD i.toNat zSub).Lost) then
                        (some (AV.B false, []))
                      else
                        (bif !decide ((x.Subs.getD i.toNat zSub).Passed = (y.Subs.getD i.toNat zSub).Passed) then
                          (some (AV.B false, []))
                        else
                          (Option.bind (Γ 28 [slTermS (x.Subs.getD i.toNat zSub).Filter, slTermS (y.Subs.getD i.toNat zSub).Filter] []) fun r12 =>
                          bif !asB r12.fst then
                            (some (AV.B false, []))
                          else
                            (H P77b (S77b x y (IntKind.i64.wrap (i + 1))))))))))))
          (and2
            (and2
              (bif !decide ((x.Subs.getD i.toNat zSub).Id = (y.Subs.getD i.toNat zSub).Id) then
                  (some (AV.B false, []))
                else
                  (bif !decide ((x.Subs.getD i.toNat zSub).Start = (y.Subs.getD i.toNat zSub).Start) then
                    (some (AV.B false, []))
                  else
                    (bif !decide ((x.Subs.getD i.toNat zSub).Cursor = (y.Subs.getD i.toNat zSub).Cursor) then
                      (some (AV.B false, []))
                    else
                      (bif !decide ((x.Subs.getD i.toNat zSub).Got = (y.Subs.getD i.toNat zSub).Got) then
                        (some (AV.B false, []))
                      else
                        (bif !decide ((x.Subs.getD i.toNat zSub).Lost = (y.Subs.getD i.toNat zSub).Lost) then
                          (some (AV.B false, []))
                        else
                          (bif !decide ((x.Subs.getD i.toNat zSub).Passed = (y.Subs.getD i.toNat zSub).Passed) then
                            (some (AV.B false, []))
                          else
                            (Option.bind (Γ 28 [slTermS (x.Subs.getD i.toNat zSub).Filter, slTermS (y.Subs.getD i.toNat zSub).Filter] []) fun r13 =>
                            bif !asB r13.fst then
                              (some (AV.B false, []))
                            else
                              (H P77b (S77b x y (IntKind.i64.wrap (i + 1)))))))))))
              (and2
                (bif !decide ((x.Subs.getD i.toNat zSub).Id = (y.Subs.getD i.toNat zSub).Id) then
                    (some (AV.B false, []))
                  else
                    (bif !decide ((x.Subs.getD i.toNat zSub).Start = (y.Subs.getD i.toNat zSub).Start) then
                      (some (AV.B false, []))
                    else
                      (bif !decide ((x.Subs.getD i.toNat zSub).Cursor = (y.Subs.getD i.toNat zSub).Cursor) then
                        (some (AV.B false, []))
                      else
                        (bif !decide ((x.Subs.getD i.toNat zSub).Got = (y.Subs.getD i.toNat zSub).Got) then
                          (some (AV.B false, []))
                        else
                          (bif !decide ((x.Subs.getD i.toNat zSub).Lost = (y.Subs.getD i.toNat zSub).Lost) then
                            (some (AV.B false, []))
                          else
                            (bif !decide ((x.Subs.getD i.toNat zSub).Passed = (y.Subs.getD i.toNat zSub).Passed) then
                              (some (AV.B false, []))
                            else
                              (Option.bind (Γ 28 [slTermS (x.Subs.getD i.toNat zSub).Filter, slTermS (y.Subs.getD i.toNat zSub).Filter] []) fun r14 =>
                              bif !asB r14.fst then
                                (some (AV.B false, []))
                              else
                                (H P77b (S77b x y (IntKind.i64.wrap (i + 1)))))))))))
                (bif !decide ((x.Subs.getD i.toNat zSub).Id = (y.Subs.getD i.toNat zSub).Id) then
                    (some (AV.B false, []))
                  else
                    (bif !decide ((x.Subs.getD i.toNat zSub).Start = (y.Subs.getD i.toNat zSub).Start) then
                      (some (AV.B false, []))
                    else
                      (bif !decide ((x.Subs.getD i.toNat zSub).Cursor = (y.Subs.getD i.toNat zSub).Cursor) then
                        (some (AV.B false, []))
                      else
                        (bif !decide ((x.Subs.getD i.toNat zSub).Got = (y.Subs.getD i.toNat zSub).Got) then
                          (some (AV.B false, []))
                        else
                          (bif !decide ((x.Subs.getD i.toNat zSub).Lost = (y.Subs.getD i.toNat zSub).Lost) then
                            (some (AV.B false, []))
                          else
                            (bif !decide ((x.Subs.getD i.toNat zSub).Passed = (y.Subs.getD i.toNat zSub).Passed) then
                              (some (AV.B false, []))
                            else
                              (Option.bind (Γ 28 [slTermS (x.Subs.getD i.toNat zSub).Filter, slTermS (y.Subs.getD i.toNat zSub).Filter] []) fun r14 =>
                              bif !asB r14.fst then
                                (some (AV.B false, []))
                              else
                                (H P77b (S77b x y (IntKind.i64.wrap (i + 1)))))))))))))
            (and2
              (bif !decide ((x.Subs.getD i.toNat zSub).Id = (y.Subs.getD i.toNat zSub).Id) then
                  (some (AV.B false, []))
                else
                  (bif !decide ((x.Subs.getD i.toNat zSub).Start = (y.Subs.getD i.toNat zSub).Start) then
                    (some (AV.B false, []))
                  else
                    (bif !decide ((x.Subs.getD i.toNat zSub).Cursor = (y.Subs.getD i.toNat zSub).Cursor) then
                      (some (AV.B false, []))
                    else
                      (bif !decide ((x.Subs.getD i.toNat zSub).Got = (y.Subs.getD i.toNat zSub).Got) then
                        (some (AV.B false, []))
                      else
                        (bif !decide ((x.Subs.getD i.toNat zSub).Lost = (y.Subs.getD i.toNat zSub).Lost) then
                          (some (AV.B false, []))
                        else
                          (bif !decide ((x.Subs.getD i.toNat zSub).Passed = (y.Subs.getD i.toNat zSub).Passed) then
                            (some (AV.B false, []))
                          else
                            (Option.bind (Γ 28 [slTermS (x.Subs.getD i.toNat zSub).Filter, slTermS (y.Subs.getD i.toNat zSub).Filter] []) fun r13 =>
                            bif !asB r13.fst then
                              (some (AV.B false, []))
                            else
                              (H P77b (S77b x y (IntKind.i64.wrap (i + 1)))))))))))
              (and2
                (bif !decide ((x.Subs.getD i.toNat zSub).Id = (y.Subs.getD i.toNat zSub).Id) then
                    (some (AV.B false, []))
                  else
                    (bif !decide ((x.Subs.getD i.toNat zSub).Start = (y.Subs.getD i.toNat zSub).Start) then
                      (some (AV.B false, []))
                    else
                      (bif !decide ((x.Subs.getD i.toNat zSub).Cursor = (y.Subs.getD i.toNat zSub).Cursor) then
                        (some (AV.B false, []))
                      else
                        (bif !decide ((x.Subs.getD i.toNat zSub).Got = (y.Subs.getD i.toNat zSub).Got) then
                          (some (AV.B false, []))
                        else
                          (bif !decide ((x.Subs.getD i.toNat zSub).Lost = (y.Subs.getD i.toNat zSub).Lost) then
                            (some (AV.B false, []))
                          else
                            (bif !decide ((x.Subs.getD i.toNat zSub).Passed = (y.Subs.getD i.toNat zSub).Passed) then
                              (some (AV.B false, []))
                            else
                              (Option.bind (Γ 28 [slTermS (x.Subs.getD i.toNat zSub).Filter, slTermS (y.Subs.getD i.toNat zSub).Filter] []) fun r14 =>
                              bif !asB r14.fst then
                                (some (AV.B false, []))
                              else
                                (H P77b (S77b x y (IntKind.i64.wrap (i + 1)))))))))))
                (bif !decide ((x.Subs.getD i.toNat zSub).Id = (y.Subs.getD i.toNat zSub).Id) then
                    (some (AV.B false, []))
                  else
                    (bif !decide ((x.Subs.getD i.toNat zSub).Start = (y.Subs.getD i.toNat zSub).Start) then
                      (some (AV.B false, []))
                    else
                      (bif !decide ((x.Subs.getD i.toNat zSub).Cursor = (y.Subs.getD i.toNat zSub).Cursor) then
                        (some (AV.B false, []))
                      else
                        (bif !decide ((x.Subs.getD i.toNat zSub).Got = (y.Subs.getD i.toNat zSub).Got) then
                          (some (AV.B false, []))
                        else
                          (bif !decide ((x.Subs.getD i.toNat zSub).Lost = (y.Subs.getD i.toNat zSub).Lost) then
                            (some (AV.B false, []))
                          else
                            (bif !decide ((x.Subs.getD i.toNat zSub).Passed = (y.Subs.getD i.toNat zSub).Passed) then
                              (some (AV.B false, []))
                            else
                              (Option.bind (Γ 28 [slTermS (x.Subs.getD i.toNat zSub).Filter, slTermS (y.Subs.getD i.toNat zSub).Filter] []) fun r14 =>
                              bif !asB r14.fst then
                                (some (AV.B false, []))
                              else
                                (H P77b (S77b x y (IntKind.i64.wrap (i + 1)))))))))))))))
        else
          (none))
      (and2
        (and2
          (bif bif decide (0 ≤ i) then decide (i < zN y.Subs.length) else false then
              (and2
              (bif !decide ((x.Subs.getD i.toNat zSub).Id = (y.Subs.getD i.toNat zSub).Id) then
                  (some (AV.B false, []))
                else
                  (bif !decide ((x.Subs.getD i.toNat zSub).Start = (y.Subs.getD i.toNat zSub).Start) then
                    (some (AV.B false, []))
                  else
                    (bif !decide ((x.Subs.getD i.toNat zSub).Cursor = (y.Subs.getD i.toNat zSub).Cursor) then
                      (some (AV.B false, []))
                    else
                      (bif !decide ((x.Subs.getD i.toNat zSub).Got = (y.Subs.getD i.toNat zSub).Got) then
                        (some (AV.B false, []))
                      else
                        (bif !decide ((x.Subs.getD i.toNat zSub).Lost = (y.Subs.getD i.toNat zSub).Lost) then
                          (some (AV.B false, []))
                        else
                          (bif !decide ((x.Subs.getD i.toNat zSub).Passed = (y.Subs.getD i.toNat zSub).Passed) then
                            (some (AV.B false, []))
                          else
                            (Option.bind (Γ 28 [slTermS (x.Subs.getD i.toNat zSub).Filter, slTermS (y.Subs.getD i.toNat zSub).Filter] []) fun r13 =>
                            bif !asB r13.fst then
                              (some (AV.B false, []))
                            else
                              (H P77b (S77b x y (IntKind.i64.wrap (i + 1)))))))))))
              (and2
                (bif !decide ((x.Subs.getD i.toNat zSub).Id = (y.Subs.getD i.toNat zSub).Id) then
                    (some (AV.B false, []))
                  else
                    (bif !decide ((x.Subs.getD i.toNat zSub).Start = (y.Subs.getD i.toNat zSub).Start) then
                      (some (AV.B false, []))
                    else
                      (bif !decide ((x.Subs.getD i.toNat zSub).Cursor = (y.Subs.getD i.toNat zSub).Cursor) then
                        (some (AV.B false, []))
                      else
                        (bif !decide ((x.Subs.getD i.toNat zSub).Got = (y.Subs.getD i.toNat zSub).Got) then
                          (some (AV.B false, []))
                        else
                          (bif !decide ((x.Subs.getD i.toNat zSub).Lost = (y.Subs.getD i.toNat zSub).Lost) then
                            (some (AV.B false, []))
                          else
                            (bif !decide ((x.Subs.getD i.toNat zSub).Passed = (y.Subs.getD i.toNat zSub).Passed) then
                              (some (AV.B false, []))
                            else
                              (Option.bind (Γ 28 [slTermS (x.Subs.getD i.toNat zSub).Filter, slTermS (y.Subs.getD i.toNat zSub).Filter] []) fun r14 =>
                              bif !asB r14.fst then
                                (some (AV.B false, []))
                              else
                                (H P77b (S77b x y (IntKind.i64.wrap (i + 1)))))))))))
                (bif !decide ((x.Subs.getD i.toNat zSub).Id = (y.Subs.getD i.toNat zSub).Id) then
                    (some (AV.B false, []))
                  else
                    (bif !decide ((x.Subs.getD i.toNat zSub).Start = (y.Subs.getD i.toNat zSub).Start) then
                      (some (AV.B false, []))
                    else
                      (bif !decide ((x.Subs.getD i.toNat zSub).Cursor = (y.Subs.getD i.toNat zSub).Cursor) then
                        (some (AV.B false, []))
                      else
                        (bif !decide ((x.Subs.getD i.toNat zSub).Got = (y.Subs.getD i.toNat zSub).Got) then
                          (some (AV.B false, []))
                        else
                          (bif !decide ((x.Subs.getD i.toNat zSub).Lost = (y.Subs.getD i.toNat zSub).Lost) then
                            (some (AV.B false, []))
                          else
                            (bif !decide ((x.Subs.getD i.toNat zSub).Passed = (y.Subs.getD i.toNat zSub).Passed) then
                              (some (AV.B false, []))
                            else
                              (Option.bind (Γ 28 [slTermS (x.Subs.getD i.toNat zSub).Filter, slTermS (y.Subs.getD i.toNat zSub).Filter] []) fun r14 =>
                              bif !asB r14.fst then
                                (some (AV.B false, []))
                              else
                                (H P77b (S77b x y (IntKind.i64.wrap (i + 1)))))))))))))
            else
              (none))
          (and2
            (bif bif decide (0 ≤ i) then decide (i < zN y.Subs.length) else false then
                (and2
                (bif !decide ((x.Subs.getD i.toNat zSub).Id = (y.Subs.getD i.toNat zSub).Id) then
                    (some (AV.B false, []))
                  else
                    (bif !decide ((x.Subs.getD i.toNat zSub).Start = (y.Subs.getD i.toNat zSub).Start) then
                      (some (AV.B false, []))
                    else
                      (bif !decide ((x.Subs.getD i.toNat zSub).Cursor = (y.Subs.getD i.toNat zSub).Cursor) then
                        (some (AV.B false, []))
                      else
                        (bif !decide ((x.Subs.getD i.toNat zSub).Got = (y.Subs.getD i.toNat zSub).Got) then
                          (some (AV.B false, []))
                        else
                          (bif !decide ((x.Subs.getD i.toNat zSub).Lost = (y.Subs.getD i.toNat zSub).Lost) then
                            (some (AV.B false, []))
                          else
                            (bif !decide ((x.Subs.getD i.toNat zSub).Passed = (y.Subs.getD i.toNat zSub).Passed) then
                              (some (AV.B false, []))
                            else
                              (Option.bind (Γ 28 [slTermS (x.Subs.getD i.toNat zSub).Filter, slTermS (y.Subs.getD i.toNat zSub).Filter] []) fun r14 =>
                              bif !asB r14.fst then
                                (some (AV.B false, []))
                              else
                                (H P77b (S77b x y (IntKind.i64.wrap (i + 1)))))))))))
                (bif !decide ((x.Subs.getD i.toNat zSub).Id = (y.Subs.getD i.toNat zSub).Id) then
                    (some (AV.B false, []))
                  else
                    (bif !decide ((x.Subs.getD i.toNat zSub).Start = (y.Subs.getD i.toNat zSub).Start) then
                      (some (AV.B false, []))
                    else
                      (bif !decide ((x.Subs.getD i.toNat zSub).Cursor = (y.Subs.getD i.toNat zSub).Cursor) then
                        (some (AV.B false, []))
                      else
                        (bif !decide ((x.Subs.getD i.toNat zSub).Got = (y.Subs.getD i.toNat zSub).Got) then
                          (some (AV.B false, []))
                        else
                          (bif !decide ((x.Subs.getD i.toNat zSub).Lost = (y.Subs.getD i.toNat zSub).Lost) then
                            (some (AV.B false, []))
                          else
                            (bif !decide ((x.Subs.getD i.toNat zSub).Passed = (y.Subs.getD i.toNat zSub).Passed) then
                              (some (AV.B false, []))
                            else
                              (Option.bind (Γ 28 [slTermS (x.Subs.getD i.toNat zSub).Filter, slTermS (y.Subs.getD i.toNat zSub).Filter] []) fun r14 =>
                              bif !asB r14.fst then
                                (some (AV.B false, []))
                              else
                                (H P77b (S77b x y (IntKind.i64.wrap (i + 1))))))))))))
              else
                (none))
            (bif bif decide (0 ≤ i) then decide (i < zN y.Subs.length) else false then
                (bif !decide ((x.Subs.getD i.toNat zSub).Id = (y.Subs.getD i.toNat zSub).Id) then
                  (some (AV.B false, []))
                else
                  (bif !decide ((x.Subs.getD i.toNat zSub).Start = (y.Subs.getD i.toNat zSub).Start) then
                    (some (AV.B false, []))
                  else
                    (bif !decide ((x.Subs.getD i.toNat zSub).Cursor = (y.Subs.getD i.toNat zSub).Cursor) then
                      (some (AV.B false, []))
                    else
                      (bif !decide ((x.Subs.getD i.toNat zSub).Got = (y.Subs.getD i.toNat zSub).Got) then
                        (some (AV.B false, []))
                      else
                        (bif !decide ((x.Subs.getD i.toNat zSub).Lost = (y.Subs.getD i.toNat zSub).Lost) then
                          (some (AV.B false, []))
                        else
                          (bif !decide ((x.Subs.getD i.toNat zSub).Passed = (y.Subs.getD i.toNat zSub).Passed) then
                            (some (AV.B false, []))
                          else
                            (Option.bind (Γ 28 [slTermS (x.Subs.getD i.toNat zSub).Filter, slTermS (y.Subs.getD i.toNat zSub).Filter] []) fun r13 =>
                            bif !asB r13.fst then
                              (some (AV.B false, []))
                            else
                              (H P77b (S77b x y (IntKind.i64.wrap (i + 1)))))))))))
              else
                (none))))
        (and2
          (bif bif decide (0 ≤ i) then decide (i < zN y.Subs.length) else false then
              (and2
              (bif !decide ((x.Subs.getD i.toNat zSub).Id = (y.Subs.getD i.toNat zSub).Id) then
                  (some (AV.B false, []))
                else
                  (bif !decide ((x.Subs.getD i.toNat zSub).Start = (y.Subs.getD i.toNat zSub).Start) then
                    (some (AV.B false, []))
                  else
                    (bif !decide ((x.Subs.getD i.toNat zSub).Cursor = (y.Subs.getD i.toNat zSub).Cursor) then
                      (some (AV.B false, []))
                    else
                      (bif !decide ((x.Subs.getD i.toNat zSub).Got = (y.Subs.getD i.toNat zSub).Got) then
                        (some (AV.B false, []))
                      else
                        (bif !decide ((x.Subs.getD i.toNat zSub).Lost = (y.Subs.getD i.toNat zSub).Lost) then
                          (some (AV.B false, []))
                        else
                          (bif !decide ((x.Subs.getD i.toNat zSub).Passed = (y.Subs.getD i.toNat zSub).Passed) then
                            (some (AV.B false, []))
                          else
                            (Option.bind (Γ 28 [slTermS (x.Subs.getD i.toNat zSub).Filter, slTermS (y.Subs.getD i.toNat zSub).Filter] []) fun r13 =>
                            bif !asB r13.fst then
                              (some (AV.B false, []))
                            else
                              (H P77b (S77b x y (IntKind.i64.wrap (i + 1)))))))))))
              (and2
                (bif !decide ((x.Subs.getD i.toNat zSub).Id = (y.Subs.getD i.toNat zSub).Id) then
                    (some (AV.B false, []))
                  else
                    (bif !decide ((x.Subs.getD i.toNat zSub).Start = (y.Subs.getD i.toNat zSub).Start) then
                      (some (AV.B false, []))
                    else
                      (bif !decide ((x.Subs.getD i.toNat zSub).Cursor = (y.Subs.getD i.toNat zSub).Cursor) then
                        (some (AV.B false, []))
                      else
                        (bif !decide ((x.Subs.getD i.toNat zSub).Got = (y.Subs.getD i.toNat zSub).Got) then
                          (some (AV.B false, []))
                        else
                          (bif !decide ((x.Subs.getD i.toNat zSub).Lost = (y.Subs.getD i.toNat zSub).Lost) then
                            (some (AV.B false, []))
                          else
                            (bif !decide ((x.Subs.getD i.toNat zSub).Passed = (y.Subs.getD i.toNat zSub).Passed) then
                              (some (AV.B false, []))
                            else
                              (Option.bind (Γ 28 [slTermS (x.Subs.getD i.toNat zSub).Filter, slTermS (y.Subs.getD i.toNat zSub).Filter] []) fun r14 =>
                              bif !asB r14.fst then
                                (some (AV.B false, []))
                              else
                                (H P77b (S77b x y (IntKind.i64.wrap (i + 1)))))))))))
                (bif !decide ((x.Subs.getD i.toNat zSub).Id = (y.Subs.getD i.toNat zSub).Id) then
                    (some (AV.B false, []))
                  else
                    (bif !decide ((x.Subs.getD i.toNat zSub).Start = (y.Subs.getD i.toNat zSub).Start) then
                      (some (AV.B false, []))
                    else
                      (bif !decide ((x.Subs.getD i.toNat zSub).Cursor = (y.Subs.getD i.toNat zSub).Cursor) then
                        (some (AV.B false, []))
                      else
                        (bif !decide ((x.Subs.getD i.toNat zSub).Got = (y.Subs.getD i.toNat zSub).Got) then
                          (some (AV.B false, []))
                        else
                          (bif !decide ((x.Subs.getD i.toNat zSub).Lost = (y.Subs.getD i.toNat zSub).Lost) then
                            (some (AV.B false, []))
                          else
                            (bif !decide ((x.Subs.getD i.toNat zSub).Passed = (y.Subs.getD i.toNat zSub).Passed) then
                              (some (AV.B false, []))
                            else
                              (Option.bind (Γ 28 [slTermS (x.Subs.getD i.toNat zSub).Filter, slTermS (y.Subs.getD i.toNat zSub).Filter] []) fun r14 =>
                              bif !asB r14.fst then
                                (some (AV.B false, []))
                              else
                                (H P77b (S77b x y (IntKind.i64.wrap (i + 1)))))))))))))
            else
              (none))
          (and2
            (bif bif decide (0 ≤ i) then decide (i < zN y.Subs.length) else false then
                (and2
                (bif !decide ((x.Subs.getD i.toNat zSub).Id = (y.Subs.getD i.toNat zSub).Id) then
                    (some (AV.B false, []))
                  else
                    (bif !decide ((x.Subs.getD i.toNat zSub).Start = (y.Subs.getD i.toNat zSub).Start) then
                      (some (AV.B false, []))
                    else
                      (bif !decide ((x.Subs.getD i.toNat zSub).Cursor = (y.Subs.getD i.toNat zSub).Cursor) then
                        (some (AV.B false, []))
                      else
                        (bif !decide ((x.Subs.getD i.toNat zSub).Got = (y.Subs.getD i.toNat zSub).Got) then
                          (some (AV.B false, []))
                        else
                          (bif !decide ((x.Subs.getD i.toNat zSub).Lost = (y.Subs.getD i.toNat zSub).Lost) then
                            (some (AV.B false, []))
                          else
                            (bif !decide ((x.Subs.getD i.toNat zSub).Passed = (y.Subs.getD i.toNat zSub).Passed) then
                              (some (AV.B false, []))
                            else
                              (Option.bind (Γ 28 [slTermS (x.Subs.getD i.toNat zSub).Filter, slTermS (y.Subs.getD i.toNat zSub).Filter] []) fun r14 =>
                              bif !asB r14.fst then
                                (some (AV.B false, []))
                              else
                                (H P77b (S77b x y (IntKind.i64.wrap (i + 1)))))))))))
                (bif !decide ((x.Subs.getD i.toNat zSub).Id = (y.Subs.getD i.toNat zSub).Id) then
                    (some (AV.B false, []))
                  else
                    (bif !decide ((x.Subs.getD i.toNat zSub).Start = (y.Subs.getD i.toNat zSub).Start) then
                      (some (AV.B false, []))
                    else
                      (bif !decide ((x.Subs.getD i.toNat zSub).Cursor = (y.Subs.getD i.toNat zSub).Cursor) then
                        (some (AV.B false, []))
                      else
                        (bif !decide ((x.Subs.getD i.toNat zSub).Got = (y.Subs.getD i.toNat zSub).Got) then
                          (some (AV.B false, []))
                        else
                          (bif !decide ((x.Subs.getD i.toNat zSub).Lost = (y.Subs.getD i.toNat zSub).Lost) then
                            (some (AV.B false, []))
                          else
                            (bif !decide ((x.Subs.getD i.toNat zSub).Passed = (y.Subs.getD i.toNat zSub).Passed) then
                              (some (AV.B false, []))
                            else
                              (Option.bind (Γ 28 [slTermS (x.Subs.getD i.toNat zSub).Filter, slTermS (y.Subs.getD i.toNat zSub).Filter] []) fun r14 =>
                              bif !asB r14.fst then
                                (some (AV.B false, []))
                              else
                                (H P77b (S77b x y (IntKind.i64.wrap (i + 1))))))))))))
              else
                (none))
            (bif bif decide (0 ≤ i) then decide (i < zN y.Subs.length) else false then
                (bif !decide ((x.Subs.getD i.toNat zSub).Id = (y.Subs.getD i.toNat zSub).Id) then
                  (some (AV.B false, []))
                else
                  (bif !decide ((x.Subs.getD i.toNat zSub).Start = (y.Subs.getD i.toNat zSub).Start) then
                    (some (AV.B false, []))
                  else
                    (bif !decide ((x.Subs.getD i.toNat zSub).Cursor = (y.Subs.getD i.toNat zSub).Cursor) then
                      (some (AV.B false, []))
                    else
                      (bif !decide ((x.Subs.getD i.toNat zSub).Got = (y.Subs.getD i.toNat zSub).Got) then
                        (some (AV.B false, []))
                      else
                        (bif !decide ((x.Subs.getD i.toNat zSub).Lost = (y.Subs.getD i.toNat zSub).Lost) then
                          (some (AV.B false, []))
                        else
                          (bif !decide ((x.Subs.getD i.toNat zSub).Passed = (y.Subs.getD i.toNat zSub).Passed) then
                            (some (AV.B false, []))
                          else
                            (Option.bind (Γ 28 [slTermS (x.Subs.getD i.toNat zSub).Filter, slTermS (y.Subs.getD i.toNat zSub).Filter] []) fun r13 =>
                            bif !asB r13.fst then
                              (some (AV.B false, []))
                            else
                              (H P77b (S77b x y (IntKind.i64.wrap (i + 1)))))))))))
              else
                (none))))))
    else
      (none))
  else
    (some (AV.B true, [])) := by kernel_rfl
theorem h5c (Γ : Orc) (H : Hd) (x y : VState) (i : Int) (p q : VClient) : hed Tryz.prog cfg Γ 5 H [] P5c (S5c x y i p q) =
  bif !decide (p.At = q.At) then
    (some (AV.B false, []))
  else
    (bif !p.Waiting == q.Waiting then
      (some (AV.B false, []))
    else
      (bif !decide (zN p.Prog.length = zN q.Prog.length) then
        (some (AV.B false, []))
      else
        (H P5b (S5b x y i p q 0)))) := by kernel_rfl
theorem e3 (Γ : Orc) (H : Hd) (x y : VState) : ent Tryz.prog cfg Γ 3 H [slState x, slState y] [] =
  Option.bind (Γ 4 [slState x, nI 1048576] []) fun r0 =>
  bif decide (asI r0.fst < 0) then
    (some (AV.B true, []))
  else
    (Option.bind (Γ 4 [slState y, nI (asI r0.fst)] []) fun r2 =>
    bif decide (asI r2.fst < 0) then
      (some (AV.B true, []))
    else
      (and2
      (Option.bind (Γ 6 [slState x] []) fun r5 =>
        Option.bind (Γ 6 [slState y] []) fun r6 =>
        Option.bind (Γ 5 [AV.ag 12 (lstG [vslIntS (asA r5.fst 0), vslBoolS (asA r5.fst 1), nI (asI (asA r5.fst 2)), vslTimerS (asA r5.fst 3), vslNotifyS (asA r5.fst 4), vslEventS (asA r5.fst 5), vslLatchS (asA r5.fst 6), vslCellS (asA r5.fst 7), AV.sl (asN (asA r5.fst 8)) 9 fun i => lstG [AV.S (asS (asG (asA r5.fst 8) i 0)), nI (asI (asG (asA r5.fst 8) i 1)), nI (asI (asG (asA r5.fst 8) i 2)), vslMsgS (asG (asA r5.fst 8) i 3), nI (asI (asG (asA r5.fst 8) i 4)), AV.sl (asN (asG (asA r5.fst 8) i 5)) 7 fun i_1 => lstG [nI (asI (asG (asG (asA r5.fst 8) i 5) i_1 0)), nI (asI (asG (asG (asA r5.fst 8) i 5) i_1 1)), nI (asI (asG (asG (asA r5.fst 8) i 5) i_1 2)), nI (asI (asG (asG (asA r5.fst 8) i 5) i_1 3)), nI (asI (asG (asG (asA r5.fst 8) i 5) i_1 4)), nI (asI (asG (asG (asA r5.fst 8) i 5) i_1 5)), vslMsgS (asG (asG (asA r5.fst 8) i 5) i_1 6)], vslIntS (asG (asA r5.fst 8) i 6), vslIntS (asG (asA r5.fst 8) i 7), AV.B (asB (asG (asA r5.fst 8) i 8))], vslMergeS (asA r5.fst 9), AV.sl (asN (asA r5.fst 10)) 2 fun i => lstG [vslTimerS (asG (asA r5.fst 10) i 0), vslIntS (asG (asA r5.fst 10) i 1)], AV.sl (asN (asA r5.fst 11)) 3 fun i => lstG [AV.sl (asN (asG (asA r5.fst 11) i 0)) 9 fun i_1 => lstG [nI (asI (asG (asG (asA r5.fst 11) i 0) i_1 0)), nI (asI (asG (asG (asA r5.fst 11) i 0) i_1 1)), nI (asI (asG (asG (asA r5.fst 11) i 0) i_1 2)), nI (asI (asG (asG (asA r5.fst 11) i 0) i_1 3)), AV.S (asS (asG (asG (asA r5.fst 11) i 0) i_1 4)), nI (asI (asG (asG (asA r5.fst 11) i 0) i_1 5)), nI (asI (asG (asG (asA r5.fst 11) i 0) i_1 6)), AV.S (asS (asG (asG (asA r5.fst 11) i 0) i_1 7)), vslMsgS (asG (asG (asA r5.fst 11) i 0) i_1 8)], nI (asI (asG (asA r5.fst 11) i 1)), AV.B (asB (asG (asA r5.fst 11) i 2))]]), AV.ag 12 (lstG [vslIntS (asA r6.fst 0), vslBoolS (asA r6.fst 1), nI (asI (asA r6.fst 2)), vslTimerS (asA r6.fst 3), vslNotifyS (asA r6.fst 4), vslEventS (asA r6.fst 5), vslLatchS (asA r6.fst 6), vslCellS (asA r6.fst 7), AV.sl (asN (asA r6.fst 8)) 9 fun i => lstG [AV.S (asS (asG (asA r6.fst 8) i 0)), nI (asI (asG (asA r6.fst 8) i 1)), nI (asI (asG (asA r6.fst 8) i 2)), vslMsgS (asG (asA r6.fst 8) i 3), nI (asI (asG (asA r6.fst 8) i 4)), AV.sl (asN (asG (asA r6.fst 8) i 5)) 7 fun i_1 => lstG [nI (asI (asG (asG (asA r6.fst 8) i 5) i_1 0)), nI (asI (asG (asG (asA r6.fst 8) i 5) i_1 1)), nI (asI (asG (asG (asA r6.fst 8) i 5) i_1 2)), nI (asI (asG (asG (asA r6.fst 8) i 5) i_1 3)), nI (asI (asG (asG (asA r6.fst 8) i 5) i_1 4)), nI (asI (asG (asG (asA r6.fst 8) i 5) i_1 5)), vslMsgS (asG (asG (asA r6.fst 8) i 5) i_1 6)], vslIntS (asG (asA r6.fst 8) i 6), vslIntS (asG (asA r6.fst 8) i 7), AV.B (asB (asG (asA r6.fst 8) i 8))], vslMergeS (asA r6.fst 9), AV.sl (asN (asA r6.fst 10)) 2 fun i => lstG [vslTimerS (asG (asA r6.fst 10) i 0), vslIntS (asG (asA r6.fst 10) i 1)], AV.sl (asN (asA r6.fst 11)) 3 fun i => lstG [AV.sl (asN (asG (asA r6.fst 11) i 0)) 9 fun i_1 => lstG [nI (asI (asG (asG (asA r6.fst 11) i 0) i_1 0)), nI (asI (asG (asG (asA r6.fst 11) i 0) i_1 1)), nI (asI (asG (asG (asA r6.fst 11) i 0) i_1 2)), nI (asI (asG (asG (asA r6.fst 11) i 0) i_1 3)), AV.S (asS (asG (asG (asA r6.fst 11) i 0) i_1 4)), nI (asI (asG (asG (asA r6.fst 11) i 0) i_1 5)), nI (asI (asG (asG (asA r6.fst 11) i 0) i_1 6)), AV.S (asS (asG (asG (asA r6.fst 11) i 0) i_1 7)), vslMsgS (asG (asG (asA r6.fst 11) i 0) i_1 8)], nI (asI (asG (asA r6.fst 11) i 1)), AV.B (asB (asG (asA r6.fst 11) i 2))]])] []) fun r7 =>
        Option.bind (Γ 6 [slState x] []) fun r8 =>
        Option.bind (Γ 6 [slState y] []) fun r9 =>
        Option.bind (Γ 7 [AV.ag 12 (lstG [vslIntS (asA r8.fst 0), vslBoolS (asA r8.fst 1), nI (asI (asA r8.fst 2)), vslTimerS (asA r8.fst 3), vslNotifyS (asA r8.fst 4), vslEventS (asA r8.fst 5), vslLatchS (asA r8.fst 6), vslCellS (asA r8.fst 7), AV.sl (asN (asA r8.fst 8)) 9 fun i => lstG [AV.S (asS (asG (asA r8.fst 8) i 0)), nI (asI (asG (asA r8.fst 8) i 1)), nI (asI (asG (asA r8.fst 8) i 2)), vslMsgS (asG (asA r8.fst 8) i 3), nI (asI (asG (asA r8.fst 8) i 4)), AV.sl (asN (asG (asA r8.fst 8) i 5)) 7 fun i_1 => lstG [nI (asI (asG (asG (asA r8.fst 8) i 5) i_1 0)), nI (asI (asG (asG (asA r8.fst 8) i 5) i_1 1)), nI (asI (asG (asG (asA r8.fst 8) i 5) i_1 2)), nI (asI (asG (asG (asA r8.fst 8) i 5) i_1 3)), nI (asI (asG (asG (asA r8.fst 8) i 5) i_1 4)), nI (asI (asG (asG (asA r8.fst 8) i 5) i_1 5)), vslMsgS (asG (asG (asA r8.fst 8) i 5) i_1 6)], vslIntS (asG (asA r8.fst 8) i 6), vslIntS (asG (asA r8.fst 8) i 7), AV.B (asB (asG (asA r8.fst 8) i 8))], vslMergeS (asA r8.fst 9), AV.sl (asN (asA r8.fst 10)) 2 fun i => lstG [vslTimerS (asG (asA r8.fst 10) i 0), vslIntS (asG (asA r8.fst 10) i 1)], AV.sl (asN (asA r8.fst 11)) 3 fun i => lstG [AV.sl (asN (asG (asA r8.fst 11) i 0)) 9 fun i_1 => lstG [nI (asI (asG (asG (asA r8.fst 11) i 0) i_1 0)), nI (asI (asG (asG (asA r8.fst 11) i 0) i_1 1)), nI (asI (asG (asG (asA r8.fst 11) i 0) i_1 2)), nI (asI (asG (asG (asA r8.fst 11) i 0) i_1 3)), AV.S (asS (asG (asG (asA r8.fst 11) i 0) i_1 4)), nI (asI (asG (asG (asA r8.fst 11) i 0) i_1 5)), nI (asI (asG (asG (asA r8.fst 11) i 0) i_1 6)), AV.S (asS (asG (asG (asA r8.fst 11) i 0) i_1 7)), vslMsgS (asG (asG (asA r8.fst 11) i 0) i_1 8)], nI (asI (asG (asA r8.fst 11) i 1)), AV.B (asB (asG (asA r8.fst 11) i 2))]]), AV.ag 12 (lstG [vslIntS (asA r9.fst 0), vslBoolS (asA r9.fst 1), nI (asI (asA r9.fst 2)), vslTimerS (asA r9.fst 3), vslNotifyS (asA r9.fst 4), vslEventS (asA r9.fst 5), vslLatchS (asA r9.fst 6), vslCellS (asA r9.fst 7), AV.sl (asN (asA r9.fst 8)) 9 fun i => lstG [AV.S (asS (asG (asA r9.fst 8) i 0)), nI (asI (asG (asA r9.fst 8) i 1)), nI (asI (asG (asA r9.fst 8) i 2)), vslMsgS (asG (asA r9.fst 8) i 3), nI (asI (asG (asA r9.fst 8) i 4)), AV.sl (asN (asG (asA r9.fst 8) i 5)) 7 fun i_1 => lstG [nI (asI (asG (asG (asA r9.fst 8) i 5) i_1 0)), nI (asI (asG (asG (asA r9.fst 8) i 5) i_1 1)), nI (asI (asG (asG (asA r9.fst 8) i 5) i_1 2)), nI (asI (asG (asG (asA r9.fst 8) i 5) i_1 3)), nI (asI (asG (asG (asA r9.fst 8) i 5) i_1 4)), nI (asI (asG (asG (asA r9.fst 8) i 5) i_1 5)), vslMsgS (asG (asG (asA r9.fst 8) i 5) i_1 6)], vslIntS (asG (asA r9.fst 8) i 6), vslIntS (asG (asA r9.fst 8) i 7), AV.B (asB (asG (asA r9.fst 8) i 8))], vslMergeS (asA r9.fst 9), AV.sl (asN (asA r9.fst 10)) 2 fun i => lstG [vslTimerS (asG (asA r9.fst 10) i 0), vslIntS (asG (asA r9.fst 10) i 1)], AV.sl (asN (asA r9.fst 11)) 3 fun i => lstG [AV.sl (asN (asG (asA r9.fst 11) i 0)) 9 fun i_1 => lstG [nI (asI (asG (asG (asA r9.fst 11) i 0) i_1 0)), nI (asI (asG (asG (asA r9.fst 11) i 0) i_1 1)), nI (asI (asG (asG (asA r9.fst 11) i 0) i_1 2)), nI (asI (asG (asG (asA r9.fst 11) i 0) i_1 3)), AV.S (asS (asG (asG (asA r9.fst 11) i 0) i_1 4)), nI (asI (asG (asG (asA r9.fst 11) i 0) i_1 5)), nI (asI (asG (asG (asA r9.fst 11) i 0) i_1 6)), AV.S (asS (asG (asG (asA r9.fst 11) i 0) i_1 7)), vslMsgS (asG (asG (asA r9.fst 11) i 0) i_1 8)], nI (asI (asG (asA r9.fst 11) i 1)), AV.B (asB (asG (asA r9.fst 11) i 2))]])] []) fun r10 =>
        bif !asB r10.fst == asB r7.fst then
          (some (AV.B false, []))
        else
          (and2
          (Option.bind (Γ 6 [slState x] []) fun r13 =>
            Option.bind (Γ 8 [AV.ag 12 (lstG [vslIntS (asA r8.fst 0), vslBoolS (asA r8.fst 1), nI (asI (asA r8.fst 2)), vslTimerS (asA r8.fst 3), vslNotifyS (asA r8.fst 4), vslEventS (asA r8.fst 5), vslLatchS (asA r8.fst 6), vslCellS (asA r8.fst 7), AV.sl (asN (asA r8.fst 8)) 9 fun i => lstG [AV.S (asS (asG (asA r8.fst 8) i 0)), nI (asI (asG (asA r8.fst 8) i 1)), nI (asI (asG (asA r8.fst 8) i 2)), vslMsgS (asG (asA r8.fst 8) i 3), nI (asI (asG (asA r8.fst 8) i 4)), AV.sl (asN (asG (asA r8.fst 8) i 5)) 7 fun i_1 => lstG [nI (asI (asG (asG (asA r8.fst 8) i 5) i_1 0)), nI (asI (asG (asG (asA r8.fst 8) i 5) i_1 1)), nI (asI (asG (asG (asA r8.fst 8) i 5) i_1 2)), nI (asI (asG (asG (asA r8.fst 8) i 5) i_1 3)), nI (asI (asG (asG (asA r8.fst 8) i 5) i_1 4)), nI (asI (asG (asG (asA r8.fst 8) i 5) i_1 5)), vslMsgS (asG (asG (asA r8.fst 8) i 5) i_1 6)], vslIntS (asG (asA r8.fst 8) i 6), vslIntS (asG (asA r8.fst 8) i 7), AV.B (asB (asG (asA r8.fst 8) i 8))], vslMergeS (asA r8.fst 9), AV.sl (asN (asA r8.fst 10)) 2 fun i => lstG [vslTimerS (asG (asA r8.fst 10) i 0), vslIntS (asG (asA r8.fst 10) i 1)], AV.sl (asN (asA r8.fst 11)) 3 fun i => lstG [AV.sl (asN (asG (asA r8.fst 11) i 0)) 9 fun i_1 => lstG [nI (asI (asG (asG (asA r8.fst 11) i 0) i_1 0)), nI (asI (asG (asG (asA r8.fst 11) i 0) i_1 1)), nI (asI (asG (asG (asA r8.fst 11) i 0) i_1 2)), nI (asI (asG (asG (asA r8.fst 11) i 0) i_1 3)), AV.S (asS (asG (asG (asA r8.fst 11) i 0) i_1 4)), nI (asI (asG (asG (asA r8.fst 11) i 0) i_1 5)), nI (asI (asG (asG (asA r8.fst 11) i 0) i_1 6)), AV.S (asS (asG (asG (asA r8.fst 11) i 0) i_1 7)), vslMsgS (asG (asG (asA r8.fst 11) i 0) i_1 8)], nI (asI (asG (asA r8.fst 11) i 1)), AV.B (asB (asG (asA r8.fst 11) i 2))]]), AV.ag 12 (lstG [vslIntS (asA r13.fst 0), vslBoolS (asA r13.fst 1), nI (asI (asA r13.fst 2)), vslTimerS (asA r13.fst 3), vslNotifyS (asA r13.fst 4), vslEventS (asA r13.fst 5), vslLatchS (asA r13.fst 6), vslCellS (asA r13.fst 7), AV.sl (asN (asA r13.fst 8)) 9 fun i => lstG [AV.S (asS (asG (asA r13.fst 8) i 0)), nI (asI (asG (asA r13.fst 8) i 1)), nI (asI (asG (asA r13.fst 8) i 2)), vslMsgS (asG (asA r13.fst 8) i 3), nI (asI (asG (asA r13.fst 8) i 4)), AV.sl (asN (asG (asA r13.fst 8) i 5)) 7 fun i_1 => lstG [nI (asI (asG (asG (asA r13.fst 8) i 5) i_1 0)), nI (asI (asG (asG (asA r13.fst 8) i 5) i_1 1)), nI (asI (asG (asG (asA r13.fst 8) i 5) i_1 2)), nI (asI (asG (asG (asA r13.fst 8) i 5) i_1 3)), nI (asI (asG (asG (asA r13.fst 8) i 5) i_1 4)), nI (asI (asG (asG (asA r13.fst 8) i 5) i_1 5)), vslMsgS (asG (asG (asA r13.fst 8) i 5) i_1 6)], vslIntS (asG (asA r13.fst 8) i 6), vslIntS (asG (asA r13.fst 8) i 7), AV.B (asB (asG (asA r13.fst 8) i 8))], vslMergeS (asA r13.fst 9), AV.sl (asN (asA r13.fst 10)) 2 fun i => lstG [vslTimerS (asG (asA r13.fst 10) i 0), vslIntS (asG (asA r13.fst 10) i 1)], AV.sl (asN (asA r13.fst 11)) 3 fun i => lstG [AV.sl (asN (asG (asA r13.fst 11) i 0)) 9 fun i_1 => lstG [nI (asI (asG (asG (asA r13.fst 11) i 0) i_1 0)), nI (asI (asG (asG (asA r13.fst 11) i 0) i_1 1)), nI (asI (asG (asG (asA r13.fst 11) i 0) i_1 2)), nI (asI (asG (asG (asA r13.fst 11) i 0) i_1 3)), AV.S (asS (asG (asG (asA r13.fst 11) i 0) i_1 4)), nI (asI (asG (asG (asA r13.fst 11) i 0) i_1 5)), nI (asI (asG (asG (asA r13.fst 11) i 0) i_1 6)), AV.S (asS (asG (asG (asA r13.fst 11) i 0) i_1 7)), vslMsgS (asG (asG (asA r13.fst 11) i 0) i_1 8)], nI (asI (asG (asA r13.fst 11) i 1)), AV.B (asB (asG (asA r13.fst 11) i 2))]])] []) fun r14 =>
            bif !asB r14.fst then
              (some (AV.B false, []))
            else
              (and2
              (Option.bind (Γ 6 [slState y] []) fun r17 =>
                Option.bind (Γ 8 [AV.ag 12 (lstG [vslIntS (asA r9.fst 0), vslBoolS (asA r9.fst 1), nI (asI (asA r9.fst 2)), vslTimerS (asA r9.fst 3), vslNotifyS (asA r9.fst 4), vslEventS (asA r9.fst 5), vslLatchS (asA r9.fst 6), vslCellS (asA r9.fst 7), AV.sl (asN (asA r9.fst 8)) 9 fun i => lstG [AV.S (asS (asG (asA r9.fst 8) i 0)), nI (asI (asG (asA r9.fst 8) i 1)), nI (asI (asG (asA r9.fst 8) i 2)), vslMsgS (asG (asA r9.fst 8) i 3), nI (asI (asG (asA r9.fst 8) i 4)), AV.sl (asN (asG (asA r9.fst 8) i 5)) 7 fun i_1 => lstG [nI (asI (asG (asG (asA r9.fst 8) i 5) i_1 0)), nI (asI (asG (asG (asA r9.fst 8) i 5) i_1 1)), nI (asI (asG (asG (asA r9.fst 8) i 5) i_1 2)), nI (asI (asG (asG (asA r9.fst 8) i 5) i_1 3)), nI (asI (asG (asG (asA r9.fst 8) i 5) i_1 4)), nI (asI (asG (asG (asA r9.fst 8) i 5) i_1 5)), vslMsgS (asG (asG (asA r9.fst 8) i 5) i_1 6)], vslIntS (asG (asA r9.fst 8) i 6), vslIntS (asG (asA r9.fst 8) i 7), AV.B (asB (asG (asA r9.fst 8) i 8))], vslMergeS (asA r9.fst 9), AV.sl (asN (asA r9.fst 10)) 2 fun i => lstG [vslTimerS (asG (asA r9.fst 10) i 0), vslIntS (asG (asA r9.fst 10) i 1)], AV.sl (asN (asA r9.fst 11)) 3 fun i => lstG [AV.sl (asN (asG (asA r9.fst 11) i 0)) 9 fun i_1 => lstG [nI (asI (asG (asG (asA r9.fst 11) i 0) i_1 0)), nI (asI (asG (asG (asA r9.fst 11) i 0) i_1 1)), nI (asI (asG (asG (asA r9.fst 11) i 0) i_1 2)), nI (asI (asG (asG (asA r9.fst 11) i 0) i_1 3)), AV.S (asS (asG (asG (asA r9.fst 11) i 0) i_1 4)), nI (asI (asG (asG (asA r9.fst 11) i 0) i_1 5)), nI (asI (asG (asG (asA r9.fst 11) i 0) i_1 6)), AV.S (asS (asG (asG (asA r9.fst 11) i 0) i_1 7)), vslMsgS (asG (asG (asA r9.fst 11) i 0) i_1 8)], nI (asI (asG (asA r9.fst 11) i 1)), AV.B (asB (asG (asA r9.fst 11) i 2))]]), AV.ag 12 (lstG [vslIntS (asA r17.fst 0), vslBoolS (asA r17.fst 1), nI (asI (asA r17.fst 2)), vslTimerS (asA r17.fst 3), vslNotifyS (asA r17.fst 4), vslEventS (asA r17.fst 5), vslLatchS (asA r17.fst 6), vslCellS (asA r17.fst 7), AV.sl (asN (asA r17.fst 8)) 9 fun i => lstG [AV.S (asS (asG (asA r17.fst 8) i 0)), nI (asI (asG (asA r17.fst 8) i 1)), nI (asI (asG (asA r17.fst 8) i 2)), vslMsgS (asG (asA r17.fst 8) i 3), nI (asI (asG (asA r17.fst 8) i 4)), AV.sl (asN (asG (asA r17.fst 8) i 5)) 7 fun i_1 => lstG [nI (asI (asG (asG (asA r17.fst 8) i 5) i_1 0)), nI (asI (asG (asG (asA r17.fst 8) i 5) i_1 1)), nI (asI (asG (asG (asA r17.fst 8) i 5) i_1 2)), nI (asI (asG (asG (asA r17.fst 8) i 5) i_1 3)), nI (asI (asG (asG (asA r17.fst 8) i 5) i_1 4)), nI (asI (asG (asG (asA r17.fst 8) i 5) i_1 5)), vslMsgS (asG (asG (asA r17.fst 8) i 5) i_1 6)], vslIntS (asG (asA r17.fst 8) i 6), vslIntS (asG (asA r17.fst 8) i 7), AV.B (asB (asG (asA r17.fst 8) i 8))], vslMergeS (asA r17.fst 9), AV.sl (asN (asA r17.fst 10)) 2 fun i => lstG [vslTimerS (asG (asA r17.fst 10) i 0), vslIntS (asG (asA r17.fst 10) i 1)], AV.sl (asN (asA r17.fst 11)) 3 fun i => lstG [AV.sl (asN (asG (asA r17.fst 11) i 0)) 9 fun i_1 => lstG [nI (asI (asG (asG (asA r17.fst 11) i 0) i_1 0)), nI (asI (asG (asG (asA r17.fst 11) i 0) i_1 1)), nI (asI (asG (asG (asA r17.fst 11) i 0) i_1 2)), nI (asI (asG (asG (asA r17.fst 11) i 0) i_1 3)), AV.S (asS (asG (asG (asA r17.fst 11) i 0) i_1 4)), nI (asI (asG (asG (asA r17.fst 11) i 0) i_1 5)), nI (asI (asG (asG (asA r17.fst 11) i 0) i_1 6)), AV.S (asS (asG (asG (asA r17.fst 11) i 0) i_1 7)), vslMsgS (asG (asG (asA r17.fst 11) i 0) i_1 8)], nI (asI (asG (asA r17.fst 11) i 1)), AV.B (asB (asG (asA r17.fst 11) i 2))]])] []) fun r18 =>
                bif !asB r18.fst then
                  (some (AV.B false, []))
                else
                  (some (AV.B true, [])))
              (Option.bind (Γ 6 [slState y] []) fun r17 =>
                Option.bind (Γ 8 [AV.ag 12 (lstG [vslIntS (asA r9.fst 0), vslBoolS (asA r9.fst 1), nI (asI (asA r9.fst 2)), vslTimerS (asA r9.fst 3), vslNotifyS (asA r9.fst 4), vslEventS (asA r9.fst 5), vslLatchS (asA r9.fst 6), vslCellS (asA r9.fst 7), AV.sl (asN (asA r9.fst 8)) 9 fun i => lstG [AV.S (asS (asG (asA r9.fst 8) i 0)), nI (asI (asG (asA r9.fst 8) i 1)), nI (asI (asG (asA r9.fst 8) i 2)), vslMsgS (asG (asA r9.fst 8) i 3), nI (asI (asG (asA r9.fst 8) i 4)), AV.sl (asN (asG (asA r9.fst 8) i 5)) 7 fun i_1 => lstG [nI (asI (asG (asG (asA r9.fst 8) i 5) i_1 0)), nI (asI (asG (asG (asA r9.fst 8) i 5) i_1 1)), nI (asI (asG (asG (asA r9.fst 8) i 5) i_1 2)), nI (asI (asG (asG (asA r9.fst 8) i 5) i_1 3)), nI (asI (asG (asG (asA r9.fst 8) i 5) i_1 4)), nI (asI (asG (asG (asA r9.fst 8) i 5) i_1 5)), vslMsgS (asG (asG (asA r9.fst 8) i 5) i_1 6)], vslIntS (asG (asA r9.fst 8) i 6), vslIntS (asG (asA r9.fst 8) i 7), AV.B (asB (asG (asA r9.fst 8) i 8))], vslMergeS (asA r9.fst 9), AV.sl (asN (asA r9.fst 10)) 2 fun i => lstG [vslTimerS (asG (asA r9.fst 10) i 0), vslIntS (asG (asA r9.fst 10) i 1)], AV.sl (asN (asA r9.fst 11)) 3 fun i => lstG [AV.sl (asN (asG (asA r9.fst 11) i 0)) 9 fun i_1 => lstG [nI (asI (asG (asG (asA r9.fst 11) i 0) i_1 0)), nI (asI (asG (asG (asA r9.fst 11) i 0) i_1 1)), nI (asI (asG (asG (asA r9.fst 11) i 0) i_1 2)), nI (asI (asG (asG (asA r9.fst 11) i 0) i_1 3)), AV.S (asS (asG (asG (asA r9.fst 11) i 0) i_1 4)), nI (asI (asG (asG (asA r9.fst 11) i 0) i_1 5)), nI (asI (asG (asG (asA r9.fst 11) i 0) i_1 6)), AV.S (asS (asG (asG (asA r9.fst 11) i 0) i_1 7)), vslMsgS (asG (asG (asA r9.fst 11) i 0) i_1 8)], nI (asI (asG (asA r9.fst 11) i 1)), AV.B (asB (asG (asA r9.fst 11) i 2))]]), AV.ag 12 (lstG [vslIntS (asA r17.fst 0), vslBoolS (asA r17.fst 1), nI (asI (asA r17.fst 2)), vslTimerS (asA r17.fst 3), vslNotifyS (asA r17.fst 4), vslEventS (asA r17.fst 5), vslLatchS (asA r17.fst 6), vslCellS (asA r17.fst 7), AV.sl (asN (asA r17.fst 8)) 9 fun i => lstG [AV.S (asS (asG (asA r17.fst 8) i 0)), nI (asI (asG (asA r17.fst 8) i 1)), nI (asI (asG (asA r17.fst 8) i 2)), vslMsgS (asG (asA r17.fst 8) i 3), nI (asI (asG (asA r17.fst 8) i 4)), AV.sl (asN (asG (asA r17.fst 8) i 5)) 7 fun i_1 => lstG [nI (asI (asG (asG (asA r17.fst 8) i 5) i_1 0)), nI (asI (asG (asG (asA r17.fst 8) i 5) i_1 1)), nI (asI (asG (asG (asA r17.fst 8) i 5) i_1 2)), nI (asI (asG (asG (asA r17.fst 8) i 5) i_1 3)), nI (asI (asG (asG (asA r17.fst 8) i 5) i_1 4)), nI (asI (asG (asG (asA r17.fst 8) i 5) i_1 5)), vslMsgS (asG (asG (asA r17.fst 8) i 5) i_1 6)], vslIntS (asG (asA r17.fst 8) i 6), vslIntS (asG (asA r17.fst 8) i 7), AV.B (asB (asG (asA r17.fst 8) i 8))], vslMergeS (asA r17.fst 9), AV.sl (asN (asA r17.fst 10)) 2 fun i => lstG [vslTimerS (asG (asA r17.fst 10) i 0), vslIntS (asG (asA r17.fst 10) i 1)], AV.sl (asN (asA r17.fst 11)) 3 fun i => lstG [AV.sl (asN (asG (asA r17.fst 11) i 0)) 9 fun i_1 => lstG [nI (asI (asG (asG (asA r17.fst 11) i 0) i_1 0)), nI (asI (asG (asG (asA r17.fst 11) i 0) i_1 1)), nI (asI (asG (asG (asA r17.fst 11) i 0) i_1 2)), nI (asI (asG (asG (asA r17.fst 11) i 0) i_1 3)), AV.S (asS (asG (asG (asA r17.fst 11) i 0) i_1 4)), nI (asI (asG (asG (asA r17.fst 11) i 0) i_1 5)), nI (asI (asG (asG (asA r17.fst 11) i 0) i_1 6)), AV.S (asS (asG (asG (asA r17.fst 11) i 0) i_1 7)), vslMsgS (asG (asG (asA r17.fst 11) i 0) i_1 8)], nI (asI (asG (asA r17.fst 11) i 1)), AV.B (asB (asG (asA r17.fst 11) i 2))]])] []) fun r18 =>
                bif !asB r18.fst then
                  (some (AV.B false, []))
                else
                  (some (AV.B true, [])))))
          (Option.bind (Γ 6 [slState x] []) fun r13 =>
            Option.bind (Γ 8 [AV.ag 12 (lstG [vslIntS (asA r8.fst 0), vslBoolS (asA r8.fst 1), nI (asI (asA r8.fst 2)), vslTimerS (asA r8.fst 3), vslNotifyS (asA r8.fst 4), vslEventS (asA r8.fst 5), vslLatchS (asA r8.fst 6), vslCellS (asA r8.fst 7), AV.sl (asN (asA r8.fst 8)) 9 fun i => lstG [AV.S (asS (asG (asA r8.fst 8) i 0)), nI (asI (asG (asA r8.fst 8) i 1)), nI (asI (asG (asA r8.fst 8) i 2)), vslMsgS (asG (asA r8.fst 8) i 3), nI (asI (asG (asA r8.fst 8) i 4)), AV.sl (asN (asG (asA r8.fst 8) i 5)) 7 fun i_1 => lstG [nI (asI (asG (asG (asA r8.fst 8) i 5) i_1 0)), nI (asI (asG (asG (asA r8.fst 8) i 5) i_1 1)), nI (asI (asG (asG (asA r8.fst 8) i 5) i_1 2)), nI (asI (asG (asG (asA r8.fst 8) i 5) i_1 3)), nI (asI (asG (asG (asA r8.fst 8) i 5) i_1 4)), nI (asI (asG (asG (asA r8.fst 8) i 5) i_1 5)), vslMsgS (asG (asG (asA r8.fst 8) i 5) i_1 6)], vslIntS (asG (asA r8.fst 8) i 6), vslIntS (asG (asA r8.fst 8) i 7), AV.B (asB (asG (asA r8.fst 8) i 8))], vslMergeS (asA r8.fst 9), AV.sl (asN (asA r8.fst 10)) 2 fun i => lstG [vslTimerS (asG (asA r8.fst 10) i 0), vslIntS (asG (asA r8.fst 10) i 1)], AV.sl (asN (asA r8.fst 11)) 3 fun i => lstG [AV.sl (asN (asG (asA r8.fst 11) i 0)) 9 fun i_1 => lstG [nI (asI (asG (asG (asA r8.fst 11) i 0) i_1 0)), nI (asI (asG (asG (asA r8.fst 11) i 0) i_1 1)), nI (asI (asG (asG (asA r8.fst 11) i 0) i_1 2)), nI (asI (asG (asG (asA r8.fst 11) i 0) i_1 3)), AV.S (asS (asG (asG (asA r8.fst 11) i 0) i_1 4)), nI (asI (asG (asG (asA r8.fst 11) i 0) i_1 5)), nI (asI (asG (asG (asA r8.fst 11) i 0) i_1 6)), AV.S (asS (asG (asG (asA r8.fst 11) i 0) i_1 7)), vslMsgS (asG (asG (asA r8.fst 11) i 0) i_1 8)], nI (asI (asG (asA r8.fst 11) i 1)), AV.B (asB (asG (asA r8.fst 11) i 2))]]), AV.ag 12 (lstG [vslIntS (asA r13.fst 0), vslBoolS (asA r13.fst 1), nI (asI (asA r13.fst 2)), vslTimerS (asA r13.fst 3), vslNotifyS (asA r13.fst 4), vslEventS (asA r13.fst 5), vslLatchS (asA r13.fst 6), vslCellS (asA r13.fst 7), AV.sl (asN (asA r13.fst 8)) 9 fun i => lstG [AV.S (asS (asG (asA r13.fst 8) i 0)), nI (asI (asG (asA r13.fst 8) i 1)), nI (asI (asG (asA r13.fst 8) i 2)), vslMsgS (asG (asA r13.fst 8) i 3), nI (asI (asG (asA r13.fst 8) i 4)), AV.sl (asN (asG (asA r13.fst 8) i 5)) 7 fun i_1 => lstG [nI (asI (asG (asG (asA r13.fst 8) i 5) i_1 0)), nI (asI (asG (asG (asA r13.fst 8) i 5) i_1 1)), nI (asI (asG (asG (asA r13.fst 8) i 5) i_1 2)), nI (asI (asG (asG (asA r13.fst 8) i 5) i_1 3)), nI (asI (asG (asG (asA r13.fst 8) i 5) i_1 4)), nI (asI (asG (asG (asA r13.fst 8) i 5) i_1 5)), vslMsgS (asG (asG (asA r13.fst 8) i 5) i_1 6)], vslIntS (asG (asA r13.fst 8) i 6), vslIntS (asG (asA r13.fst 8) i 7), AV.B (asB (asG (asA r13.fst 8) i 8))], vslMergeS (asA r13.fst 9), AV.sl (asN (asA r13.fst 10)) 2 fun i => lstG [vslTimerS (asG (asA r13.fst 10) i 0), vslIntS (asG (asA r13.fst 10) i 1)], AV.sl (asN (asA r13.fst 11)) 3 fun i => lstG [AV.sl (asN (asG (asA r13.fst 11) i 0)) 9 fun i_1 => lstG [nI (asI (asG (asG (asA r13.fst 11) i 0) i_1 0)), nI (asI (asG (asG (asA r13.fst 11) i 0) i_1 1)), nI (asI (asG (asG (asA r13.fst 11) i 0) i_1 2)), nI (asI (asG (asG (asA r13.fst 11) i 0) i_1 3)), AV.S (asS (asG (asG (asA r13.fst 11) i 0) i_1 4)), nI (asI (asG (asG (asA r13.fst 11) i 0) i_1 5)), nI (asI (asG (asG (asA r13.fst 11) i 0) i_1 6)), AV.S (asS (asG (asG (asA r13.fst 11) i 0) i_1 7)), vslMsgS (asG (asG (asA r13.fst 11) i 0) i_1 8)], nI (asI (asG (asA r13.fst 11) i 1)), AV.B (asB (asG (asA r13.fst 11) i 2))]])] []) fun r14 =>
            bif !asB r14.fst then
              (some (AV.B false, []))
            else
              (and2
              (Option.bind (Γ 6 [slState y] []) fun r17 =>
                Option.bind (Γ 8 [AV.ag 12 (lstG [vslIntS (asA r9.fst 0), vslBoolS (asA r9.fst 1), nI (asI (asA r9.fst 2)), vslTimerS (asA r9.fst 3), vslNotifyS (asA r9.fst 4), vslEventS (asA r9.fst 5), vslLatchS (asA r9.fst 6), vslCellS (asA r9.fst 7), AV.sl (asN (asA r9.fst 8)) 9 fun i => lstG [AV.S (asS (asG (asA r9.fst 8) i 0)), nI (asI (asG (asA r9.fst 8) i 1)), nI (asI (asG (asA r9.fst 8) i 2)), vslMsgS (asG (asA r9.fst 8) i 3), nI (asI (asG (asA r9.fst 8) i 4)), AV.sl (asN (asG (asA r9.fst 8) i 5)) 7 fun i_1 => lstG [nI (asI (asG (asG (asA r9.fst 8) i 5) i_1 0)), nI (asI (asG (asG (asA r9.fst 8) i 5) i_1 1)), nI (asI (asG (asG (asA r9.fst 8) i 5) i_1 2)), nI (asI (asG (asG (asA r9.fst 8) i 5) i_1 3)), nI (asI (asG (asG (asA r9.fst 8) i 5) i_1 4)), nI (asI (asG (asG (asA r9.fst 8) i 5) i_1 5)), vslMsgS (asG (asG (asA r9.fst 8) i 5) i_1 6)], vslIntS (asG (asA r9.fst 8) i 6), vslIntS (asG (asA r9.fst 8) i 7), AV.B (asB (asG (asA r9.fst 8) i 8))], vslMergeS (asA r9.fst 9), AV.sl (asN (asA r9.fst 10)) 2 fun i => lstG [vslTimerS (asG (asA r9.fst 10) i 0), vslIntS (asG (asA r9.fst 10) i 1)], AV.sl (asN (asA r9.fst 11)) 3 fun i => lstG [AV.sl (asN (asG (asA r9.fst 11) i 0)) 9 fun i_1 => lstG [nI (asI (asG (asG (asA r9.fst 11) i 0) i_1 0)), nI (asI (asG (asG (asA r9.fst 11) i 0) i_1 1)), nI (asI (asG (asG (asA r9.fst 11) i 0) i_1 2)), nI (asI (asG (asG (asA r9.fst 11) i 0) i_1 3)), AV.S (asS (asG (asG (asA r9.fst 11) i 0) i_1 4)), nI (asI (asG (asG (asA r9.fst 11) i 0) i_1 5)), nI (asI (asG (asG (asA r9.fst 11) i 0) i_1 6)), AV.S (asS (asG (asG (asA r9.fst 11) i 0) i_1 7)), vslMsgS (asG (asG (asA r9.fst 11) i 0) i_1 8)], nI (asI (asG (asA r9.fst 11) i 1)), AV.B (asB (asG (asA r9.fst 11) i 2))]]), AV.ag 12 (lstG [vslIntS (asA r17.fst 0), vslBoolS (asA r17.fst 1), nI (asI (asA r17.fst 2)), vslTimerS (asA r17.fst 3), vslNotifyS (asA r17.fst 4), vslEventS (asA r17.fst 5), vslLatchS (asA r17.fst 6), vslCellS (asA r17.fst 7), AV.sl (asN (asA r17.fst 8)) 9 fun i => lstG [AV.S (asS (asG (asA r17.fst 8) i 0)), nI (asI (asG (asA r17.fst 8) i 1)), nI (asI (asG (asA r17.fst 8) i 2)), vslMsgS (asG (asA r17.fst 8) i 3), nI (asI (asG (asA r17.fst 8) i 4)), AV.sl (asN (asG (asA r17.fst 8) i 5)) 7 fun i_1 => lstG [nI (asI (asG (asG (asA r17.fst 8) i 5) i_1 0)), nI (asI (asG (asG (asA r17.fst 8) i 5) i_1 1)), nI (asI (asG (asG (asA r17.fst 8) i 5) i_1 2)), nI (asI (asG (asG (asA r17.fst 8) i 5) i_1 3)), nI (asI (asG (asG (asA r17.fst 8) i 5) i_1 4)), nI (asI (asG (asG (asA r17.fst 8) i 5) i_1 5)), vslMsgS (asG (asG (asA r17.fst 8) i 5) i_1 6)], vslIntS (asG (asA r17.fst 8) i 6), vslIntS (asG (asA r17.fst 8) i 7), AV.B (asB (asG (asA r17.fst 8) i 8))], vslMergeS (asA r17.fst 9), AV.sl (asN (asA r17.fst 10)) 2 fun i => lstG [vslTimerS (asG (asA r17.fst 10) i 0), vslIntS (asG (asA r17.fst 10) i 1)], AV.sl (asN (asA r17.fst 11)) 3 fun i => lstG [AV.sl (asN (asG (asA r17.fst 11) i 0)) 9 fun i_1 => lstG [nI (asI (asG (asG (asA r17.fst 11) i 0) i_1 0)), nI (asI (asG (asG (asA r17.fst 11) i 0) i_1 1)), nI (asI (asG (asG (asA r17.fst 11) i 0) i_1 2)), nI (asI (asG (asG (asA r17.fst 11) i 0) i_1 3)), AV.S (asS (asG (asG (asA r17.fst 11) i 0) i_1 4)), nI (asI (asG (asG (asA r17.fst 11) i 0) i_1 5)), nI (asI (asG (asG (asA r17.fst 11) i 0) i_1 6)), AV.S (asS (asG (asG (asA r17.fst 11) i 0) i_1 7)), vslMsgS (asG (asG (asA r17.fst 11) i 0) i_1 8)], nI (asI (asG (asA r17.fst 11) i 1)), AV.B (asB (asG (asA r17.fst 11) i 2))]])] []) fun r18 =>
                bif !asB r18.fst then
                  (some (AV.B false, []))
                else
                  (some (AV.B true, [])))
              (Option.bind (Γ 6 [slState y] []) fun r17 =>
                Option.bind (Γ 8 [AV.ag 12 (lstG [vslIntS (asA r9.fst 0), vslBoolS (asA r9.fst 1), nI (asI (asA r9.fst 2)), vslTimerS (asA r9.fst 3), vslNotifyS (asA r9.fst 4), vslEventS (asA r9.fst 5), vslLatchS (asA r9.fst 6), vslCellS (asA r9.fst 7), AV.sl (asN (asA r9.fst 8)) 9 fun i => lstG [AV.S (asS (asG (asA r9.fst 8) i 0)), nI (asI (asG (asA r9.fst 8) i 1)), nI (asI (asG (asA r9.fst 8) i 2)), vslMsgS (asG (asA r9.fst 8) i 3), nI (asI (asG (asA r9.fst 8) i 4)), AV.sl (asN (asG (asA r9.fst 8) i 5)) 7 fun i_1 => lstG [nI (asI (asG (asG (asA r9.fst 8) i 5) i_1 0)), nI (asI (asG (asG (asA r9.fst 8) i 5) i_1 1)), nI (asI (asG (asG (asA r9.fst 8) i 5) i_1 2)), nI (asI (asG (asG (asA r9.fst 8) i 5) i_1 3)), nI (asI (asG (asG (asA r9.fst 8) i 5) i_1 4)), nI (asI (asG (asG (asA r9.fst 8) i 5) i_1 5)), vslMsgS (asG (asG (asA r9.fst 8) i 5) i_1 6)], vslIntS (asG (asA r9.fst 8) i 6), vslIntS (asG (asA r9.fst 8) i 7), AV.B (asB (asG (asA r9.fst 8) i 8))], vslMergeS (asA r9.fst 9), AV.sl (asN (asA r9.fst 10)) 2 fun i => lstG [vslTimerS (asG (asA r9.fst 10) i 0), vslIntS (asG (asA r9.fst 10) i 1)], AV.sl (asN (asA r9.fst 11)) 3 fun i => lstG [AV.sl (asN (asG (asA r9.fst 11) i 0)) 9 fun i_1 => lstG [nI (asI (asG (asG (asA r9.fst 11) i 0) i_1 0)), nI (asI (asG (asG (asA r9.fst 11) i 0) i_1 1)), nI (asI (asG (asG (asA r9.fst 11) i 0) i_1 2)), nI (asI (asG (asG (asA r9.fst 11) i 0) i_1 3)), AV.S (asS (asG (asG (asA r9.fst 11) i 0) i_1 4)), nI (asI (asG (asG (asA r9.fst 11) i 0) i_1 5)), nI (asI (asG (asG (asA r9.fst 11) i 0) i_1 6)), AV.S (asS (asG (asG (asA r9.fst 11) i 0) i_1 7)), vslMsgS (asG (asG (asA r9.fst 11) i 0) i_1 8)], nI (asI (asG (asA r9.fst 11) i 1)), AV.B (asB (asG (asA r9.fst 11) i 2))]]), AV.ag 12 (lstG [vslIntS (asA r17.fst 0), vslBoolS (asA r17.fst 1), nI (asI (asA r17.fst 2)), vslTimerS (asA r17.fst 3), vslNotifyS (asA r17.fst 4), vslEventS (asA r17.fst 5), vslLatchS (asA r17.fst 6), vslCellS (asA r17.fst 7), AV.sl (asN (asA r17.fst 8)) 9 fun i => lstG [AV.S (asS (asG (asA r17.fst 8) i 0)), nI (asI (asG (asA r17.fst 8) i 1)), nI (asI (asG (asA r17.fst 8) i 2)), vslMsgS (asG (asA r17.fst 8) i 3), nI (asI (asG (asA r17.fst 8) i 4)), AV.sl (asN (asG (asA r17.fst 8) i 5)) 7 fun i_1 => lstG [nI (asI (asG (asG (asA r17.fst 8) i 5) i_1 0)), nI (asI (asG (asG (asA r17.fst 8) i 5) i_1 1)), nI (asI (asG (asG (asA r17.fst 8) i 5) i_1 2)), nI (asI (asG (asG (asA r17.fst 8) i 5) i_1 3)), nI (asI (asG (asG (asA r17.fst 8) i 5) i_1 4)), nI (asI (asG (asG (asA r17.fst 8) i 5) i_1 5)), vslMsgS (asG (asG (asA r17.fst 8) i 5) i_1 6)], vslIntS (asG (asA r17.fst 8) i 6), vslIntS (asG (asA r17.fst 8) i 7), AV.B (asB (asG (asA r17.fst 8) i 8))], vslMergeS (asA r17.fst 9), AV.sl (asN (asA r17.fst 10)) 2 fun i => lstG [vslTimerS (asG (asA r17.fst 10) i 0), vslIntS (asG (asA r17.fst 10) i 1)], AV.sl (asN (asA r17.fst 11)) 3 fun i => lstG [AV.sl (asN (asG (asA r17.fst 11) i 0)) 9 fun i_1 => lstG [nI (asI (asG (asG (asA r17.fst 11) i 0) i_1 0)), nI (asI (asG (asG (asA r17.fst 11) i 0) i_1 1)), nI (asI (asG (asG (asA r17.fst 11) i 0) i_1 2)), nI (asI (asG (asG (asA r17.fst 11) i 0) i_1 3)), AV.S (asS (asG (asG (asA r17.fst 11) i 0) i_1 4)), nI (asI (asG (asG (asA r17.fst 11) i 0) i_1 5)), nI (asI (asG (asG (asA r17.fst 11) i 0) i_1 6)), AV.S (asS (asG (asG (asA r17.fst 11) i 0) i_1 7)), vslMsgS (asG (asG (asA r17.fst 11) i 0) i_1 8)], nI (asI (asG (asA r17.fst 11) i 1)), AV.B (asB (asG (asA r17.fst 11) i 2))]])] []) fun r18 =>
                bif !asB r18.fst then
                  (some (AV.B false, []))
                else
                  (some (AV.B true, [])))))))
      (Option.bind (Γ 6 [slState x] []) fun r5 =>
        Option.bind (Γ 6 [slState y] []) fun r6 =>
        Option.bind (Γ 5 [AV.ag 12 (lstG [vslIntS (asA r5.fst 0), vslBoolS (asA r5.fst 1), nI (asI (asA r5.fst 2)), vslTimerS (asA r5.fst 3), vslNotifyS (asA r5.fst 4), vslEventS (asA r5.fst 5), vslLatchS (asA r5.fst 6), vslCellS (asA r5.fst 7), AV.sl (asN (asA r5.fst 8)) 9 fun i => lstG [AV.S (asS (asG (asA r5.fst 8) i 0)), nI (asI (asG (asA r5.fst 8) i 1)), nI (asI (asG (asA r5.fst 8) i 2)), vslMsgS (asG (asA r5.fst 8) i 3), nI (asI (asG (asA r5.fst 8) i 4)), AV.sl (asN (asG (asA r5.fst 8) i 5)) 7 fun i_1 => lstG [nI (asI (asG (asG (asA r5.fst 8) i 5) i_1 0)), nI (asI (asG (asG (asA r5.fst 8) i 5) i_1 1)), nI (asI (asG (asG (asA r5.fst 8) i 5) i_1 2)), nI (asI (asG (asG (asA r5.fst 8) i 5) i_1 3)), nI (asI (asG (asG (asA r5.fst 8) i 5) i_1 4)), nI (asI (asG (asG (asA r5.fst 8) i 5) i_1 5)), vslMsgS (asG (asG (asA r5.fst 8) i 5) i_1 6)], vslIntS (asG (asA r5.fst 8) i 6), vslIntS (asG (asA r5.fst 8) i 7), AV.B (asB (asG (asA r5.fst 8) i 8))], vslMergeS (asA r5.fst 9), AV.sl (asN (asA r5.fst 10)) 2 fun i => lstG [vslTimerS (asG (asA r5.fst 10) i 0), vslIntS (asG (asA r5.fst 10) i 1)], AV.sl (asN (asA r5.fst 11)) 3 fun i => lstG [AV.sl (asN (asG (asA r5.fst 11) i 0)) 9 fun i_1 => lstG [nI (asI (asG (asG (asA r5.fst 11) i 0) i_1 0)), nI (asI (asG (asG (asA r5.fst 11) i 0) i_1 1)), nI (asI (asG (asG (asA r5.fst 11) i 0) i_1 2)), nI (asI (asG (asG (asA r5.fst 11) i 0) i_1 3)), AV.S (asS (asG (asG (asA r5.fst 11) i 0) i_1 4)), nI (asI (asG (asG (asA r5.fst 11) i 0) i_1 5)), nI (asI (asG (asG (asA r5.fst 11) i 0) i_1 6)), AV.S (asS (asG (asG (asA r5.fst 11) i 0) i_1 7)), vslMsgS (asG (asG (asA r5.fst 11) i 0) i_1 8)], nI (asI (asG (asA r5.fst 11) i 1)), AV.B (asB (asG (asA r5.fst 11) i 2))]]), AV.ag 12 (lstG [vslIntS (asA r6.fst 0), vslBoolS (asA r6.fst 1), nI (asI (asA r6.fst 2)), vslTimerS (asA r6.fst 3), vslNotifyS (asA r6.fst 4), vslEventS (asA r6.fst 5), vslLatchS (asA r6.fst 6), vslCellS (asA r6.fst 7), AV.sl (asN (asA r6.fst 8)) 9 fun i => lstG [AV.S (asS (asG (asA r6.fst 8) i 0)), nI (asI (asG (asA r6.fst 8) i 1)), nI (asI (asG (asA r6.fst 8) i 2)), vslMsgS (asG (asA r6.fst 8) i 3), nI (asI (asG (asA r6.fst 8) i 4)), AV.sl (asN (asG (asA r6.fst 8) i 5)) 7 fun i_1 => lstG [nI (asI (asG (asG (asA r6.fst 8) i 5) i_1 0)), nI (asI (asG (asG (asA r6.fst 8) i 5) i_1 1)), nI (asI (asG (asG (asA r6.fst 8) i 5) i_1 2)), nI (asI (asG (asG (asA r6.fst 8) i 5) i_1 3)), nI (asI (asG (asG (asA r6.fst 8) i 5) i_1 4)), nI (asI (asG (asG (asA r6.fst 8) i 5) i_1 5)), vslMsgS (asG (asG (asA r6.fst 8) i 5) i_1 6)], vslIntS (asG (asA r6.fst 8) i 6), vslIntS (asG (asA r6.fst 8) i 7), AV.B (asB (asG (asA r6.fst 8) i 8))], vslMergeS (asA r6.fst 9), AV.sl (asN (asA r6.fst 10)) 2 fun i => lstG [vslTimerS (asG (asA r6.fst 10) i 0), vslIntS (asG (asA r6.fst 10) i 1)], AV.sl (asN (asA r6.fst 11)) 3 fun i => lstG [AV.sl (asN (asG (asA r6.fst 11) i 0)) 9 fun i_1 => lstG [nI (asI (asG (asG (asA r6.fst 11) i 0) i_1 0)), nI (asI (asG (asG (asA r6.fst 11) i 0) i_1 1)), nI (asI (asG (asG (asA r6.fst 11) i 0) i_1 2)), nI (asI (asG (asG (asA r6.fst 11) i 0) i_1 3)), AV.S (asS (asG (asG (asA r6.fst 11) i 0) i_1 4)), nI (asI (asG (asG (asA r6.fst 11) i 0) i_1 5)), nI (asI (asG (asG (asA r6.fst 11) i 0) i_1 6)), AV.S (asS (asG (asG (asA r6.fst 11) i 0) i_1 7)), vslMsgS (asG (asG (asA r6.fst 11) i 0) i_1 8)], nI (asI (asG (asA r6.fst 11) i 1)), AV.B (asB (asG (asA r6.fst 11) i 2))]])] []) fun r7 =>
        Option.bind (Γ 6 [slState x] []) fun r8 =>
        Option.bind (Γ 6 [slState y] []) fun r9 =>
        Option.bind (Γ 7 [AV.ag 12 (lstG [vslIntS (asA r8.fst 0), vslBoolS (asA r8.fst 1), nI (asI (asA r8.fst 2)), vslTimerS (asA r8.fst 3), vslNotifyS (asA r8.fst 4), vslEventS (asA r8.fst 5), vslLatchS (asA r8.fst 6), vslCellS (asA r8.fst 7), AV.sl (asN (asA r8.fst 8)) 9 fun i => lstG [AV.S (asS (asG (asA r8.fst 8) i 0)), nI (asI (asG (asA r8.fst 8) i 1)), nI (asI (asG (asA r8.fst 8) i 2)), vslMsgS (asG (asA r8.fst 8) i 3), nI (asI (asG (asA r8.fst 8) i 4)), AV.sl (asN (asG (asA r8.fst 8) i 5)) 7 fun i_1 => lstG [nI (asI (asG (asG (asA r8.fst 8) i 5) i_1 0)), nI (asI (asG (asG (asA r8.fst 8) i 5) i_1 1)), nI (asI (asG (asG (asA r8.fst 8) i 5) i_1 2)), nI (asI (asG (asG (asA r8.fst 8) i 5) i_1 3)), nI (asI (asG (asG (asA r8.fst 8) i 5) i_1 4)), nI (asI (asG (asG (asA r8.fst 8) i 5) i_1 5)), vslMsgS (asG (asG (asA r8.fst 8) i 5) i_1 6)], vslIntS (asG (asA r8.fst 8) i 6), vslIntS (asG (asA r8.fst 8) i 7), AV.B (asB (asG (asA r8.fst 8) i 8))], vslMergeS (asA r8.fst 9), AV.sl (asN (asA r8.fst 10)) 2 fun i => lstG [vslTimerS (asG (asA r8.fst 10) i 0), vslIntS (asG (asA r8.fst 10) i 1)], AV.sl (asN (asA r8.fst 11)) 3 fun i => lstG [AV.sl (asN (asG (asA r8.fst 11) i 0)) 9 fun i_1 => lstG [nI (asI (asG (asG (asA r8.fst 11) i 0) i_1 0)), nI (asI (asG (asG (asA r8.fst 11) i 0) i_1 1)), nI (asI (asG (asG (asA r8.fst 11) i 0) i_1 2)), nI (asI (asG (asG (asA r8.fst 11) i 0) i_1 3)), AV.S (asS (asG (asG (asA r8.fst 11) i 0) i_1 4)), nI (asI (asG (asG (asA r8.fst 11) i 0) i_1 5)), nI (asI (asG (asG (asA r8.fst 11) i 0) i_1 6)), AV.S (asS (asG (asG (asA r8.fst 11) i 0) i_1 7)), vslMsgS (asG (asG (asA r8.fst 11) i 0) i_1 8)], nI (asI (asG (asA r8.fst 11) i 1)), AV.B (asB (asG (asA r8.fst 11) i 2))]]), AV.ag 12 (lstG [vslIntS (asA r9.fst 0), vslBoolS (asA r9.fst 1), nI (asI (asA r9.fst 2)), vslTimerS (asA r9.fst 3), vslNotifyS (asA r9.fst 4), vslEventS (asA r9.fst 5), vslLatchS (asA r9.fst 6), vslCellS (asA r9.fst 7), AV.sl (asN (asA r9.fst 8)) 9 fun i => lstG [AV.S (asS (asG (asA r9.fst 8) i 0)), nI (asI (asG (asA r9.fst 8) i 1)), nI (asI (asG (asA r9.fst 8) i 2)), vslMsgS (asG (asA r9.fst 8) i 3), nI (asI (asG (asA r9.fst 8) i 4)), AV.sl (asN (asG (asA r9.fst 8) i 5)) 7 fun i_1 => lstG [nI (asI (asG (asG (asA r9.fst 8) i 5) i_1 0)), nI (asI (asG (asG (asA r9.fst 8) i 5) i_1 1)), nI (asI (asG (asG (asA r9.fst 8) i 5) i_1 2)), nI (asI (asG (asG (asA r9.fst 8) i 5) i_1 3)), nI (asI (asG (asG (asA r9.fst 8) i 5) i_1 4)), nI (asI (asG (asG (asA r9.fst 8) i 5) i_1 5)), vslMsgS (asG (asG (asA r9.fst 8) i 5) i_1 6)], vslIntS (asG (asA r9.fst 8) i 6), vslIntS (asG (asA r9.fst 8) i 7), AV.B (asB (asG (asA r9.fst 8) i 8))], vslMergeS (asA r9.fst 9), AV.sl (asN (asA r9.fst 10)) 2 fun i => lstG [vslTimerS (asG (asA r9.fst 10) i 0), vslIntS (asG (asA r9.fst 10) i 1)], AV.sl (asN (asA r9.fst 11)) 3 fun i => lstG [AV.sl (asN (asG (asA r9.fst 11) i 0)) 9 fun i_1 => lstG [nI (asI (asG (asG (asA r9.fst 11) i 0) i_1 0)), nI (asI (asG (asG (asA r9.fst 11) i 0) i_1 1)), nI (asI (asG (asG (asA r9.fst 11) i 0) i_1 2)), nI (asI (asG (asG (asA r9.fst 11) i 0) i_1 3)), AV.S (asS (asG (asG (asA r9.fst 11) i 0) i_1 4)), nI (asI (asG (asG (asA r9.fst 11) i 0) i_1 5)), nI (asI (asG (asG (asA r9.fst 11) i 0) i_1 6)), AV.S (asS (asG (asG (asA r9.fst 11) i 0) i_1 7)), vslMsgS (asG (asG (asA r9.fst 11) i 0) i_1 8)], nI (asI (asG (asA r9.fst 11) i 1)), AV.B (asB (asG (asA r9.fst 11) i 2))]])] []) fun r10 =>
        bif !asB r10.fst == asB r7.fst then
          (some (AV.B false, []))
        else
          (and2
          (Option.bind (Γ 6 [slState x] []) fun r13 =>
            Option.bind (Γ 8 [AV.ag 12 (lstG [vslIntS (asA r8.fst 0), vslBoolS (asA r8.fst 1), nI (asI (asA r8.fst 2)), vslTimerS (asA r8.fst 3), vslNotifyS (asA r8.fst 4), vslEventS (asA r8.fst 5), vslLatchS (asA r8.fst 6), vslCellS (asA r8.fst 7), AV.sl (asN (asA r8.fst 8)) 9 fun i => lstG [AV.S (asS (asG (asA r8.fst 8) i 0)), nI (asI (asG (asA r8.fst 8) i 1)), nI (asI (asG (asA r8.fst 8) i 2)), vslMsgS (asG (asA r8.fst 8) i 3), nI (asI (asG (asA r8.fst 8) i 4)), AV.sl (asN (asG (asA r8.fst 8) i 5)) 7 fun i_1 => lstG [nI (asI (asG (asG (asA r8.fst 8) i 5) i_1 0)), nI (asI (asG (asG (asA r8.fst 8) i 5) i_1 1)), nI (asI (asG (asG (asA r8.fst 8) i 5) i_1 2)), nI (asI (asG (asG (asA r8.fst 8) i 5) i_1 3)), nI (asI (asG (asG (asA r8.fst 8) i 5) i_1 4)), nI (asI (asG (asG (asA r8.fst 8) i 5) i_1 5)), vslMsgS (asG (asG (asA r8.fst 8) i 5) i_1 6)], vslIntS (asG (asA r8.fst 8) i 6), vslIntS (asG (asA r8.fst 8) i 7), AV.B (asB (asG (asA r8.fst 8) i 8))], vslMergeS (asA r8.fst 9), AV.sl (asN (asA r8.fst 10)) 2 fun i => lstG [vslTimerS (asG (asA r8.fst 10) i 0), vslIntS (asG (asA r8.fst 10) i 1)], AV.sl (asN (asA r8.fst 11)) 3 fun i => lstG [AV.sl (asN (asG (asA r8.fst 11) i 0)) 9 fun i_1 => lstG [nI (asI (asG (asG (asA r8.fst 11) i 0) i_1 0)), nI (asI (asG (asG (asA r8.fst 11) i 0) i_1 1)), nI (asI (asG (asG (asA r8.fst 11) i 0) i_1 2)), nI (asI (asG (asG (asA r8.fst 11) i 0) i_1 3)), AV.S (asS (asG (asG (asA r8.fst 11) i 0) i_1 4)), nI (asI (asG (asG (asA r8.fst 11) i 0) i_1 5)), nI (asI (asG (asG (asA r8.fst 11) i 0) i_1 6)), AV.S (asS (asG (asG (asA r8.fst 11) i 0) i_1 7)), vslMsgS (asG (asG (asA r8.fst 11) i 0) i_1 8)], nI (asI (asG (asA r8.fst 11) i 1)), AV.B (asB (asG (asA r8.fst 11) i 2))]]), AV.ag 12 (lstG [vslIntS (asA r13.fst 0), vslBoolS (asA r13.fst 1), nI (asI (asA r13.fst 2)), vslTimerS (asA r13.fst 3), vslNotifyS (asA r13.fst 4), vslEventS (asA r13.fst 5), vslLatchS (asA r13.fst 6), vslCellS (asA r13.fst 7), AV.sl (asN (asA r13.fst 8)) 9 fun i => lstG [AV.S (asS (asG (asA r13.fst 8) i 0)), nI (asI (asG (asA r13.fst 8) i 1)), nI (asI (asG (asA r13.fst 8) i 2)), vslMsgS (asG (asA r13.fst 8) i 3), nI (asI (asG (asA r13.fst 8) i 4)), AV.sl (asN (asG (asA r13.fst 8) i 5)) 7 fun i_1 => lstG [nI (asI (asG (asG (asA r13.fst 8) i 5) i_1 0)), nI (asI (asG (asG (asA r13.fst 8) i 5) i_1 1)), nI (asI (asG (asG (asA r13.fst 8) i 5) i_1 2)), nI (asI (asG (asG (asA r13.fst 8) i 5) i_1 3)), nI (asI (asG (asG (asA r13.fst 8) i 5) i_1 4)), nI (asI (asG (asG (asA r13.fst 8) i 5) i_1 5)), vslMsgS (asG (asG (asA r13.fst 8) i 5) i_1 6)], vslIntS (asG (asA r13.fst 8) i 6), vslIntS (asG (asA r13.fst 8) i 7), AV.B (asB (asG (asA r13.fst 8) i 8))], vslMergeS (asA r13.fst 9), AV.sl (asN (asA r13.fst 10)) 2 fun i => lstG [vslTimerS (asG (asA r13.fst 10) i 0), vslIntS (asG (asA r13.fst 10) i 1)], AV.sl (asN (asA r13.fst 11)) 3 fun i => lstG [AV.sl (asN (asG (asA r13.fst 11) i 0)) 9 fun i_1 => lstG [nI (asI (asG (asG (asA r13.fst 11) i 0) i_1 0)), nI (asI (asG (asG (asA r13.fst 11) i 0) i_1 1)), nI (asI (asG (asG (asA r13.fst 11) i 0) i_1 2)), nI (asI (asG (asG (asA r13.fst 11) i 0) i_1 3)), AV.S (asS (asG (asG (asA r13.fst 11) i 0) i_1 4)), nI (asI (asG (asG (asA r13.fst 11) i 0) i_1 5)), nI (asI (asG (asG (asA r13.fst 11) i 0) i_1 6)), AV.S (asS (asG (asG (asA r13.fst 11) i 0) i_1 7)), vslMsgS (asG (asG (asA r13.fst 11) i 0) i_1 8)], nI (asI (asG (asA r13.fst 11) i 1)), AV.B (asB (asG (asA r13.fst 11) i 2))]])] []) fun r14 =>
            bif !asB r14.fst then
              (some (AV.B false, []))
            else
              (and2
              (Option.bind (Γ 6 [slState y] []) fun r17 =>
                Option.bind (Γ 8 [AV.ag 12 (lstG [vslIntS (asA r9.fst 0), vslBoolS (asA r9.fst 1), nI (asI (asA r9.fst 2)), vslTimerS (asA r9.fst 3), vslNotifyS (asA r9.fst 4), vslEventS (asA r9.fst 5), vslLatchS (asA r9.fst 6), vslCellS (asA r9.fst 7), AV.sl (asN (asA r9.fst 8)) 9 fun i => lstG [AV.S (asS (asG (asA r9.fst 8) i 0)), nI (asI (asG (asA r9.fst 8) i 1)), nI (asI (asG (asA r9.fst 8) i 2)), vslMsgS (asG (asA r9.fst 8) i 3), nI (asI (asG (asA r9.fst 8) i 4)), AV.sl (asN (asG (asA r9.fst 8) i 5)) 7 fun i_1 => lstG [nI (asI (asG (asG (asA r9.fst 8) i 5) i_1 0)), nI (asI (asG (asG (asA r9.fst 8) i 5) i_1 1)), nI (asI (asG (asG (asA r9.fst 8) i 5) i_1 2)), nI (asI (asG (asG (asA r9.fst 8) i 5) i_1 3)), nI (asI (asG (asG (asA r9.fst 8) i 5) i_1 4)), nI (asI (asG (asG (asA r9.fst 8) i 5) i_1 5)), vslMsgS (asG (asG (asA r9.fst 8) i 5) i_1 6)], vslIntS (asG (asA r9.fst 8) i 6), vslIntS (asG (asA r9.fst 8) i 7), AV.B (asB (asG (asA r9.fst 8) i 8))], vslMergeS (asA r9.fst 9), AV.sl (asN (asA r9.fst 10)) 2 fun i => lstG [vslTimerS (asG (asA r9.fst 10) i 0), vslIntS (asG (asA r9.fst 10) i 1)], AV.sl (asN (asA r9.fst 11)) 3 fun i => lstG [AV.sl (asN (asG (asA r9.fst 11) i 0)) 9 fun i_1 => lstG [nI (asI (asG (asG (asA r9.fst 11) i 0) i_1 0)), nI (asI (asG (asG (asA r9.fst 11) i 0) i_1 1)), nI (asI (asG (asG (asA r9.fst 11) i 0) i_1 2)), nI (asI (asG (asG (asA r9.fst 11) i 0) i_1 3)), AV.S (asS (asG (asG (asA r9.fst 11) i 0) i_1 4)), nI (asI (asG (asG (asA r9.fst 11) i 0) i_1 5)), nI (asI (asG (asG (asA r9.fst 11) i 0) i_1 6)), AV.S (asS (asG (asG (asA r9.fst 11) i 0) i_1 7)), vslMsgS (asG (asG (asA r9.fst 11) i 0) i_1 8)], nI (asI (asG (asA r9.fst 11) i 1)), AV.B (asB (asG (asA r9.fst 11) i 2))]]), AV.ag 12 (lstG [vslIntS (asA r17.fst 0), vslBoolS (asA r17.fst 1), nI (asI (asA r17.fst 2)), vslTimerS (asA r17.fst 3), vslNotifyS (asA r17.fst 4), vslEventS (asA r17.fst 5), vslLatchS (asA r17.fst 6), vslCellS (asA r17.fst 7), AV.sl (asN (asA r17.fst 8)) 9 fun i => lstG [AV.S (asS (asG (asA r17.fst 8) i 0)), nI (asI (asG (asA r17.fst 8) i 1)), nI (asI (asG (asA r17.fst 8) i 2)), vslMsgS (asG (asA r17.fst 8) i 3), nI (asI (asG (asA r17.fst 8) i 4)), AV.sl (asN (asG (asA r17.fst 8) i 5)) 7 fun i_1 => lstG [nI (asI (asG (asG (asA r17.fst 8) i 5) i_1 0)), nI (asI (asG (asG (asA r17.fst 8) i 5) i_1 1)), nI (asI (asG (asG (asA r17.fst 8) i 5) i_1 2)), nI (asI (asG (asG (asA r17.fst 8) i 5) i_1 3)), nI (asI (asG (asG (asA r17.fst 8) i 5) i_1 4)), nI (asI (asG (asG (asA r17.fst 8) i 5) i_1 5)), vslMsgS (asG (asG (asA r17.fst 8) i 5) i_1 6)], vslIntS (asG (asA r17.fst 8) i 6), vslIntS (asG (asA r17.fst 8) i 7), AV.B (asB (asG (asA r17.fst 8) i 8))], vslMergeS (asA r17.fst 9), AV.sl (asN (asA r17.fst 10)) 2 fun i => lstG [vslTimerS (asG (asA r17.fst 10) i 0), vslIntS (asG (asA r17.fst 10) i 1)], AV.sl (asN (asA r17.fst 11)) 3 fun i => lstG [AV.sl (asN (asG (asA r17.fst 11) i 0)) 9 fun i_1 => lstG [nI (asI (asG (asG (asA r17.fst 11) i 0) i_1 0)), nI (asI (asG (asG (asA r17.fst 11) i 0) i_1 1)), nI (asI (asG (asG (asA r17.fst 11) i 0) i_1 2)), nI (asI (asG (asG (asA r17.fst 11) i 0) i_1 3)), AV.S (asS (asG (asG (asA r17.fst 11) i 0) i_1 4)), nI (asI (asG (asG (asA r17.fst 11) i 0) i_1 5)), nI (asI (asG (asG (asA r17.fst 11) i 0) i_1 6)), AV.S (asS (asG (asG (asA r17.fst 11) i 0) i_1 7)), vslMsgS (asG (asG (asA r17.fst 11) i 0) i_1 8)], nI (asI (asG (asA r17.fst 11) i 1)), AV.B (asB (asG (asA r17.fst 11) i 2))]])] []) fun r18 =>
                bif !asB r18.fst then
                  (some (AV.B false, []))
                else
                  (some (AV.B true, [])))
              (Option.bind (Γ 6 [slState y] []) fun r17 =>
                Option.bind (Γ 8 [AV.ag 12 (lstG [vslIntS (asA r9.fst 0), vslBoolS (asA r9.fst 1), nI (asI (asA r9.fst 2)), vslTimerS (asA r9.fst 3), vslNotifyS (asA r9.fst 4), vslEventS (asA r9.fst 5), vslLatchS (asA r9.fst 6), vslCellS (asA r9.fst 7), AV.sl (asN (asA r9.fst 8)) 9 fun i => lstG [AV.S (asS (asG (asA r9.fst 8) i 0)), nI (asI (asG (asA r9.fst 8) i 1)), nI (asI (asG (asA r9.fst 8) i 2)), vslMsgS (asG (asA r9.fst 8) i 3), nI (asI (asG (asA r9.fst 8) i 4)), AV.sl (asN (asG (asA r9.fst 8) i 5)) 7 fun i_1 => lstG [nI (asI (asG (asG (asA r9.fst 8) i 5) i_1 0)), nI (asI (asG (asG (asA r9.fst 8) i 5) i_1 1)), nI (asI (asG (asG (asA r9.fst 8) i 5) i_1 2)), nI (asI (asG (asG (asA r9.fst 8) i 5) i_1 3)), nI (asI (asG (asG (asA r9.fst 8) i 5) i_1 4)), nI (asI (asG (asG (asA r9.fst 8) i 5) i_1 5)), vslMsgS (asG (asG (asA r9.fst 8) i 5) i_1 6)], vslIntS (asG (asA r9.fst 8) i 6), vslIntS (asG (asA r9.fst 8) i 7), AV.B (asB (asG (asA r9.fst 8) i 8))], vslMergeS (asA r9.fst 9), AV.sl (asN (asA r9.fst 10)) 2 fun i => lstG [vslTimerS (asG (asA r9.fst 10) i 0), vslIntS (asG (asA r9.fst 10) i 1)], AV.sl (asN (asA r9.fst 11)) 3 fun i => lstG [AV.sl (asN (asG (asA r9.fst 11) i 0)) 9 fun i_1 => lstG [nI (asI (asG (asG (asA r9.fst 11) i 0) i_1 0)), nI (asI (asG (asG (asA r9.fst 11) i 0) i_1 1)), nI (asI (asG (asG (asA r9.fst 11) i 0) i_1 2)), nI (asI (asG (asG (asA r9.fst 11) i 0) i_1 3)), AV.S (asS (asG (asG (asA r9.fst 11) i 0) i_1 4)), nI (asI (asG (asG (asA r9.fst 11) i 0) i_1 5)), nI (asI (asG (asG (asA r9.fst 11) i 0) i_1 6)), AV.S (asS (asG (asG (asA r9.fst 11) i 0) i_1 7)), vslMsgS (asG (asG (asA r9.fst 11) i 0) i_1 8)], nI (asI (asG (asA r9.fst 11) i 1)), AV.B (asB (asG (asA r9.fst 11) i 2))]]), AV.ag 12 (lstG [vslIntS (asA r17.fst 0), vslBoolS (asA r17.fst 1), nI (asI (asA r17.fst 2)), vslTimerS (asA r17.fst 3), vslNotifyS (asA r17.fst 4), vslEventS (asA r17.fst 5), vslLatchS (asA r17.fst 6), vslCellS (asA r17.fst 7), AV.sl (asN (asA r17.fst 8)) 9 fun i => lstG [AV.S (asS (asG (asA r17.fst 8) i 0)), nI (asI (asG (asA r17.fst 8) i 1)), nI (asI (asG (asA r17.fst 8) i 2)), vslMsgS (asG (asA r17.fst 8) i 3), nI (asI (asG (asA r17.fst 8) i 4)), AV.sl (asN (asG (asA r17.fst 8) i 5)) 7 fun i_1 => lstG [nI (asI (asG (asG (asA r17.fst 8) i 5) i_1 0)), nI (asI (asG (asG (asA r17.fst 8) i 5) i_1 1)), nI (asI (asG (asG (asA r17.fst 8) i 5) i_1 2)), nI (asI (asG (asG (asA r17.fst 8) i 5) i_1 3)), nI (asI (asG (asG (asA r17.fst 8) i 5) i_1 4)), nI (asI (asG (asG (asA r17.fst 8) i 5) i_1 5)), vslMsgS (asG (asG (asA r17.fst 8) i 5) i_1 6)], vslIntS (asG (asA r17.fst 8) i 6), vslIntS (asG (asA r17.fst 8) i 7), AV.B (asB (asG (asA r17.fst 8) i 8))], vslMergeS (asA r17.fst 9), AV.sl (asN (asA r17.fst 10)) 2 fun i => lstG [vslTimerS (asG (asA r17.fst 10) i 0), vslIntS (asG (asA r17.fst 10) i 1)], AV.sl (asN (asA r17.fst 11)) 3 fun i => lstG [AV.sl (asN (asG (asA r17.fst 11) i 0)) 9 fun i_1 => lstG [nI (asI (asG (asG (asA r17.fst 11) i 0) i_1 0)), nI (asI (asG (asG (asA r17.fst 11) i 0) i_1 1)), nI (asI (asG (asG (asA r17.fst 11) i 0) i_1 2)), nI (asI (asG (asG (asA r17.fst 11) i 0) i_1 3)), AV.S (asS (asG (asG (asA r17.fst 11) i 0) i_1 4)), nI (asI (asG (asG (asA r17.fst 11) i 0) i_1 5)), nI (asI (asG (asG (asA r17.fst 11) i 0) i_1 6)), AV.S (asS (asG (asG (asA r17.fst 11) i 0) i_1 7)), vslMsgS (asG (asG (asA r17.fst 11) i 0) i_1 8)], nI (asI (asG (asA r17.fst 11) i 1)), AV.B (asB (asG (asA r17.fst 11) i 2))]])] []) fun r18 =>
                bif !asB r18.fst then
                  (some (AV.B false, []))
                else
                  (some (AV.B true, [])))))
          (Option.bind (Γ 6 [slState x] []) fun r13 =>
            Option.bind (Γ 8 [AV.ag 12 (lstG [vslIntS (asA r8.fst 0), vslBoolS (asA r8.fst 1), nI (asI (asA r8.fst 2)), vslTimerS (asA r8.fst 3), vslNotifyS (asA r8.fst 4), vslEventS (asA r8.fst 5), vslLatchS (asA r8.fst 6), vslCellS (asA r8.fst 7), AV.sl (asN (asA r8.fst 8)) 9 fun i => lstG [AV.S (asS (asG (asA r8.fst 8) i 0)), nI (asI (asG (asA r8.fst 8) i 1)), nI (asI (asG (asA r8.fst 8) i 2)), vslMsgS (asG (asA r8.fst 8) i 3), nI (asI (asG (asA r8.fst 8) i 4)), AV.sl (asN (asG (asA r8.fst 8) i 5)) 7 fun i_1 => lstG [nI (asI (asG (asG (asA r8.fst 8) i 5) i_1 0)), nI (asI (asG (asG (asA r8.fst 8) i 5) i_1 1)), nI (asI (asG (asG (asA r8.fst 8) i 5) i_1 2)), nI (asI (asG (asG (asA r8.fst 8) i 5) i_1 3)), nI (asI (asG (asG (asA r8.fst 8) i 5) i_1 4)), nI (asI (asG (asG (asA r8.fst 8) i 5) i_1 5)), vslMsgS (asG (asG (asA r8.fst 8) i 5) i_1 6)], vslIntS (asG (asA r8.fst 8) i 6), vslIntS (asG (asA r8.fst 8) i 7), AV.B (asB (asG (asA r8.fst 8) i 8))], vslMergeS (asA r8.fst 9), AV.sl (asN (asA r8.fst 10)) 2 fun i => lstG [vslTimerS (asG (asA r8.fst 10) i 0), vslIntS (asG (asA r8.fst 10) i 1)], AV.sl (asN (asA r8.fst 11)) 3 fun i => lstG [AV.sl (asN (asG (asA r8.fst 11) i 0)) 9 fun i_1 => lstG [nI (asI (asG (asG (asA r8.fst 11) i 0) i_1 0)), nI (asI (asG (asG (asA r8.fst 11) i 0) i_1 1)), nI (asI (asG (asG (asA r8.fst 11) i 0) i_1 2)), nI (asI (asG (asG (asA r8.fst 11) i 0) i_1 3)), AV.S (asS (asG (asG (asA r8.fst 11) i 0) i_1 4)), nI (asI (asG (asG (asA r8.fst 11) i 0) i_1 5)), nI (asI (asG (asG (asA r8.fst 11) i 0) i_1 6)), AV.S (asS (asG (asG (asA r8.fst 11) i 0) i_1 7)), vslMsgS (asG (asG (asA r8.fst 11) i 0) i_1 8)], nI (asI (asG (asA r8.fst 11) i 1)), AV.B (asB (asG (asA r8.fst 11) i 2))]]), AV.ag 12 (lstG [vslIntS (asA r13.fst 0), vslBoolS (asA r13.fst 1), nI (asI (asA r13.fst 2)), vslTimerS (asA r13.fst 3), vslNotifyS (asA r13.fst 4), vslEventS (asA r13.fst 5), vslLatchS (asA r13.fst 6), vslCellS (asA r13.fst 7), AV.sl (asN (asA r13.fst 8)) 9 fun i => lstG [AV.S (asS (asG (asA r13.fst 8) i 0)), nI (asI (asG (asA r13.fst 8) i 1)), nI (asI (asG (asA r13.fst 8) i 2)), vslMsgS (asG (asA r13.fst 8) i 3), nI (asI (asG (asA r13.fst 8) i 4)), AV.sl (asN (asG (asA r13.fst 8) i 5)) 7 fun i_1 => lstG [nI (asI (asG (asG (asA r13.fst 8) i 5) i_1 0)), nI (asI (asG (asG (asA r13.fst 8) i 5) i_1 1)), nI (asI (asG (asG (asA r13.fst 8) i 5) i_1 2)), nI (asI (asG (asG (asA r13.fst 8) i 5) i_1 3)), nI (asI (asG (asG (asA r13.fst 8) i 5) i_1 4)), nI (asI (asG (asG (asA r13.fst 8) i 5) i_1 5)), vslMsgS (asG (asG (asA r13.fst 8) i 5) i_1 6)], vslIntS (asG (asA r13.fst 8) i 6), vslIntS (asG (asA r13.fst 8) i 7), AV.B (asB (asG (asA r13.fst 8) i 8))], vslMergeS (asA r13.fst 9), AV.sl (asN (asA r13.fst 10)) 2 fun i => lstG [vslTimerS (asG (asA r13.fst 10) i 0), vslIntS (asG (asA r13.fst 10) i 1)], AV.sl (asN (asA r13.fst 11)) 3 fun i => lstG [AV.sl (asN (asG (asA r13.fst 11) i 0)) 9 fun i_1 => lstG [nI (asI (asG (asG (asA r13.fst 11) i 0) i_1 0)), nI (asI (asG (asG (asA r13.fst 11) i 0) i_1 1)), nI (asI (asG (asG (asA r13.fst 11) i 0) i_1 2)), nI (asI (asG (asG (asA r13.fst 11) i 0) i_1 3)), AV.S (asS (asG (asG (asA r13.fst 11) i 0) i_1 4)), nI (asI (asG (asG (asA r13.fst 11) i 0) i_1 5)), nI (asI (asG (asG (asA r13.fst 11) i 0) i_1 6)), AV.S (asS (asG (asG (asA r13.fst 11) i 0) i_1 7)), vslMsgS (asG (asG (asA r13.fst 11) i 0) i_1 8)], nI (asI (asG (asA r13.fst 11) i 1)), AV.B (asB (asG (asA r13.fst 11) i 2))]])] []) fun r14 =>
            bif !asB r14.fst then
              (some (AV.B false, []))
            else
              (and2
              (Option.bind (Γ 6 [slState y] []) fun r17 =>
                Option.bind (Γ 8 [AV.ag 12 (lstG [vslIntS (asA r9.fst 0), vslBoolS (asA r9.fst 1), nI (asI (asA r9.fst 2)), vslTimerS (asA r9.fst 3), vslNotifyS (asA r9.fst 4), vslEventS (asA r9.fst 5), vslLatchS (asA r9.fst 6), vslCellS (asA r9.fst 7), AV.sl (asN (asA r9.fst 8)) 9 fun i => lstG [AV.S (asS (asG (asA r9.fst 8) i 0)), nI (asI (asG (asA r9.fst 8) i 1)), nI (asI (asG (asA r9.fst 8) i 2)), vslMsgS (asG (asA r9.fst 8) i 3), nI (asI (asG (asA r9.fst 8) i 4)), AV.sl (asN (asG (asA r9.fst 8) i 5)) 7 fun i_1 => lstG [nI (asI (asG (asG (asA r9.fst 8) i 5) i_1 0)), nI (asI (asG (asG (asA r9.fst 8) i 5) i_1 1)), nI (asI (asG (asG (asA r9.fst 8) i 5) i_1 2)), nI (asI (asG (asG (asA r9.fst 8) i 5) i_1 3)), nI (asI (asG (asG (asA r9.fst 8) i 5) i_1 4)), nI (asI (asG (asG (asA r9.fst 8) i 5) i_1 5)), vslMsgS (asG (asG (asA r9.fst 8) i 5) i_1 6)], vslIntS (asG (asA r9.fst 8) i 6), vslIntS (asG (asA r9.fst 8) i 7), AV.B (asB (asG (asA r9.fst 8) i 8))], vslMergeS (asA r9.fst 9), AV.sl (asN (asA r9.fst 10)) 2 fun i => lstG [vslTimerS (asG (asA r9.fst 10) i 0), vslIntS (asG (asA r9.fst 10) i 1)], AV.sl (asN (asA r9.fst 11)) 3 fun i => lstG [AV.sl (asN (asG (asA r9.fst 11) i 0)) 9 fun i_1 => lstG [nI (asI (asG (asG (asA r9.fst 11) i 0) i_1 0)), nI (asI (asG (asG (asA r9.fst 11) i 0) i_1 1)), nI (asI (asG (asG (asA r9.fst 11) i 0) i_1 2)), nI (asI (asG (asG (asA r9.fst 11) i 0) i_1 3)), AV.S (asS (asG (asG (asA r9.fst 11) i 0) i_1 4)), nI (asI (asG (asG (asA r9.fst 11) i 0) i_1 5)), nI (asI (asG (asG (asA r9.fst 11) i 0) i_1 6)), AV.S (asS (asG (asG (asA r9.fst 11) i 0) i_1 7)), vslMsgS (asG (asG (asA r9.fst 11) i 0) i_1 8)], nI (asI (asG (asA r9.fst 11) i 1)), AV.B (asB (asG (asA r9.fst 11) i 2))]]), AV.ag 12 (lstG [vslIntS (asA r17.fst 0), vslBoolS (asA r17.fst 1), nI (asI (asA r17.fst 2)), vslTimerS (asA r17.fst 3), vslNotifyS (asA r17.fst 4), vslEventS (asA r17.fst 5), vslLatchS (asA r17.fst 6), vslCellS (asA r17.fst 7), AV.sl (asN (asA r17.fst 8)) 9 fun i => lstG [AV.S (asS (asG (asA r17.fst 8) i 0)), nI (asI (asG (asA r17.fst 8) i 1)), nI (asI (asG (asA r17.fst 8) i 2)), vslMsgS (asG (asA r17.fst 8) i 3), nI (asI (asG (asA r17.fst 8) i 4)), AV.sl (asN (asG (asA r17.fst 8) i 5)) 7 fun i_1 => lstG [nI (asI (asG (asG (asA r17.fst 8) i 5) i_1 0)), nI (asI (asG (asG (asA r17.fst 8) i 5) i_1 1)), nI (asI (asG (asG (asA r17.fst 8) i 5) i_1 2)), nI (asI (asG (asG (asA r17.fst 8) i 5) i_1 3)), nI (asI (asG (asG (asA r17.fst 8) i 5) i_1 4)), nI (asI (asG (asG (asA r17.fst 8) i 5) i_1 5)), vslMsgS (asG (asG (asA r17.fst 8) i 5) i_1 6)], vslIntS (asG (asA r17.fst 8) i 6), vslIntS (asG (asA r17.fst 8) i 7), AV.B (asB (asG (asA r17.fst 8) i 8))], vslMergeS (asA r17.fst 9), AV.sl (asN (asA r17.fst 10)) 2 fun i => lstG [vslTimerS (asG (asA r17.fst 10) i 0), vslIntS (asG (asA r17.fst 10) i 1)], AV.sl (asN (asA r17.fst 11)) 3 fun i => lstG [AV.sl (asN (asG (asA r17.fst 11) i 0)) 9 fun i_1 => lstG [nI (asI (asG (asG (asA r17.fst 11) i 0) i_1 0)), nI (asI (asG (asG (asA r17.fst 11) i 0) i_1 1)), nI (asI (asG (asG (asA r17.fst 11) i 0) i_1 2)), nI (asI (asG (asG (asA r17.fst 11) i 0) i_1 3)), AV.S (asS (asG (asG (asA r17.fst 11) i 0) i_1 4)), nI (asI (asG (asG (asA r17.fst 11) i 0) i_1 5)), nI (asI (asG (asG (asA r17.fst 11) i 0) i_1 6)), AV.S (asS (asG (asG (asA r17.fst 11) i 0) i_1 7)), vslMsgS (asG (asG (asA r17.fst 11) i 0) i_1 8)], nI (asI (asG (asA r17.fst 11) i 1)), AV.B (asB (asG (asA r17.fst 11) i 2))]])] []) fun r18 =>
                bif !asB r18.fst then
                  (some (AV.B false, []))
                else
                  (some (AV.B true, [])))
              (Option.bind (Γ 6 [slState y] []) fun r17 =>
                Option.bind (Γ 8 [AV.ag 12 (lstG [vslIntS (asA r9.fst 0), vslBoolS (asA r9.fst 1), nI (asI (asA r9.fst 2)), vslTimerS (asA r9.fst 3), vslNotifyS (asA r9.fst 4), vslEventS (asA r9.fst 5), vslLatchS (asA r9.fst 6), vslCellS (asA r9.fst 7), AV.sl (asN (asA r9.fst 8)) 9 fun i => lstG [AV.S (asS (asG (asA r9.fst 8) i 0)), nI (asI (asG (asA r9.fst 8) i 1)), nI (asI (asG (asA r9.fst 8) i 2)), vslMsgS (asG (asA r9.fst 8) i 3), nI (asI (asG (asA r9.fst 8) i 4)), AV.sl (asN (asG (asA r9.fst 8) i 5)) 7 fun i_1 => lstG [nI (asI (asG (asG (asA r9.fst 8) i 5) i_1 0)), nI (asI (asG (asG (asA r9.fst 8) i 5) i_1 1)), nI (asI (asG (asG (asA r9.fst 8) i 5) i_1 2)), nI (asI (asG (asG (asA r9.fst 8) i 5) i_1 3)), nI (asI (asG (asG (asA r9.fst 8) i 5) i_1 4)), nI (asI (asG (asG (asA r9.fst 8) i 5) i_1 5)), vslMsgS (asG (asG (asA r9.fst 8) i 5) i_1 6)], vslIntS (asG (asA r9.fst 8) i 6), vslIntS (asG (asA r9.fst 8) i 7), AV.B (asB (asG (asA r9.fst 8) i 8))], vslMergeS (asA r9.fst 9), AV.sl (asN (asA r9.fst 10)) 2 fun i => lstG [vslTimerS (asG (asA r9.fst 10) i 0), vslIntS (asG (asA r9.fst 10) i 1)], AV.sl (asN (asA r9.fst 11)) 3 fun i => lstG [AV.sl (asN (asG (asA r9.fst 11) i 0)) 9 fun i_1 => lstG [nI (asI (asG (asG (asA r9.fst 11) i 0) i_1 0)), nI (asI (asG (asG (asA r9.fst 11) i 0) i_1 1)), nI (asI (asG (asG (asA r9.fst 11) i 0) i_1 2)), nI (asI (asG (asG (asA r9.fst 11) i 0) i_1 3)), AV.S (asS (asG (asG (asA r9.fst 11) i 0) i_1 4)), nI (asI (asG (asG (asA r9.fst 11) i 0) i_1 5)), nI (asI (asG (asG (asA r9.fst 11) i 0) i_1 6)), AV.S (asS (asG (asG (asA r9.fst 11) i 0) i_1 7)), vslMsgS (asG (asG (asA r9.fst 11) i 0) i_1 8)], nI (asI (asG (asA r9.fst 11) i 1)), AV.B (asB (asG (asA r9.fst 11) i 2))]]), AV.ag 12 (lstG [vslIntS (asA r17.fst 0), vslBoolS (asA r17.fst 1), nI (asI (asA r17.fst 2)), vslTimerS (asA r17.fst 3), vslNotifyS (asA r17.fst 4), vslEventS (asA r17.fst 5), vslLatchS (asA r17.fst 6), vslCellS (asA r17.fst 7), AV.sl (asN (asA r17.fst 8)) 9 fun i => lstG [AV.S (asS (asG (asA r17.fst 8) i 0)), nI (asI (asG (asA r17.fst 8) i 1)), nI (asI (asG (asA r17.fst 8) i 2)), vslMsgS (asG (asA r17.fst 8) i 3), nI (asI (asG (asA r17.fst 8) i 4)), AV.sl (asN (asG (asA r17.fst 8) i 5)) 7 fun i_1 => lstG [nI (asI (asG (asG (asA r17.fst 8) i 5) i_1 0)), nI (asI (asG (asG (asA r17.fst 8) i 5) i_1 1)), nI (asI (asG (asG (asA r17.fst 8) i 5) i_1 2)), nI (asI (asG (asG (asA r17.fst 8) i 5) i_1 3)), nI (asI (asG (asG (asA r17.fst 8) i 5) i_1 4)), nI (asI (asG (asG (asA r17.fst 8) i 5) i_1 5)), vslMsgS (asG (asG (asA r17.fst 8) i 5) i_1 6)], vslIntS (asG (asA r17.fst 8) i 6), vslIntS (asG (asA r17.fst 8) i 7), AV.B (asB (asG (asA r17.fst 8) i 8))], vslMergeS (asA r17.fst 9), AV.sl (asN (asA r17.fst 10)) 2 fun i => lstG [vslTimerS (asG (asA r17.fst 10) i 0), vslIntS (asG (asA r17.fst 10) i 1)], AV.sl (asN (asA r17.fst 11)) 3 fun i => lstG [AV.sl (asN (asG (asA r17.fst 11) i 0)) 9 fun i_1 => lstG [nI (asI (asG (asG (asA r17.fst 11) i 0) i_1 0)), nI (asI (asG (asG (asA r17.fst 11) i 0) i_1 1)), nI (asI (asG (asG (asA r17.fst 11) i 0) i_1 2)), nI (asI (asG (asG (asA r17.fst 11) i 0) i_1 3)), AV.S (asS (asG (asG (asA r17.fst 11) i 0) i_1 4)), nI (asI (asG (asG (asA r17.fst 11) i 0) i_1 5)), nI (asI (asG (asG (asA r17.fst 11) i 0) i_1 6)), AV.S (asS (asG (asG (asA r17.fst 11) i 0) i_1 7)), vslMsgS (asG (asG (asA r17.fst 11) i 0) i_1 8)], nI (asI (asG (asA r17.fst 11) i 1)), AV.B (asB (asG (asA r17.fst 11) i 2))]])] []) fun r18 =>
                bif !asB r18.fst then
                  (some (AV.B false, []))
                else
                  (some (AV.B true, []))))))))) := by kernel_rfl
theorem h5a (Γ : Orc) (H : Hd) (x y : VState) (i : Int) : hed Tryz.prog cfg Γ 5 H [] P5a (S5a x y i) =
  bif decide (i < zN x.Clients.length) then
    (bif bif decide (0 ≤ i) then decide (i < zN x.Clients.length) else false then
      (and2
      (bif bif decide (0 ≤ i) then decide (i < zN y.Clients.length) else false then
          (and2
          (and2
            (H P5c (S5c x y i (x.Clients.getD i.toNat zClient) (y.Clients.getD i.toNat zClient)))
            (H P5c (S5c x y i (x.Clients.getD i.toNat zClient) (y.Clients.getD i.toNat zClient))))
          (and2
            (and2
              (H P5c (S5c x y i (x.Clients.getD i.toNat zClient) (y.Clients.getD i.toNat zClient)))
              (and2
                (H P5c (S5c x y i (x.Clients.getD i.toNat zClient) (y.Clients.getD i.toNat zClient)))
                (H P5c (S5c x y i (x.Clients.getD i.toNat zClient) (y.Clients.getD i.toNat zClient)))))
            (and2
              (H P5c (S5c x y i (x.Clients.getD i.toNat zClient) (y.Clients.getD i.toNat zClient)))
              (and2
                (H P5c (S5c x y i (x.Clients.getD i.toNat zClient) (y.Clients.getD i.toNat zClient)))
                (H P5c (S5c x y i (x.Clients.getD i.toNat zClient) (y.Clients.getD i.toNat zClient)))))))
        else
          (none))
      (and2
        (and2
          (bif bif decide (0 ≤ i) then decide (i < zN y.Clients.length) else false then
              (and2
              (H P5c (S5c x y i (x.Clients.getD i.toNat zClient) (y.Clients.getD i.toNat zClient)))
              (and2
                (H P5c (S5c x y i (x.Clients.getD i.toNat zClient) (y.Clients.getD i.toNat zClient)))
                (H P5c (S5c x y i (x.Clients.getD i.toNat zClient) (y.Clients.getD i.toNat zClient)))))
            else
              (none))
          (and2
            (bif bif decide (0 ≤ i) then decide (i < zN y.Clients.length) else false then
                (and2
                (H P5c (S5c x y i (x.Clients.getD i.toNat zClient) (y.Clients.getD i.toNat zClient)))
                (H P5c (S5c x y i (x.Clients.getD i.toNat zClient) (y.Clients.getD i.toNat zClient))))
              else
                (none))
            (bif bif decide (0 ≤ i) then decide (i < zN y.Clients.length) else false then
                (H P5c (S5c x y i (x.Clients.getD i.toNat zClient) (y.Clients.getD i.toNat zClient)))
              else
                (none))))
        (and2
          (bif bif decide (0 ≤ i) then decide (i < zN y.Clients.length) else false then
              (and2
              (H P5c (S5c x y i (x.Clients.getD i.toNat zClient) (y.Clients.getD i.toNat zClient)))
              (and2
                (H P5c (S5c x y i (x.Clients.getD i.toNat zClient) (y.Clients.getD i.toNat zClient)))
                (H P5c (S5c x y i (x.Clients.getD i.toNat zClient) (y.Clients.getD i.toNat zClient)))))
            else
              (none))
          (and2
            (bif bif decide (0 ≤ i) then decide (i < zN y.Clients.length) else false then
                (and2
                (H P5c (S5c x y i (x.Clients.getD i.toNat zClient) (y.Clients.getD i.toNat zClient)))
                (H P5c (S5c x y i (x.Clients.getD i.toNat zClient) (y.Clients.getD i.toNat zClient))))
              else
                (none))
            (bif bif decide (0 ≤ i) then decide (i < zN y.Clients.length) else false then
                (H P5c (S5c x y i (x.Clients.getD i.toNat zClient) (y.Clients.getD i.toNat zClient)))
              else
                (none))))))
    else
      (none))
  else
    (Option.bind (Γ 12 [slHub x.Hub, slHub y.Hub] []) fun r =>
    some (AV.B (asB r.fst), [])) := by kernel_rfl
end Go.Fw
