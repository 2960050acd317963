/- The law FnBoxes. -/
import Derived.Test.YtfdalaakechldaaBox
import Derived.Test.YtfdalaakechldaaBoxP
set_option linter.unusedVariables false
set_option linter.unusedSimpArgs false
set_option maxRecDepth 100000
set_option maxHeartbeats 2000000
namespace Go.Proofs.Ytfdalaakechldaa
open Go.Ev Go.Ev.Fl

/-! laws.FnBoxes -/
noncomputable def c_laws_FnBoxes : Ctx := mkC Try.prog tyT [(4, s_laws_r8Long), (5, s_spec_R8Box), (6, s_spec_R8Within), (7, s_impl_SplitBox), (8, s_impl_IsInBox), (9, s_spec_R8Point), (10, s_impl_CutBoxes), (11, s_impl_BoxAround), (12, s_impl_GrowBox), (13, s_impl_SizeRange), (14, s_impl_LongRange), (15, s_impl_LongOf)] [] [] 212 (fun _ => none) 0 false [] false true
theorem w_laws_FnBoxes (xs ys : List Int) (K : V → Heap → Prop) : wpFn c_laws_FnBoxes Try.f3 (encAs [.cell tB, .cell tB] (xs, ys, ())) [] K =
  cond (decide (48 < List.length xs) || decide (48 < List.length ys))
    (K (.bool true) [])
    (cond (splOk (bxV xs))
      (cond (!inB (bxV xs) (inV ys (bxV xs)))
        (K (.bool false) [])
        (cond (!inB (oneB (bxV xs)) (inV ys (bxV xs)))
          (cond (!inB (twoB (bxV xs)) (inV ys (bxV xs)))
            (K (.bool false) [])
            (cond (!inB (bxV xs) (Prod.snd (oneB (bxV xs))))
              (K (.bool false) [])
              (cond (!inB (bxV xs) (Prod.fst (twoB (bxV xs))))
                (K (.bool false) [])
                (cond (!inB (oneB (bxV xs)) (Prod.fst (bxV xs)))
                  (K (.bool false) [])
                  (cond (!inB (twoB (bxV xs)) (Prod.snd (bxV xs)))
                    (K (.bool false) [])
                    (cond (validB (bxV xs) && validB (bxV ys))
                      (cond (inB (bxV xs) (pointV xs))
                        (cond (cutOk (bxV xs) (bxV ys))
                          (cond (inB (bxV ys) (pointV xs) != inB (tolB (bxV xs) (bxV ys)) (pointV xs))
                            (K (.bool false) [])
                            (cond (arOk [inV ys (bxV xs), pointV xs, Prod.fst (bxV ys)])
                              (cond (groOk (arB [inV ys (bxV xs), pointV xs, Prod.fst (bxV ys)]) 1056964608)
                                (cond (flt FloatKind.f32 (Prod.fst (inV ys (bxV xs))) 0)
                                  (cond (inB (arB [inV ys (bxV xs), pointV xs, Prod.fst (bxV ys)]) (inV ys (bxV xs)))
                                    (cond (inB (arB [inV ys (bxV xs), pointV xs, Prod.fst (bxV ys)]) (pointV xs))
                                      (cond (inB (groB (arB [inV ys (bxV xs), pointV xs, Prod.fst (bxV ys)]) 1056964608) (Prod.fst (arB [inV ys (bxV xs), pointV xs, Prod.fst (bxV ys)])))
                                        (cond (!inB (arB [inV ys (bxV xs), pointV xs, Prod.fst (bxV ys)]) (Prod.snd (groB (arB [inV ys (bxV xs), pointV xs, Prod.fst (bxV ys)]) 1056964608)))
                                          (cond (fge FloatKind.f32 (fneg FloatKind.f32 (Prod.fst (inV ys (bxV xs)))) (Prod.fst (sizeR (Prod.fst (Prod.fst (bxV xs)), Prod.fst (Prod.snd (bxV xs))))))
                                            (cond (fle FloatKind.f32 (fneg FloatKind.f32 (Prod.fst (inV ys (bxV xs)))) (Prod.snd (sizeR (Prod.fst (Prod.fst (bxV xs)), Prod.fst (Prod.snd (bxV xs))))))
                                              (cond (fge FloatKind.f32 (longV (inV ys (bxV xs))) (Prod.fst (lonR (Prod.fst (Prod.fst (bxV xs)), Prod.fst (Prod.snd (bxV xs))) (Prod.fst (Prod.snd (Prod.fst (bxV xs))), Prod.fst (Prod.snd (Prod.snd (bxV xs)))) (Prod.snd (Prod.snd (Prod.fst (bxV xs))), Prod.snd (Prod.snd (Prod.snd (bxV xs)))))))
                                                (K (.bool (fle FloatKind.f32 (longV (inV ys (bxV xs))) (Prod.snd (lonR (Prod.fst (Prod.fst (bxV xs)), Prod.fst (Prod.snd (bxV xs))) (Prod.fst (Prod.snd (Prod.fst (bxV xs))), Prod.fst (Prod.snd (Prod.snd (bxV xs)))) (Prod.snd (Prod.snd (Prod.fst (bxV xs))), Prod.snd (Prod.snd (Prod.snd (bxV xs)))))))) [])
                                                (K (.bool false) []))
                                              (K (.bool false) []))
                                            (K (.bool false) []))
                                          (K (.bool false) []))
                                        (K (.bool false) []))
                                      (K (.bool false) []))
                                    (K (.bool false) []))
                                  (cond (inB (arB [inV ys (bxV xs), pointV xs, Prod.fst (bxV ys)]) (inV ys (bxV xs)))
                                    (cond (inB (arB [inV ys (bxV xs), pointV xs, Prod.fst (bxV ys)]) (pointV xs))
                                      (cond (inB (groB (arB [inV ys (bxV xs), pointV xs, Prod.fst (bxV ys)]) 1056964608) (Prod.fst (arB [inV ys (bxV xs), pointV xs, Prod.fst (bxV ys)])))
                                        (cond (!inB (arB [inV ys (bxV xs), pointV xs, Prod.fst (bxV ys)]) (Prod.snd (groB (arB [inV ys (bxV xs), pointV xs, Prod.fst (bxV ys)]) 1056964608)))
                                          (cond (fge FloatKind.f32 (Prod.fst (inV ys (bxV xs))) (Prod.fst (sizeR (Prod.fst (Prod.fst (bxV xs)), Prod.fst (Prod.snd (bxV xs))))))
                                            (cond (fle FloatKind.f32 (Prod.fst (inV ys (bxV xs))) (Prod.snd (sizeR (Prod.fst (Prod.fst (bxV xs)), Prod.fst (Prod.snd (bxV xs))))))
                                              (cond (fge FloatKind.f32 (longV (inV ys (bxV xs))) (Prod.fst (lonR (Prod.fst (Prod.fst (bxV xs)), Prod.fst (Prod.snd (bxV xs))) (Prod.fst (Prod.snd (Prod.fst (bxV xs))), Prod.fst (Prod.snd (Prod.snd (bxV xs)))) (Prod.snd (Prod.snd (Prod.fst (bxV xs))), Prod.snd (Prod.snd (Prod.snd (bxV xs)))))))
                                                (K (.bool (fle FloatKind.f32 (longV (inV ys (bxV xs))) (Prod.snd (lonR (Prod.fst (Prod.fst (bxV xs)), Prod.fst (Prod.snd (bxV xs))) (Prod.fst (Prod.snd (Prod.fst (bxV xs))), Prod.fst (Prod.snd (Prod.snd (bxV xs)))) (Prod.snd (Prod.snd (Prod.fst (bxV xs))), Prod.snd (Prod.snd (Prod.snd (bxV xs)))))))) [])
                                                (K (.bool false) []))
                                              (K (.bool false) []))
                                            (K (.bool false) []))
                                          (K (.bool false) []))
                                        (K (.bool false) []))
                                      (K (.bool false) []))
                                    (K (.bool false) [])))
                                (False))
                              (False)))
                          (cond (inB (bxV ys) (pointV xs) != false)
                            (K (.bool false) [])
                            (cond (arOk [inV ys (bxV xs), pointV xs, Prod.fst (bxV ys)])
                              (cond (groOk (arB [inV ys (bxV xs), pointV xs, Prod.fst (bxV ys)]) 1056964608)
                                (cond (flt FloatKind.f32 (Prod.fst (inV ys (bxV xs))) 0)
                                  (cond (inB (arB [inV ys (bxV xs), pointV xs, Prod.fst (bxV ys)]) (inV ys (bxV xs)))
                                    (cond (inB (arB [inV ys (bxV xs), pointV xs, Prod.fst (bxV ys)]) (pointV xs))
                                      (cond (inB (groB (arB [inV ys (bxV xs), pointV xs, Prod.fst (bxV ys)]) 1056964608) (Prod.fst (arB [inV ys (bxV xs), pointV xs, Prod.fst (bxV ys)])))
                                        (cond (!inB (arB [inV ys (bxV xs), pointV xs, Prod.fst (bxV ys)]) (Prod.snd (groB (arB [inV ys (bxV xs), pointV xs, Prod.fst (bxV ys)]) 1056964608)))
                                          (cond (fge FloatKind.f32 (fneg FloatKind.f32 (Prod.fst (inV ys (bxV xs)))) (Prod.fst (sizeR (Prod.fst (Prod.fst (bxV xs)), Prod.fst (Prod.snd (bxV xs))))))
                                            (cond (fle FloatKind.f32 (fneg FloatKind.f32 (Prod.fst (inV ys (bxV xs)))) (Prod.snd (sizeR (Prod.fst (Prod.fst (bxV xs)), Prod.fst (Prod.snd (bxV xs))))))
                                              (cond (fge FloatKind.f32 (longV (inV ys (bxV xs))) (Prod.fst (lonR (Prod.fst (Prod.fst (bxV xs)), Prod.fst (Prod.snd (bxV xs))) (Prod.fst (Prod.snd (Prod.fst (bxV xs))), Prod.fst (Prod.snd (Prod.snd (bxV xs)))) (Prod.snd (Prod.snd (Prod.fst (bxV xs))), Prod.snd (Prod.snd (Prod.snd (bxV xs)))))))
                                                (K (.bool (fle FloatKind.f32 (longV (inV ys (bxV xs))) (Prod.snd (lonR (Prod.fst (Prod.fst (bxV xs)), Prod.fst (Prod.snd (bxV xs))) (Prod.fst (Prod.snd (Prod.fst (bxV xs))), Prod.fst (Prod.snd (Prod.snd (bxV xs)))) (Prod.snd (Prod.snd (Prod.fst (bxV xs))), Prod.snd (Prod.snd (Prod.snd (bxV xs)))))))) [])
                                                (K (.bool false) []))
                                              (K (.bool false) []))
                                            (K (.bool false) []))
                                          (K (.bool false) []))
                                        (K (.bool false) []))
                                      (K (.bool false) []))
                                    (K (.bool false) []))
                                  (cond (inB (arB [inV ys (bxV xs), pointV xs, Prod.fst (bxV ys)]) (inV ys (bxV xs)))
                                    (cond (inB (arB [inV ys (bxV xs), pointV xs, Prod.fst (bxV ys)]) (pointV xs))
                                      (cond (inB (groB (arB [inV ys (bxV xs), pointV xs, Prod.fst (bxV ys)]) 1056964608) (Prod.fst (arB [inV ys (bxV xs), pointV xs, Prod.fst (bxV ys)])))
                                        (cond (!inB (arB [inV ys (bxV xs), pointV xs, Prod.fst (bxV ys)]) (Prod.snd (groB (arB [inV ys (bxV xs), pointV xs, Prod.fst (bxV ys)]) 1056964608)))
                                          (cond (fge FloatKind.f32 (Prod.fst (inV ys (bxV xs))) (Prod.fst (sizeR (Prod.fst (Prod.fst (bxV xs)), Prod.fst (Prod.snd (bxV xs))))))
                                            (cond (fle FloatKind.f32 (Prod.fst (inV ys (bxV xs))) (Prod.snd (sizeR (Prod.fst (Prod.fst (bxV xs)), Prod.fst (Prod.snd (bxV xs))))))
                                              (cond (fge FloatKind.f32 (longV (inV ys (bxV xs))) (Prod.fst (lonR (Prod.fst (Prod.fst (bxV xs)), Prod.fst (Prod.snd (bxV xs))) (Prod.fst (Prod.snd (Prod.fst (bxV xs))), Prod.fst (Prod.snd (Prod.snd (bxV xs)))) (Prod.snd (Prod.snd (Prod.fst (bxV xs))), Prod.snd (Prod.snd (Prod.snd (bxV xs)))))))
                                                (K (.bool (fle FloatKind.f32 (longV (inV ys (bxV xs))) (Prod.snd (lonR (Prod.fst (Prod.fst (bxV xs)), Prod.fst (Prod.snd (bxV xs))) (Prod.fst (Prod.snd (Prod.fst (bxV xs))), Prod.fst (Prod.snd (Prod.snd (bxV xs)))) (Prod.snd (Prod.snd (Prod.fst (bxV xs))), Prod.snd (Prod.snd (Prod.snd (bxV xs)))))))) [])
                                                (K (.bool false) []))
                                              (K (.bool false) []))
                                            (K (.bool false) []))
                                          (K (.bool false) []))
                                        (K (.bool false) []))
                                      (K (.bool false) []))
                                    (K (.bool false) [])))
                                (False))
                              (False))))
                        (cond (cutOk (bxV xs) (bxV ys))
                          (cond (false != inB (tolB (bxV xs) (bxV ys)) (pointV xs))
                            (K (.bool false) [])
                            (cond (arOk [inV ys (bxV xs), pointV xs, Prod.fst (bxV ys)])
                              (cond (groOk (arB [inV ys (bxV xs), pointV xs, Prod.fst (bxV ys)]) 1056964608)
                                (cond (flt FloatKind.f32 (Prod.fst (inV ys (bxV xs))) 0)
                                  (cond (inB (arB [inV ys (bxV xs), pointV xs, Prod.fst (bxV ys)]) (inV ys (bxV xs)))
                                    (cond (inB (arB [inV ys (bxV xs), pointV xs, Prod.fst (bxV ys)]) (pointV xs))
                                      (cond (inB (groB (arB [inV ys (bxV xs), pointV xs, Prod.fst (bxV ys)]) 1056964608) (Prod.fst (arB [inV ys (bxV xs), pointV xs, Prod.fst (bxV ys)])))
                                        (cond (!inB (arB [inV ys (bxV xs), pointV xs, Prod.fst (bxV ys)]) (Prod.snd (groB (arB [inV ys (bxV xs), pointV xs, Prod.fst (bxV ys)]) 1056964608)))
                                          (cond (fge FloatKind.f32 (fneg FloatKind.f32 (Prod.fst (inV ys (bxV xs)))) (Prod.fst (sizeR (Prod.fst (Prod.fst (bxV xs)), Prod.fst (Prod.snd (bxV xs))))))
                                            (cond (fle FloatKind.f32 (fneg FloatKind.f32 (Prod.fst (inV ys (bxV xs)))) (Prod.snd (sizeR (Prod.fst (Prod.fst (bxV xs)), Prod.fst (Prod.snd (bxV xs))))))
                                              (cond (fge FloatKind.f32 (longV (inV ys (bxV xs))) (Prod.fst (lonR (Prod.fst (Prod.fst (bxV xs)), Prod.fst (Prod.snd (bxV xs))) (Prod.fst (Prod.snd (Prod.fst (bxV xs))), Prod.fst (Prod.snd (Prod.snd (bxV xs)))) (Prod.snd (Prod.snd (Prod.fst (bxV xs))), Prod.snd (Prod.snd (Prod.snd (bxV xs)))))))
                                                (K (.bool (fle FloatKind.f32 (longV (inV ys (bxV xs))) (Prod.snd (lonR (Prod.fst (Prod.fst (bxV xs)), Prod.fst (Prod.snd (bxV xs))) (Prod.fst (Prod.snd (Prod.fst (bxV xs))), Prod.fst (Prod.snd (Prod.snd (bxV xs)))) (Prod.snd (Prod.snd (Prod.fst (bxV xs))), Prod.snd (Prod.snd (Prod.snd (bxV xs)))))))) [])
                                                (K (.bool false) []))
                                              (K (.bool false) []))
                                            (K (.bool false) []))
                                          (K (.bool false) []))
                                        (K (.bool false) []))
                                      (K (.bool false) []))
                                    (K (.bool false) []))
                                  (cond (inB (arB [inV ys (bxV xs), pointV xs, Prod.fst (bxV ys)]) (inV ys (bxV xs)))
                                    (cond (inB (arB [inV ys (bxV xs), pointV xs, Prod.fst (bxV ys)]) (pointV xs))
                                      (cond (inB (groB (arB [inV ys (bxV xs), pointV xs, Prod.fst (bxV ys)]) 1056964608) (Prod.fst (arB [inV ys (bxV xs), pointV xs, Prod.fst (bxV ys)])))
                                        (cond (!inB (arB [inV ys (bxV xs), pointV xs, Prod.fst (bxV ys)]) (Prod.snd (groB (arB [inV ys (bxV xs), pointV xs, Prod.fst (bxV ys)]) 1056964608)))
                                          (cond (fge FloatKind.f32 (Prod.fst (inV ys (bxV xs))) (Prod.fst (sizeR (Prod.fst (Prod.fst (bxV xs)), Prod.fst (Prod.snd (bxV xs))))))
                                            (cond (fle FloatKind.f32 (Prod.fst (inV ys (bxV xs))) (Prod.snd (sizeR (Prod.fst (Prod.fst (bxV xs)), Prod.fst (Prod.snd (bxV xs))))))
                                              (cond (fge FloatKind.f32 (longV (inV ys (bxV xs))) (Prod.fst (lonR (Prod.fst (Prod.fst (bxV xs)), Prod.fst (Prod.snd (bxV xs))) (Prod.fst (Prod.snd (Prod.fst (bxV xs))), Prod.fst (Prod.snd (Prod.snd (bxV xs)))) (Prod.snd (Prod.snd (Prod.fst (bxV xs))), Prod.snd (Prod.snd (Prod.snd (bxV xs)))))))
                                                (K (.bool (fle FloatKind.f32 (longV (inV ys (bxV xs))) (Prod.snd (lonR (Prod.fst (Prod.fst (bxV xs)), Prod.fst (Prod.snd (bxV xs))) (Prod.fst (Prod.snd (Prod.fst (bxV xs))), Prod.fst (Prod.snd (Prod.snd (bxV xs)))) (Prod.snd (Prod.snd (Prod.fst (bxV xs))), Prod.snd (Prod.snd (Prod.snd (bxV xs)))))))) [])
                                                (K (.bool false) []))
                                              (K (.bool false) []))
                                            (K (.bool false) []))
                                          (K (.bool false) []))
                                        (K (.bool false) []))
                                      (K (.bool false) []))
                                    (K (.bool false) [])))
                                (False))
                              (False)))
                          (cond (arOk [inV ys (bxV xs), pointV xs, Prod.fst (bxV ys)])
                            (cond (groOk (arB [inV ys (bxV xs), pointV xs, Prod.fst (bxV ys)]) 1056964608)
                              (cond (flt FloatKind.f32 (Prod.fst (inV ys (bxV xs))) 0)
                                (cond (inB (arB [inV ys (bxV xs), pointV xs, Prod.fst (bxV ys)]) (inV ys (bxV xs)))
                                  (cond (inB (arB [inV ys (bxV xs), pointV xs, Prod.fst (bxV ys)]) (pointV xs))
                                    (cond (inB (groB (arB [inV ys (bxV xs), pointV xs, Prod.fst (bxV ys)]) 1056964608) (Prod.fst (arB [inV ys (bxV xs), pointV xs, Prod.fst (bxV ys)])))
                                      (cond (!inB (arB [inV ys (bxV xs), pointV xs, Prod.fst (bxV ys)]) (Prod.snd (groB (arB [inV ys (bxV xs), pointV xs, Prod.fst (bxV ys)]) 1056964608)))
                                        (cond (fge FloatKind.f32 (fneg FloatKind.f32 (Prod.fst (inV ys (bxV xs)))) (Prod.fst (sizeR (Prod.fst (Prod.fst (bxV xs)), Prod.fst (Prod.snd (bxV xs))))))
                                          (cond (fle FloatKind.f32 (fneg FloatKind.f32 (Prod.fst (inV ys (bxV xs)))) (Prod.snd (sizeR (Prod.fst (Prod.fst (bxV xs)), Prod.fst (Prod.snd (bxV xs))))))
                                            (cond (fge FloatKind.f32 (longV (inV ys (bxV xs))) (Prod.fst (lonR (Prod.fst (Prod.fst (bxV xs)), Prod.fst (Prod.snd (bxV xs))) (Prod.fst (Prod.snd (Prod.fst (bxV xs))), Prod.fst (Prod.snd (Prod.snd (bxV xs)))) (Prod.snd (Prod.snd (Prod.fst (bxV xs))), Prod.snd (Prod.snd (Prod.snd (bxV xs)))))))
                                              (K (.bool (fle FloatKind.f32 (longV (inV ys (bxV xs))) (Prod.snd (lonR (Prod.fst (Prod.fst (bxV xs)), Prod.fst (Prod.snd (bxV xs))) (Prod.fst (Prod.snd (Prod.fst (bxV xs))), Prod.fst (Prod.snd (Prod.snd (bxV xs)))) (Prod.snd (Prod.snd (Prod.fst (bxV xs))), Prod.snd (Prod.snd (Prod.snd (bxV xs)))))))) [])
                                              (K (.bool false) []))
                                            (K (.bool false) []))
                                          (K (.bool false) []))
                                        (K (.bool false) []))
                                      (K (.bool false) []))
                                    (K (.bool false) []))
                                  (K (.bool false) []))
                                (cond (inB (arB [inV ys (bxV xs), pointV xs, Prod.fst (bxV ys)]) (inV ys (bxV xs)))
                                  (cond (inB (arB [inV ys (bxV xs), pointV xs, Prod.fst (bxV ys)]) (pointV xs))
                                    (cond (inB (groB (arB [inV ys (bxV xs), pointV xs, Prod.fst (bxV ys)]) 1056964608) (Prod.fst (arB [inV ys (bxV xs), pointV xs, Prod.fst (bxV ys)])))
                                      (cond (!inB (arB [inV ys (bxV xs), pointV xs, Prod.fst (bxV ys)]) (Prod.snd (groB (arB [inV ys (bxV xs), pointV xs, Prod.fst (bxV ys)]) 1056964608)))
                                        (cond (fge FloatKind.f32 (Prod.fst (inV ys (bxV xs))) (Prod.fst (sizeR (Prod.fst (Prod.fst (bxV xs)), Prod.fst (Prod.snd (bxV xs))))))
                                          (cond (fle FloatKind.f32 (Prod.fst (inV ys (bxV xs))) (Prod.snd (sizeR (Prod.fst (Prod.fst (bxV xs)), Prod.fst (Prod.snd (bxV xs))))))
                                            (cond (fge FloatKind.f32 (longV (inV ys (bxV xs))) (Prod.fst (lonR (Prod.fst (Prod.fst (bxV xs)), Prod.fst (Prod.snd (bxV xs))) (Prod.fst (Prod.snd (Prod.fst (bxV xs))), Prod.fst (Prod.snd (Prod.snd (bxV xs)))) (Prod.snd (Prod.snd (Prod.fst (bxV xs))), Prod.snd (Prod.snd (Prod.snd (bxV xs)))))))
                                              (K (.bool (fle FloatKind.f32 (longV (inV ys (bxV xs))) (Prod.snd (lonR (Prod.fst (Prod.fst (bxV xs)), Prod.fst (Prod.snd (bxV xs))) (Prod.fst (Prod.snd (Prod.fst (bxV xs))), Prod.fst (Prod.snd (Prod.snd (bxV xs)))) (Prod.snd (Prod.snd (Prod.fst (bxV xs))), Prod.snd (Prod.snd (Prod.snd (bxV xs)))))))) [])
                                              (K (.bool false) []))
                                            (K (.bool false) []))
                                          (K (.bool false) []))
                                        (K (.bool false) []))
                                      (K (.bool false) []))
                                    (K (.bool false) []))
                                  (K (.bool false) [])))
                              (False))
                            (False))))
                      (False)))))))
          (cond (!inB (bxV xs) (Prod.snd (oneB (bxV xs))))
            (K (.bool false) [])
            (cond (!inB (bxV xs) (Prod.fst (twoB (bxV xs))))
              (K (.bool false) [])
              (cond (!inB (oneB (bxV xs)) (Prod.fst (bxV xs)))
                (K (.bool false) [])
                (cond (!inB (twoB (bxV xs)) (Prod.snd (bxV xs)))
                  (K (.bool false) [])
                  (cond (validB (bxV xs) && validB (bxV ys))
                    (cond (inB (bxV xs) (pointV xs))
                      (cond (cutOk (bxV xs) (bxV ys))
                        (cond (inB (bxV ys) (pointV xs) != inB (tolB (bxV xs) (bxV ys)) (pointV xs))
                          (K (.bool false) [])
                          (cond (arOk [inV ys (bxV xs), pointV xs, Prod.fst (bxV ys)])
                            (cond (groOk (arB [inV ys (bxV xs), pointV xs, Prod.fst (bxV ys)]) 1056964608)
                              (cond (flt FloatKind.f32 (Prod.fst (inV ys (bxV xs))) 0)
                                (cond (inB (arB [inV ys (bxV xs), pointV xs, Prod.fst (bxV ys)]) (inV ys (bxV xs)))
                                  (cond (inB (arB [inV ys (bxV xs), pointV xs, Prod.fst (bxV ys)]) (pointV xs))
                                    (cond (inB (groB (arB [inV ys (bxV xs), pointV xs, Prod.fst (bxV ys)]) 1056964608) (Prod.fst (arB [inV ys (bxV xs), pointV xs, Prod.fst (bxV ys)])))
                                      (cond (!inB (arB [inV ys (bxV xs), pointV xs, Prod.fst (bxV ys)]) (Prod.snd (groB (arB [inV ys (bxV xs), pointV xs, Prod.fst (bxV ys)]) 1056964608)))
                                        (cond (fge FloatKind.f32 (fneg FloatKind.f32 (Prod.fst (inV ys (bxV xs)))) (Prod.fst (sizeR (Prod.fst (Prod.fst (bxV xs)), Prod.fst (Prod.snd (bxV xs))))))
                                          (cond (fle FloatKind.f32 (fneg FloatKind.f32 (Prod.fst (inV ys (bxV xs)))) (Prod.snd (sizeR (Prod.fst (Prod.fst (bxV xs)), Prod.fst (Prod.snd (bxV xs))))))
                                            (cond (fge FloatKind.f32 (longV (inV ys (bxV xs))) (Prod.fst (lonR (Prod.fst (Prod.fst (bxV xs)), Prod.fst (Prod.snd (bxV xs))) (Prod.fst (Prod.snd (Prod.fst (bxV xs))), Prod.fst (Prod.snd (Prod.snd (bxV xs)))) (Prod.snd (Prod.snd (Prod.fst (bxV xs))), Prod.snd (Prod.snd (Prod.snd (bxV xs)))))))
                                              (K (.bool (fle FloatKind.f32 (longV (inV ys (bxV xs))) (Prod.snd (lonR (Prod.fst (Prod.fst (bxV xs)), Prod.fst (Prod.snd (bxV xs))) (Prod.fst (Prod.snd (Prod.fst (bxV xs))), Prod.fst (Prod.snd (Prod.snd (bxV xs)))) (Prod.snd (Prod.snd (Prod.fst (bxV xs))), Prod.snd (Prod.snd (Prod.snd (bxV xs)))))))) [])
                                              (K (.bool false) []))
                                            (K (.bool false) []))
                                          (K (.bool false) []))
                                        (K (.bool false) []))
                                      (K (.bool false) []))
                                    (K (.bool false) []))
                                  (K (.bool false) []))
                                (cond (inB (arB [inV ys (bxV xs), pointV xs, Prod.fst (bxV ys)]) (inV ys (bxV xs)))
                                  (cond (inB (arB [inV ys (bxV xs), pointV xs, Prod.fst (bxV ys)]) (pointV xs))
                                    (cond (inB (groB (arB [inV ys (bxV xs), pointV xs, Prod.fst (bxV ys)]) 1056964608) (Prod.fst (arB [inV ys (bxV xs), pointV xs, Prod.fst (bxV ys)])))
                                      (cond (!inB (arB [inV ys (bxV xs), pointV xs, Prod.fst (bxV ys)]) (Prod.snd (groB (arB [inV ys (bxV xs), pointV xs, Prod.fst (bxV ys)]) 1056964608)))
                                        (cond (fge FloatKind.f32 (Prod.fst (inV ys (bxV xs))) (Prod.fst (sizeR (Prod.fst (Prod.fst (bxV xs)), Prod.fst (Prod.snd (bxV xs))))))
                                          (cond (fle FloatKind.f32 (Prod.fst (inV ys (bxV xs))) (Prod.snd (sizeR (Prod.fst (Prod.fst (bxV xs)), Prod.fst (Prod.snd (bxV xs))))))
                                            (cond (fge FloatKind.f32 (longV (inV ys (bxV xs))) (Prod.fst (lonR (Prod.fst (Prod.fst (bxV xs)), Prod.fst (Prod.snd (bxV xs))) (Prod.fst (Prod.snd (Prod.fst (bxV xs))), Prod.fst (Prod.snd (Prod.snd (bxV xs)))) (Prod.snd (Prod.snd (Prod.fst (bxV xs))), Prod.snd (Prod.snd (Prod.snd (bxV xs)))))))
                                              (K (.bool (fle FloatKind.f32 (longV (inV ys (bxV xs))) (Prod.snd (lonR (Prod.fst (Prod.fst (bxV xs)), Prod.fst (Prod.snd (bxV xs))) (Prod.fst (Prod.snd (Prod.fst (bxV xs))), Prod.fst (Prod.snd (Prod.snd (bxV xs)))) (Prod.snd (Prod.snd (Prod.fst (bxV xs))), Prod.snd (Prod.snd (Prod.snd (bxV xs)))))))) [])
                                              (K (.bool false) []))
                                            (K (.bool false) []))
                                          (K (.bool false) []))
                                        (K (.bool false) []))
                                      (K (.bool false) []))
                                    (K (.bool false) []))
                                  (K (.bool false) [])))
                              (False))
                            (False)))
                        (cond (inB (bxV ys) (pointV xs) != false)
                          (K (.bool false) [])
                          (cond (arOk [inV ys (bxV xs), pointV xs, Prod.fst (bxV ys)])
                            (cond (groOk (arB [inV ys (bxV xs), pointV xs, Prod.fst (bxV ys)]) 1056964608)
                              (cond (flt FloatKind.f32 (Prod.fst (inV ys (bxV xs))) 0)
                                (cond (inB (arB [inV ys (bxV xs), pointV xs, Prod.fst (bxV ys)]) (inV ys (bxV xs)))
                                  (cond (inB (arB [inV ys (bxV xs), pointV xs, Prod.fst (bxV ys)]) (pointV xs))
                                    (cond (inB (groB (arB [inV ys (bxV xs), pointV xs, Prod.fst (bxV ys)]) 1056964608) (Prod.fst (arB [inV ys (bxV xs), pointV xs, Prod.fst (bxV ys)])))
                                      (cond (!inB (arB [inV ys (bxV xs), pointV xs, Prod.fst (bxV ys)]) (Prod.snd (groB (arB [inV ys (bxV xs), pointV xs, Prod.fst (bxV ys)]) 1056964608)))
                                        (cond (fge FloatKind.f32 (fneg FloatKind.f32 (Prod.fst (inV ys (bxV xs)))) (Prod.fst (sizeR (Prod.fst (Prod.fst (bxV xs)), Prod.fst (Prod.snd (bxV xs))))))
                                          (cond (fle FloatKind.f32 (fneg FloatKind.f32 (Prod.fst (inV ys (bxV xs)))) (Prod.snd (sizeR (Prod.fst (Prod.fst (bxV xs)), Prod.fst (Prod.snd (bxV xs))))))
                                            (cond (fge FloatKind.f32 (longV (inV ys (bxV xs))) (Prod.fst (lonR (Prod.fst (Prod.fst (bxV xs)), Prod.fst (Prod.snd (bxV xs))) (Prod.fst (Prod.snd (Prod.fst (bxV xs))), Prod.fst (Prod.snd (Prod.snd (bxV xs)))) (Prod.snd (Prod.snd (Prod.fst (bxV xs))), Prod.snd (Prod.snd (Prod.snd (bxV xs)))))))
                                              (K (.bool (fle FloatKind.f32 (longV (inV ys (bxV xs))) (Prod.snd (lonR (Prod.fst (Prod.fst (bxV xs)), Prod.fst (Prod.snd (bxV xs))) (Prod.fst (Prod.snd (Prod.fst (bxV xs))), Prod.fst (Prod.snd (Prod.snd (bxV xs)))) (Prod.snd (Prod.snd (Prod.fst (bxV xs))), Prod.snd (Prod.snd (Prod.snd (bxV xs)))))))) [])
                                              (K (.bool false) []))
                                            (K (.bool false) []))
                                          (K (.bool false) []))
                                        (K (.bool false) []))
                                      (K (.bool false) []))
                                    (K (.bool false) []))
                                  (K (.bool false) []))
                                (cond (inB (arB [inV ys (bxV xs), pointV xs, Prod.fst (bxV ys)]) (inV ys (bxV xs)))
                                  (cond (inB (arB [inV ys (bxV xs), pointV xs, Prod.fst (bxV ys)]) (pointV xs))
                                    (cond (inB (groB (arB [inV ys (bxV xs), pointV xs, Prod.fst (bxV ys)]) 1056964608) (Prod.fst (arB [inV ys (bxV xs), pointV xs, Prod.fst (bxV ys)])))
                                      (cond (!inB (arB [inV ys (bxV xs), pointV xs, Prod.fst (bxV ys)]) (Prod.snd (groB (arB [inV ys (bxV xs), pointV xs, Prod.fst (bxV ys)]) 1056964608)))
                                        (cond (fge FloatKind.f32 (Prod.fst (inV ys (bxV xs))) (Prod.fst (sizeR (Prod.fst (Prod.fst (bxV xs)), Prod.fst (Prod.snd (bxV xs))))))
                                          (cond (fle FloatKind.f32 (Prod.fst (inV ys (bxV xs))) (Prod.snd (sizeR (Prod.fst (Prod.fst (bxV xs)), Prod.fst (Prod.snd (bxV xs))))))
                                            (cond (fge FloatKind.f32 (longV (inV ys (bxV xs))) (Prod.fst (lonR (Prod.fst (Prod.fst (bxV xs)), Prod.fst (Prod.snd (bxV xs))) (Prod.fst (Prod.snd (Prod.fst (bxV xs))), Prod.fst (Prod.snd (Prod.snd (bxV xs)))) (Prod.snd (Prod.snd (Prod.fst (bxV xs))), Prod.snd (Prod.snd (Prod.snd (bxV xs)))))))
                                              (K (.bool (fle FloatKind.f32 (longV (inV ys (bxV xs))) (Prod.snd (lonR (Prod.fst (Prod.fst (bxV xs)), Prod.fst (Prod.snd (bxV xs))) (Prod.fst (Prod.snd (Prod.fst (bxV xs))), Prod.fst (Prod.snd (Prod.snd (bxV xs)))) (Prod.snd (Prod.snd (Prod.fst (bxV xs))), Prod.snd (Prod.snd (Prod.snd (bxV xs)))))))) [])
                                              (K (.bool false) []))
                                            (K (.bool false) []))
                                          (K (.bool false) []))
                                        (K (.bool false) []))
                                      (K (.bool false) []))
                                    (K (.bool false) []))
                                  (K (.bool false) [])))
                              (False))
                            (False))))
                      (cond (cutOk (bxV xs) (bxV ys))
                        (cond (false != inB (tolB (bxV xs) (bxV ys)) (pointV xs))
                          (K (.bool false) [])
                          (cond (arOk [inV ys (bxV xs), pointV xs, Prod.fst (bxV ys)])
                            (cond (groOk (arB [inV ys (bxV xs), pointV xs, Prod.fst (bxV ys)]) 1056964608)
                              (cond (flt FloatKind.f32 (Prod.fst (inV ys (bxV xs))) 0)
                                (cond (inB (arB [inV ys (bxV xs), pointV xs, Prod.fst (bxV ys)]) (inV ys (bxV xs)))
                                  (cond (inB (arB [inV ys (bxV xs), pointV xs, Prod.fst (bxV ys)]) (pointV xs))
                                    (cond (inB (groB (arB [inV ys (bxV xs), pointV xs, Prod.fst (bxV ys)]) 1056964608) (Prod.fst (arB [inV ys (bxV xs), pointV xs, Prod.fst (bxV ys)])))
                                      (cond (!inB (arB [inV ys (bxV xs), pointV xs, Prod.fst (bxV ys)]) (Prod.snd (groB (arB [inV ys (bxV xs), pointV xs, Prod.fst (bxV ys)]) 1056964608)))
                                        (cond (fge FloatKind.f32 (fneg FloatKind.f32 (Prod.fst (inV ys (bxV xs)))) (Prod.fst (sizeR (Prod.fst (Prod.fst (bxV xs)), Prod.fst (Prod.snd (bxV xs))))))
                                          (cond (fle FloatKind.f32 (fneg FloatKind.f32 (Prod.fst (inV ys (bxV xs)))) (Prod.snd (sizeR (Prod.fst (Prod.fst (bxV xs)), Prod.fst (Prod.snd (bxV xs))))))
                                            (cond (fge FloatKind.f32 (longV (inV ys (bxV xs))) (Prod.fst (lonR (Prod.fst (Prod.fst (bxV xs)), Prod.fst (Prod.snd (bxV xs))) (Prod.fst (Prod.snd (Prod.fst (bxV xs))), Prod.fst (Prod.snd (Prod.snd (bxV xs)))) (Prod.snd (Prod.snd (Prod.fst (bxV xs))), Prod.snd (Prod.snd (Prod.snd (bxV xs)))))))
                                              (K (.bool (fle FloatKind.f32 (longV (inV ys (bxV xs))) (Prod.snd (lonR (Prod.fst (Prod.fst (bxV xs)), Prod.fst (Prod.snd (bxV xs))) (Prod.fst (Prod.snd (Prod.fst (bxV xs))), Prod.fst (Prod.snd (Prod.snd (bxV xs)))) (Prod.snd (Prod.snd (Prod.fst (bxV xs))), Prod.snd (Prod.snd (Prod.snd (bxV xs)))))))) [])
                                              (K (.bool false) []))
                                            (K (.bool false) []))
                                          (K (.bool false) []))
                                        (K (.bool false) []))
                                      (K (.bool false) []))
                                    (K (.bool false) []))
                                  (K (.bool false) []))
                                (cond (inB (arB [inV ys (bxV xs), pointV xs, Prod.fst (bxV ys)]) (inV ys (bxV xs)))
                                  (cond (inB (arB [inV ys (bxV xs), pointV xs, Prod.fst (bxV ys)]) (pointV xs))
                                    (cond (inB (groB (arB [inV ys (bxV xs), pointV xs, Prod.fst (bxV ys)]) 1056964608) (Prod.fst (arB [inV ys (bxV xs), pointV xs, Prod.fst (bxV ys)])))
                                      (cond (!inB (arB [inV ys (bxV xs), pointV xs, Prod.fst (bxV ys)]) (Prod.snd (groB (arB [inV ys (bxV xs), pointV xs, Prod.fst (bxV ys)]) 1056964608)))
                                        (cond (fge FloatKind.f32 (Prod.fst (inV ys (bxV xs))) (Prod.fst (sizeR (Prod.fst (Prod.fst (bxV xs)), Prod.fst (Prod.snd (bxV xs))))))
                                          (cond (fle FloatKind.f32 (Prod.fst (inV ys (bxV xs))) (Prod.snd (sizeR (Prod.fst (Prod.fst (bxV xs)), Prod.fst (Prod.snd (bxV xs))))))
                                            (cond (fge FloatKind.f32 (longV (inV ys (bxV xs))) (Prod.fst (lonR (Prod.fst (Prod.fst (bxV xs)), Prod.fst (Prod.snd (bxV xs))) (Prod.fst (Prod.snd (Prod.fst (bxV xs))), Prod.fst (Prod.snd (Prod.snd (bxV xs)))) (Prod.snd (Prod.snd (Prod.fst (bxV xs))), Prod.snd (Prod.snd (Prod.snd (bxV xs)))))))
                                              (K (.bool (fle FloatKind.f32 (longV (inV ys (bxV xs))) (Prod.snd (lonR (Prod.fst (Prod.fst (bxV xs)), Prod.fst (Prod.snd (bxV xs))) (Prod.fst (Prod.snd (Prod.fst (bxV xs))), Prod.fst (Prod.snd (Prod.snd (bxV xs)))) (Prod.snd (Prod.snd (Prod.fst (bxV xs))), Prod.snd (Prod.snd (Prod.snd (bxV xs)))))))) [])
                                              (K (.bool false) []))
                                            (K (.bool false) []))
                                          (K (.bool false) []))
                                        (K (.bool false) []))
                                      (K (.bool false) []))
                                    (K (.bool false) []))
                                  (K (.bool false) [])))
                              (False))
                            (False)))
                        (cond (arOk [inV ys (bxV xs), pointV xs, Prod.fst (bxV ys)])
                          (cond (groOk (arB [inV ys (bxV xs), pointV xs, Prod.fst (bxV ys)]) 1056964608)
                            (cond (flt FloatKind.f32 (Prod.fst (inV ys (bxV xs))) 0)
                              (cond (inB (arB [inV ys (bxV xs), pointV xs, Prod.fst (bxV ys)]) (inV ys (bxV xs)))
                                (cond (inB (arB [inV ys (bxV xs), pointV xs, Prod.fst (bxV ys)]) (pointV xs))
                                  (cond (inB (groB (arB [inV ys (bxV xs), pointV xs, Prod.fst (bxV ys)]) 1056964608) (Prod.fst (arB [inV ys (bxV xs), pointV xs, Prod.fst (bxV ys)])))
                                    (cond (!inB (arB [inV ys (bxV xs), pointV xs, Prod.fst (bxV ys)]) (Prod.snd (groB (arB [inV ys (bxV xs), pointV xs, Prod.fst (bxV ys)]) 1056964608)))
                                      (cond (fge FloatKind.f32 (fneg FloatKind.f32 (Prod.fst (inV ys (bxV xs)))) (Prod.fst (sizeR (Prod.fst (Prod.fst (bxV xs)), Prod.fst (Prod.snd (bxV xs))))))
                                        (cond (fle FloatKind.f32 (fneg FloatKind.f32 (Prod.fst (inV ys (bxV xs)))) (Prod.snd (sizeR (Prod.fst (Prod.fst (bxV xs)), Prod.fst (Prod.snd (bxV xs))))))
                                          (cond (fge FloatKind.f32 (longV (inV ys (bxV xs))) (Prod.fst (lonR (Prod.fst (Prod.fst (bxV xs)), Prod.fst (Prod.snd (bxV xs))) (Prod.fst (Prod.snd (Prod.fst (bxV xs))), Prod.fst (Prod.snd (Prod.snd (bxV xs)))) (Prod.snd (Prod.snd (Prod.fst (bxV xs))), Prod.snd (Prod.snd (Prod.snd (bxV xs)))))))
                                            (K (.bool (fle FloatKind.f32 (longV (inV ys (bxV xs))) (Prod.snd (lonR (Prod.fst (Prod.fst (bxV xs)), Prod.fst (Prod.snd (bxV xs))) (Prod.fst (Prod.snd (Prod.fst (bxV xs))), Prod.fst (Prod.snd (Prod.snd (bxV xs)))) (Prod.snd (Prod.snd (Prod.fst (bxV xs))), Prod.snd (Prod.snd (Prod.snd (bxV xs)))))))) [])
                                            (K (.bool false) []))
                                          (K (.bool false) []))
                                        (K (.bool false) []))
                                      (K (.bool false) []))
                                    (K (.bool false) []))
                                  (K (.bool false) []))
                                (K (.bool false) []))
                              (cond (inB (arB [inV ys (bxV xs), pointV xs, Prod.fst (bxV ys)]) (inV ys (bxV xs)))
                                (cond (inB (arB [inV ys (bxV xs), pointV xs, Prod.fst (bxV ys)]) (pointV xs))
                                  (cond (inB (groB (arB [inV ys (bxV xs), pointV xs, Prod.fst (bxV ys)]) 1056964608) (Prod.fst (arB [inV ys (bxV xs), pointV xs, Prod.fst (bxV ys)])))
                                    (cond (!inB (arB [inV ys (bxV xs), pointV xs, Prod.fst (bxV ys)]) (Prod.snd (groB (arB [inV ys (bxV xs), pointV xs, Prod.fst (bxV ys)]) 1056964608)))
                                      (cond (fge FloatKind.f32 (Prod.fst (inV ys (bxV xs))) (Prod.fst (sizeR (Prod.fst (Prod.fst (bxV xs)), Prod.fst (Prod.snd (bxV xs))))))
                                        (cond (fle FloatKind.f32 (Prod.fst (inV ys (bxV xs))) (Prod.snd (sizeR (Prod.fst (Prod.fst (bxV xs)), Prod.fst (Prod.snd (bxV xs))))))
                                          (cond (fge FloatKind.f32 (longV (inV ys (bxV xs))) (Prod.fst (lonR (Prod.fst (Prod.fst (bxV xs)), Prod.fst (Prod.snd (bxV xs))) (Prod.fst (Prod.snd (Prod.fst (bxV xs))), Prod.fst (Prod.snd (Prod.snd (bxV xs)))) (Prod.snd (Prod.snd (Prod.fst (bxV xs))), Prod.snd (Prod.snd (Prod.snd (bxV xs)))))))
                                            (K (.bool (fle FloatKind.f32 (longV (inV ys (bxV xs))) (Prod.snd (lonR (Prod.fst (Prod.fst (bxV xs)), Prod.fst (Prod.snd (bxV xs))) (Prod.fst (Prod.snd (Prod.fst (bxV xs))), Prod.fst (Prod.snd (Prod.snd (bxV xs)))) (Prod.snd (Prod.snd (Prod.fst (bxV xs))), Prod.snd (Prod.snd (Prod.snd (bxV xs)))))))) [])
                                            (K (.bool false) []))
                                          (K (.bool false) []))
                                        (K (.bool false) []))
                                      (K (.bool false) []))
                                    (K (.bool false) []))
                                  (K (.bool false) []))
                                (K (.bool false) [])))
                            (False))
                          (False))))
                    (False))))))))
      (False)) := by kernel_rfl
noncomputable def s_laws_FnBoxes : Sm := semT [.cell tB, .cell tB] fun x => match x with | (xs, ys, _) => .bool true
theorem ok_laws_FnBoxes : FnOk Try.prog 3 s_laws_FnBoxes := fnOk_typed (fnOk_runC (C := c_laws_FnBoxes) rfl mixed (.cons ok_laws_r8Long (.cons ok_spec_R8Box (.cons ok_spec_R8Within (.cons ok_impl_SplitBox (.cons ok_impl_IsInBox (.cons ok_spec_R8Point (.cons ok_impl_CutBoxes (.cons ok_impl_BoxAround (.cons ok_impl_GrowBox (.cons ok_impl_SizeRange (.cons ok_impl_LongRange (.cons ok_impl_LongOf .nil)))))))))))) .nil .nil Try.func3 (by kernel_rfl)) fun (x : ((List Int) × (List Int) × Unit)) wf K h => by
  obtain ⟨xs, ys, ⟨⟩⟩ := x
  replace h : K (.bool true) [] := h
  rw [w_laws_FnBoxes xs ys K]
  cases e0 : decide (48 < xs.length) || decide (48 < ys.length) with
  | true => exact h
  | false =>
    have bx : bytes xs := bytes_of wf.1
    have bz : bytes ys := bytes_of wf.2.1
    obtain ⟨l1, l2, l3, k1, k2, k3, A, Al, s1, s2, s3⟩ := box_q bx
    obtain ⟨m1, m2, m3, n1, n2, n3, B, Bl, t1, t2, t3⟩ := box_q bz
    obtain ⟨x1, x2, x3, P, p1, p2, p3⟩ := in_q bz A Al s1.1 s2.1 s3.1
    obtain ⟨y1, y2, y3, Z⟩ := q_point bx
    obtain ⟨f1, f2, f3, f4, f5, f6, f7⟩ := halves A Al s1.1 s2.1 s3.1 P p1 p2 p3
    obtain ⟨c1, c2⟩ := cuts A B Z
    obtain ⟨g1, g2, g3, g4, g5, g6⟩ := arounds P ((Z.up 4).le (by decide)) ((Bl.up 4).le (by decide))
    have v1 : validB (bxV xs) = true := by rw [A.valid]; simp only [Bool.and_eq_true, decide_eq_true_eq]; grind
    have v2 : validB (bxV ys) = true := by rw [B.valid]; simp only [Bool.and_eq_true, decide_eq_true_eq]; grind
    obtain ⟨u1, w1, qu1, qw1, u10, a1⟩ := size_q A.l.x A.h.x (by grind)
    obtain ⟨u2, w2, qu2, qw2, u20, a2⟩ := size_q A.l.y A.h.y (by grind)
    obtain ⟨u3, w3, qu3, qw3, u30, a3⟩ := size_q A.l.z A.h.z (by grind)
    have a1 := a1 x1 p1.1 p1.2
    have a2 := a2 x2 p2.1 p2.2
    have a3 := a3 x3 p3.1 p3.2
    have b1 := abs_sq u10 a1
    have b2 := abs_sq u20 a2
    have b3 := abs_sq u30 a3
    have U : QV 2 24 ((sizeR ((bxV xs).1.1, (bxV xs).2.1)).1, (sizeR ((bxV xs).1.2.1, (bxV xs).2.2.1)).1, (sizeR ((bxV xs).1.2.2, (bxV xs).2.2.2)).1) u1 u2 u3 := ⟨qu1, qu2, qu3⟩
    have W : QV 2 24 ((sizeR ((bxV xs).1.1, (bxV xs).2.1)).2, (sizeR ((bxV xs).1.2.1, (bxV xs).2.2.1)).2, (sizeR ((bxV xs).1.2.2, (bxV xs).2.2.2)).2) w1 w2 w3 := ⟨qw1, qw2, qw3⟩
    have d1 : fge .f32 (longV (inV ys (bxV xs))) (lonR ((bxV xs).1.1, (bxV xs).2.1) ((bxV xs).1.2.1, (bxV xs).2.2.1) ((bxV xs).1.2.2, (bxV xs).2.2.2)).1 = true := (long_mono U P (by decide) (by decide) (by decide) (by decide) b1.1 b2.1 b3.1).1
    have d2 : fle .f32 (longV (inV ys (bxV xs))) (lonR ((bxV xs).1.1, (bxV xs).2.1) ((bxV xs).1.2.1, (bxV xs).2.2.1) ((bxV xs).1.2.2, (bxV xs).2.2.2)).2 = true := (long_mono P W (by decide) (by decide) (by decide) (by decide) b1.2 b2.2 b3.2).2
    have hz := P.x.x.flt q_zero.x
    have fin : cond (flt .f32 (inV ys (bxV xs)).1 0)
        (cond (fge .f32 (fneg .f32 (inV ys (bxV xs)).1) (sizeR ((bxV xs).1.1, (bxV xs).2.1)).1 && fle .f32 (fneg .f32 (inV ys (bxV xs)).1) (sizeR ((bxV xs).1.1, (bxV xs).2.1)).2) True False)
        (cond (fge .f32 (inV ys (bxV xs)).1 (sizeR ((bxV xs).1.1, (bxV xs).2.1)).1 && fle .f32 (inV ys (bxV xs)).1 (sizeR ((bxV xs).1.1, (bxV xs).2.1)).2) True False) := by
      rw [hz]
      by_cases c : x1 < 0
      · rw [d_t c, cond_true, P.x.x.neg.fge qu1.x, P.x.x.neg.fle qw1.x, d_t (a1.1 c).1, d_t (a1.1 c).2]
        trivial
      · rw [d_f c, cond_false, P.x.x.fge qu1.x, P.x.x.fle qw1.x, d_t (a1.2 c).1, d_t (a1.2 c).2]
        trivial
    have split : ∀ {a b : Bool}, cond (a && b) True False → a = true ∧ b = true := fun {a b} h => by
      cases a <;> cases b <;> first | exact h.elim | exact ⟨rfl, rfl⟩
    have bn : ∀ b : Bool, (b != b) = false := fun b => by cases b <;> rfl
    have bf : ∀ b : Bool, (b != false) = b := fun b => by cases b <;> rfl
    have bg : ∀ b : Bool, (false != b) = b := fun b => by cases b <;> rfl
    have tail : ∀ {X : Prop}, (∀ z, flt .f32 (inV ys (bxV xs)).1 0 = z → (z = true → fge .f32 (fneg .f32 (inV ys (bxV xs)).1) (sizeR ((bxV xs).1.1, (bxV xs).2.1)).1 = true ∧ fle .f32 (fneg .f32 (inV ys (bxV xs)).1) (sizeR ((bxV xs).1.1, (bxV xs).2.1)).2 = true) →
        (z = false → fge .f32 (inV ys (bxV xs)).1 (sizeR ((bxV xs).1.1, (bxV xs).2.1)).1 = true ∧ fle .f32 (inV ys (bxV xs)).1 (sizeR ((bxV xs).1.1, (bxV xs).2.1)).2 = true) → X) → X := by
      intro X hX
      refine hX _ rfl (fun e => ?_) (fun e => ?_)
      · rw [e, cond_true] at fin; exact split fin
      · rw [e, cond_false] at fin; exact split fin
    clear hz fin split a1 a2 a3 b1 b2 b3 U W
    refine tail fun z hz z1 z2 => ?_
    have h1 : inB (oneB (bxV xs)) (inV ys (bxV xs)) = true ∨ inB (oneB (bxV xs)) (inV ys (bxV xs)) = false := by cases inB (oneB (bxV xs)) (inV ys (bxV xs)) <;> simp
    have h2 : inB (bxV xs) (pointV xs) = true ∨ inB (bxV xs) (pointV xs) = false := by cases inB (bxV xs) (pointV xs) <;> simp
    have h3 : cutOk (bxV xs) (bxV ys) = true ∨ cutOk (bxV xs) (bxV ys) = false := by cases cutOk (bxV xs) (bxV ys) <;> simp
    have h4 : z = true ∨ z = false := by cases z <;> simp
    clear tail p1 p2 p3 A Al B Bl P Z s1 s2 s3 t1 t2 t3 qu1 qu2 qu3 qw1 qw2 qw3
    rcases h4 with e4 | e4 <;> rw [e4] at hz
    · obtain ⟨z3, z4⟩ := z1 e4
      clear z1 z2
      rcases h1 with e1 | e1
      · rcases h2 with e2 | e2 <;> rcases h3 with e3 | e3
        · simp only [e1, e2, e3, hz, z3, z4, f1, f2, f4, f5, f6, f7, v1, v2, g1, g2, g3, g4, g5, g6, d1, d2, (c1 e3).1 e2, cond_true, cond_false, Bool.not_true, Bool.not_false, Bool.and_self, bn, bf, bg]
          exact h
        · simp only [e1, e2, e3, hz, z3, z4, f1, f2, f4, f5, f6, f7, v1, v2, g1, g2, g3, g4, g5, g6, d1, d2, c2 e3 e2, cond_true, cond_false, Bool.not_true, Bool.not_false, Bool.and_self, bn, bf, bg]
          exact h
        · simp only [e1, e2, e3, hz, z3, z4, f1, f2, f4, f5, f6, f7, v1, v2, g1, g2, g3, g4, g5, g6, d1, d2, (c1 e3).2 e2, cond_true, cond_false, Bool.not_true, Bool.not_false, Bool.and_self, bn, bf, bg]
          exact h
        · simp only [e1, e2, e3, hz, z3, z4, f1, f2, f4, f5, f6, f7, v1, v2, g1, g2, g3, g4, g5, g6, d1, d2, cond_true, cond_false, Bool.not_true, Bool.not_false, Bool.and_self, bn, bf, bg]
          exact h
      · have f3 := f3 e1
        rcases h2 with e2 | e2 <;> rcases h3 with e3 | e3
        · simp only [e1, e2, e3, hz, z3, z4, f1, f2, f3, f4, f5, f6, f7, v1, v2, g1, g2, g3, g4, g5, g6, d1, d2, (c1 e3).1 e2, cond_true, cond_false, Bool.not_true, Bool.not_false, Bool.and_self, bn, bf, bg]
          exact h
        · simp only [e1, e2, e3, hz, z3, z4, f1, f2, f3, f4, f5, f6, f7, v1, v2, g1, g2, g3, g4, g5, g6, d1, d2, c2 e3 e2, cond_true, cond_false, Bool.not_true, Bool.not_false, Bool.and_self, bn, bf, bg]
          exact h
        · simp only [e1, e2, e3, hz, z3, z4, f1, f2, f3, f4, f5, f6, f7, v1, v2, g1, g2, g3, g4, g5, g6, d1, d2, (c1 e3).2 e2, cond_true, cond_false, Bool.not_true, Bool.not_false, Bool.and_self, bn, bf, bg]
          exact h
        · simp only [e1, e2, e3, hz, z3, z4, f1, f2, f3, f4, f5, f6, f7, v1, v2, g1, g2, g3, g4, g5, g6, d1, d2, cond_true, cond_false, Bool.not_true, Bool.not_false, Bool.and_self, bn, bf, bg]
          exact h
    · obtain ⟨z3, z4⟩ := z2 e4
      clear z1 z2
      rcases h1 with e1 | e1
      · rcases h2 with e2 | e2 <;> rcases h3 with e3 | e3
        · simp only [e1, e2, e3, hz, z3, z4, f1, f2, f4, f5, f6, f7, v1, v2, g1, g2, g3, g4, g5, g6, d1, d2, (c1 e3).1 e2, cond_true, cond_false, Bool.not_true, Bool.not_false, Bool.and_self, bn, bf, bg]
          exact h
        · simp only [e1, e2, e3, hz, z3, z4, f1, f2, f4, f5, f6, f7, v1, v2, g1, g2, g3, g4, g5, g6, d1, d2, c2 e3 e2, cond_true, cond_false, Bool.not_true, Bool.not_false, Bool.and_self, bn, bf, bg]
          exact h
        · simp only [e1, e2, e3, hz, z3, z4, f1, f2, f4, f5, f6, f7, v1, v2, g1, g2, g3, g4, g5, g6, d1, d2, (c1 e3).2 e2, cond_true, cond_false, Bool.not_true, Bool.not_false, Bool.and_self, bn, bf, bg]
          exact h
        · simp only [e1, e2, e3, hz, z3, z4, f1, f2, f4, f5, f6, f7, v1, v2, g1, g2, g3, g4, g5, g6, d1, d2, cond_true, cond_false, Bool.not_true, Bool.not_false, Bool.and_self, bn, bf, bg]
          exact h
      · have f3 := f3 e1
        rcases h2 with e2 | e2 <;> rcases h3 with e3 | e3
        · simp only [e1, e2, e3, hz, z3, z4, f1, f2, f3, f4, f5, f6, f7, v1, v2, g1, g2, g3, g4, g5, g6, d1, d2, (c1 e3).1 e2, cond_true, cond_false, Bool.not_true, Bool.not_false, Bool.and_self, bn, bf, bg]
          exact h
        · simp only [e1, e2, e3, hz, z3, z4, f1, f2, f3, f4, f5, f6, f7, v1, v2, g1, g2, g3, g4, g5, g6, d1, d2, c2 e3 e2, cond_true, cond_false, Bool.not_true, Bool.not_false, Bool.and_self, bn, bf, bg]
          exact h
        · simp only [e1, e2, e3, hz, z3, z4, f1, f2, f3, f4, f5, f6, f7, v1, v2, g1, g2, g3, g4, g5, g6, d1, d2, (c1 e3).2 e2, cond_true, cond_false, Bool.not_true, Bool.not_false, Bool.and_self, bn, bf, bg]
          exact h
        · simp only [e1, e2, e3, hz, z3, z4, f1, f2, f3, f4, f5, f6, f7, v1, v2, g1, g2, g3, g4, g5, g6, d1, d2, cond_true, cond_false, Bool.not_true, Bool.not_false, Bool.and_self, bn, bf, bg]
          exact h

end Go.Proofs.Ytfdalaakechldaa
