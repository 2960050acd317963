/- What the laws draw: walks. -/
import Derived.Test.YtmkomfhnomnbiaaDrawQ
import Derived.Test.YtmkomfhnomnbiaaOwn
set_option linter.unusedVariables false
set_option linter.unusedSimpArgs false
set_option maxRecDepth 100000
namespace Go.Proofs.Ytmkomfhnomnbiaa
open Go.Ev

/-! spec.l01DrawSmall -/
noncomputable def c_spec_l01DrawSmall : Ctx := mkC Try.prog tyT [] [] [(24, s_spec_l00Src_pick)] 8 (fun _ => none) 1
theorem w_spec_l01DrawSmall (s : SrcD) (K : V → Heap → Prop) : wpFnO c_spec_l01DrawSmall Try.f44 (.ptr 0 0 :: encAs [] ()) [.box (enc tSrc s)] K =
  cond (srcIn 6 s)
    (K (.float .f32 (fdiv FloatKind.f32 (FloatKind.nearest FloatKind.f32 (IntKind.wrap IntKind.i64 (pickV s 33 - 16))) 1082130432)) [(.box [(.vec (.int .u8) (Prod.fst (pickS s 33))), (.int .i64 (Prod.fst (Prod.snd (pickS s 33)))), (.int .u64 (Prod.snd (Prod.snd (pickS s 33))))])])
    (False) := by kernel_rfl
noncomputable def s_spec_l01DrawSmall : Sm := semP tSrc [] (fun s x => match x with | _ => inS 1000000 s) fun s x => match x with | _ => (.float .f32 (smallV s), smallS s)
theorem ok_spec_l01DrawSmall : FnOkL Try.prog 44 s_spec_l01DrawSmall := fnOkO_box (fnOkO_runC (C := c_spec_l01DrawSmall) rfl mixed .nil .nil (.cons ok_spec_l00Src_pick .nil) Try.func44 (by kernel_rfl)) fun (s : SrcD) (x : Unit) ws wf hg K h => by
  obtain ⟨⟩ := x
  replace hg : (inS 1000000 s) = true := hg
  replace h : K (.float .f32 (smallV s)) [.box (enc tSrc (smallS s))] := h
  rw [w_spec_l01DrawSmall s  K]
  have hb : bytes s.1 := bytes_of ws.1
  have r := pickV_range (s := s) hb (n := 33) (by omega)
  rw [inS_src hg (by omega) 6 (by omega), i64_of (n := pickV s 33 - 16) (by omega) (by omega)]
  exact h

/-! spec.l02Size -/
noncomputable def c_spec_l02Size : Ctx := mkC Try.prog tyT [] [] [] 8 (fun _ => none) 0
theorem w_spec_l02Size (x : Nat) (K : V → Heap → Prop) : wpFn c_spec_l02Size Try.f76 (encAs [.cell tF] (x, ())) [] K =
  cond (fle FloatKind.f32 x 0)
    (K (.float .f32 (fsub FloatKind.f32 0 x)) [])
    (K (.float .f32 (x)) []) := by kernel_rfl
noncomputable def s_spec_l02Size : Sm := semT [.cell tF] fun x => match x with | (x, _) => .float .f32 (sizeV x)
theorem ok_spec_l02Size : FnOk Try.prog 76 s_spec_l02Size := fnOk_typed (fnOk_runC (C := c_spec_l02Size) rfl mixed .nil .nil .nil Try.func76 (by kernel_rfl)) fun (x : ((Nat) × Unit)) wf K h => by
  obtain ⟨x, ⟨⟩⟩ := x
  replace h : K (.float .f32 (sizeV x)) [] := h
  rw [w_spec_l02Size x K]
  unfold sizeV at h
  revert h
  cases fle .f32 x 0 <;> exact id

/-! spec.l00Own -/
noncomputable def c_spec_l00Own : Ctx := mkC Try.prog tyT [] [] [] 6 (fun _ => none) 0
noncomputable def gp_spec_l00Own : List (List (Option Ty)) := List.map giveR [.cell (.own tI)]
theorem w_spec_l00Own (fs : List Int) (K : V → Heap → Prop) : wpFnG gp_spec_l00Own c_spec_l00Own Try.f43 (encAs [.cell (.slice tI)] (fs, ())) [] K =
  cond (decide ((0 + List.length fs) * 8 ≤ 140737488355328))
    (K (.obj 0 0) [(.sl 0 (.int .i64) ([] ++ fs))])
    (False) := by kernel_rfl
noncomputable def s_spec_l00Own : Sm := semV [.cell (.slice tI)] [.cell (.own tI)] (fun x => match x with | (fs, _) => decide (fs.length ≤ 1000)) fun x => match x with | (fs, _) => (fs, ())
theorem ok_spec_l00Own : FnOkL Try.prog 43 s_spec_l00Own := fnOkO_give (fnOkO_runG (C := c_spec_l00Own) gp_spec_l00Own rfl mixed .nil .nil .nil Try.func43 (by kernel_rfl)) rfl fun (x : ((List Int) × Unit)) wf hg K h => by
  obtain ⟨fs, ⟨⟩⟩ := x
  replace hg : (decide (fs.length ≤ 1000)) = true := hg
  replace h : K (tup (valRs [.cell (.own tI)] ((fs, ())) 0)) (thRs [.cell (.own tI)] ((fs, ()))) := h
  rw [w_spec_l00Own fs K]
  have hg := of_decide_eq_true hg
  exact cond_intro (decide_eq_true (by omega)) h

/-! spec.l02DrawNumbers -/
noncomputable def a_spec_l02DrawNumbers : Nat → Option Ann := fun n => bif Nat.beq n 3 then some ⟨[0,1,5,6],1,true⟩ else none
noncomputable def c_spec_l02DrawNumbers : Ctx := mkC Try.prog tyT [(76, s_spec_l02Size), (75, s_spec_l02Count)] [] [(44, s_spec_l01DrawSmall), (24, s_spec_l00Src_pick)] 48 a_spec_l02DrawNumbers 1
noncomputable def gp_spec_l02DrawNumbers : List (List (Option Ty)) := List.map giveR [.cell (.own tF)]
noncomputable def fr_spec_l02DrawNumbers_3 (s : SrcD) (k c : Int) (xs : List Nat) : Fr := [(0, .ptr 0 0), (1, .int .i64 k), (5, .obj 1 0), (6, .int .i64 c)]
noncomputable def hp_spec_l02DrawNumbers_3 (s : SrcD) (k c : Int) (xs : List Nat) : Heap := [.box (enc tSrc s), .sl 0 tF xs]
theorem r_spec_l02DrawNumbers_3 (s : SrcD) (k c : Int) (xs : List Nat) (Kn : Fr → Heap → Prop) (K : V → Heap → Prop) : round c_spec_l02DrawNumbers ⟨[0,1,5,6],1,true⟩ (lb c_spec_l02DrawNumbers 3 Try.f61) (fr_spec_l02DrawNumbers_3 s k c xs) (hp_spec_l02DrawNumbers_3 s k c xs) Kn (lkG gp_spec_l02DrawNumbers c_spec_l02DrawNumbers 3 Try.f61 [.box []] K) =
  cond (decide (c > 0))
    (cond (inS 1000000 s)
      (cond (k == 0)
        (cond (k == 0)
          (cond (decide ((List.length xs + 1) * 4 ≤ 140737488355328))
            (Kn [(0, (.ptr 0 0)), (1, (.int .i64 (k))), (5, (.obj 1 0)), (6, (.int .i64 (IntKind.wrap IntKind.i64 (c - 1))))] [(.box [(.vec (.int .u8) (Prod.fst (smallS s))), (.int .i64 (Prod.fst (Prod.snd (smallS s)))), (.int .u64 (Prod.snd (Prod.snd (smallS s))))]), (.sl 0 (.float .f32) (xs ++ [sizeV (smallV s)]))])
            (False))
          (cond (k == 8)
            (cond (k == 8)
              (cond (srcIn 6 (smallS s))
                (cond (decide ((List.length xs + 1) * 4 ≤ 140737488355328))
                  (Kn [(0, (.ptr 0 0)), (1, (.int .i64 (k))), (5, (.obj 1 0)), (6, (.int .i64 (IntKind.wrap IntKind.i64 (c - 1))))] [(.box [(.vec (.int .u8) (Prod.fst (pickS (smallS s) 8))), (.int .i64 (Prod.fst (Prod.snd (pickS (smallS s) 8)))), (.int .u64 (Prod.snd (Prod.snd (pickS (smallS s) 8))))]), (.sl 0 (.float .f32) (xs ++ [fdiv FloatKind.f32 (FloatKind.nearest FloatKind.f32 (IntKind.wrap IntKind.i64 (1 + pickV (smallS s) 8))) 1082130432]))])
                  (False))
                (False))
              (cond (k == 12)
                (cond (srcIn 6 (smallS s))
                  (cond (decide ((List.length xs + 1) * 4 ≤ 140737488355328))
                    (Kn [(0, (.ptr 0 0)), (1, (.int .i64 (k))), (5, (.obj 1 0)), (6, (.int .i64 (IntKind.wrap IntKind.i64 (c - 1))))] [(.box [(.vec (.int .u8) (Prod.fst (pickS (smallS s) 17))), (.int .i64 (Prod.fst (Prod.snd (pickS (smallS s) 17)))), (.int .u64 (Prod.snd (Prod.snd (pickS (smallS s) 17))))]), (.sl 0 (.float .f32) (xs ++ [fdiv FloatKind.f32 (FloatKind.nearest FloatKind.f32 (IntKind.wrap IntKind.i64 (pickV (smallS s) 17 - 8))) 1098907648]))])
                    (False))
                  (False))
                (cond (decide ((List.length xs + 1) * 4 ≤ 140737488355328))
                  (Kn [(0, (.ptr 0 0)), (1, (.int .i64 (k))), (5, (.obj 1 0)), (6, (.int .i64 (IntKind.wrap IntKind.i64 (c - 1))))] [(.box [(.vec (.int .u8) (Prod.fst (smallS s))), (.int .i64 (Prod.fst (Prod.snd (smallS s)))), (.int .u64 (Prod.snd (Prod.snd (smallS s))))]), (.sl 0 (.float .f32) (xs ++ [smallV s]))])
                  (False))))
            (cond (k == 10)
              (cond (k == 10)
                (cond (srcIn 6 (smallS s))
                  (cond (decide ((List.length xs + 1) * 4 ≤ 140737488355328))
                    (Kn [(0, (.ptr 0 0)), (1, (.int .i64 (k))), (5, (.obj 1 0)), (6, (.int .i64 (IntKind.wrap IntKind.i64 (c - 1))))] [(.box [(.vec (.int .u8) (Prod.fst (pickS (smallS s) 8))), (.int .i64 (Prod.fst (Prod.snd (pickS (smallS s) 8)))), (.int .u64 (Prod.snd (Prod.snd (pickS (smallS s) 8))))]), (.sl 0 (.float .f32) (xs ++ [fdiv FloatKind.f32 (FloatKind.nearest FloatKind.f32 (IntKind.wrap IntKind.i64 (1 + pickV (smallS s) 8))) 1082130432]))])
                    (False))
                  (False))
                (cond (k == 12)
                  (cond (srcIn 6 (smallS s))
                    (cond (decide ((List.length xs + 1) * 4 ≤ 140737488355328))
                      (Kn [(0, (.ptr 0 0)), (1, (.int .i64 (k))), (5, (.obj 1 0)), (6, (.int .i64 (IntKind.wrap IntKind.i64 (c - 1))))] [(.box [(.vec (.int .u8) (Prod.fst (pickS (smallS s) 17))), (.int .i64 (Prod.fst (Prod.snd (pickS (smallS s) 17)))), (.int .u64 (Prod.snd (Prod.snd (pickS (smallS s) 17))))]), (.sl 0 (.float .f32) (xs ++ [fdiv FloatKind.f32 (FloatKind.nearest FloatKind.f32 (IntKind.wrap IntKind.i64 (pickV (smallS s) 17 - 8))) 1098907648]))])
                      (False))
                    (False))
                  (cond (decide ((List.length xs + 1) * 4 ≤ 140737488355328))
                    (Kn [(0, (.ptr 0 0)), (1, (.int .i64 (k))), (5, (.obj 1 0)), (6, (.int .i64 (IntKind.wrap IntKind.i64 (c - 1))))] [(.box [(.vec (.int .u8) (Prod.fst (smallS s))), (.int .i64 (Prod.fst (Prod.snd (smallS s)))), (.int .u64 (Prod.snd (Prod.snd (smallS s))))]), (.sl 0 (.float .f32) (xs ++ [smallV s]))])
                    (False))))
              (cond (k == 11)
                (cond (k == 11)
                  (cond (srcIn 6 (smallS s))
                    (cond (decide ((List.length xs + 1) * 4 ≤ 140737488355328))
                      (Kn [(0, (.ptr 0 0)), (1, (.int .i64 (k))), (5, (.obj 1 0)), (6, (.int .i64 (IntKind.wrap IntKind.i64 (c - 1))))] [(.box [(.vec (.int .u8) (Prod.fst (pickS (smallS s) 8))), (.int .i64 (Prod.fst (Prod.snd (pickS (smallS s) 8)))), (.int .u64 (Prod.snd (Prod.snd (pickS (smallS s) 8))))]), (.sl 0 (.float .f32) (xs ++ [fdiv FloatKind.f32 (FloatKind.nearest FloatKind.f32 (IntKind.wrap IntKind.i64 (1 + pickV (smallS s) 8))) 1082130432]))])
                      (False))
                    (False))
                  (cond (k == 12)
                    (cond (srcIn 6 (smallS s))
                      (cond (decide ((List.length xs + 1) * 4 ≤ 140737488355328))
                        (Kn [(0, (.ptr 0 0)), (1, (.int .i64 (k))), (5, (.obj 1 0)), (6, (.int .i64 (IntKind.wrap IntKind.i64 (c - 1))))] [(.box [(.vec (.int .u8) (Prod.fst (pickS (smallS s) 17))), (.int .i64 (Prod.fst (Prod.snd (pickS (smallS s) 17)))), (.int .u64 (Prod.snd (Prod.snd (pickS (smallS s) 17))))]), (.sl 0 (.float .f32) (xs ++ [fdiv FloatKind.f32 (FloatKind.nearest FloatKind.f32 (IntKind.wrap IntKind.i64 (pickV (smallS s) 17 - 8))) 1098907648]))])
                        (False))
                      (False))
                    (cond (decide ((List.length xs + 1) * 4 ≤ 140737488355328))
                      (Kn [(0, (.ptr 0 0)), (1, (.int .i64 (k))), (5, (.obj 1 0)), (6, (.int .i64 (IntKind.wrap IntKind.i64 (c - 1))))] [(.box [(.vec (.int .u8) (Prod.fst (smallS s))), (.int .i64 (Prod.fst (Prod.snd (smallS s)))), (.int .u64 (Prod.snd (Prod.snd (smallS s))))]), (.sl 0 (.float .f32) (xs ++ [smallV s]))])
                      (False))))
                (cond (k == 14)
                  (cond (srcIn 6 (smallS s))
                    (cond (decide ((List.length xs + 1) * 4 ≤ 140737488355328))
                      (Kn [(0, (.ptr 0 0)), (1, (.int .i64 (k))), (5, (.obj 1 0)), (6, (.int .i64 (IntKind.wrap IntKind.i64 (c - 1))))] [(.box [(.vec (.int .u8) (Prod.fst (pickS (smallS s) 8))), (.int .i64 (Prod.fst (Prod.snd (pickS (smallS s) 8)))), (.int .u64 (Prod.snd (Prod.snd (pickS (smallS s) 8))))]), (.sl 0 (.float .f32) (xs ++ [fdiv FloatKind.f32 (FloatKind.nearest FloatKind.f32 (IntKind.wrap IntKind.i64 (1 + pickV (smallS s) 8))) 1082130432]))])
                      (False))
                    (False))
                  (cond (k == 12)
                    (cond (srcIn 6 (smallS s))
                      (cond (decide ((List.length xs + 1) * 4 ≤ 140737488355328))
                        (Kn [(0, (.ptr 0 0)), (1, (.int .i64 (k))), (5, (.obj 1 0)), (6, (.int .i64 (IntKind.wrap IntKind.i64 (c - 1))))] [(.box [(.vec (.int .u8) (Prod.fst (pickS (smallS s) 17))), (.int .i64 (Prod.fst (Prod.snd (pickS (smallS s) 17)))), (.int .u64 (Prod.snd (Prod.snd (pickS (smallS s) 17))))]), (.sl 0 (.float .f32) (xs ++ [fdiv FloatKind.f32 (FloatKind.nearest FloatKind.f32 (IntKind.wrap IntKind.i64 (pickV (smallS s) 17 - 8))) 1098907648]))])
                        (False))
                      (False))
                    (cond (decide ((List.length xs + 1) * 4 ≤ 140737488355328))
                      (Kn [(0, (.ptr 0 0)), (1, (.int .i64 (k))), (5, (.obj 1 0)), (6, (.int .i64 (IntKind.wrap IntKind.i64 (c - 1))))] [(.box [(.vec (.int .u8) (Prod.fst (smallS s))), (.int .i64 (Prod.fst (Prod.snd (smallS s)))), (.int .u64 (Prod.snd (Prod.snd (smallS s))))]), (.sl 0 (.float .f32) (xs ++ [smallV s]))])
                      (False))))))))
        (cond (k == 1)
          (cond (k == 1)
            (cond (decide ((List.length xs + 1) * 4 ≤ 140737488355328))
              (Kn [(0, (.ptr 0 0)), (1, (.int .i64 (k))), (5, (.obj 1 0)), (6, (.int .i64 (IntKind.wrap IntKind.i64 (c - 1))))] [(.box [(.vec (.int .u8) (Prod.fst (smallS s))), (.int .i64 (Prod.fst (Prod.snd (smallS s)))), (.int .u64 (Prod.snd (Prod.snd (smallS s))))]), (.sl 0 (.float .f32) (xs ++ [sizeV (smallV s)]))])
              (False))
            (cond (k == 8)
              (cond (k == 8)
                (cond (srcIn 6 (smallS s))
                  (cond (decide ((List.length xs + 1) * 4 ≤ 140737488355328))
                    (Kn [(0, (.ptr 0 0)), (1, (.int .i64 (k))), (5, (.obj 1 0)), (6, (.int .i64 (IntKind.wrap IntKind.i64 (c - 1))))] [(.box [(.vec (.int .u8) (Prod.fst (pickS (smallS s) 8))), (.int .i64 (Prod.fst (Prod.snd (pickS (smallS s) 8)))), (.int .u64 (Prod.snd (Prod.snd (pickS (smallS s) 8))))]), (.sl 0 (.float .f32) (xs ++ [fdiv FloatKind.f32 (FloatKind.nearest FloatKind.f32 (IntKind.wrap IntKind.i64 (1 + pickV (smallS s) 8))) 1082130432]))])
                    (False))
                  (False))
                (cond (k == 12)
                  (cond (srcIn 6 (smallS s))
                    (cond (decide ((List.length xs + 1) * 4 ≤ 140737488355328))
                      (Kn [(0, (.ptr 0 0)), (1, (.int .i64 (k))), (5, (.obj 1 0)), (6, (.int .i64 (IntKind.wrap IntKind.i64 (c - 1))))] [(.box [(.vec (.int .u8) (Prod.fst (pickS (smallS s) 17))), (.int .i64 (Prod.fst (Prod.snd (pickS (smallS s) 17)))), (.int .u64 (Prod.snd (Prod.snd (pickS (smallS s) 17))))]), (.sl 0 (.float .f32) (xs ++ [fdiv FloatKind.f32 (FloatKind.nearest FloatKind.f32 (IntKind.wrap IntKind.i64 (pickV (smallS s) 17 - 8))) 1098907648]))])
                      (False))
                    (False))
                  (cond (decide ((List.length xs + 1) * 4 ≤ 140737488355328))
                    (Kn [(0, (.ptr 0 0)), (1, (.int .i64 (k))), (5, (.obj 1 0)), (6, (.int .i64 (IntKind.wrap IntKind.i64 (c - 1))))] [(.box [(.vec (.int .u8) (Prod.fst (smallS s))), (.int .i64 (Prod.fst (Prod.snd (smallS s)))), (.int .u64 (Prod.snd (Prod.snd (smallS s))))]), (.sl 0 (.float .f32) (xs ++ [smallV s]))])
                    (False))))
              (cond (k == 10)
                (cond (k == 10)
                  (cond (srcIn 6 (smallS s))
                    (cond (decide ((List.length xs + 1) * 4 ≤ 140737488355328))
                      (Kn [(0, (.ptr 0 0)), (1, (.int .i64 (k))), (5, (.obj 1 0)), (6, (.int .i64 (IntKind.wrap IntKind.i64 (c - 1))))] [(.box [(.vec (.int .u8) (Prod.fst (pickS (smallS s) 8))), (.int .i64 (Prod.fst (Prod.snd (pickS (smallS s) 8)))), (.int .u64 (Prod.snd (Prod.snd (pickS (smallS s) 8))))]), (.sl 0 (.float .f32) (xs ++ [fdiv FloatKind.f32 (FloatKind.nearest FloatKind.f32 (IntKind.wrap IntKind.i64 (1 + pickV (smallS s) 8))) 1082130432]))])
                      (False))
                    (False))
                  (cond (k == 12)
                    (cond (srcIn 6 (smallS s))
                      (cond (decide ((List.length xs + 1) * 4 ≤ 140737488355328))
                        (Kn [(0, (.ptr 0 0)), (1, (.int .i64 (k))), (5, (.obj 1 0)), (6, (.int .i64 (IntKind.wrap IntKind.i64 (c - 1))))] [(.box [(.vec (.int .u8) (Prod.fst (pickS (smallS s) 17))), (.int .i64 (Prod.fst (Prod.snd (pickS (smallS s) 17)))), (.int .u64 (Prod.snd (Prod.snd (pickS (smallS s) 17))))]), (.sl 0 (.float .f32) (xs ++ [fdiv FloatKind.f32 (FloatKind.nearest FloatKind.f32 (IntKind.wrap IntKind.i64 (pickV (smallS s) 17 - 8))) 1098907648]))])
                        (False))
                      (False))
                    (cond (decide ((List.length xs + 1) * 4 ≤ 140737488355328))
                      (Kn [(0, (.ptr 0 0)), (1, (.int .i64 (k))), (5, (.obj 1 0)), (6, (.int .i64 (IntKind.wrap IntKind.i64 (c - 1))))] [(.box [(.vec (.int .u8) (Prod.fst (smallS s))), (.int .i64 (Prod.fst (Prod.snd (smallS s)))), (.int .u64 (Prod.snd (Prod.snd (smallS s))))]), (.sl 0 (.float .f32) (xs ++ [smallV s]))])
                      (False))))
                (cond (k == 11)
                  (cond (k == 11)
                    (cond (srcIn 6 (smallS s))
                      (cond (decide ((List.length xs + 1) * 4 ≤ 140737488355328))
                        (Kn [(0, (.ptr 0 0)), (1, (.int .i64 (k))), (5, (.obj 1 0)), (6, (.int .i64 (IntKind.wrap IntKind.i64 (c - 1))))] [(.box [(.vec (.int .u8) (Prod.fst (pickS (smallS s) 8))), (.int .i64 (Prod.fst (Prod.snd (pickS (smallS s) 8)))), (.int .u64 (Prod.snd (Prod.snd (pickS (smallS s) 8))))]), (.sl 0 (.float .f32) (xs ++ [fdiv FloatKind.f32 (FloatKind.nearest FloatKind.f32 (IntKind.wrap IntKind.i64 (1 + pickV (smallS s) 8))) 1082130432]))])
                        (False))
                      (False))
                    (cond (k == 12)
                      (cond (srcIn 6 (smallS s))
                        (cond (decide ((List.length xs + 1) * 4 ≤ 140737488355328))
                          (Kn [(0, (.ptr 0 0)), (1, (.int .i64 (k))), (5, (.obj 1 0)), (6, (.int .i64 (IntKind.wrap IntKind.i64 (c - 1))))] [(.box [(.vec (.int .u8) (Prod.fst (pickS (smallS s) 17))), (.int .i64 (Prod.fst (Prod.snd (pickS (smallS s) 17)))), (.int .u64 (Prod.snd (Prod.snd (pickS (smallS s) 17))))]), (.sl 0 (.float .f32) (xs ++ [fdiv FloatKind.f32 (FloatKind.nearest FloatKind.f32 (IntKind.wrap IntKind.i64 (pickV (smallS s) 17 - 8))) 1098907648]))])
                          (False))
                        (False))
                      (cond (decide ((List.length xs + 1) * 4 ≤ 140737488355328))
                        (Kn [(0, (.ptr 0 0)), (1, (.int .i64 (k))), (5, (.obj 1 0)), (6, (.int .i64 (IntKind.wrap IntKind.i64 (c - 1))))] [(.box [(.vec (.int .u8) (Prod.fst (smallS s))), (.int .i64 (Prod.fst (Prod.snd (smallS s)))), (.int .u64 (Prod.snd (Prod.snd (smallS s))))]), (.sl 0 (.float .f32) (xs ++ [smallV s]))])
                        (False))))
                  (cond (k == 14)
                    (cond (srcIn 6 (smallS s))
                      (cond (decide ((List.length xs + 1) * 4 ≤ 140737488355328))
                        (Kn [(0, (.ptr 0 0)), (1, (.int .i64 (k))), (5, (.obj 1 0)), (6, (.int .i64 (IntKind.wrap IntKind.i64 (c - 1))))] [(.box [(.vec (.int .u8) (Prod.fst (pickS (smallS s) 8))), (.int .i64 (Prod.fst (Prod.snd (pickS (smallS s) 8)))), (.int .u64 (Prod.snd (Prod.snd (pickS (smallS s) 8))))]), (.sl 0 (.float .f32) (xs ++ [fdiv FloatKind.f32 (FloatKind.nearest FloatKind.f32 (IntKind.wrap IntKind.i64 (1 + pickV (smallS s) 8))) 1082130432]))])
                        (False))
                      (False))
                    (cond (k == 12)
                      (cond (srcIn 6 (smallS s))
                        (cond (decide ((List.length xs + 1) * 4 ≤ 140737488355328))
                          (Kn [(0, (.ptr 0 0)), (1, (.int .i64 (k))), (5, (.obj 1 0)), (6, (.int .i64 (IntKind.wrap IntKind.i64 (c - 1))))] [(.box [(.vec (.int .u8) (Prod.fst (pickS (smallS s) 17))), (.int .i64 (Prod.fst (Prod.snd (pickS (smallS s) 17)))), (.int .u64 (Prod.snd (Prod.snd (pickS (smallS s) 17))))]), (.sl 0 (.float .f32) (xs ++ [fdiv FloatKind.f32 (FloatKind.nearest FloatKind.f32 (IntKind.wrap IntKind.i64 (pickV (smallS s) 17 - 8))) 1098907648]))])
                          (False))
                        (False))
                      (cond (decide ((List.length xs + 1) * 4 ≤ 140737488355328))
                        (Kn [(0, (.ptr 0 0)), (1, (.int .i64 (k))), (5, (.obj 1 0)), (6, (.int .i64 (IntKind.wrap IntKind.i64 (c - 1))))] [(.box [(.vec (.int .u8) (Prod.fst (smallS s))), (.int .i64 (Prod.fst (Prod.snd (smallS s)))), (.int .u64 (Prod.snd (Prod.snd (smallS s))))]), (.sl 0 (.float .f32) (xs ++ [smallV s]))])
                        (False))))))))
          (cond (k == 2)
            (cond (k == 2)
              (cond (decide ((List.length xs + 1) * 4 ≤ 140737488355328))
                (Kn [(0, (.ptr 0 0)), (1, (.int .i64 (k))), (5, (.obj 1 0)), (6, (.int .i64 (IntKind.wrap IntKind.i64 (c - 1))))] [(.box [(.vec (.int .u8) (Prod.fst (smallS s))), (.int .i64 (Prod.fst (Prod.snd (smallS s)))), (.int .u64 (Prod.snd (Prod.snd (smallS s))))]), (.sl 0 (.float .f32) (xs ++ [sizeV (smallV s)]))])
                (False))
              (cond (k == 8)
                (cond (k == 8)
                  (cond (srcIn 6 (smallS s))
                    (cond (decide ((List.length xs + 1) * 4 ≤ 140737488355328))
                      (Kn [(0, (.ptr 0 0)), (1, (.int .i64 (k))), (5, (.obj 1 0)), (6, (.int .i64 (IntKind.wrap IntKind.i64 (c - 1))))] [(.box [(.vec (.int .u8) (Prod.fst (pickS (smallS s) 8))), (.int .i64 (Prod.fst (Prod.snd (pickS (smallS s) 8)))), (.int .u64 (Prod.snd (Prod.snd (pickS (smallS s) 8))))]), (.sl 0 (.float .f32) (xs ++ [fdiv FloatKind.f32 (FloatKind.nearest FloatKind.f32 (IntKind.wrap IntKind.i64 (1 + pickV (smallS s) 8))) 1082130432]))])
                      (False))
                    (False))
                  (cond (k == 12)
                    (cond (srcIn 6 (smallS s))
                      (cond (decide ((List.length xs + 1) * 4 ≤ 140737488355328))
                        (Kn [(0, (.ptr 0 0)), (1, (.int .i64 (k))), (5, (.obj 1 0)), (6, (.int .i64 (IntKind.wrap IntKind.i64 (c - 1))))] [(.box [(.vec (.int .u8) (Prod.fst (pickS (smallS s) 17))), (.int .i64 (Prod.fst (Prod.snd (pickS (smallS s) 17)))), (.int .u64 (Prod.snd (Prod.snd (pickS (smallS s) 17))))]), (.sl 0 (.float .f32) (xs ++ [fdiv FloatKind.f32 (FloatKind.nearest FloatKind.f32 (IntKind.wrap IntKind.i64 (pickV (smallS s) 17 - 8))) 1098907648]))])
                        (False))
                      (False))
                    (cond (decide ((List.length xs + 1) * 4 ≤ 140737488355328))
                      (Kn [(0, (.ptr 0 0)), (1, (.int .i64 (k))), (5, (.obj 1 0)), (6, (.int .i64 (IntKind.wrap IntKind.i64 (c - 1))))] [(.box [(.vec (.int .u8) (Prod.fst (smallS s))), (.int .i64 (Prod.fst (Prod.snd (smallS s)))), (.int .u64 (Prod.snd (Prod.snd (smallS s))))]), (.sl 0 (.float .f32) (xs ++ [smallV s]))])
                      (False))))
                (cond (k == 10)
                  (cond (k == 10)
                    (cond (srcIn 6 (smallS s))
                      (cond (decide ((List.length xs + 1) * 4 ≤ 140737488355328))
                        (Kn [(0, (.ptr 0 0)), (1, (.int .i64 (k))), (5, (.obj 1 0)), (6, (.int .i64 (IntKind.wrap IntKind.i64 (c - 1))))] [(.box [(.vec (.int .u8) (Prod.fst (pickS (smallS s) 8))), (.int .i64 (Prod.fst (Prod.snd (pickS (smallS s) 8)))), (.int .u64 (Prod.snd (Prod.snd (pickS (smallS s) 8))))]), (.sl 0 (.float .f32) (xs ++ [fdiv FloatKind.f32 (FloatKind.nearest FloatKind.f32 (IntKind.wrap IntKind.i64 (1 + pickV (smallS s) 8))) 1082130432]))])
                        (False))
                      (False))
                    (cond (k == 12)
                      (cond (srcIn 6 (smallS s))
                        (cond (decide ((List.length xs + 1) * 4 ≤ 140737488355328))
                          (Kn [(0, (.ptr 0 0)), (1, (.int .i64 (k))), (5, (.obj 1 0)), (6, (.int .i64 (IntKind.wrap IntKind.i64 (c - 1))))] [(.box [(.vec (.int .u8) (Prod.fst (pickS (smallS s) 17))), (.int .i64 (Prod.fst (Prod.snd (pickS (smallS s) 17)))), (.int .u64 (Prod.snd (Prod.snd (pickS (smallS s) 17))))]), (.sl 0 (.float .f32) (xs ++ [fdiv FloatKind.f32 (FloatKind.nearest FloatKind.f32 (IntKind.wrap IntKind.i64 (pickV (smallS s) 17 - 8))) 1098907648]))])
                          (False))
                        (False))
                      (cond (decide ((List.length xs + 1) * 4 ≤ 140737488355328))
                        (Kn [(0, (.ptr 0 0)), (1, (.int .i64 (k))), (5, (.obj 1 0)), (6, (.int .i64 (IntKind.wrap IntKind.i64 (c - 1))))] [(.box [(.vec (.int .u8) (Prod.fst (smallS s))), (.int .i64 (Prod.fst (Prod.snd (smallS s)))), (.int .u64 (Prod.snd (Prod.snd (smallS s))))]), (.sl 0 (.float .f32) (xs ++ [smallV s]))])
                        (False))))
                  (cond (k == 11)
                    (cond (k == 11)
                      (cond (srcIn 6 (smallS s))
                        (cond (decide ((List.length xs + 1) * 4 ≤ 140737488355328))
                          (Kn [(0, (.ptr 0 0)), (1, (.int .i64 (k))), (5, (.obj 1 0)), (6, (.int .i64 (IntKind.wrap IntKind.i64 (c - 1))))] [(.box [(.vec (.int .u8) (Prod.fst (pickS (smallS s) 8))), (.int .i64 (Prod.fst (Prod.snd (pickS (smallS s) 8)))), (.int .u64 (Prod.snd (Prod.snd (pickS (smallS s) 8))))]), (.sl 0 (.float .f32) (xs ++ [fdiv FloatKind.f32 (FloatKind.nearest FloatKind.f32 (IntKind.wrap IntKind.i64 (1 + pickV (smallS s) 8))) 1082130432]))])
                          (False))
                        (False))
                      (cond (k == 12)
                        (cond (srcIn 6 (smallS s))
                          (cond (decide ((List.length xs + 1) * 4 ≤ 140737488355328))
                            (Kn [(0, (.ptr 0 0)), (1, (.int .i64 (k))), (5, (.obj 1 0)), (6, (.int .i64 (IntKind.wrap IntKind.i64 (c - 1))))] [(.box [(.vec (.int .u8) (Prod.fst (pickS (smallS s) 17))), (.int .i64 (Prod.fst (Prod.snd (pickS (smallS s) 17)))), (.int .u64 (Prod.snd (Prod.snd (pickS (smallS s) 17))))]), (.sl 0 (.float .f32) (xs ++ [fdiv FloatKind.f32 (FloatKind.nearest FloatKind.f32 (IntKind.wrap IntKind.i64 (pickV (smallS s) 17 - 8))) 1098907648]))])
                            (False))
                          (False))
                        (cond (decide ((List.length xs + 1) * 4 ≤ 140737488355328))
                          (Kn [(0, (.ptr 0 0)), (1, (.int .i64 (k))), (5, (.obj 1 0)), (6, (.int .i64 (IntKind.wrap IntKind.i64 (c - 1))))] [(.box [(.vec (.int .u8) (Prod.fst (smallS s))), (.int .i64 (Prod.fst (Prod.snd (smallS s)))), (.int .u64 (Prod.snd (Prod.snd (smallS s))))]), (.sl 0 (.float .f32) (xs ++ [smallV s]))])
                          (False))))
                    (cond (k == 14)
                      (cond (srcIn 6 (smallS s))
                        (cond (decide ((List.length xs + 1) * 4 ≤ 140737488355328))
                          (Kn [(0, (.ptr 0 0)), (1, (.int .i64 (k))), (5, (.obj 1 0)), (6, (.int .i64 (IntKind.wrap IntKind.i64 (c - 1))))] [(.box [(.vec (.int .u8) (Prod.fst (pickS (smallS s) 8))), (.int .i64 (Prod.fst (Prod.snd (pickS (smallS s) 8)))), (.int .u64 (Prod.snd (Prod.snd (pickS (smallS s) 8))))]), (.sl 0 (.float .f32) (xs ++ [fdiv FloatKind.f32 (FloatKind.nearest FloatKind.f32 (IntKind.wrap IntKind.i64 (1 + pickV (smallS s) 8))) 1082130432]))])
                          (False))
                        (False))
                      (cond (k == 12)
                        (cond (srcIn 6 (smallS s))
                          (cond (decide ((List.length xs + 1) * 4 ≤ 140737488355328))
                            (Kn [(0, (.ptr 0 0)), (1, (.int .i64 (k))), (5, (.obj 1 0)), (6, (.int .i64 (IntKind.wrap IntKind.i64 (c - 1))))] [(.box [(.vec (.int .u8) (Prod.fst (pickS (smallS s) 17))), (.int .i64 (Prod.fst (Prod.snd (pickS (smallS s) 17)))), (.int .u64 (Prod.snd (Prod.snd (pickS (smallS s) 17))))]), (.sl 0 (.float .f32) (xs ++ [fdiv FloatKind.f32 (FloatKind.nearest FloatKind.f32 (IntKind.wrap IntKind.i64 (pickV (smallS s) 17 - 8))) 1098907648]))])
                            (False))
                          (False))
                        (cond (decide ((List.length xs + 1) * 4 ≤ 140737488355328))
                          (Kn [(0, (.ptr 0 0)), (1, (.int .i64 (k))), (5, (.obj 1 0)), (6, (.int .i64 (IntKind.wrap IntKind.i64 (c - 1))))] [(.box [(.vec (.int .u8) (Prod.fst (smallS s))), (.int .i64 (Prod.fst (Prod.snd (smallS s)))), (.int .u64 (Prod.snd (Prod.snd (smallS s))))]), (.sl 0 (.float .f32) (xs ++ [smallV s]))])
                          (False))))))))
            (cond (k == 3)
              (cond (k == 3)
                (cond (decide ((List.length xs + 1) * 4 ≤ 140737488355328))
                  (Kn [(0, (.ptr 0 0)), (1, (.int .i64 (k))), (5, (.obj 1 0)), (6, (.int .i64 (IntKind.wrap IntKind.i64 (c - 1))))] [(.box [(.vec (.int .u8) (Prod.fst (smallS s))), (.int .i64 (Prod.fst (Prod.snd (smallS s)))), (.int .u64 (Prod.snd (Prod.snd (smallS s))))]), (.sl 0 (.float .f32) (xs ++ [sizeV (smallV s)]))])
                  (False))
                (cond (k == 8)
                  (cond (k == 8)
                    (cond (srcIn 6 (smallS s))
                      (cond (decide ((List.length xs + 1) * 4 ≤ 140737488355328))
                        (Kn [(0, (.ptr 0 0)), (1, (.int .i64 (k))), (5, (.obj 1 0)), (6, (.int .i64 (IntKind.wrap IntKind.i64 (c - 1))))] [(.box [(.vec (.int .u8) (Prod.fst (pickS (smallS s) 8))), (.int .i64 (Prod.fst (Prod.snd (pickS (smallS s) 8)))), (.int .u64 (Prod.snd (Prod.snd (pickS (smallS s) 8))))]), (.sl 0 (.float .f32) (xs ++ [fdiv FloatKind.f32 (FloatKind.nearest FloatKind.f32 (IntKind.wrap IntKind.i64 (1 + pickV (smallS s) 8))) 1082130432]))])
                        (False))
                      (False))
                    (cond (k == 12)
                      (cond (srcIn 6 (smallS s))
                        (cond (decide ((List.length xs + 1) * 4 ≤ 140737488355328))
                          (Kn [(0, (.ptr 0 0)), (1, (.int .i64 (k))), (5, (.obj 1 0)), (6, (.int .i64 (IntKind.wrap IntKind.i64 (c - 1))))] [(.box [(.vec (.int .u8) (Prod.fst (pickS (smallS s) 17))), (.int .i64 (Prod.fst (Prod.snd (pickS (smallS s) 17)))), (.int .u64 (Prod.snd (Prod.snd (pickS (smallS s) 17))))]), (.sl 0 (.float .f32) (xs ++ [fdiv FloatKind.f32 (FloatKind.nearest FloatKind.f32 (IntKind.wrap IntKind.i64 (pickV (smallS s) 17 - 8))) 1098907648]))])
                          (False))
                        (False))
                      (cond (decide ((List.length xs + 1) * 4 ≤ 140737488355328))
                        (Kn [(0, (.ptr 0 0)), (1, (.int .i64 (k))), (5, (.obj 1 0)), (6, (.int .i64 (IntKind.wrap IntKind.i64 (c - 1))))] [(.box [(.vec (.int .u8) (Prod.fst (smallS s))), (.int .i64 (Prod.fst (Prod.snd (smallS s)))), (.int .u64 (Prod.snd (Prod.snd (smallS s))))]), (.sl 0 (.float .f32) (xs ++ [smallV s]))])
                        (False))))
                  (cond (k == 10)
                    (cond (k == 10)
                      (cond (srcIn 6 (smallS s))
                        (cond (decide ((List.length xs + 1) * 4 ≤ 140737488355328))
                          (Kn [(0, (.ptr 0 0)), (1, (.int .i64 (k))), (5, (.obj 1 0)), (6, (.int .i64 (IntKind.wrap IntKind.i64 (c - 1))))] [(.box [(.vec (.int .u8) (Prod.fst (pickS (smallS s) 8))), (.int .i64 (Prod.fst (Prod.snd (pickS (smallS s) 8)))), (.int .u64 (Prod.snd (Prod.snd (pickS (smallS s) 8))))]), (.sl 0 (.float .f32) (xs ++ [fdiv FloatKind.f32 (FloatKind.nearest FloatKind.f32 (IntKind.wrap IntKind.i64 (1 + pickV (smallS s) 8))) 1082130432]))])
                          (False))
                        (False))
                      (cond (k == 12)
                        (cond (srcIn 6 (smallS s))
                          (cond (decide ((List.length xs + 1) * 4 ≤ 140737488355328))
                            (Kn [(0, (.ptr 0 0)), (1, (.int .i64 (k))), (5, (.obj 1 0)), (6, (.int .i64 (IntKind.wrap IntKind.i64 (c - 1))))] [(.box [(.vec (.int .u8) (Prod.fst (pickS (smallS s) 17))), (.int .i64 (Prod.fst (Prod.snd (pickS (smallS s) 17)))), (.int .u64 (Prod.snd (Prod.snd (pickS (smallS s) 17))))]), (.sl 0 (.float .f32) (xs ++ [fdiv FloatKind.f32 (FloatKind.nearest FloatKind.f32 (IntKind.wrap IntKind.i64 (pickV (smallS s) 17 - 8))) 1098907648]))])
                            (False))
                          (False))
                        (cond (decide ((List.length xs + 1) * 4 ≤ 140737488355328))
                          (Kn [(0, (.ptr 0 0)), (1, (.int .i64 (k))), (5, (.obj 1 0)), (6, (.int .i64 (IntKind.wrap IntKind.i64 (c - 1))))] [(.box [(.vec (.int .u8) (Prod.fst (smallS s))), (.int .i64 (Prod.fst (Prod.snd (smallS s)))), (.int .u64 (Prod.snd (Prod.snd (smallS s))))]), (.sl 0 (.float .f32) (xs ++ [smallV s]))])
                          (False))))
                    (cond (k == 11)
                      (cond (k == 11)
                        (cond (srcIn 6 (smallS s))
                          (cond (decide ((List.length xs + 1) * 4 ≤ 140737488355328))
                            (Kn [(0, (.ptr 0 0)), (1, (.int .i64 (k))), (5, (.obj 1 0)), (6, (.int .i64 (IntKind.wrap IntKind.i64 (c - 1))))] [(.box [(.vec (.int .u8) (Prod.fst (pickS (smallS s) 8))), (.int .i64 (Prod.fst (Prod.snd (pickS (smallS s) 8)))), (.int .u64 (Prod.snd (Prod.snd (pickS (smallS s) 8))))]), (.sl 0 (.float .f32) (xs ++ [fdiv FloatKind.f32 (FloatKind.nearest FloatKind.f32 (IntKind.wrap IntKind.i64 (1 + pickV (smallS s) 8))) 1082130432]))])
                            (False))
                          (False))
                        (cond (k == 12)
                          (cond (srcIn 6 (smallS s))
                            (cond (decide ((List.length xs + 1) * 4 ≤ 140737488355328))
                              (Kn [(0, (.ptr 0 0)), (1, (.int .i64 (k))), (5, (.obj 1 0)), (6, (.int .i64 (IntKind.wrap IntKind.i64 (c - 1))))] [(.box [(.vec (.int .u8) (Prod.fst (pickS (smallS s) 17))), (.int .i64 (Prod.fst (Prod.snd (pickS (smallS s) 17)))), (.int .u64 (Prod.snd (Prod.snd (pickS (smallS s) 17))))]), (.sl 0 (.float .f32) (xs ++ [fdiv FloatKind.f32 (FloatKind.nearest FloatKind.f32 (IntKind.wrap IntKind.i64 (pickV (smallS s) 17 - 8))) 1098907648]))])
                              (False))
                            (False))
                          (cond (decide ((List.length xs + 1) * 4 ≤ 140737488355328))
                            (Kn [(0, (.ptr 0 0)), (1, (.int .i64 (k))), (5, (.obj 1 0)), (6, (.int .i64 (IntKind.wrap IntKind.i64 (c - 1))))] [(.box [(.vec (.int .u8) (Prod.fst (smallS s))), (.int .i64 (Prod.fst (Prod.snd (smallS s)))), (.int .u64 (Prod.snd (Prod.snd (smallS s))))]), (.sl 0 (.float .f32) (xs ++ [smallV s]))])
                            (False))))
                      (cond (k == 14)
                        (cond (srcIn 6 (smallS s))
                          (cond (decide ((List.length xs + 1) * 4 ≤ 140737488355328))
                            (Kn [(0, (.ptr 0 0)), (1, (.int .i64 (k))), (5, (.obj 1 0)), (6, (.int .i64 (IntKind.wrap IntKind.i64 (c - 1))))] [(.box [(.vec (.int .u8) (Prod.fst (pickS (smallS s) 8))), (.int .i64 (Prod.fst (Prod.snd (pickS (smallS s) 8)))), (.int .u64 (Prod.snd (Prod.snd (pickS (smallS s) 8))))]), (.sl 0 (.float .f32) (xs ++ [fdiv FloatKind.f32 (FloatKind.nearest FloatKind.f32 (IntKind.wrap IntKind.i64 (1 + pickV (smallS s) 8))) 1082130432]))])
                            (False))
                          (False))
                        (cond (k == 12)
                          (cond (srcIn 6 (smallS s))
                            (cond (decide ((List.length xs + 1) * 4 ≤ 140737488355328))
                              (Kn [(0, (.ptr 0 0)), (1, (.int .i64 (k))), (5, (.obj 1 0)), (6, (.int .i64 (IntKind.wrap IntKind.i64 (c - 1))))] [(.box [(.vec (.int .u8) (Prod.fst (pickS (smallS s) 17))), (.int .i64 (Prod.fst (Prod.snd (pickS (smallS s) 17)))), (.int .u64 (Prod.snd (Prod.snd (pickS (smallS s) 17))))]), (.sl 0 (.float .f32) (xs ++ [fdiv FloatKind.f32 (FloatKind.nearest FloatKind.f32 (IntKind.wrap IntKind.i64 (pickV (smallS s) 17 - 8))) 1098907648]))])
                              (False))
                            (False))
                          (cond (decide ((List.length xs + 1) * 4 ≤ 140737488355328))
                            (Kn [(0, (.ptr 0 0)), (1, (.int .i64 (k))), (5, (.obj 1 0)), (6, (.int .i64 (IntKind.wrap IntKind.i64 (c - 1))))] [(.box [(.vec (.int .u8) (Prod.fst (smallS s))), (.int .i64 (Prod.fst (Prod.snd (smallS s)))), (.int .u64 (Prod.snd (Prod.snd (smallS s))))]), (.sl 0 (.float .f32) (xs ++ [smallV s]))])
                            (False))))))))
              (cond (k == 16)
                (cond (decide ((List.length xs + 1) * 4 ≤ 140737488355328))
                  (Kn [(0, (.ptr 0 0)), (1, (.int .i64 (k))), (5, (.obj 1 0)), (6, (.int .i64 (IntKind.wrap IntKind.i64 (c - 1))))] [(.box [(.vec (.int .u8) (Prod.fst (smallS s))), (.int .i64 (Prod.fst (Prod.snd (smallS s)))), (.int .u64 (Prod.snd (Prod.snd (smallS s))))]), (.sl 0 (.float .f32) (xs ++ [sizeV (smallV s)]))])
                  (False))
                (cond (k == 8)
                  (cond (k == 8)
                    (cond (srcIn 6 (smallS s))
                      (cond (decide ((List.length xs + 1) * 4 ≤ 140737488355328))
                        (Kn [(0, (.ptr 0 0)), (1, (.int .i64 (k))), (5, (.obj 1 0)), (6, (.int .i64 (IntKind.wrap IntKind.i64 (c - 1))))] [(.box [(.vec (.int .u8) (Prod.fst (pickS (smallS s) 8))), (.int .i64 (Prod.fst (Prod.snd (pickS (smallS s) 8)))), (.int .u64 (Prod.snd (Prod.snd (pickS (smallS s) 8))))]), (.sl 0 (.float .f32) (xs ++ [fdiv FloatKind.f32 (FloatKind.nearest FloatKind.f32 (IntKind.wrap IntKind.i64 (1 + pickV (smallS s) 8))) 1082130432]))])
                        (False))
                      (False))
                    (cond (k == 12)
                      (cond (srcIn 6 (smallS s))
                        (cond (decide ((List.length xs + 1) * 4 ≤ 140737488355328))
                          (Kn [(0, (.ptr 0 0)), (1, (.int .i64 (k))), (5, (.obj 1 0)), (6, (.int .i64 (IntKind.wrap IntKind.i64 (c - 1))))] [(.box [(.vec (.int .u8) (Prod.fst (pickS (smallS s) 17))), (.int .i64 (Prod.fst (Prod.snd (pickS (smallS s) 17)))), (.int .u64 (Prod.snd (Prod.snd (pickS (smallS s) 17))))]), (.sl 0 (.float .f32) (xs ++ [fdiv FloatKind.f32 (FloatKind.nearest FloatKind.f32 (IntKind.wrap IntKind.i64 (pickV (smallS s) 17 - 8))) 1098907648]))])
                          (False))
                        (False))
                      (cond (decide ((List.length xs + 1) * 4 ≤ 140737488355328))
                        (Kn [(0, (.ptr 0 0)), (1, (.int .i64 (k))), (5, (.obj 1 0)), (6, (.int .i64 (IntKind.wrap IntKind.i64 (c - 1))))] [(.box [(.vec (.int .u8) (Prod.fst (smallS s))), (.int .i64 (Prod.fst (Prod.snd (smallS s)))), (.int .u64 (Prod.snd (Prod.snd (smallS s))))]), (.sl 0 (.float .f32) (xs ++ [smallV s]))])
                        (False))))
                  (cond (k == 10)
                    (cond (k == 10)
                      (cond (srcIn 6 (smallS s))
                        (cond (decide ((List.length xs + 1) * 4 ≤ 140737488355328))
                          (Kn [(0, (.ptr 0 0)), (1, (.int .i64 (k))), (5, (.obj 1 0)), (6, (.int .i64 (IntKind.wrap IntKind.i64 (c - 1))))] [(.box [(.vec (.int .u8) (Prod.fst (pickS (smallS s) 8))), (.int .i64 (Prod.fst (Prod.snd (pickS (smallS s) 8)))), (.int .u64 (Prod.snd (Prod.snd (pickS (smallS s) 8))))]), (.sl 0 (.float .f32) (xs ++ [fdiv FloatKind.f32 (FloatKind.nearest FloatKind.f32 (IntKind.wrap IntKind.i64 (1 + pickV (smallS s) 8))) 1082130432]))])
                          (False))
                        (False))
                      (cond (k == 12)
                        (cond (srcIn 6 (smallS s))
                          (cond (decide ((List.length xs + 1) * 4 ≤ 140737488355328))
                            (Kn [(0, (.ptr 0 0)), (1, (.int .i64 (k))), (5, (.obj 1 0)), (6, (.int .i64 (IntKind.wrap IntKind.i64 (c - 1))))] [(.box [(.vec (.int .u8) (Prod.fst (pickS (smallS s) 17))), (.int .i64 (Prod.fst (Prod.snd (pickS (smallS s) 17)))), (.int .u64 (Prod.snd (Prod.snd (pickS (smallS s) 17))))]), (.sl 0 (.float .f32) (xs ++ [fdiv FloatKind.f32 (FloatKind.nearest FloatKind.f32 (IntKind.wrap IntKind.i64 (pickV (smallS s) 17 - 8))) 1098907648]))])
                            (False))
                          (False))
                        (cond (decide ((List.length xs + 1) * 4 ≤ 140737488355328))
                          (Kn [(0, (.ptr 0 0)), (1, (.int .i64 (k))), (5, (.obj 1 0)), (6, (.int .i64 (IntKind.wrap IntKind.i64 (c - 1))))] [(.box [(.vec (.int .u8) (Prod.fst (smallS s))), (.int .i64 (Prod.fst (Prod.snd (smallS s)))), (.int .u64 (Prod.snd (Prod.snd (smallS s))))]), (.sl 0 (.float .f32) (xs ++ [smallV s]))])
                          (False))))
                    (cond (k == 11)
                      (cond (k == 11)
                        (cond (srcIn 6 (smallS s))
                          (cond (decide ((List.length xs + 1) * 4 ≤ 140737488355328))
                            (Kn [(0, (.ptr 0 0)), (1, (.int .i64 (k))), (5, (.obj 1 0)), (6, (.int .i64 (IntKind.wrap IntKind.i64 (c - 1))))] [(.box [(.vec (.int .u8) (Prod.fst (pickS (smallS s) 8))), (.int .i64 (Prod.fst (Prod.snd (pickS (smallS s) 8)))), (.int .u64 (Prod.snd (Prod.snd (pickS (smallS s) 8))))]), (.sl 0 (.float .f32) (xs ++ [fdiv FloatKind.f32 (FloatKind.nearest FloatKind.f32 (IntKind.wrap IntKind.i64 (1 + pickV (smallS s) 8))) 1082130432]))])
                            (False))
                          (False))
                        (cond (k == 12)
                          (cond (srcIn 6 (smallS s))
                            (cond (decide ((List.length xs + 1) * 4 ≤ 140737488355328))
                              (Kn [(0, (.ptr 0 0)), (1, (.int .i64 (k))), (5, (.obj 1 0)), (6, (.int .i64 (IntKind.wrap IntKind.i64 (c - 1))))] [(.box [(.vec (.int .u8) (Prod.fst (pickS (smallS s) 17))), (.int .i64 (Prod.fst (Prod.snd (pickS (smallS s) 17)))), (.int .u64 (Prod.snd (Prod.snd (pickS (smallS s) 17))))]), (.sl 0 (.float .f32) (xs ++ [fdiv FloatKind.f32 (FloatKind.nearest FloatKind.f32 (IntKind.wrap IntKind.i64 (pickV (smallS s) 17 - 8))) 1098907648]))])
                              (False))
                            (False))
                          (cond (decide ((List.length xs + 1) * 4 ≤ 140737488355328))
                            (Kn [(0, (.ptr 0 0)), (1, (.int .i64 (k))), (5, (.obj 1 0)), (6, (.int .i64 (IntKind.wrap IntKind.i64 (c - 1))))] [(.box [(.vec (.int .u8) (Prod.fst (smallS s))), (.int .i64 (Prod.fst (Prod.snd (smallS s)))), (.int .u64 (Prod.snd (Prod.snd (smallS s))))]), (.sl 0 (.float .f32) (xs ++ [smallV s]))])
                            (False))))
                      (cond (k == 14)
                        (cond (srcIn 6 (smallS s))
                          (cond (decide ((List.length xs + 1) * 4 ≤ 140737488355328))
                            (Kn [(0, (.ptr 0 0)), (1, (.int .i64 (k))), (5, (.obj 1 0)), (6, (.int .i64 (IntKind.wrap IntKind.i64 (c - 1))))] [(.box [(.vec (.int .u8) (Prod.fst (pickS (smallS s) 8))), (.int .i64 (Prod.fst (Prod.snd (pickS (smallS s) 8)))), (.int .u64 (Prod.snd (Prod.snd (pickS (smallS s) 8))))]), (.sl 0 (.float .f32) (xs ++ [fdiv FloatKind.f32 (FloatKind.nearest FloatKind.f32 (IntKind.wrap IntKind.i64 (1 + pickV (smallS s) 8))) 1082130432]))])
                            (False))
                          (False))
                        (cond (k == 12)
                          (cond (srcIn 6 (smallS s))
                            (cond (decide ((List.length xs + 1) * 4 ≤ 140737488355328))
                              (Kn [(0, (.ptr 0 0)), (1, (.int .i64 (k))), (5, (.obj 1 0)), (6, (.int .i64 (IntKind.wrap IntKind.i64 (c - 1))))] [(.box [(.vec (.int .u8) (Prod.fst (pickS (smallS s) 17))), (.int .i64 (Prod.fst (Prod.snd (pickS (smallS s) 17)))), (.int .u64 (Prod.snd (Prod.snd (pickS (smallS s) 17))))]), (.sl 0 (.float .f32) (xs ++ [fdiv FloatKind.f32 (FloatKind.nearest FloatKind.f32 (IntKind.wrap IntKind.i64 (pickV (smallS s) 17 - 8))) 1098907648]))])
                              (False))
                            (False))
                          (cond (decide ((List.length xs + 1) * 4 ≤ 140737488355328))
                            (Kn [(0, (.ptr 0 0)), (1, (.int .i64 (k))), (5, (.obj 1 0)), (6, (.int .i64 (IntKind.wrap IntKind.i64 (c - 1))))] [(.box [(.vec (.int .u8) (Prod.fst (smallS s))), (.int .i64 (Prod.fst (Prod.snd (smallS s)))), (.int .u64 (Prod.snd (Prod.snd (smallS s))))]), (.sl 0 (.float .f32) (xs ++ [smallV s]))])
                            (False))))))))))))
      (False))
    (K (.obj 1 0) [(.box [(.vec (.int .u8) (Prod.fst s)), (.int .i64 (Prod.fst (Prod.snd s))), (.int .u64 (Prod.snd (Prod.snd s)))]), (.sl 0 (.float .f32) (xs))]) := by kernel_rfl
theorem w_spec_l02DrawNumbers (s : SrcD) (k : Int) (K : V → Heap → Prop) : wpFnG gp_spec_l02DrawNumbers c_spec_l02DrawNumbers Try.f61 (.ptr 0 0 :: encAs [.cell tI] (k, ())) [.box (enc tSrc s)] K =
  LoopE c_spec_l02DrawNumbers ⟨[0, 1, 5, 6], 1, true⟩ (lb c_spec_l02DrawNumbers 3 Try.f61) [(0, (.ptr 0 0)), (1, (.int .i64 (k))), (5, (.obj 1 0)), (6, (.int .i64 (kindN k)))] [(.box [(.vec (.int .u8) (Prod.fst s)), (.int .i64 (Prod.fst (Prod.snd s))), (.int .u64 (Prod.snd (Prod.snd s)))]), (.sl 0 (.float .f32) ([]))] (lkG gp_spec_l02DrawNumbers c_spec_l02DrawNumbers 3 Try.f61 [.box []] K) := by kernel_rfl
noncomputable def s_spec_l02DrawNumbers : Sm := semPG tSrc [.cell tI] [.cell (.own tF)] (fun s x => match x with | (k, _) => inS 900000 s && isK k) fun s x => match x with | (k, _) => ((numsV k s, ()), numsS k s)
theorem ok_spec_l02DrawNumbers : FnOkL Try.prog 61 s_spec_l02DrawNumbers := fnOkO_boxg (fnOkO_runG (C := c_spec_l02DrawNumbers) gp_spec_l02DrawNumbers rfl mixed (.cons ok_spec_l02Size (.cons ok_spec_l02Count .nil)) .nil (.cons ok_spec_l01DrawSmall (.cons ok_spec_l00Src_pick .nil)) Try.func61 (by kernel_rfl)) rfl fun (s : SrcD) (x : ((Int) × Unit)) ws wf hg K h => by
  obtain ⟨k, ⟨⟩⟩ := x
  replace hg : (inS 900000 s && isK k) = true := hg
  replace h : K (tup (valRs [.cell (.own tF)] ((numsV k s, ())) 1)) (.box (enc tSrc (numsS k s)) :: thRs [.cell (.own tF)] ((numsV k s, ()))) := h
  rw [w_spec_l02DrawNumbers s k K]
  simp only [Bool.and_eq_true] at hg
  obtain ⟨hs, hk⟩ := hg
  have kr := kindN_ok k
  have hb : bytes s.1 := bytes_of ws.1
  unfold numsV numsS at h
  obtain ⟨m, hm⟩ : ∃ m : Nat, kindN k = m := ⟨(kindN k).toNat, by omega⟩
  rw [hm, Int.toNat_natCast] at h
  rw [hm] at kr ⊢
  refine loop_run (σ := Nat × SrcD × List Nat) (fun r => fr_spec_l02DrawNumbers_3 s k r.1 []) (fun r => hp_spec_l02DrawNumbers_3 r.2.1 k r.1 r.2.2) (fun r => r.2.2.length + r.1 = m ∧ Far s r.2.1 (4 * (m - r.1 : Nat)) ∧ r.2.2 ++ nusL k r.1 r.2.1 = nusL k m s ∧ nusN k r.1 r.2.1 = nusN k m s) (fun r => r.1) ?_ (m, s, []) ⟨by simp, by simp only [Nat.sub_self]; exact Far.refl s, rfl, rfl⟩
  rintro ⟨j, u, xs⟩ ⟨hl, hf, h1, h2⟩ Kn hk3
  simp only at hl hf h1 h2 hk3 ⊢
  rw [show fr_spec_l02DrawNumbers_3 s k j [] = fr_spec_l02DrawNumbers_3 u k j xs from rfl, r_spec_l02DrawNumbers_3 u k j xs Kn K]
  rw [← h1, ← h2] at h
  cases j with
  | zero =>
    rw [d_f (show ¬ ((0 : Nat) : Int) > 0 by omega), cond_false]
    simp only [nusL, nusN, List.append_nil] at h
    exact h
  | succ j =>
    have hk1 := hk3 (j, nuS k u, xs ++ [nuV k u])
    simp only [nusL, nusN] at h1 h2
    have bu : bytes u.1 := hf.bytes hb
    have b1 := (far_small u).bytes bu
    have f1 : inS 1000000 u = true := hf.ok hs (by omega)
    have f2 : inS 1000000 (smallS u) = true := (hf.trans (far_small u)).ok hs (by omega)
    have r8 := pickV_range (s := smallS u) b1 (n := 8) (by omega)
    have r17 := pickV_range (s := smallS u) b1 (n := 17) (by omega)
    have hnext := hk1 ⟨by simp only [List.length_append, List.length_cons, List.length_nil]; omega, (hf.trans (far_nu k u)).mono (by omega), by rw [List.append_assoc]; exact h1, h2⟩ (by simp only; omega)
    simp only at hnext
    have hcap : decide ((xs.length + 1) * 4 ≤ 140737488355328) = true := decide_eq_true (by omega)
    have g2 : srcIn 6 (smallS u) = true := inS_src f2 (by omega) 6 (by omega)
    rw [d_t (show ((j + 1 : Nat) : Int) > 0 by omega), cond_true, f1, cond_true]
    rw [i64_of (n := ((j + 1 : Nat) : Int) - 1) (by omega) (by omega), show ((j + 1 : Nat) : Int) - 1 = (j : Int) by omega, i64_of (n := 1 + pickV (smallS u) 8) (by omega) (by omega), i64_of (n := pickV (smallS u) 17 - 8) (by omega) (by omega), hcap, g2]
    clear hk1 hk3 h1 h2 h hl hf hcap g2 f1 f2 hm
    rcases kinds hk with r | r | r | r | r | r | r | r | r | r | r | r | r | r | r | r | r <;> subst r <;> exact hnext

theorem node_two {f : List Int} {s : SrcD} (h2 : 2 ≤ f.length) (e : (pickV (pickS s 5) 2 == 0) = true) : nodeV f s = (5 + pickV (pickS (pickS s 5) 2) 4, at2 f 2, at2 f 1, numsV (5 + pickV (pickS (pickS s 5) 2) 4) (pickS (pickS (pickS s 5) 2) 4)) ∧
    nodeS f s = numsS (5 + pickV (pickS (pickS s 5) 2) 4) (pickS (pickS (pickS s 5) 2) 4) ∧ usedV f s = 2 := by
  have hn : dn2 f s = true := by unfold dn2; rw [d_t h2, e]; rfl
  have h1 : dnS1 f s = pickS (pickS s 5) 2 := by unfold dnS1; rw [d_t h2]; rfl
  unfold nodeV nodeS usedV dnA dnB dnT dnK
  rw [hn, h1]
  exact ⟨rfl, rfl, rfl⟩
theorem node_one {f : List Int} {s t : SrcD} (hn : dn2 f s = false) (ht : dnS1 f s = t) (h1 : 1 ≤ f.length) (e : (pickV t 2 == 0) = true) : nodeV f s = (9 + pickV (pickS t 2) 8, at2 f 1, (bif inR (9 + pickV (pickS t 2) 8) 12 14 then pickV (pickS (pickS t 2) 8) 3 else 0), numsV (9 + pickV (pickS t 2) 8) (bif inR (9 + pickV (pickS t 2) 8) 12 14 then pickS (pickS (pickS t 2) 8) 3 else pickS (pickS t 2) 8)) ∧
    nodeS f s = numsS (9 + pickV (pickS t 2) 8) (bif inR (9 + pickV (pickS t 2) 8) 12 14 then pickS (pickS (pickS t 2) 8) 3 else pickS (pickS t 2) 8) ∧ usedV f s = 1 := by
  have hn1 : dn1 f s = true := by unfold dn1; rw [d_t h1, ht, e]; rfl
  have h2 : dnS2 f s = pickS t 2 := by unfold dnS2; rw [d_t h1, ht]; rfl
  have hk : dnK f s = 9 + pickV (pickS t 2) 8 := by unfold dnK; rw [hn, hn1, h2]; rfl
  unfold nodeV nodeS usedV dnA dnB dnT dnX
  rw [hk, hn, hn1, h2]
  exact ⟨rfl, rfl, rfl⟩
theorem node_leaf {f : List Int} {s t : SrcD} (hn : dn2 f s = false) (hn1 : dn1 f s = false) (ht : dnS2 f s = t) : nodeV f s = (pickV s 5, 0, 0, numsV (pickV s 5) t) ∧ nodeS f s = numsS (pickV s 5) t ∧ usedV f s = 0 := by
  have hk : dnK f s = pickV s 5 := by unfold dnK; rw [hn, hn1]; rfl
  unfold nodeV nodeS usedV dnA dnB dnT dnX
  rw [hk, hn, hn1, ht]
  exact ⟨rfl, rfl, rfl⟩

/-! spec.l02DrawNode -/
noncomputable def c_spec_l02DrawNode : Ctx := mkC Try.prog tyT [(60, s_spec_l02Axis)] [] [(24, s_spec_l00Src_pick), (45, s_spec_l00Src_one), (61, s_spec_l02DrawNumbers)] 69 (fun _ => none) 1
noncomputable def gp_spec_l02DrawNode : List (List (Option Ty)) := List.map giveR [.agg [.imm tN], .cell (.imm tI)]
theorem w_spec_l02DrawNode (s : SrcD) (f : List Int) (K : V → Heap → Prop) : wpFnG gp_spec_l02DrawNode c_spec_l02DrawNode Try.f42 (.ptr 0 0 :: encAs [.cell (.slice tI)] (f, ())) [.box (enc tSrc s)] K =
  cond (srcIn 6 s)
    (cond (decide ((↑(List.length f) : Int) ≥ 2))
      (cond (srcIn 6 (pickS s 5))
        (cond (pickV (pickS s 5) 2 == 0)
          (cond (srcIn 6 (pickS (pickS s 5) 2))
            (cond (decide (0 ≤ IntKind.wrap IntKind.i64 ((↑(List.length f) : Int) - 2)))
              ((match f[Int.toNat (IntKind.wrap IntKind.i64 ((↑(List.length f) : Int) - 2))]? with
                | some y0 => cond (decide (0 ≤ IntKind.wrap IntKind.i64 ((↑(List.length f) : Int) - 1)))
                  ((match f[Int.toNat (IntKind.wrap IntKind.i64 ((↑(List.length f) : Int) - 1))]? with
                    | some y1 => cond (inS 900000 (pickS (pickS (pickS s 5) 2) 4) && isK (IntKind.wrap IntKind.i64 (5 + pickV (pickS (pickS s 5) 2) 4)))
                      (K (.tuple [(.agg [(.int .i64 (IntKind.wrap IntKind.i64 (5 + pickV (pickS (pickS s 5) 2) 4))), (.int .i64 (y0)), (.int .i64 (y1)), (.vec (.float .f32) (numsV (IntKind.wrap IntKind.i64 (5 + pickV (pickS (pickS s 5) 2) 4)) (pickS (pickS (pickS s 5) 2) 4)))]), (.int .i64 2)]) [(.box [(.vec (.int .u8) (Prod.fst (numsS (IntKind.wrap IntKind.i64 (5 + pickV (pickS (pickS s 5) 2) 4)) (pickS (pickS (pickS s 5) 2) 4)))), (.int .i64 (Prod.fst (Prod.snd (numsS (IntKind.wrap IntKind.i64 (5 + pickV (pickS (pickS s 5) 2) 4)) (pickS (pickS (pickS s 5) 2) 4))))), (.int .u64 (Prod.snd (Prod.snd (numsS (IntKind.wrap IntKind.i64 (5 + pickV (pickS (pickS s 5) 2) 4)) (pickS (pickS (pickS s 5) 2) 4)))))])])
                      (False)
                    | none => False))
                  (False)
                | none => False))
              (False))
            (False))
          (cond (decide ((↑(List.length f) : Int) ≥ 1))
            (cond (srcIn 6 (pickS (pickS s 5) 2))
              (cond (pickV (pickS (pickS s 5) 2) 2 == 0)
                (cond (srcIn 6 (pickS (pickS (pickS s 5) 2) 2))
                  (cond (decide (0 ≤ IntKind.wrap IntKind.i64 ((↑(List.length f) : Int) - 1)))
                    ((match f[Int.toNat (IntKind.wrap IntKind.i64 ((↑(List.length f) : Int) - 1))]? with
                      | some y2 => cond (inR (IntKind.wrap IntKind.i64 (9 + pickV (pickS (pickS (pickS s 5) 2) 2) 8)) 12 14)
                        (cond (srcIn 6 (pickS (pickS (pickS (pickS s 5) 2) 2) 8))
                          (cond (inS 900000 (pickS (pickS (pickS (pickS (pickS s 5) 2) 2) 8) 3) && isK (IntKind.wrap IntKind.i64 (9 + pickV (pickS (pickS (pickS s 5) 2) 2) 8)))
                            (K (.tuple [(.agg [(.int .i64 (IntKind.wrap IntKind.i64 (9 + pickV (pickS (pickS (pickS s 5) 2) 2) 8))), (.int .i64 (y2)), (.int .i64 (pickV (pickS (pickS (pickS (pickS s 5) 2) 2) 8) 3)), (.vec (.float .f32) (numsV (IntKind.wrap IntKind.i64 (9 + pickV (pickS (pickS (pickS s 5) 2) 2) 8)) (pickS (pickS (pickS (pickS (pickS s 5) 2) 2) 8) 3)))]), (.int .i64 1)]) [(.box [(.vec (.int .u8) (Prod.fst (numsS (IntKind.wrap IntKind.i64 (9 + pickV (pickS (pickS (pickS s 5) 2) 2) 8)) (pickS (pickS (pickS (pickS (pickS s 5) 2) 2) 8) 3)))), (.int .i64 (Prod.fst (Prod.snd (numsS (IntKind.wrap IntKind.i64 (9 + pickV (pickS (pickS (pickS s 5) 2) 2) 8)) (pickS (pickS (pickS (pickS (pickS s 5) 2) 2) 8) 3))))), (.int .u64 (Prod.snd (Prod.snd (numsS (IntKind.wrap IntKind.i64 (9 + pickV (pickS (pickS (pickS s 5) 2) 2) 8)) (pickS (pickS (pickS (pickS (pickS s 5) 2) 2) 8) 3)))))])])
                            (False))
                          (False))
                        (cond (inS 900000 (pickS (pickS (pickS (pickS s 5) 2) 2) 8) && isK (IntKind.wrap IntKind.i64 (9 + pickV (pickS (pickS (pickS s 5) 2) 2) 8)))
                          (K (.tuple [(.agg [(.int .i64 (IntKind.wrap IntKind.i64 (9 + pickV (pickS (pickS (pickS s 5) 2) 2) 8))), (.int .i64 (y2)), (.int .i64 0), (.vec (.float .f32) (numsV (IntKind.wrap IntKind.i64 (9 + pickV (pickS (pickS (pickS s 5) 2) 2) 8)) (pickS (pickS (pickS (pickS s 5) 2) 2) 8)))]), (.int .i64 1)]) [(.box [(.vec (.int .u8) (Prod.fst (numsS (IntKind.wrap IntKind.i64 (9 + pickV (pickS (pickS (pickS s 5) 2) 2) 8)) (pickS (pickS (pickS (pickS s 5) 2) 2) 8)))), (.int .i64 (Prod.fst (Prod.snd (numsS (IntKind.wrap IntKind.i64 (9 + pickV (pickS (pickS (pickS s 5) 2) 2) 8)) (pickS (pickS (pickS (pickS s 5) 2) 2) 8))))), (.int .u64 (Prod.snd (Prod.snd (numsS (IntKind.wrap IntKind.i64 (9 + pickV (pickS (pickS (pickS s 5) 2) 2) 8)) (pickS (pickS (pickS (pickS s 5) 2) 2) 8)))))])])
                          (False))
                      | none => False))
                    (False))
                  (False))
                (cond (inS 900000 (pickS (pickS (pickS s 5) 2) 2) && isK (pickV s 5))
                  (K (.tuple [(.agg [(.int .i64 (pickV s 5)), (.int .i64 0), (.int .i64 0), (.vec (.float .f32) (numsV (pickV s 5) (pickS (pickS (pickS s 5) 2) 2)))]), (.int .i64 0)]) [(.box [(.vec (.int .u8) (Prod.fst (numsS (pickV s 5) (pickS (pickS (pickS s 5) 2) 2)))), (.int .i64 (Prod.fst (Prod.snd (numsS (pickV s 5) (pickS (pickS (pickS s 5) 2) 2))))), (.int .u64 (Prod.snd (Prod.snd (numsS (pickV s 5) (pickS (pickS (pickS s 5) 2) 2)))))])])
                  (False)))
              (False))
            (cond (inS 900000 (pickS (pickS s 5) 2) && isK (pickV s 5))
              (K (.tuple [(.agg [(.int .i64 (pickV s 5)), (.int .i64 0), (.int .i64 0), (.vec (.float .f32) (numsV (pickV s 5) (pickS (pickS s 5) 2)))]), (.int .i64 0)]) [(.box [(.vec (.int .u8) (Prod.fst (numsS (pickV s 5) (pickS (pickS s 5) 2)))), (.int .i64 (Prod.fst (Prod.snd (numsS (pickV s 5) (pickS (pickS s 5) 2))))), (.int .u64 (Prod.snd (Prod.snd (numsS (pickV s 5) (pickS (pickS s 5) 2)))))])])
              (False))))
        (False))
      (cond (decide ((↑(List.length f) : Int) ≥ 1))
        (cond (srcIn 6 (pickS s 5))
          (cond (pickV (pickS s 5) 2 == 0)
            (cond (srcIn 6 (pickS (pickS s 5) 2))
              (cond (decide (0 ≤ IntKind.wrap IntKind.i64 ((↑(List.length f) : Int) - 1)))
                ((match f[Int.toNat (IntKind.wrap IntKind.i64 ((↑(List.length f) : Int) - 1))]? with
                  | some y3 => cond (inR (IntKind.wrap IntKind.i64 (9 + pickV (pickS (pickS s 5) 2) 8)) 12 14)
                    (cond (srcIn 6 (pickS (pickS (pickS s 5) 2) 8))
                      (cond (inS 900000 (pickS (pickS (pickS (pickS s 5) 2) 8) 3) && isK (IntKind.wrap IntKind.i64 (9 + pickV (pickS (pickS s 5) 2) 8)))
                        (K (.tuple [(.agg [(.int .i64 (IntKind.wrap IntKind.i64 (9 + pickV (pickS (pickS s 5) 2) 8))), (.int .i64 (y3)), (.int .i64 (pickV (pickS (pickS (pickS s 5) 2) 8) 3)), (.vec (.float .f32) (numsV (IntKind.wrap IntKind.i64 (9 + pickV (pickS (pickS s 5) 2) 8)) (pickS (pickS (pickS (pickS s 5) 2) 8) 3)))]), (.int .i64 1)]) [(.box [(.vec (.int .u8) (Prod.fst (numsS (IntKind.wrap IntKind.i64 (9 + pickV (pickS (pickS s 5) 2) 8)) (pickS (pickS (pickS (pickS s 5) 2) 8) 3)))), (.int .i64 (Prod.fst (Prod.snd (numsS (IntKind.wrap IntKind.i64 (9 + pickV (pickS (pickS s 5) 2) 8)) (pickS (pickS (pickS (pickS s 5) 2) 8) 3))))), (.int .u64 (Prod.snd (Prod.snd (numsS (IntKind.wrap IntKind.i64 (9 + pickV (pickS (pickS s 5) 2) 8)) (pickS (pickS (pickS (pickS s 5) 2) 8) 3)))))])])
                        (False))
                      (False))
                    (cond (inS 900000 (pickS (pickS (pickS s 5) 2) 8) && isK (IntKind.wrap IntKind.i64 (9 + pickV (pickS (pickS s 5) 2) 8)))
                      (K (.tuple [(.agg [(.int .i64 (IntKind.wrap IntKind.i64 (9 + pickV (pickS (pickS s 5) 2) 8))), (.int .i64 (y3)), (.int .i64 0), (.vec (.float .f32) (numsV (IntKind.wrap IntKind.i64 (9 + pickV (pickS (pickS s 5) 2) 8)) (pickS (pickS (pickS s 5) 2) 8)))]), (.int .i64 1)]) [(.box [(.vec (.int .u8) (Prod.fst (numsS (IntKind.wrap IntKind.i64 (9 + pickV (pickS (pickS s 5) 2) 8)) (pickS (pickS (pickS s 5) 2) 8)))), (.int .i64 (Prod.fst (Prod.snd (numsS (IntKind.wrap IntKind.i64 (9 + pickV (pickS (pickS s 5) 2) 8)) (pickS (pickS (pickS s 5) 2) 8))))), (.int .u64 (Prod.snd (Prod.snd (numsS (IntKind.wrap IntKind.i64 (9 + pickV (pickS (pickS s 5) 2) 8)) (pickS (pickS (pickS s 5) 2) 8)))))])])
                      (False))
                  | none => False))
                (False))
              (False))
            (cond (inS 900000 (pickS (pickS s 5) 2) && isK (pickV s 5))
              (K (.tuple [(.agg [(.int .i64 (pickV s 5)), (.int .i64 0), (.int .i64 0), (.vec (.float .f32) (numsV (pickV s 5) (pickS (pickS s 5) 2)))]), (.int .i64 0)]) [(.box [(.vec (.int .u8) (Prod.fst (numsS (pickV s 5) (pickS (pickS s 5) 2)))), (.int .i64 (Prod.fst (Prod.snd (numsS (pickV s 5) (pickS (pickS s 5) 2))))), (.int .u64 (Prod.snd (Prod.snd (numsS (pickV s 5) (pickS (pickS s 5) 2)))))])])
              (False)))
          (False))
        (cond (inS 900000 (pickS s 5) && isK (pickV s 5))
          (K (.tuple [(.agg [(.int .i64 (pickV s 5)), (.int .i64 0), (.int .i64 0), (.vec (.float .f32) (numsV (pickV s 5) (pickS s 5)))]), (.int .i64 0)]) [(.box [(.vec (.int .u8) (Prod.fst (numsS (pickV s 5) (pickS s 5)))), (.int .i64 (Prod.fst (Prod.snd (numsS (pickV s 5) (pickS s 5))))), (.int .u64 (Prod.snd (Prod.snd (numsS (pickV s 5) (pickS s 5)))))])])
          (False))))
    (False) := by kernel_rfl
noncomputable def s_spec_l02DrawNode : Sm := semPG tSrc [.cell (.slice tI)] [.agg [.imm tN], .cell (.imm tI)] (fun s x => match x with | (f, _) => inS 800000 s) fun s x => match x with | (f, _) => (((nodeV f s, ()), usedV f s, ()), nodeS f s)
theorem ok_spec_l02DrawNode : FnOkL Try.prog 42 s_spec_l02DrawNode := fnOkO_boxg (fnOkO_runG (C := c_spec_l02DrawNode) gp_spec_l02DrawNode rfl mixed (.cons ok_spec_l02Axis .nil) .nil (.cons ok_spec_l00Src_pick (.cons ok_spec_l00Src_one (.cons ok_spec_l02DrawNumbers .nil))) Try.func42 (by kernel_rfl)) rfl fun (s : SrcD) (x : ((List Int) × Unit)) ws wf hg K h => by
  obtain ⟨f, ⟨⟩⟩ := x
  replace hg : (inS 800000 s) = true := hg
  replace h : K (tup (valRs [.agg [.imm tN], .cell (.imm tI)] (((nodeV f s, ()), usedV f s, ())) 1)) (.box (enc tSrc (nodeS f s)) :: thRs [.agg [.imm tN], .cell (.imm tI)] (((nodeV f s, ()), usedV f s, ()))) := h
  rw [w_spec_l02DrawNode s f K]
  have hb : bytes s.1 := bytes_of ws.1
  obtain ⟨⟨wl, _⟩, _⟩ := wf
  have wl : f.length ≤ 9223372036854775807 := wl
  have F1 := far_pick s 5
  have F2 := F1.trans (far_pick (pickS s 5) 2)
  have F3 := F2.trans (far_pick (pickS (pickS s 5) 2) 2)
  have G9 : ∀ {t : SrcD} {n : Int}, Far s t n → n ≤ 100 → inS 900000 t = true := fun hf hn => hf.ok hg (by omega)
  have G : ∀ {t : SrcD} {n : Int}, Far s t n → n ≤ 100 → srcIn 6 t = true := fun hf hn => inS_src (G9 hf hn) (by omega) 6 (by omega)
  have K0 : isK (pickV s 5) = true := by have := pickV_range (s := s) hb (n := 5) (by omega); exact inR_iff.2 (by omega)
  have K4 : ∀ {t : SrcD}, bytes t.1 → IntKind.i64.wrap (5 + pickV t 4) = 5 + pickV t 4 ∧ isK (5 + pickV t 4) = true := fun hb => by
    have := pickV_range hb (n := 4) (by omega)
    exact ⟨i64_of (by omega) (by omega), inR_iff.2 (by omega)⟩
  have K8 : ∀ {t : SrcD}, bytes t.1 → IntKind.i64.wrap (9 + pickV t 8) = 9 + pickV t 8 ∧ isK (9 + pickV t 8) = true := fun hb => by
    have := pickV_range hb (n := 8) (by omega)
    exact ⟨i64_of (by omega) (by omega), inR_iff.2 (by omega)⟩
  have e2 : decide ((f.length : Int) ≥ 2) = decide (2 ≤ f.length) := decide_eq_decide.2 (by omega)
  have e1 : decide ((f.length : Int) ≥ 1) = decide (1 ≤ f.length) := decide_eq_decide.2 (by omega)
  have b2 := F2.bytes hb
  have b3 := F3.bytes hb
  simp only [e2, e1, G (Far.refl s) (by omega), G F1 (by omega), G F2 (by omega), G F3 (by omega), G (F3.trans (far_pick _ 8)) (by omega), G (F2.trans (far_pick _ 8)) (by omega), (K4 b2).1, (K8 b2).1, (K8 b3).1, cond_true]
  have one : ∀ {t : SrcD} {n : Int}, Far s t n → n ≤ 8 → dn2 f s = false → dnS1 f s = t → 1 ≤ f.length → (pickV t 2 == 0) = true →
      cond (inR (9 + pickV (pickS t 2) 8) 12 14)
        (cond (inS 900000 (pickS (pickS (pickS t 2) 8) 3) && isK (9 + pickV (pickS t 2) 8))
          (K (.tuple [.agg [.int .i64 (9 + pickV (pickS t 2) 8), .int .i64 (at2 f 1), .int .i64 (pickV (pickS (pickS t 2) 8) 3), .vec tF (numsV (9 + pickV (pickS t 2) 8) (pickS (pickS (pickS t 2) 8) 3))], .int .i64 1]) [.box (enc tSrc (numsS (9 + pickV (pickS t 2) 8) (pickS (pickS (pickS t 2) 8) 3)))]) False)
        (cond (inS 900000 (pickS (pickS t 2) 8) && isK (9 + pickV (pickS t 2) 8))
          (K (.tuple [.agg [.int .i64 (9 + pickV (pickS t 2) 8), .int .i64 (at2 f 1), .int .i64 0, .vec tF (numsV (9 + pickV (pickS t 2) 8) (pickS (pickS t 2) 8))], .int .i64 1]) [.box (enc tSrc (numsS (9 + pickV (pickS t 2) 8) (pickS (pickS t 2) 8)))]) False) := by
    intro t n hf hn hd ht h1 e
    obtain ⟨q1, q2, q3⟩ := node_one hd ht h1 e
    rw [q1, q2, q3] at h
    have bt := (hf.trans (far_pick t 2)).bytes hb
    have g1 : inS 900000 (pickS (pickS t 2) 8) = true := G9 ((hf.trans (far_pick t 2)).trans (far_pick _ 8)) (by omega)
    have g2 : inS 900000 (pickS (pickS (pickS t 2) 8) 3) = true := G9 (((hf.trans (far_pick t 2)).trans (far_pick _ 8)).trans (far_pick _ 3)) (by omega)
    rw [g1, g2, (K8 bt).2]
    revert h
    cases inR (9 + pickV (pickS t 2) 8) 12 14 <;> exact id
  have leaf : ∀ {t : SrcD} {n : Int}, Far s t n → n ≤ 8 → dn2 f s = false → dn1 f s = false → dnS2 f s = t →
      cond (inS 900000 t && isK (pickV s 5)) (K (.tuple [.agg [.int .i64 (pickV s 5), .int .i64 0, .int .i64 0, .vec tF (numsV (pickV s 5) t)], .int .i64 0]) [.box (enc tSrc (numsS (pickV s 5) t))]) False := by
    intro t n hf hn hd hd1 ht
    obtain ⟨q1, q2, q3⟩ := node_leaf hd hd1 ht
    rw [q1, q2, q3] at h
    rw [G9 hf (by omega), K0]
    exact h
  have x1 : 1 ≤ f.length → IntKind.i64.wrap ((f.length : Int) - 1) = ((f.length - 1 : Nat) : Int) ∧ f[f.length - 1]? = some (at2 f 1) := fun h1 => by
    refine ⟨by rw [i64_of (by omega) (by omega)]; omega, ?_⟩
    unfold at2
    rw [get_lt (show f.length - 1 < f.length by omega)]
    rfl
  by_cases h2 : 2 ≤ f.length
  · have h1 : 1 ≤ f.length := by omega
    obtain ⟨w1, y1⟩ := x1 h1
    have w2 : IntKind.i64.wrap ((f.length : Int) - 2) = ((f.length - 2 : Nat) : Int) := by rw [i64_of (by omega) (by omega)]; omega
    have y2 : f[f.length - 2]? = some (at2 f 2) := by
      unfold at2
      rw [get_lt (show f.length - 2 < f.length by omega)]
      rfl
    simp only [d_t h2, d_t h1, cond_true, w1, w2, d_0, Int.toNat_natCast, y1, y2]
    cases e : (pickV (pickS s 5) 2 == 0) with
    | true =>
      obtain ⟨q1, q2, q3⟩ := node_two h2 e
      rw [q1, q2, q3] at h
      rw [G9 (F2.trans (far_pick _ 4)) (by omega), (K4 b2).2]
      exact h
    | false =>
      have hd : dn2 f s = false := by unfold dn2; rw [d_t h2, e]; rfl
      have hs1 : dnS1 f s = pickS (pickS s 5) 2 := by unfold dnS1; rw [d_t h2]; rfl
      simp only [cond_false]
      cases e3 : (pickV (pickS (pickS s 5) 2) 2 == 0) with
      | true => exact one F2 (by omega) hd hs1 h1 e3
      | false => exact leaf F3 (by omega) hd (by unfold dn1; rw [d_t h1, hs1, e3]; rfl) (by unfold dnS2; rw [d_t h1, hs1]; rfl)
  · have hd : dn2 f s = false := by unfold dn2; rw [d_f h2]; rfl
    have hs1 : dnS1 f s = pickS s 5 := by unfold dnS1; rw [d_f h2]; rfl
    by_cases h1 : 1 ≤ f.length
    · obtain ⟨w1, y1⟩ := x1 h1
      simp only [d_f h2, d_t h1, cond_true, cond_false, w1, d_0, Int.toNat_natCast, y1]
      cases e3 : (pickV (pickS s 5) 2 == 0) with
      | true => exact one F1 (by omega) hd hs1 h1 e3
      | false => exact leaf F2 (by omega) hd (by unfold dn1; rw [d_t h1, hs1, e3]; rfl) (by unfold dnS2; rw [d_t h1, hs1]; rfl)
    · simp only [d_f h2, d_f h1, cond_false]
      exact leaf F1 (by omega) hd (by unfold dn1; rw [d_f h1]; rfl) (by unfold dnS2; rw [d_f h1, hs1]; rfl)

/-! spec.l02DrawOk -/
noncomputable def a_spec_l02DrawOk : Nat → Option Ann := fun n => bif Nat.beq n 4 then some ⟨[0,2,3,4,5],1,true⟩ else bif Nat.beq n 9 then some ⟨[0,2,3,4],1,true⟩ else none
noncomputable def c_spec_l02DrawOk : Ctx := mkC Try.prog tyT [] [] [(42, s_spec_l02DrawNode)] 81 a_spec_l02DrawOk 1 true [] false true true [(24, s_spec_l00Src_pick), (43, s_spec_l00Own)]
noncomputable def gp_spec_l02DrawOk : List (List (Option Ty)) := List.map giveR [.agg [.own tN]]
noncomputable def fr_spec_l02DrawOk_4 (s : SrcD) (ns : List NodeD) (fs : List Int) (k : Int) : Fr := [(0, .ptr 0 0), (2, .ptr 1 0), (3, .ptr 2 0), (4, .obj 3 0), (5, .int .i64 k)]
noncomputable def hp_spec_l02DrawOk_4 (s : SrcD) (ns : List NodeD) (fs : List Int) (k : Int) : Heap := [.box (enc tSrc s), .box [.nils], .box [.obj 4 0], .sl 0 tI fs, .sl 0 tN ns]
theorem r_spec_l02DrawOk_4 (s : SrcD) (ns : List NodeD) (fs : List Int) (k : Int) (Kn : Fr → Heap → Prop) (K : V → Heap → Prop) : round c_spec_l02DrawOk ⟨[0,2,3,4,5],1,true⟩ (lb c_spec_l02DrawOk 4 Try.f27) (fr_spec_l02DrawOk_4 s ns fs k) (hp_spec_l02DrawOk_4 s ns fs k) Kn (lkG gp_spec_l02DrawOk c_spec_l02DrawOk 4 Try.f27 [.box []] K) =
  cond (decide (k > 0))
    (cond (inS 800000 s)
      (cond (decide (0 ≤ 0) && (decide (0 ≤ IntKind.wrap IntKind.i64 ((↑(List.length fs) : Int) - usedV fs s)) && decide (IntKind.wrap IntKind.i64 ((↑(List.length fs) : Int) - usedV fs s) ≤ (↑(List.length fs) : Int))))
        (cond (decide (List.length (List.drop 0 (List.take (Int.toNat (IntKind.wrap IntKind.i64 ((↑(List.length fs) : Int) - usedV fs s))) fs)) ≤ 1000))
          (cond (decide ((List.length (List.drop 0 (List.take (Int.toNat (IntKind.wrap IntKind.i64 ((↑(List.length fs) : Int) - usedV fs s))) fs)) + 1) * 8 ≤ 140737488355328))
            (cond (decide ((List.length ns + 1) * 48 ≤ 140737488355328))
              (Kn [(0, (.ptr 0 0)), (2, (.ptr 1 0)), (3, (.ptr 2 0)), (4, (.obj 3 0)), (5, (.int .i64 (IntKind.wrap IntKind.i64 (k - 1))))] [(.box [(.vec (.int .u8) (Prod.fst (nodeS fs s))), (.int .i64 (Prod.fst (Prod.snd (nodeS fs s)))), (.int .u64 (Prod.snd (Prod.snd (nodeS fs s))))]), (.box [.nils]), (.box [(.obj 4 0)]), (.sl 0 (.int .i64) (List.drop 0 (List.take (Int.toNat (IntKind.wrap IntKind.i64 ((↑(List.length fs) : Int) - usedV fs s))) fs) ++ [(↑(List.length ns) : Int)])), (.sl 0 tN (ns ++ [nodeV fs s]))])
              (False))
            (False))
          (False))
        (False))
      (False))
    (LoopE c_spec_l02DrawOk ⟨[0, 2, 3, 4], 1, true⟩ (lb c_spec_l02DrawOk 9 Try.f27) [(0, (.ptr 0 0)), (2, (.ptr 1 0)), (3, (.ptr 2 0)), (4, (.obj 3 0))] [(.box [(.vec (.int .u8) (Prod.fst s)), (.int .i64 (Prod.fst (Prod.snd s))), (.int .u64 (Prod.snd (Prod.snd s)))]), (.box [.nils]), (.box [(.obj 4 0)]), (.sl 0 (.int .i64) (fs)), (.sl 0 tN (ns))] (lkG gp_spec_l02DrawOk c_spec_l02DrawOk 9 Try.f27 [.box []] K)) := by kernel_rfl
noncomputable def fr_spec_l02DrawOk_9 (s : SrcD) (ns : List NodeD) (fs : List Int) : Fr := [(0, .ptr 0 0), (2, .ptr 1 0), (3, .ptr 2 0), (4, .obj 3 0)]
noncomputable def hp_spec_l02DrawOk_9 (s : SrcD) (ns : List NodeD) (fs : List Int) : Heap := [.box (enc tSrc s), .box [.nils], .box [.obj 4 0], .sl 0 tI fs, .sl 0 tN ns]
theorem r_spec_l02DrawOk_9 (s : SrcD) (ns : List NodeD) (fs : List Int) (Kn : Fr → Heap → Prop) (K : V → Heap → Prop) : round c_spec_l02DrawOk ⟨[0,2,3,4],1,true⟩ (lb c_spec_l02DrawOk 9 Try.f27) (fr_spec_l02DrawOk_9 s ns fs) (hp_spec_l02DrawOk_9 s ns fs) Kn (lkG gp_spec_l02DrawOk c_spec_l02DrawOk 9 Try.f27 [.box []] K) =
  cond (decide ((↑(List.length fs) : Int) > 1))
    (cond (decide (0 ≤ IntKind.wrap IntKind.i64 ((↑(List.length fs) : Int) - 2)) && Nat.blt (Int.toNat (IntKind.wrap IntKind.i64 ((↑(List.length fs) : Int) - 2))) (List.length fs))
      ((match fs[Int.toNat (IntKind.wrap IntKind.i64 ((↑(List.length fs) : Int) - 2))]? with
        | some x0 => cond (decide (0 ≤ IntKind.wrap IntKind.i64 ((↑(List.length fs) : Int) - 1)) && Nat.blt (Int.toNat (IntKind.wrap IntKind.i64 ((↑(List.length fs) : Int) - 1))) (List.length fs))
          ((match fs[Int.toNat (IntKind.wrap IntKind.i64 ((↑(List.length fs) : Int) - 1))]? with
            | some x1 => cond (srcIn 6 s)
              (cond (decide (0 ≤ 0) && (decide (0 ≤ IntKind.wrap IntKind.i64 ((↑(List.length fs) : Int) - 2)) && decide (IntKind.wrap IntKind.i64 ((↑(List.length fs) : Int) - 2) ≤ (↑(List.length fs) : Int))))
                (cond (decide (List.length (List.take (Int.toNat (IntKind.wrap IntKind.i64 ((↑(List.length fs) : Int) - 2))) fs) ≤ 1000))
                  (cond (decide ((List.length (List.take (Int.toNat (IntKind.wrap IntKind.i64 ((↑(List.length fs) : Int) - 2))) fs) + 1) * 8 ≤ 140737488355328))
                    (cond (decide ((List.length ns + 1) * 48 ≤ 140737488355328))
                      (Kn [(0, (.ptr 0 0)), (2, (.ptr 1 0)), (3, (.ptr 2 0)), (4, (.obj 3 0))] [(.box [(.vec (.int .u8) (Prod.fst (pickS s 3))), (.int .i64 (Prod.fst (Prod.snd (pickS s 3)))), (.int .u64 (Prod.snd (Prod.snd (pickS s 3))))]), (.box [.nils]), (.box [(.obj 4 0)]), (.sl 0 (.int .i64) (List.take (Int.toNat (IntKind.wrap IntKind.i64 ((↑(List.length fs) : Int) - 2))) fs ++ [(↑(List.length ns) : Int)])), (.sl 0 tN (ns ++ [(IntKind.wrap IntKind.i64 (5 + pickV s 3), x0, x1, [])]))])
                      (False))
                    (False))
                  (False))
                (False))
              (False)
            | none => False))
          (False)
        | none => False))
      (False))
    (K (.agg [(.obj 1 0)]) [(.box [(.vec (.int .u8) (Prod.fst s)), (.int .i64 (Prod.fst (Prod.snd s))), (.int .u64 (Prod.snd (Prod.snd s)))]), (.sl 0 tN (ns))]) := by kernel_rfl
theorem w_spec_l02DrawOk (s : SrcD) (K : V → Heap → Prop) : wpFnG gp_spec_l02DrawOk c_spec_l02DrawOk Try.f27 (.ptr 0 0 :: encAs [] ()) [.box (enc tSrc s)] K =
  cond (srcIn 6 s)
    (LoopE c_spec_l02DrawOk ⟨[0, 2, 3, 4, 5], 1, true⟩ (lb c_spec_l02DrawOk 4 Try.f27) [(0, (.ptr 0 0)), (2, (.ptr 1 0)), (3, (.ptr 2 0)), (4, (.obj 3 0)), (5, (.int .i64 (IntKind.wrap IntKind.i64 (1 + pickV s 7))))] [(.box [(.vec (.int .u8) (Prod.fst (pickS s 7))), (.int .i64 (Prod.fst (Prod.snd (pickS s 7)))), (.int .u64 (Prod.snd (Prod.snd (pickS s 7))))]), (.box [.nils]), (.box [(.obj 4 0)]), (.sl 0 (.int .i64) ([])), (.sl 0 tN ([]))] (lkG gp_spec_l02DrawOk c_spec_l02DrawOk 4 Try.f27 [.box []] K))
    (False) := by kernel_rfl
noncomputable def s_spec_l02DrawOk : Sm := semPG tSrc [] [.agg [.own tN]] (fun s x => match x with | _ => inS 500000 s) fun s x => match x with | _ => (((shapeV s, ()), ()), shapeS s)
theorem ok_spec_l02DrawOk : FnOkL Try.prog 27 s_spec_l02DrawOk := fnOkO_boxg (fnOkO_runG (C := c_spec_l02DrawOk) gp_spec_l02DrawOk rfl mixed .nil .nil (.cons ok_spec_l02DrawNode .nil) Try.func27 (by kernel_rfl) (h5 := (.cons ok_spec_l00Src_pick (by first | exact semP_localE _ _ _ _ | exact semPG_localE _ _ _ _ _ | exact semV_localE _ _ _ _) (.cons ok_spec_l00Own (by first | exact semP_localE _ _ _ _ | exact semPG_localE _ _ _ _ _ | exact semV_localE _ _ _ _) .nil)))) rfl fun (s : SrcD) (x : Unit) ws wf hg K h => by
  obtain ⟨⟩ := x
  replace hg : (inS 500000 s) = true := hg
  replace h : K (tup (valRs [.agg [.own tN]] (((shapeV s, ()), ())) 1)) (.box (enc tSrc (shapeS s)) :: thRs [.agg [.own tN]] (((shapeV s, ()), ()))) := h
  rw [w_spec_l02DrawOk s  K]
  have hb : bytes s.1 := bytes_of ws.1
  have g6 : srcIn 6 s = true := inS_src hg (by omega) 6 (by omega)
  obtain ⟨n, hn, n1, n2, hok, f1, f2⟩ := sh1_ok hb
  have hs1 : sh1 s = shGo n (sh0 s) := by unfold sh1; rw [hn, Int.toNat_natCast]
  rw [g6, cond_true, hn, i64_of (n := (n : Int)) (by omega) (by omega)]
  refine loop_run (σ := Nat × ShD) (fun r => fr_spec_l02DrawOk_4 s [] [] r.1) (fun r => hp_spec_l02DrawOk_4 r.2.2.2 r.2.1 r.2.2.1 r.1) (fun r => r.1 ≤ n ∧ ShOk r.2 (n - r.1) ∧ Far s r.2.2.2 (2 + 26 * (n - r.1 : Nat)) ∧ shGo r.1 r.2 = sh1 s) (fun r => r.1) ?_ (n, sh0 s) ⟨Nat.le_refl _, by simp only [Nat.sub_self]; exact sh0_ok hb, by simp only [Nat.sub_self]; exact far_pick s 7, hs1.symm⟩
  rintro ⟨j, ns, fs, u⟩ ⟨hj, hq, hf, hgo⟩ Kn hk3
  simp only at hj hq hf hgo hk3 ⊢
  rw [show fr_spec_l02DrawOk_4 s [] [] j = fr_spec_l02DrawOk_4 u ns fs j from rfl, r_spec_l02DrawOk_4 u ns fs j Kn K]
  have hnl : ns.length = n - j := hq.l
  have hfl : fs.length ≤ ns.length := hq.st.len
  cases j with
  | zero =>
    rw [d_f (show ¬ ((0 : Nat) : Int) > 0 by omega), cond_false]
    have hgo : (ns, fs, u) = sh1 s := hgo
    have e1 : (sh1 s).2.1 = fs := by rw [← hgo]
    rw [e1] at f1 f2
    have hsh2 : sh2 s = clGo (fs.length - 1) (ns, fs, u) := by unfold sh2; rw [e1, hgo]
    refine loop_run (σ := Nat × ShD) (fun r => fr_spec_l02DrawOk_9 u [] []) (fun r => hp_spec_l02DrawOk_9 r.2.2.2 r.2.1 r.2.2.1) (fun r => r.2.2.1.length = r.1 + 1 ∧ (∃ m, ShOk r.2 m ∧ m + r.1 ≤ 14) ∧ Far s r.2.2.2 (200 + 2 * (14 - r.1 : Nat)) ∧ clGo r.1 r.2 = sh2 s) (fun r => r.1) ?_ (fs.length - 1, ns, fs, u) ⟨by simp only; omega, ⟨n - 0, hq, by simp only; omega⟩, hf.mono (by omega), hsh2.symm⟩
    rintro ⟨i, ms, es, v⟩ ⟨hl, ⟨m, hm, hmi⟩, hv, hcl⟩ Kn9 hk9
    simp only at hl hm hmi hv hcl hk9 ⊢
    rw [show fr_spec_l02DrawOk_9 u [] [] = fr_spec_l02DrawOk_9 v ms es from rfl, r_spec_l02DrawOk_9 v ms es Kn9 K]
    have hml : ms.length = m := hm.l
    cases i with
    | zero =>
      rw [d_f (show ¬ ((es.length : Nat) : Int) > 1 by omega), cond_false]
      have hcl : (ms, es, v) = sh2 s := hcl
      unfold shapeV shapeS at h
      rw [← hcl] at h
      exact h
    | succ i =>
      have hk1 := hk9 (i, clStep (ms, es, v))
      have bv : bytes v.1 := hv.bytes hb
      have r3 := pickV_range bv (n := 3) (by omega)
      have w2 : IntKind.i64.wrap ((es.length : Int) - 2) = ((es.length - 2 : Nat) : Int) := by rw [i64_of (by omega) (by omega)]; omega
      have w1 : IntKind.i64.wrap ((es.length : Int) - 1) = ((es.length - 1 : Nat) : Int) := by rw [i64_of (by omega) (by omega)]; omega
      have w5 : IntKind.i64.wrap (5 + pickV v 3) = 5 + pickV v 3 := i64_of (by omega) (by omega)
      have y2 : es[es.length - 2]? = some (at2 es 2) := by
        unfold at2
        rw [get_lt (show es.length - 2 < es.length by omega)]
        rfl
      have y1 : es[es.length - 1]? = some (at2 es 1) := by
        unfold at2
        rw [get_lt (show es.length - 1 < es.length by omega)]
        rfl
      have gv : srcIn 6 v = true := inS_src ((hv.ok hg (m := 900000) (by omega))) (by omega) 6 (by omega)
      have htl : (es.take (es.length - 2)).length = es.length - 2 := by rw [List.length_take]; omega
      have hcf : (clStep (ms, es, v)).2.1.length = i + 1 := by rw [clStep_free _ (by show 2 ≤ es.length; omega)]; show es.length - 1 = i + 1; omega
      have next := hk1 ⟨hcf, ⟨m + 1, clStep_ok hm (by show 2 ≤ es.length; omega), by have := hmi; show m + 1 + i ≤ 14; omega⟩, (hv.trans (far_pick v 3)).mono (by simp only; omega), hcl⟩ (by simp only; omega)
      simp only [d_t (show ((es.length : Nat) : Int) > 1 by omega), cond_true, w1, w2, w5, d_0, Int.toNat_natCast, blt_t (show es.length - 2 < es.length by omega), blt_t (show es.length - 1 < es.length by omega), Bool.and_self, y1, y2, gv, htl, d_t (show (0 : Int) ≤ 0 by omega), d_t (show ((es.length - 2 : Nat) : Int) ≤ (es.length : Int) by omega), d_t (show es.length - 2 ≤ 1000 by omega), d_t (show (es.length - 2 + 1) * 8 ≤ 140737488355328 by omega), d_t (show (ms.length + 1) * 48 ≤ 140737488355328 by omega)]
      exact next
  | succ j =>
    have hk1 := hk3 (j, shStep (ns, fs, u))
    have bu : bytes u.1 := hf.bytes hb
    have ur := used_range fs u
    obtain ⟨d, hd⟩ : ∃ d : Nat, ((fs.length : Int) - usedV fs u) = (d : Int) := ⟨((fs.length : Int) - usedV fs u).toNat, by omega⟩
    have w1 : IntKind.i64.wrap ((fs.length : Int) - usedV fs u) = (d : Int) := by rw [hd]; exact i64_of (by omega) (by omega)
    have wj : IntKind.i64.wrap (((j + 1 : Nat) : Int) - 1) = (j : Int) := by rw [i64_of (by omega) (by omega)]; omega
    have htl : (List.drop 0 (fs.take d)).length = d := by rw [List.drop_zero, List.length_take]; omega
    have gu : inS 800000 u = true := hf.ok hg (by omega)
    have next := hk1 ⟨by simp only; omega, by have := shStep_ok hq; rw [show n - (j + 1) + 1 = n - j by omega] at this; exact this, (hf.trans (far_node fs u)).mono (by simp only; omega), hgo⟩ (by simp only; omega)
    unfold shStep at next
    simp only [hd, Int.toNat_natCast] at next
    simp only [d_t (show ((j + 1 : Nat) : Int) > 0 by omega), cond_true, gu, w1, wj, d_0, Int.toNat_natCast, htl, d_t (show (0 : Int) ≤ 0 by omega), d_t (show (d : Int) ≤ (fs.length : Int) by omega), d_t (show d ≤ 1000 by omega), d_t (show (d + 1) * 8 ≤ 140737488355328 by omega), d_t (show (ns.length + 1) * 48 ≤ 140737488355328 by omega), Bool.and_self]
    exact next

/-! spec.l10DrawKeys -/
noncomputable def a_spec_l10DrawKeys : Nat → Option Ann := fun n => bif Nat.beq n 4 then some ⟨[0,3,4,5],1,true⟩ else none
noncomputable def c_spec_l10DrawKeys : Ctx := mkC Try.prog tyT [] [] [(24, s_spec_l00Src_pick), (45, s_spec_l00Src_one), (44, s_spec_l01DrawSmall)] 56 a_spec_l10DrawKeys 1
noncomputable def gp_spec_l10DrawKeys : List (List (Option Ty)) := List.map giveR [.cell (.own tK)]
noncomputable def fr_spec_l10DrawKeys_4 (s : SrcD) (ks : List KeyD) (a k : Int) : Fr := [(0, .ptr 0 0), (3, .obj 1 0), (4, .int .i64 a), (5, .int .i64 k)]
noncomputable def hp_spec_l10DrawKeys_4 (s : SrcD) (ks : List KeyD) (a k : Int) : Heap := [.box (enc tSrc s), .sl 0 tK ks]
theorem r_spec_l10DrawKeys_4 (s : SrcD) (ks : List KeyD) (a k : Int) (Kn : Fr → Heap → Prop) (K : V → Heap → Prop) : round c_spec_l10DrawKeys ⟨[0,3,4,5],1,true⟩ (lb c_spec_l10DrawKeys 4 Try.f28) (fr_spec_l10DrawKeys_4 s ks a k) (hp_spec_l10DrawKeys_4 s ks a k) Kn (lkG gp_spec_l10DrawKeys c_spec_l10DrawKeys 4 Try.f28 [.box []] K) =
  cond (decide (k > 0))
    (cond (inS 1000000 s)
      (cond (inS 1000000 (smallS s))
        (cond (inS 1000000 (smallS (smallS s)))
          (cond (decide ((↑(List.length ks) : Int) > 0))
            (cond (srcIn 6 (smallS (smallS (smallS s))))
              (cond (pickV (smallS (smallS (smallS s))) 3 == 0)
                (cond (decide (0 ≤ IntKind.wrap IntKind.i64 ((↑(List.length ks) : Int) - 1)) && Nat.blt (Int.toNat (IntKind.wrap IntKind.i64 ((↑(List.length ks) : Int) - 1))) (List.length ks))
                  ((match ks[Int.toNat (IntKind.wrap IntKind.i64 ((↑(List.length ks) : Int) - 1))]? with
                    | some x0 => cond (decide ((List.length ks + 1) * 24 ≤ 140737488355328))
                      (cond (srcIn 6 (pickS (smallS (smallS (smallS s))) 3))
                        (Kn [(0, (.ptr 0 0)), (3, (.obj 1 0)), (4, (.int .i64 (IntKind.wrap IntKind.i64 (a + IntKind.wrap IntKind.i64 (1 + pickV (pickS (smallS (smallS (smallS s))) 3) 8))))), (5, (.int .i64 (IntKind.wrap IntKind.i64 (k - 1))))] [(.box [(.vec (.int .u8) (Prod.fst (pickS (pickS (smallS (smallS (smallS s))) 3) 8))), (.int .i64 (Prod.fst (Prod.snd (pickS (pickS (smallS (smallS (smallS s))) 3) 8)))), (.int .u64 (Prod.snd (Prod.snd (pickS (pickS (smallS (smallS (smallS s))) 3) 8))))]), (.sl 0 tK (ks ++ [(a, Prod.snd x0)]))])
                        (False))
                      (False)
                    | none => False))
                  (False))
                (cond (decide ((List.length ks + 1) * 24 ≤ 140737488355328))
                  (cond (srcIn 6 (pickS (smallS (smallS (smallS s))) 3))
                    (Kn [(0, (.ptr 0 0)), (3, (.obj 1 0)), (4, (.int .i64 (IntKind.wrap IntKind.i64 (a + IntKind.wrap IntKind.i64 (1 + pickV (pickS (smallS (smallS (smallS s))) 3) 8))))), (5, (.int .i64 (IntKind.wrap IntKind.i64 (k - 1))))] [(.box [(.vec (.int .u8) (Prod.fst (pickS (pickS (smallS (smallS (smallS s))) 3) 8))), (.int .i64 (Prod.fst (Prod.snd (pickS (pickS (smallS (smallS (smallS s))) 3) 8)))), (.int .u64 (Prod.snd (Prod.snd (pickS (pickS (smallS (smallS (smallS s))) 3) 8))))]), (.sl 0 tK (ks ++ [(a, smallV s, smallV (smallS s), smallV (smallS (smallS s)))]))])
                    (False))
                  (False)))
              (False))
            (cond (decide ((List.length ks + 1) * 24 ≤ 140737488355328))
              (cond (srcIn 6 (smallS (smallS (smallS s))))
                (Kn [(0, (.ptr 0 0)), (3, (.obj 1 0)), (4, (.int .i64 (IntKind.wrap IntKind.i64 (a + IntKind.wrap IntKind.i64 (1 + pickV (smallS (smallS (smallS s))) 8))))), (5, (.int .i64 (IntKind.wrap IntKind.i64 (k - 1))))] [(.box [(.vec (.int .u8) (Prod.fst (pickS (smallS (smallS (smallS s))) 8))), (.int .i64 (Prod.fst (Prod.snd (pickS (smallS (smallS (smallS s))) 8)))), (.int .u64 (Prod.snd (Prod.snd (pickS (smallS (smallS (smallS s))) 8))))]), (.sl 0 tK (ks ++ [(a, smallV s, smallV (smallS s), smallV (smallS (smallS s)))]))])
                (False))
              (False)))
          (False))
        (False))
      (False))
    (K (.obj 1 0) [(.box [(.vec (.int .u8) (Prod.fst s)), (.int .i64 (Prod.fst (Prod.snd s))), (.int .u64 (Prod.snd (Prod.snd s)))]), (.sl 0 tK (ks))]) := by kernel_rfl
theorem w_spec_l10DrawKeys (s : SrcD) (K : V → Heap → Prop) : wpFnG gp_spec_l10DrawKeys c_spec_l10DrawKeys Try.f28 (.ptr 0 0 :: encAs [] ()) [.box (enc tSrc s)] K =
  cond (srcIn 6 s)
    (cond (srcIn 6 (pickS s 4))
      (LoopE c_spec_l10DrawKeys ⟨[0, 3, 4, 5], 1, true⟩ (lb c_spec_l10DrawKeys 4 Try.f28) [(0, (.ptr 0 0)), (3, (.obj 1 0)), (4, (.int .i64 (pickV s 4))), (5, (.int .i64 (IntKind.wrap IntKind.i64 (1 + pickV (pickS s 4) 4))))] [(.box [(.vec (.int .u8) (Prod.fst (pickS (pickS s 4) 4))), (.int .i64 (Prod.fst (Prod.snd (pickS (pickS s 4) 4)))), (.int .u64 (Prod.snd (Prod.snd (pickS (pickS s 4) 4))))]), (.sl 0 tK ([]))] (lkG gp_spec_l10DrawKeys c_spec_l10DrawKeys 4 Try.f28 [.box []] K))
      (False))
    (False) := by kernel_rfl
noncomputable def s_spec_l10DrawKeys : Sm := semPG tSrc [] [.cell (.own tK)] (fun s x => match x with | _ => inS 500000 s) fun s x => match x with | _ => ((keysV s, ()), keysS s)
theorem ok_spec_l10DrawKeys : FnOkL Try.prog 28 s_spec_l10DrawKeys := fnOkO_boxg (fnOkO_runG (C := c_spec_l10DrawKeys) gp_spec_l10DrawKeys rfl mixed .nil .nil (.cons ok_spec_l00Src_pick (.cons ok_spec_l00Src_one (.cons ok_spec_l01DrawSmall .nil))) Try.func28 (by kernel_rfl)) rfl fun (s : SrcD) (x : Unit) ws wf hg K h => by
  obtain ⟨⟩ := x
  replace hg : (inS 500000 s) = true := hg
  replace h : K (tup (valRs [.cell (.own tK)] ((keysV s, ())) 1)) (.box (enc tSrc (keysS s)) :: thRs [.cell (.own tK)] ((keysV s, ()))) := h
  rw [w_spec_l10DrawKeys s  K]
  have hb : bytes s.1 := bytes_of ws.1
  have b4 := (far_pick s 4).bytes hb
  have g6 : srcIn 6 s = true := inS_src hg (by omega) 6 (by omega)
  have g6' : srcIn 6 (pickS s 4) = true := inS_src ((far_pick s 4).ok hg (m := 900000) (by omega)) (by omega) 6 (by omega)
  have kr := kyN_range hb
  obtain ⟨n, hn⟩ : ∃ n : Nat, kyN s = (n : Int) := ⟨(kyN s).toNat, by omega⟩
  have hn' : 1 + pickV (pickS s 4) 4 = (n : Int) := hn
  unfold keysV keysS at h
  rw [hn, Int.toNat_natCast] at h
  rw [hn] at kr
  rw [g6, g6', cond_true, cond_true, hn', i64_of (n := (n : Int)) (by omega) (by omega)]
  refine loop_run (σ := Nat × KyD) (fun r => fr_spec_l10DrawKeys_4 s [] r.2.2.1 r.1) (fun r => hp_spec_l10DrawKeys_4 r.2.2.2 r.2.1 r.2.2.1 r.1) (fun r => r.1 ≤ n ∧ KyOk r.2 (n - r.1) ∧ Far s r.2.2.2 (4 + 10 * (n - r.1 : Nat)) ∧ kyGo r.1 r.2 = kyGo n (ky0 s)) (fun r => r.1) ?_ (n, ky0 s) ⟨Nat.le_refl _, by simp only [Nat.sub_self]; exact ky0_ok hb, by simp only [Nat.sub_self]; exact (far_pick s 4).trans (far_pick _ 4), rfl⟩
  rintro ⟨j, ks, a, u⟩ ⟨hj, hq, hf, hgo⟩ Kn hk3
  simp only at hj hq hf hgo hk3 ⊢
  rw [show fr_spec_l10DrawKeys_4 s [] a j = fr_spec_l10DrawKeys_4 u ks a j from rfl, r_spec_l10DrawKeys_4 u ks a j Kn K]
  rw [← hgo] at h
  cases j with
  | zero =>
    rw [d_f (show ¬ ((0 : Nat) : Int) > 0 by omega), cond_false]
    exact h
  | succ j =>
    have hk1 := hk3 (j, kyStep (ks, a, u))
    have hkl : ks.length = n - (j + 1) := hq.l
    have bu : bytes u.1 := hf.bytes hb
    have alo : 0 ≤ a := hq.lo
    have ahi : a ≤ 3 + 8 * ((n - (j + 1) : Nat) : Int) := hq.hi
    have wj : IntKind.i64.wrap (((j + 1 : Nat) : Int) - 1) = (j : Int) := by rw [i64_of (by omega) (by omega)]; omega
    have P1 := hf.trans (far_small u)
    have P2 := P1.trans (far_small (smallS u))
    have P3 := P2.trans (far_small (smallS (smallS u)))
    have P4 := P3.trans (far_pick (smallS (smallS (smallS u))) 3)
    have g0 : inS 1000000 u = true := hf.ok hg (by omega)
    have g1 : inS 1000000 (smallS u) = true := P1.ok hg (by omega)
    have g2 : inS 1000000 (smallS (smallS u)) = true := P2.ok hg (by omega)
    have g3 : srcIn 6 (smallS (smallS (smallS u))) = true := inS_src (P3.ok hg (m := 900000) (by omega)) (by omega) 6 (by omega)
    have g4 : srcIn 6 (pickS (smallS (smallS (smallS u))) 3) = true := inS_src (P4.ok hg (m := 900000) (by omega)) (by omega) 6 (by omega)
    have r3 := pickV_range (P3.bytes hb) (n := 8) (by omega)
    have r4 := pickV_range (P4.bytes hb) (n := 8) (by omega)
    have wa : ∀ {x : Int}, 0 ≤ x ∧ x < 8 → IntKind.i64.wrap (a + IntKind.i64.wrap (1 + x)) = a + (1 + x) := fun hx => by
      rw [i64_of (n := 1 + _) (by omega) (by omega), i64_of (by omega) (by omega)]
    have hko := kyStep_ok hq (by omega)
    rw [show n - (j + 1) + 1 = n - j by omega] at hko
    have hfa : Far s (kyStep (ks, a, u)).2.2 (4 + 10 * ((n - j : Nat) : Int)) := (hf.trans (far_kyStep (ks, a, u))).mono (by omega)
    have hle : j ≤ n := by omega
    have next := hk1 ⟨hle, hko, hfa, hgo⟩ (Nat.lt_succ_self j)
    clear hk1 hk3 hko hfa hle hgo hf hq h
    have e0 : decide ((ks.length : Int) > 0) = decide (0 < ks.length) := decide_eq_decide.2 (by omega)
    simp only [d_t (show ((j + 1 : Nat) : Int) > 0 by omega), cond_true, g0, g1, g2, g3, g4, wj, e0, wa r3, wa r4, d_t (show (ks.length + 1) * 24 ≤ 140737488355328 by omega)]
    by_cases h0 : 0 < ks.length
    · have w1 : IntKind.i64.wrap ((ks.length : Int) - 1) = ((ks.length - 1 : Nat) : Int) := by rw [i64_of (by omega) (by omega)]; omega
      cases e : (pickV (smallS (smallS (smallS u))) 3 == 0) with
      | true =>
        have e' : (pickV (plS u) 3 == 0) = true := e
        have hlp : lastP ks = (ks[ks.length - 1]'(by omega)).2 := by unfold lastP; rw [get_lt (show ks.length - 1 < ks.length by omega)]; rfl
        have st : kyStep (ks, a, u) = (ks ++ [(a, (ks[ks.length - 1]'(by omega)).2)], a + (1 + pickV (pickS (smallS (smallS (smallS u))) 3) 8), pickS (pickS (smallS (smallS (smallS u))) 3) 8) := by
          unfold kyStep kyP kyS
          simp only [d_t h0, e', hlp, cond_true, Bool.and_self]
          rfl
        rw [st] at next
        simp only [d_t h0, cond_true, w1, d_0, Int.toNat_natCast, blt_t (show ks.length - 1 < ks.length by omega), Bool.and_self, get_lt (show ks.length - 1 < ks.length by omega)]
        exact next
      | false =>
        have e' : (pickV (plS u) 3 == 0) = false := e
        have st : kyStep (ks, a, u) = (ks ++ [(a, smallV u, smallV (smallS u), smallV (smallS (smallS u)))], a + (1 + pickV (pickS (smallS (smallS (smallS u))) 3) 8), pickS (pickS (smallS (smallS (smallS u))) 3) 8) := by
          unfold kyStep kyP kyS
          simp only [d_t h0, e', cond_true, cond_false, Bool.and_false]
          rfl
        rw [st] at next
        simp only [d_t h0, cond_true, cond_false]
        exact next
    · have st : kyStep (ks, a, u) = (ks ++ [(a, smallV u, smallV (smallS u), smallV (smallS (smallS u)))], a + (1 + pickV (smallS (smallS (smallS u))) 8), pickS (smallS (smallS (smallS u))) 8) := by
        unfold kyStep kyP kyS
        simp only [d_f h0, cond_false, Bool.false_and]
        rfl
      rw [st] at next
      simp only [d_f h0, cond_false]
      exact next

/-! (*spec.l00Src).text -/
noncomputable def c_spec_l00Src_text : Ctx := mkC Try.prog tyT [] [] [(24, s_spec_l00Src_pick)] 12 (fun _ => none) 1
theorem w_spec_l00Src_text (s : SrcD) (xs : List Str) (K : V → Heap → Prop) : wpFnO c_spec_l00Src_text Try.f26 (.ptr 0 0 :: encAs [.cell (.slice .str)] (xs, ())) [.box (enc tSrc s)] K =
  cond (srcIn 6 s)
    (cond (decide (0 ≤ pickV s (↑(List.length xs) : Int)))
      ((match xs[Int.toNat (pickV s (↑(List.length xs) : Int))]? with
        | some y0 => K (.str (y0)) [(.box [(.vec (.int .u8) (Prod.fst (pickS s (↑(List.length xs) : Int)))), (.int .i64 (Prod.fst (Prod.snd (pickS s (↑(List.length xs) : Int))))), (.int .u64 (Prod.snd (Prod.snd (pickS s (↑(List.length xs) : Int)))))])]
        | none => False))
      (False))
    (False) := by kernel_rfl
noncomputable def s_spec_l00Src_text : Sm := semP tSrc [.cell (.slice .str)] (fun s x => match x with | (xs, _) => inS 900000 s && decide (1 ≤ xs.length)) fun s x => match x with | (xs, _) => (.str ((xs[(pickV s xs.length).toNat]?).getD []), pickS s xs.length)
theorem ok_spec_l00Src_text : FnOkL Try.prog 26 s_spec_l00Src_text := fnOkO_box (fnOkO_runC (C := c_spec_l00Src_text) rfl mixed .nil .nil (.cons ok_spec_l00Src_pick .nil) Try.func26 (by kernel_rfl)) fun (s : SrcD) (x : ((List Str) × Unit)) ws wf hg K h => by
  obtain ⟨xs, ⟨⟩⟩ := x
  replace hg : (inS 900000 s && decide (1 ≤ xs.length)) = true := hg
  replace h : K (.str ((xs[(pickV s xs.length).toNat]?).getD [])) [.box (enc tSrc (pickS s xs.length))] := h
  rw [w_spec_l00Src_text s xs K]
  simp only [Bool.and_eq_true, decide_eq_true_eq] at hg
  have hb : bytes s.1 := bytes_of ws.1
  have hr := pickV_range (s := s) hb (n := (xs.length : Int)) (by omega)
  have hl : (pickV s (xs.length : Int)).toNat < xs.length := by omega
  have hx : xs[(pickV s (xs.length : Int)).toNat]? = some (xs[(pickV s (xs.length : Int)).toNat]'hl) := List.getElem?_eq_getElem hl
  simp only [inS_src hg.1 (by omega) 6 (by omega), d_t hr.1, cond_true, hx, Option.getD_some] at h ⊢
  exact h

/-! spec.l10DrawThing -/
noncomputable def c_spec_l10DrawThing : Ctx := mkC Try.prog tyT [] [] [(26, s_spec_l00Src_text), (27, s_spec_l02DrawOk), (28, s_spec_l10DrawKeys)] 15 (fun _ => none) 1
noncomputable def gp_spec_l10DrawThing : List (List (Option Ty)) := List.map giveR [.agg [.imm .str, .own tN, .own tK]]
theorem w_spec_l10DrawThing (s : SrcD) (K : V → Heap → Prop) : wpFnG gp_spec_l10DrawThing c_spec_l10DrawThing Try.f15 (.ptr 0 0 :: encAs [] ()) [.box (enc tSrc s)] K =
  cond (inS 900000 s && decide (1 ≤ 8))
    (cond (inS 500000 (pickS s (↑8 : Int)))
      (cond (inS 500000 (shapeS (pickS s (↑8 : Int))))
        (K (.agg [(.str (Option.getD [Array.toList (ByteArray.data { data := #[97] }), Array.toList (ByteArray.data { data := #[98] }), Array.toList (ByteArray.data { data := #[98, 97, 108, 108] }), Array.toList (ByteArray.data { data := #[99] }), Array.toList (ByteArray.data { data := #[99, 117, 112] }), Array.toList (ByteArray.data { data := #[100] }), Array.toList (ByteArray.data { data := #[101] }), Array.toList (ByteArray.data { data := #[116, 97, 98, 108, 101] })][Int.toNat (pickV s (↑8 : Int))]? [])), (.obj 1 0), (.obj 2 0)]) [(.box [(.vec (.int .u8) (Prod.fst (keysS (shapeS (pickS s (↑8 : Int)))))), (.int .i64 (Prod.fst (Prod.snd (keysS (shapeS (pickS s (↑8 : Int))))))), (.int .u64 (Prod.snd (Prod.snd (keysS (shapeS (pickS s (↑8 : Int)))))))]), (.sl 0 tN (shapeV (pickS s (↑8 : Int)))), (.sl 0 tK (keysV (shapeS (pickS s (↑8 : Int)))))])
        (False))
      (False))
    (False) := by kernel_rfl
noncomputable def s_spec_l10DrawThing : Sm := semPG tSrc [] [.agg [.imm .str, .own tN, .own tK]] (fun s x => match x with | _ => inS 300000 s) fun s x => match x with | _ => (((nameAt s, shapeV (pickS s 8), keysV (shapeS (pickS s 8)), ()), ()), thingS s)
theorem ok_spec_l10DrawThing : FnOkL Try.prog 15 s_spec_l10DrawThing := fnOkO_boxg (fnOkO_runG (C := c_spec_l10DrawThing) gp_spec_l10DrawThing rfl mixed .nil .nil (.cons ok_spec_l00Src_text (.cons ok_spec_l02DrawOk (.cons ok_spec_l10DrawKeys .nil))) Try.func15 (by kernel_rfl)) rfl fun (s : SrcD) (x : Unit) ws wf hg K h => by
  obtain ⟨⟩ := x
  replace hg : (inS 300000 s) = true := hg
  replace h : K (tup (valRs [.agg [.imm .str, .own tN, .own tK]] (((nameAt s, shapeV (pickS s 8), keysV (shapeS (pickS s 8)), ()), ())) 1)) (.box (enc tSrc (thingS s)) :: thRs [.agg [.imm .str, .own tN, .own tK]] (((nameAt s, shapeV (pickS s 8), keysV (shapeS (pickS s 8)), ()), ()))) := h
  rw [w_spec_l10DrawThing s  K]
  have hb : bytes s.1 := bytes_of ws.1
  have b1 := (far_pick s 8).bytes hb
  have g1 : inS 500000 (pickS s 8) = true := (far_pick s 8).ok hg (by omega)
  have g2 : inS 500000 (shapeS (pickS s 8)) = true := ((far_pick s 8).trans (far_shape b1)).ok hg (by omega)
  have g0 : inS 900000 s = true := (Far.refl s).ok hg (by omega)
  refine cond_intro (by rw [g0]; rfl) (cond_intro g1 (cond_intro g2 ?_))
  exact h

end Go.Proofs.Ytmkomfhnomnbiaa
