/- Merged texts: ShW Ray ShT ShX R8 PrtP FlT Bnd JnD PrtJ FlU AlkD Blt. -/
import Derived.Test.YtfhpmcdbfebflaaM5
/- What the laws draw: walks of shapes. -/
set_option linter.unusedVariables false
set_option linter.unusedSimpArgs false
set_option maxRecDepth 100000
namespace Go.Proofs.Ytfhpmcdbfebflaa
open Go.Ev

theorem cond_sh {b : Bool} {P Q : Prop} (h : b = true) (hp : P) : cond b P Q := by rw [h]; exact hp

noncomputable def c_spec_l01DrawSmall : Ctx := mkC Try.prog tyT [] [] [(70, s_spec_l00Src_pick)] 8 (fun _ => none) 1
theorem w_spec_l01DrawSmall (s : SrcD) (K : V → Heap → Prop) : wpFnO c_spec_l01DrawSmall Try.f69 (.ptr 0 0 :: encAs [] ()) [.box (enc tSrc s)] K =
 cond (srcIn 6 s)
 (K (.float .f32 (fdiv FloatKind.f32 (FloatKind.nearest FloatKind.f32 (IntKind.wrap IntKind.i64 (pickV s 33 - 16))) 1082130432)) [(.box [(.vec (.int .u8) (Prod.fst (pickS s 33))), (.int .i64 (Prod.fst (Prod.snd (pickS s 33)))), (.int .u64 (Prod.snd (Prod.snd (pickS s 33))))])])
 (False) := by kernel_rfl
noncomputable def s_spec_l01DrawSmall : Sm := semP tSrc [] (fun s x => match x with | _ => inS 1000000 s) fun s x => match x with | _ => (.float .f32 (smallV s), smallS s)
theorem ok_spec_l01DrawSmall : FnOkL Try.prog 69 s_spec_l01DrawSmall := fnOkO_box (fnOkO_runC (C := c_spec_l01DrawSmall) rfl mixed .nil .nil (.cons ok_spec_l00Src_pick .nil) Try.func69 (by kernel_rfl)) fun (s : SrcD) (x : Unit) ws wf hg K h => by
  obtain ⟨⟩ := x
  replace hg : (inS 1000000 s) = true := hg
  replace h : K (.float .f32 (smallV s)) [.box (enc tSrc (smallS s))] := h
  rw [w_spec_l01DrawSmall s  K]
  have hb : bytes s.1 := bytes_of ws.1
  have r := pickV_range (s := s) hb (n := 33) (by omega)
  rw [inS_src hg (by omega) 6 (by omega), i64_of (n := pickV s 33 - 16) (by omega) (by omega)]
  exact h

noncomputable def c_spec_l02Size : Ctx := mkC Try.prog tyT [] [] [] 8 (fun _ => none) 0
theorem w_spec_l02Size (x : Nat) (K : V → Heap → Prop) : wpFn c_spec_l02Size Try.f174 (encAs [.cell tF] (x, ())) [] K =
 cond (fle FloatKind.f32 x 0)
 (K (.float .f32 (fsub FloatKind.f32 0 x)) [])
 (K (.float .f32 (x)) []) := by kernel_rfl
noncomputable def s_spec_l02Size : Sm := semT [.cell tF] fun x => match x with | (x, _) => .float .f32 (sizeV x)
theorem ok_spec_l02Size : FnOk Try.prog 174 s_spec_l02Size := fnOk_typed (fnOk_runC (C := c_spec_l02Size) rfl mixed .nil .nil .nil Try.func174 (by kernel_rfl)) fun (x : ((Nat) × Unit)) wf K h => by
  obtain ⟨x, ⟨⟩⟩ := x
  replace h : K (.float .f32 (sizeV x)) [] := h
  rw [w_spec_l02Size x K]
  unfold sizeV at h
  revert h
  cases fle .f32 x 0 <;> exact id

noncomputable def c_spec_l00Own : Ctx := mkC Try.prog tyT [] [] [] 6 (fun _ => none) 0
noncomputable def gp_spec_l00Own : List (List (Option Ty)) := List.map giveR [.cell (.own tI)]
theorem w_spec_l00Own (fs : List Int) (K : V → Heap → Prop) : wpFnG gp_spec_l00Own c_spec_l00Own Try.f134 (encAs [.cell (.slice tI)] (fs, ())) [] K =
 cond (decide ((0 + List.length fs) * 8 ≤ 140737488355328))
 (K (.obj 0 0) [(.sl 0 (.int .i64) ([] ++ fs))])
 (False) := by kernel_rfl
noncomputable def s_spec_l00Own : Sm := semV [.cell (.slice tI)] [.cell (.own tI)] (fun x => match x with | (fs, _) => decide (fs.length ≤ 1000)) fun x => match x with | (fs, _) => (fs, ())
theorem ok_spec_l00Own : FnOkL Try.prog 134 s_spec_l00Own := fnOkO_give (fnOkO_runG (C := c_spec_l00Own) gp_spec_l00Own rfl mixed .nil .nil .nil Try.func134 (by kernel_rfl)) rfl fun (x : ((List Int) × Unit)) wf hg K h => by
  obtain ⟨fs, ⟨⟩⟩ := x
  replace hg : (decide (fs.length ≤ 1000)) = true := hg
  replace h : K (tup (valRs [.cell (.own tI)] ((fs, ())) 0)) (thRs [.cell (.own tI)] ((fs, ()))) := h
  rw [w_spec_l00Own fs K]
  have hg := of_decide_eq_true hg
  exact cond_sh (decide_eq_true (by omega)) h

noncomputable def a_spec_l02DrawNumbers : Nat → Option Ann := fun n => bif Nat.beq n 3 then some ⟨[0,1,5,6],1,true⟩ else none
noncomputable def c_spec_l02DrawNumbers : Ctx := mkC Try.prog tyT [(174, s_spec_l02Size), (129, s_spec_l02Count)] [] [(69, s_spec_l01DrawSmall), (70, s_spec_l00Src_pick)] 48 a_spec_l02DrawNumbers 1
noncomputable def gp_spec_l02DrawNumbers : List (List (Option Ty)) := List.map giveR [.cell (.own tF)]
noncomputable def fr_spec_l02DrawNumbers_3 (s : SrcD) (k c : Int) (xs : List Nat) : Fr := [(0, .ptr 0 0), (1, .int .i64 k), (5, .obj 1 0), (6, .int .i64 c)]
noncomputable def hp_spec_l02DrawNumbers_3 (s : SrcD) (k c : Int) (xs : List Nat) : Heap := [.box (enc tSrc s), .sl 0 tF xs]
theorem r_spec_l02DrawNumbers_3 (s : SrcD) (k c : Int) (xs : List Nat) (Kn : Fr → Heap → Prop) (K : V → Heap → Prop) : round c_spec_l02DrawNumbers ⟨[0,1,5,6],1,true⟩ (lb c_spec_l02DrawNumbers 3 Try.f159) (fr_spec_l02DrawNumbers_3 s k c xs) (hp_spec_l02DrawNumbers_3 s k c xs) Kn (lkG gp_spec_l02DrawNumbers c_spec_l02DrawNumbers 3 Try.f159 [.box []] K) =
 cond (decide (c > 0))
 (cond (inS 1000000 s)
 (cond (k == 0)
 (cond (k == 0)
 (cond (decide ((List.length xs + 1) * 4 ≤ 140737488355328))
 (Kn [(0, (.ptr 0 0)), (1, (.int .i64 (k))), (5, (.obj 1 0)), (6, (.int .i64 (IntKind.wrap IntKind.i64 (c - 1))))] [(.box [(.vec (.int .u8) (Prod.fst (smallS s))), (.int .i64 (Prod.fst (Prod.snd (smallS s)))), (.int .u64 (Prod.snd (Prod.snd (smallS s))))]), (.sl 0 (.float .f32) (xs ++ [sizeV (smallV s)]))])
 (False))
 (cond (k == 8)
 (cond (k == 8)
 (cond (srcIn 6 (smallS s))
 (cond (decide ((List.length xs + 1) * 4 ≤ 140737488355328))
 (Kn [(0, (.ptr 0 0)), (1, (.int .i64 (k))), (5, (.obj 1 0)), (6, (.int .i64 (IntKind.wrap IntKind.i64 (c - 1))))] [(.box [(.vec (.int .u8) (Prod.fst (pickS (smallS s) 8))), (.int .i64 (Prod.fst (Prod.snd (pickS (smallS s) 8)))), (.int .u64 (Prod.snd (Prod.snd (pickS (smallS s) 8))))]), (.sl 0 (.float .f32) (xs ++ [fdiv FloatKind.f32 (FloatKind.nearest FloatKind.f32 (IntKind.wrap IntKind.i64 (1 + pickV (smallS s) 8))) 1082130432]))])
 (False))
 (False))
 (cond (k == 12)
 (cond (srcIn 6 (smallS s))
 (cond (decide ((List.length xs + 1) * 4 ≤ 140737488355328))
 (Kn [(0, (.ptr 0 0)), (1, (.int .i64 (k))), (5, (.obj 1 0)), (6, (.int .i64 (IntKind.wrap IntKind.i64 (c - 1))))] [(.box [(.vec (.int .u8) (Prod.fst (pickS (smallS s) 17))), (.int .i64 (Prod.fst (Prod.snd (pickS (smallS s) 17)))), (.int .u64 (Prod.snd (Prod.snd (pickS (smallS s) 17))))]), (.sl 0 (.float .f32) (xs ++ [fdiv FloatKind.f32 (FloatKind.nearest FloatKind.f32 (IntKind.wrap IntKind.i64 (pickV (smallS s) 17 - 8))) 1098907648]))])
 (False))
 (False))
 (cond (decide ((List.length xs + 1) * 4 ≤ 140737488355328))
 (Kn [(0, (.ptr 0 0)), (1, (.int .i64 (k))), (5, (.obj 1 0)), (6, (.int .i64 (IntKind.wrap IntKind.i64 (c - 1))))] [(.box [(.vec (.int .u8) (Prod.fst (smallS s))), (.int .i64 (Prod.fst (Prod.snd (smallS s)))), (.int .u64 (Prod.snd (Prod.snd (smallS s))))]), (.sl 0 (.float .f32) (xs ++ [smallV s]))])
 (False))))
 (cond (k == 10)
 (cond (k == 10)
 (cond (srcIn 6 (smallS s))
 (cond (decide ((List.length xs + 1) * 4 ≤ 140737488355328))
 (Kn [(0, (.ptr 0 0)), (1, (.int .i64 (k))), (5, (.obj 1 0)), (6, (.int .i64 (IntKind.wrap IntKind.i64 (c - 1))))] [(.box [(.vec (.int .u8) (Prod.fst (pickS (smallS s) 8))), (.int .i64 (Prod.fst (Prod.snd (pickS (smallS s) 8)))), (.int .u64 (Prod.snd (Prod.snd (pickS (smallS s) 8))))]), (.sl 0 (.float .f32) (xs ++ [fdiv FloatKind.f32 (FloatKind.nearest FloatKind.f32 (IntKind.wrap IntKind.i64 (1 + pickV (smallS s) 8))) 1082130432]))])
 (False))
 (False))
 (cond (k == 12)
 (cond (srcIn 6 (smallS s))
 (cond (decide ((List.length xs + 1) * 4 ≤ 140737488355328))
 (Kn [(0, (.ptr 0 0)), (1, (.int .i64 (k))), (5, (.obj 1 0)), (6, (.int .i64 (IntKind.wrap IntKind.i64 (c - 1))))] [(.box [(.vec (.int .u8) (Prod.fst (pickS (smallS s) 17))), (.int .i64 (Prod.fst (Prod.snd (pickS (smallS s) 17)))), (.int .u64 (Prod.snd (Prod.snd (pickS (smallS s) 17))))]), (.sl 0 (.float .f32) (xs ++ [fdiv FloatKind.f32 (FloatKind.nearest FloatKind.f32 (IntKind.wrap IntKind.i64 (pickV (smallS s) 17 - 8))) 1098907648]))])
 (False))
 (False))
 (cond (decide ((List.length xs + 1) * 4 ≤ 140737488355328))
 (Kn [(0, (.ptr 0 0)), (1, (.int .i64 (k))), (5, (.obj 1 0)), (6, (.int .i64 (IntKind.wrap IntKind.i64 (c - 1))))] [(.box [(.vec (.int .u8) (Prod.fst (smallS s))), (.int .i64 (Prod.fst (Prod.snd (smallS s)))), (.int .u64 (Prod.snd (Prod.snd (smallS s))))]), (.sl 0 (.float .f32) (xs ++ [smallV s]))])
 (False))))
 (cond (k == 11)
 (cond (k == 11)
 (cond (srcIn 6 (smallS s))
 (cond (decide ((List.length xs + 1) * 4 ≤ 140737488355328))
 (Kn [(0, (.ptr 0 0)), (1, (.int .i64 (k))), (5, (.obj 1 0)), (6, (.int .i64 (IntKind.wrap IntKind.i64 (c - 1))))] [(.box [(.vec (.int .u8) (Prod.fst (pickS (smallS s) 8))), (.int .i64 (Prod.fst (Prod.snd (pickS (smallS s) 8)))), (.int .u64 (Prod.snd (Prod.snd (pickS (smallS s) 8))))]), (.sl 0 (.float .f32) (xs ++ [fdiv FloatKind.f32 (FloatKind.nearest FloatKind.f32 (IntKind.wrap IntKind.i64 (1 + pickV (smallS s) 8))) 1082130432]))])
 (False))
 (False))
 (cond (k == 12)
 (cond (srcIn 6 (smallS s))
 (cond (decide ((List.length xs + 1) * 4 ≤ 140737488355328))
 (Kn [(0, (.ptr 0 0)), (1, (.int .i64 (k))), (5, (.obj 1 0)), (6, (.int .i64 (IntKind.wrap IntKind.i64 (c - 1))))] [(.box [(.vec (.int .u8) (Prod.fst (pickS (smallS s) 17))), (.int .i64 (Prod.fst (Prod.snd (pickS (smallS s) 17)))), (.int .u64 (Prod.snd (Prod.snd (pickS (smallS s) 17))))]), (.sl 0 (.float .f32) (xs ++ [fdiv FloatKind.f32 (FloatKind.nearest FloatKind.f32 (IntKind.wrap IntKind.i64 (pickV (smallS s) 17 - 8))) 1098907648]))])
 (False))
 (False))
 (cond (decide ((List.length xs + 1) * 4 ≤ 140737488355328))
 (Kn [(0, (.ptr 0 0)), (1, (.int .i64 (k))), (5, (.obj 1 0)), (6, (.int .i64 (IntKind.wrap IntKind.i64 (c - 1))))] [(.box [(.vec (.int .u8) (Prod.fst (smallS s))), (.int .i64 (Prod.fst (Prod.snd (smallS s)))), (.int .u64 (Prod.snd (Prod.snd (smallS s))))]), (.sl 0 (.float .f32) (xs ++ [smallV s]))])
 (False))))
 (cond (k == 14)
 (cond (srcIn 6 (smallS s))
 (cond (decide ((List.length xs + 1) * 4 ≤ 140737488355328))
 (Kn [(0, (.ptr 0 0)), (1, (.int .i64 (k))), (5, (.obj 1 0)), (6, (.int .i64 (IntKind.wrap IntKind.i64 (c - 1))))] [(.box [(.vec (.int .u8) (Prod.fst (pickS (smallS s) 8))), (.int .i64 (Prod.fst (Prod.snd (pickS (smallS s) 8)))), (.int .u64 (Prod.snd (Prod.snd (pickS (smallS s) 8))))]), (.sl 0 (.float .f32) (xs ++ [fdiv FloatKind.f32 (FloatKind.nearest FloatKind.f32 (IntKind.wrap IntKind.i64 (1 + pickV (smallS s) 8))) 1082130432]))])
 (False))
 (False))
 (cond (k == 12)
 (cond (srcIn 6 (smallS s))
 (cond (decide ((List.length xs + 1) * 4 ≤ 140737488355328))
 (Kn [(0, (.ptr 0 0)), (1, (.int .i64 (k))), (5, (.obj 1 0)), (6, (.int .i64 (IntKind.wrap IntKind.i64 (c - 1))))] [(.box [(.vec (.int .u8) (Prod.fst (pickS (smallS s) 17))), (.int .i64 (Prod.fst (Prod.snd (pickS (smallS s) 17)))), (.int .u64 (Prod.snd (Prod.snd (pickS (smallS s) 17))))]), (.sl 0 (.float .f32) (xs ++ [fdiv FloatKind.f32 (FloatKind.nearest FloatKind.f32 (IntKind.wrap IntKind.i64 (pickV (smallS s) 17 - 8))) 1098907648]))])
 (False))
 (False))
 (cond (decide ((List.length xs + 1) * 4 ≤ 140737488355328))
 (Kn [(0, (.ptr 0 0)), (1, (.int .i64 (k))), (5, (.obj 1 0)), (6, (.int .i64 (IntKind.wrap IntKind.i64 (c - 1))))] [(.box [(.vec (.int .u8) (Prod.fst (smallS s))), (.int .i64 (Prod.fst (Prod.snd (smallS s)))), (.int .u64 (Prod.snd (Prod.snd (smallS s))))]), (.sl 0 (.float .f32) (xs ++ [smallV s]))])
 (False))))))))
 (cond (k == 1)
 (cond (k == 1)
 (cond (decide ((List.length xs + 1) * 4 ≤ 140737488355328))
 (Kn [(0, (.ptr 0 0)), (1, (.int .i64 (k))), (5, (.obj 1 0)), (6, (.int .i64 (IntKind.wrap IntKind.i64 (c - 1))))] [(.box [(.vec (.int .u8) (Prod.fst (smallS s))), (.int .i64 (Prod.fst (Prod.snd (smallS s)))), (.int .u64 (Prod.snd (Prod.snd (smallS s))))]), (.sl 0 (.float .f32) (xs ++ [sizeV (smallV s)]))])
 (False))
 (cond (k == 8)
 (cond (k == 8)
 (cond (srcIn 6 (smallS s))
 (cond (decide ((List.length xs + 1) * 4 ≤ 140737488355328))
 (Kn [(0, (.ptr 0 0)), (1, (.int .i64 (k))), (5, (.obj 1 0)), (6, (.int .i64 (IntKind.wrap IntKind.i64 (c - 1))))] [(.box [(.vec (.int .u8) (Prod.fst (pickS (smallS s) 8))), (.int .i64 (Prod.fst (Prod.snd (pickS (smallS s) 8)))), (.int .u64 (Prod.snd (Prod.snd (pickS (smallS s) 8))))]), (.sl 0 (.float .f32) (xs ++ [fdiv FloatKind.f32 (FloatKind.nearest FloatKind.f32 (IntKind.wrap IntKind.i64 (1 + pickV (smallS s) 8))) 1082130432]))])
 (False))
 (False))
 (cond (k == 12)
 (cond (srcIn 6 (smallS s))
 (cond (decide ((List.length xs + 1) * 4 ≤ 140737488355328))
 (Kn [(0, (.ptr 0 0)), (1, (.int .i64 (k))), (5, (.obj 1 0)), (6, (.int .i64 (IntKind.wrap IntKind.i64 (c - 1))))] [(.box [(.vec (.int .u8) (Prod.fst (pickS (smallS s) 17))), (.int .i64 (Prod.fst (Prod.snd (pickS (smallS s) 17)))), (.int .u64 (Prod.snd (Prod.snd (pickS (smallS s) 17))))]), (.sl 0 (.float .f32) (xs ++ [fdiv FloatKind.f32 (FloatKind.nearest FloatKind.f32 (IntKind.wrap IntKind.i64 (pickV (smallS s) 17 - 8))) 1098907648]))])
 (False))
 (False))
 (cond (decide ((List.length xs + 1) * 4 ≤ 140737488355328))
 (Kn [(0, (.ptr 0 0)), (1, (.int .i64 (k))), (5, (.obj 1 0)), (6, (.int .i64 (IntKind.wrap IntKind.i64 (c - 1))))] [(.box [(.vec (.int .u8) (Prod.fst (smallS s))), (.int .i64 (Prod.fst (Prod.snd (smallS s)))), (.int .u64 (Prod.snd (Prod.snd (smallS s))))]), (.sl 0 (.float .f32) (xs ++ [smallV s]))])
 (False))))
 (cond (k == 10)
 (cond (k == 10)
 (cond (srcIn 6 (smallS s))
 (cond (decide ((List.length xs + 1) * 4 ≤ 140737488355328))
 (Kn [(0, (.ptr 0 0)), (1, (.int .i64 (k))), (5, (.obj 1 0)), (6, (.int .i64 (IntKind.wrap IntKind.i64 (c - 1))))] [(.box [(.vec (.int .u8) (Prod.fst (pickS (smallS s) 8))), (.int .i64 (Prod.fst (Prod.snd (pickS (smallS s) 8)))), (.int .u64 (Prod.snd (Prod.snd (pickS (smallS s) 8))))]), (.sl 0 (.float .f32) (xs ++ [fdiv FloatKind.f32 (FloatKind.nearest FloatKind.f32 (IntKind.wrap IntKind.i64 (1 + pickV (smallS s) 8))) 1082130432]))])
 (False))
 (False))
 (cond (k == 12)
 (cond (srcIn 6 (smallS s))
 (cond (decide ((List.length xs + 1) * 4 ≤ 140737488355328))
 (Kn [(0, (.ptr 0 0)), (1, (.int .i64 (k))), (5, (.obj 1 0)), (6, (.int .i64 (IntKind.wrap IntKind.i64 (c - 1))))] [(.box [(.vec (.int .u8) (Prod.fst (pickS (smallS s) 17))), (.int .i64 (Prod.fst (Prod.snd (pickS (smallS s) 17)))), (.int .u64 (Prod.snd (Prod.snd (pickS (smallS s) 17))))]), (.sl 0 (.float .f32) (xs ++ [fdiv FloatKind.f32 (FloatKind.nearest FloatKind.f32 (IntKind.wrap IntKind.i64 (pickV (smallS s) 17 - 8))) 1098907648]))])
 (False))
 (False))
 (cond (decide ((List.length xs + 1) * 4 ≤ 140737488355328))
 (Kn [(0, (.ptr 0 0)), (1, (.int .i64 (k))), (5, (.obj 1 0)), (6, (.int .i64 (IntKind.wrap IntKind.i64 (c - 1))))] [(.box [(.vec (.int .u8) (Prod.fst (smallS s))), (.int .i64 (Prod.fst (Prod.snd (smallS s)))), (.int .u64 (Prod.snd (Prod.snd (smallS s))))]), (.sl 0 (.float .f32) (xs ++ [smallV s]))])
 (False))))
 (cond (k == 11)
 (cond (k == 11)
 (cond (srcIn 6 (smallS s))
 (cond (decide ((List.length xs + 1) * 4 ≤ 140737488355328))
 (Kn [(0, (.ptr 0 0)), (1, (.int .i64 (k))), (5, (.obj 1 0)), (6, (.int .i64 (IntKind.wrap IntKind.i64 (c - 1))))] [(.box [(.vec (.int .u8) (Prod.fst (pickS (smallS s) 8))), (.int .i64 (Prod.fst (Prod.snd (pickS (smallS s) 8)))), (.int .u64 (Prod.snd (Prod.snd (pickS (smallS s) 8))))]), (.sl 0 (.float .f32) (xs ++ [fdiv FloatKind.f32 (FloatKind.nearest FloatKind.f32 (IntKind.wrap IntKind.i64 (1 + pickV (smallS s) 8))) 1082130432]))])
 (False))
 (False))
 (cond (k == 12)
 (cond (srcIn 6 (smallS s))
 (cond (decide ((List.length xs + 1) * 4 ≤ 140737488355328))
 (Kn [(0, (.ptr 0 0)), (1, (.int .i64 (k))), (5, (.obj 1 0)), (6, (.int .i64 (IntKind.wrap IntKind.i64 (c - 1))))] [(.box [(.vec (.int .u8) (Prod.fst (pickS (smallS s) 17))), (.int .i64 (Prod.fst (Prod.snd (pickS (smallS s) 17)))), (.int .u64 (Prod.snd (Prod.snd (pickS (smallS s) 17))))]), (.sl 0 (.float .f32) (xs ++ [fdiv FloatKind.f32 (FloatKind.nearest FloatKind.f32 (IntKind.wrap IntKind.i64 (pickV (smallS s) 17 - 8))) 1098907648]))])
 (False))
 (False))
 (cond (decide ((List.length xs + 1) * 4 ≤ 140737488355328))
 (Kn [(0, (.ptr 0 0)), (1, (.int .i64 (k))), (5, (.obj 1 0)), (6, (.int .i64 (IntKind.wrap IntKind.i64 (c - 1))))] [(.box [(.vec (.int .u8) (Prod.fst (smallS s))), (.int .i64 (Prod.fst (Prod.snd (smallS s)))), (.int .u64 (Prod.snd (Prod.snd (smallS s))))]), (.sl 0 (.float .f32) (xs ++ [smallV s]))])
 (False))))
 (cond (k == 14)
 (cond (srcIn 6 (smallS s))
 (cond (decide ((List.length xs + 1) * 4 ≤ 140737488355328))
 (Kn [(0, (.ptr 0 0)), (1, (.int .i64 (k))), (5, (.obj 1 0)), (6, (.int .i64 (IntKind.wrap IntKind.i64 (c - 1))))] [(.box [(.vec (.int .u8) (Prod.fst (pickS (smallS s) 8))), (.int .i64 (Prod.fst (Prod.snd (pickS (smallS s) 8)))), (.int .u64 (Prod.snd (Prod.snd (pickS (smallS s) 8))))]), (.sl 0 (.float .f32) (xs ++ [fdiv FloatKind.f32 (FloatKind.nearest FloatKind.f32 (IntKind.wrap IntKind.i64 (1 + pickV (smallS s) 8))) 1082130432]))])
 (False))
 (False))
 (cond (k == 12)
 (cond (srcIn 6 (smallS s))
 (cond (decide ((List.length xs + 1) * 4 ≤ 140737488355328))
 (Kn [(0, (.ptr 0 0)), (1, (.int .i64 (k))), (5, (.obj 1 0)), (6, (.int .i64 (IntKind.wrap IntKind.i64 (c - 1))))] [(.box [(.vec (.int .u8) (Prod.fst (pickS (smallS s) 17))), (.int .i64 (Prod.fst (Prod.snd (pickS (smallS s) 17)))), (.int .u64 (Prod.snd (Prod.snd (pickS (smallS s) 17))))]), (.sl 0 (.float .f32) (xs ++ [fdiv FloatKind.f32 (FloatKind.nearest FloatKind.f32 (IntKind.wrap IntKind.i64 (pickV (smallS s) 17 - 8))) 1098907648]))])
 (False))
 (False))
 (cond (decide ((List.length xs + 1) * 4 ≤ 140737488355328))
 (Kn [(0, (.ptr 0 0)), (1, (.int .i64 (k))), (5, (.obj 1 0)), (6, (.int .i64 (IntKind.wrap IntKind.i64 (c - 1))))] [(.box [(.vec (.int .u8) (Prod.fst (smallS s))), (.int .i64 (Prod.fst (Prod.snd (smallS s)))), (.int .u64 (Prod.snd (Prod.snd (smallS s))))]), (.sl 0 (.float .f32) (xs ++ [smallV s]))])
 (False))))))))
 (cond (k == 2)
 (cond (k == 2)
 (cond (decide ((List.length xs + 1) * 4 ≤ 140737488355328))
 (Kn [(0, (.ptr 0 0)), (1, (.int .i64 (k))), (5, (.obj 1 0)), (6, (.int .i64 (IntKind.wrap IntKind.i64 (c - 1))))] [(.box [(.vec (.int .u8) (Prod.fst (smallS s))), (.int .i64 (Prod.fst (Prod.snd (smallS s)))), (.int .u64 (Prod.snd (Prod.snd (smallS s))))]), (.sl 0 (.float .f32) (xs ++ [sizeV (smallV s)]))])
 (False))
 (cond (k == 8)
 (cond (k == 8)
 (cond (srcIn 6 (smallS s))
 (cond (decide ((List.length xs + 1) * 4 ≤ 140737488355328))
 (Kn [(0, (.ptr 0 0)), (1, (.int .i64 (k))), (5, (.obj 1 0)), (6, (.int .i64 (IntKind.wrap IntKind.i64 (c - 1))))] [(.box [(.vec (.int .u8) (Prod.fst (pickS (smallS s) 8))), (.int .i64 (Prod.fst (Prod.snd (pickS (smallS s) 8)))), (.int .u64 (Prod.snd (Prod.snd (pickS (smallS s) 8))))]), (.sl 0 (.float .f32) (xs ++ [fdiv FloatKind.f32 (FloatKind.nearest FloatKind.f32 (IntKind.wrap IntKind.i64 (1 + pickV (smallS s) 8))) 1082130432]))])
 (False))
 (False))
 (cond (k == 12)
 (cond (srcIn 6 (smallS s))
 (cond (decide ((List.length xs + 1) * 4 ≤ 140737488355328))
 (Kn [(0, (.ptr 0 0)), (1, (.int .i64 (k))), (5, (.obj 1 0)), (6, (.int .i64 (IntKind.wrap IntKind.i64 (c - 1))))] [(.box [(.vec (.int .u8) (Prod.fst (pickS (smallS s) 17))), (.int .i64 (Prod.fst (Prod.snd (pickS (smallS s) 17)))), (.int .u64 (Prod.snd (Prod.snd (pickS (smallS s) 17))))]), (.sl 0 (.float .f32) (xs ++ [fdiv FloatKind.f32 (FloatKind.nearest FloatKind.f32 (IntKind.wrap IntKind.i64 (pickV (smallS s) 17 - 8))) 1098907648]))])
 (False))
 (False))
 (cond (decide ((List.length xs + 1) * 4 ≤ 140737488355328))
 (Kn [(0, (.ptr 0 0)), (1, (.int .i64 (k))), (5, (.obj 1 0)), (6, (.int .i64 (IntKind.wrap IntKind.i64 (c - 1))))] [(.box [(.vec (.int .u8) (Prod.fst (smallS s))), (.int .i64 (Prod.fst (Prod.snd (smallS s)))), (.int .u64 (Prod.snd (Prod.snd (smallS s))))]), (.sl 0 (.float .f32) (xs ++ [smallV s]))])
 (False))))
 (cond (k == 10)
 (cond (k == 10)
 (cond (srcIn 6 (smallS s))
 (cond (decide ((List.length xs + 1) * 4 ≤ 140737488355328))
 (Kn [(0, (.ptr 0 0)), (1, (.int .i64 (k))), (5, (.obj 1 0)), (6, (.int .i64 (IntKind.wrap IntKind.i64 (c - 1))))] [(.box [(.vec (.int .u8) (Prod.fst (pickS (smallS s) 8))), (.int .i64 (Prod.fst (Prod.snd (pickS (smallS s) 8)))), (.int .u64 (Prod.snd (Prod.snd (pickS (smallS s) 8))))]), (.sl 0 (.float .f32) (xs ++ [fdiv FloatKind.f32 (FloatKind.nearest FloatKind.f32 (IntKind.wrap IntKind.i64 (1 + pickV (smallS s) 8))) 1082130432]))])
 (False))
 (False))
 (cond (k == 12)
 (cond (srcIn 6 (smallS s))
 (cond (decide ((List.length xs + 1) * 4 ≤ 140737488355328))
 (Kn [(0, (.ptr 0 0)), (1, (.int .i64 (k))), (5, (.obj 1 0)), (6, (.int .i64 (IntKind.wrap IntKind.i64 (c - 1))))] [(.box [(.vec (.int .u8) (Prod.fst (pickS (smallS s) 17))), (.int .i64 (Prod.fst (Prod.snd (pickS (smallS s) 17)))), (.int .u64 (Prod.snd (Prod.snd (pickS (smallS s) 17))))]), (.sl 0 (.float .f32) (xs ++ [fdiv FloatKind.f32 (FloatKind.nearest FloatKind.f32 (IntKind.wrap IntKind.i64 (pickV (smallS s) 17 - 8))) 1098907648]))])
 (False))
 (False))
 (cond (decide ((List.length xs + 1) * 4 ≤ 140737488355328))
 (Kn [(0, (.ptr 0 0)), (1, (.int .i64 (k))), (5, (.obj 1 0)), (6, (.int .i64 (IntKind.wrap IntKind.i64 (c - 1))))] [(.box [(.vec (.int .u8) (Prod.fst (smallS s))), (.int .i64 (Prod.fst (Prod.snd (smallS s)))), (.int .u64 (Prod.snd (Prod.snd (smallS s))))]), (.sl 0 (.float .f32) (xs ++ [smallV s]))])
 (False))))
 (cond (k == 11)
 (cond (k == 11)
 (cond (srcIn 6 (smallS s))
 (cond (decide ((List.length xs + 1) * 4 ≤ 140737488355328))
 (Kn [(0, (.ptr 0 0)), (1, (.int .i64 (k))), (5, (.obj 1 0)), (6, (.int .i64 (IntKind.wrap IntKind.i64 (c - 1))))] [(.box [(.vec (.int .u8) (Prod.fst (pickS (smallS s) 8))), (.int .i64 (Prod.fst (Prod.snd (pickS (smallS s) 8)))), (.int .u64 (Prod.snd (Prod.snd (pickS (smallS s) 8))))]), (.sl 0 (.float .f32) (xs ++ [fdiv FloatKind.f32 (FloatKind.nearest FloatKind.f32 (IntKind.wrap IntKind.i64 (1 + pickV (smallS s) 8))) 1082130432]))])
 (False))
 (False))
 (cond (k == 12)
 (cond (srcIn 6 (smallS s))
 (cond (decide ((List.length xs + 1) * 4 ≤ 140737488355328))
 (Kn [(0, (.ptr 0 0)), (1, (.int .i64 (k))), (5, (.obj 1 0)), (6, (.int .i64 (IntKind.wrap IntKind.i64 (c - 1))))] [(.box [(.vec (.int .u8) (Prod.fst (pickS (smallS s) 17))), (.int .i64 (Prod.fst (Prod.snd (pickS (smallS s) 17)))), (.int .u64 (Prod.snd (Prod.snd (pickS (smallS s) 17))))]), (.sl 0 (.float .f32) (xs ++ [fdiv FloatKind.f32 (FloatKind.nearest FloatKind.f32 (IntKind.wrap IntKind.i64 (pickV (smallS s) 17 - 8))) 1098907648]))])
 (False))
 (False))
 (cond (decide ((List.length xs + 1) * 4 ≤ 140737488355328))
 (Kn [(0, (.ptr 0 0)), (1, (.int .i64 (k))), (5, (.obj 1 0)), (6, (.int .i64 (IntKind.wrap IntKind.i64 (c - 1))))] [(.box [(.vec (.int .u8) (Prod.fst (smallS s))), (.int .i64 (Prod.fst (Prod.snd (smallS s)))), (.int .u64 (Prod.snd (Prod.snd (smallS s))))]), (.sl 0 (.float .f32) (xs ++ [smallV s]))])
 (False))))
 (cond (k == 14)
 (cond (srcIn 6 (smallS s))
 (cond (decide ((List.length xs + 1) * 4 ≤ 140737488355328))
 (Kn [(0, (.ptr 0 0)), (1, (.int .i64 (k))), (5, (.obj 1 0)), (6, (.int .i64 (IntKind.wrap IntKind.i64 (c - 1))))] [(.box [(.vec (.int .u8) (Prod.fst (pickS (smallS s) 8))), (.int .i64 (Prod.fst (Prod.snd (pickS (smallS s) 8)))), (.int .u64 (Prod.snd (Prod.snd (pickS (smallS s) 8))))]), (.sl 0 (.float .f32) (xs ++ [fdiv FloatKind.f32 (FloatKind.nearest FloatKind.f32 (IntKind.wrap IntKind.i64 (1 + pickV (smallS s) 8))) 1082130432]))])
 (False))
 (False))
 (cond (k == 12)
 (cond (srcIn 6 (smallS s))
 (cond (decide ((List.length xs + 1) * 4 ≤ 140737488355328))
 (Kn [(0, (.ptr 0 0)), (1, (.int .i64 (k))), (5, (.obj 1 0)), (6, (.int .i64 (IntKind.wrap IntKind.i64 (c - 1))))] [(.box [(.vec (.int .u8) (Prod.fst (pickS (smallS s) 17))), (.int .i64 (Prod.fst (Prod.snd (pickS (smallS s) 17)))), (.int .u64 (Prod.snd (Prod.snd (pickS (smallS s) 17))))]), (.sl 0 (.float .f32) (xs ++ [fdiv FloatKind.f32 (FloatKind.nearest FloatKind.f32 (IntKind.wrap IntKind.i64 (pickV (smallS s) 17 - 8))) 1098907648]))])
 (False))
 (False))
 (cond (decide ((List.length xs + 1) * 4 ≤ 140737488355328))
 (Kn [(0, (.ptr 0 0)), (1, (.int .i64 (k))), (5, (.obj 1 0)), (6, (.int .i64 (IntKind.wrap IntKind.i64 (c - 1))))] [(.box [(.vec (.int .u8) (Prod.fst (smallS s))), (.int .i64 (Prod.fst (Prod.snd (smallS s)))), (.int .u64 (Prod.snd (Prod.snd (smallS s))))]), (.sl 0 (.float .f32) (xs ++ [smallV s]))])
 (False))))))))
 (cond (k == 3)
 (cond (k == 3)
 (cond (decide ((List.length xs + 1) * 4 ≤ 140737488355328))
 (Kn [(0, (.ptr 0 0)), (1, (.int .i64 (k))), (5, (.obj 1 0)), (6, (.int .i64 (IntKind.wrap IntKind.i64 (c - 1))))] [(.box [(.vec (.int .u8) (Prod.fst (smallS s))), (.int .i64 (Prod.fst (Prod.snd (smallS s)))), (.int .u64 (Prod.snd (Prod.snd (smallS s))))]), (.sl 0 (.float .f32) (xs ++ [sizeV (smallV s)]))])
 (False))
 (cond (k == 8)
 (cond (k == 8)
 (cond (srcIn 6 (smallS s))
 (cond (decide ((List.length xs + 1) * 4 ≤ 140737488355328))
 (Kn [(0, (.ptr 0 0)), (1, (.int .i64 (k))), (5, (.obj 1 0)), (6, (.int .i64 (IntKind.wrap IntKind.i64 (c - 1))))] [(.box [(.vec (.int .u8) (Prod.fst (pickS (smallS s) 8))), (.int .i64 (Prod.fst (Prod.snd (pickS (smallS s) 8)))), (.int .u64 (Prod.snd (Prod.snd (pickS (smallS s) 8))))]), (.sl 0 (.float .f32) (xs ++ [fdiv FloatKind.f32 (FloatKind.nearest FloatKind.f32 (IntKind.wrap IntKind.i64 (1 + pickV (smallS s) 8))) 1082130432]))])
 (False))
 (False))
 (cond (k == 12)
 (cond (srcIn 6 (smallS s))
 (cond (decide ((List.length xs + 1) * 4 ≤ 140737488355328))
 (Kn [(0, (.ptr 0 0)), (1, (.int .i64 (k))), (5, (.obj 1 0)), (6, (.int .i64 (IntKind.wrap IntKind.i64 (c - 1))))] [(.box [(.vec (.int .u8) (Prod.fst (pickS (smallS s) 17))), (.int .i64 (Prod.fst (Prod.snd (pickS (smallS s) 17)))), (.int .u64 (Prod.snd (Prod.snd (pickS (smallS s) 17))))]), (.sl 0 (.float .f32) (xs ++ [fdiv FloatKind.f32 (FloatKind.nearest FloatKind.f32 (IntKind.wrap IntKind.i64 (pickV (smallS s) 17 - 8))) 1098907648]))])
 (False))
 (False))
 (cond (decide ((List.length xs + 1) * 4 ≤ 140737488355328))
 (Kn [(0, (.ptr 0 0)), (1, (.int .i64 (k))), (5, (.obj 1 0)), (6, (.int .i64 (IntKind.wrap IntKind.i64 (c - 1))))] [(.box [(.vec (.int .u8) (Prod.fst (smallS s))), (.int .i64 (Prod.fst (Prod.snd (smallS s)))), (.int .u64 (Prod.snd (Prod.snd (smallS s))))]), (.sl 0 (.float .f32) (xs ++ [smallV s]))])
 (False))))
 (cond (k == 10)
 (cond (k == 10)
 (cond (srcIn 6 (smallS s))
 (cond (decide ((List.length xs + 1) * 4 ≤ 140737488355328))
 (Kn [(0, (.ptr 0 0)), (1, (.int .i64 (k))), (5, (.obj 1 0)), (6, (.int .i64 (IntKind.wrap IntKind.i64 (c - 1))))] [(.box [(.vec (.int .u8) (Prod.fst (pickS (smallS s) 8))), (.int .i64 (Prod.fst (Prod.snd (pickS (smallS s) 8)))), (.int .u64 (Prod.snd (Prod.snd (pickS (smallS s) 8))))]), (.sl 0 (.float .f32) (xs ++ [fdiv FloatKind.f32 (FloatKind.nearest FloatKind.f32 (IntKind.wrap IntKind.i64 (1 + pickV (smallS s) 8))) 1082130432]))])
 (False))
 (False))
 (cond (k == 12)
 (cond (srcIn 6 (smallS s))
 (cond (decide ((List.length xs + 1) * 4 ≤ 140737488355328))
 (Kn [(0, (.ptr 0 0)), (1, (.int .i64 (k))), (5, (.obj 1 0)), (6, (.int .i64 (IntKind.wrap IntKind.i64 (c - 1))))] [(.box [(.vec (.int .u8) (Prod.fst (pickS (smallS s) 17))), (.int .i64 (Prod.fst (Prod.snd (pickS (smallS s) 17)))), (.int .u64 (Prod.snd (Prod.snd (pickS (smallS s) 17))))]), (.sl 0 (.float .f32) (xs ++ [fdiv FloatKind.f32 (FloatKind.nearest FloatKind.f32 (IntKind.wrap IntKind.i64 (pickV (smallS s) 17 - 8))) 1098907648]))])
 (False))
 (False))
 (cond (decide ((List.length xs + 1) * 4 ≤ 140737488355328))
 (Kn [(0, (.ptr 0 0)), (1, (.int .i64 (k))), (5, (.obj 1 0)), (6, (.int .i64 (IntKind.wrap IntKind.i64 (c - 1))))] [(.box [(.vec (.int .u8) (Prod.fst (smallS s))), (.int .i64 (Prod.fst (Prod.snd (smallS s)))), (.int .u64 (Prod.snd (Prod.snd (smallS s))))]), (.sl 0 (.float .f32) (xs ++ [smallV s]))])
 (False))))
 (cond (k == 11)
 (cond (k == 11)
 (cond (srcIn 6 (smallS s))
 (cond (decide ((List.length xs + 1) * 4 ≤ 140737488355328))
 (Kn [(0, (.ptr 0 0)), (1, (.int .i64 (k))), (5, (.obj 1 0)), (6, (.int .i64 (IntKind.wrap IntKind.i64 (c - 1))))] [(.box [(.vec (.int .u8) (Prod.fst (pickS (smallS s) 8))), (.int .i64 (Prod.fst (Prod.snd (pickS (smallS s) 8)))), (.int .u64 (Prod.snd (Prod.snd (pickS (smallS s) 8))))]), (.sl 0 (.float .f32) (xs ++ [fdiv FloatKind.f32 (FloatKind.nearest FloatKind.f32 (IntKind.wrap IntKind.i64 (1 + pickV (smallS s) 8))) 1082130432]))])
 (False))
 (False))
 (cond (k == 12)
 (cond (srcIn 6 (smallS s))
 (cond (decide ((List.length xs + 1) * 4 ≤ 140737488355328))
 (Kn [(0, (.ptr 0 0)), (1, (.int .i64 (k))), (5, (.obj 1 0)), (6, (.int .i64 (IntKind.wrap IntKind.i64 (c - 1))))] [(.box [(.vec (.int .u8) (Prod.fst (pickS (smallS s) 17))), (.int .i64 (Prod.fst (Prod.snd (pickS (smallS s) 17)))), (.int .u64 (Prod.snd (Prod.snd (pickS (smallS s) 17))))]), (.sl 0 (.float .f32) (xs ++ [fdiv FloatKind.f32 (FloatKind.nearest FloatKind.f32 (IntKind.wrap IntKind.i64 (pickV (smallS s) 17 - 8))) 1098907648]))])
 (False))
 (False))
 (cond (decide ((List.length xs + 1) * 4 ≤ 140737488355328))
 (Kn [(0, (.ptr 0 0)), (1, (.int .i64 (k))), (5, (.obj 1 0)), (6, (.int .i64 (IntKind.wrap IntKind.i64 (c - 1))))] [(.box [(.vec (.int .u8) (Prod.fst (smallS s))), (.int .i64 (Prod.fst (Prod.snd (smallS s)))), (.int .u64 (Prod.snd (Prod.snd (smallS s))))]), (.sl 0 (.float .f32) (xs ++ [smallV s]))])
 (False))))
 (cond (k == 14)
 (cond (srcIn 6 (smallS s))
 (cond (decide ((List.length xs + 1) * 4 ≤ 140737488355328))
 (Kn [(0, (.ptr 0 0)), (1, (.int .i64 (k))), (5, (.obj 1 0)), (6, (.int .i64 (IntKind.wrap IntKind.i64 (c - 1))))] [(.box [(.vec (.int .u8) (Prod.fst (pickS (smallS s) 8))), (.int .i64 (Prod.fst (Prod.snd (pickS (smallS s) 8)))), (.int .u64 (Prod.snd (Prod.snd (pickS (smallS s) 8))))]), (.sl 0 (.float .f32) (xs ++ [fdiv FloatKind.f32 (FloatKind.nearest FloatKind.f32 (IntKind.wrap IntKind.i64 (1 + pickV (smallS s) 8))) 1082130432]))])
 (False))
 (False))
 (cond (k == 12)
 (cond (srcIn 6 (smallS s))
 (cond (decide ((List.length xs + 1) * 4 ≤ 140737488355328))
 (Kn [(0, (.ptr 0 0)), (1, (.int .i64 (k))), (5, (.obj 1 0)), (6, (.int .i64 (IntKind.wrap IntKind.i64 (c - 1))))] [(.box [(.vec (.int .u8) (Prod.fst (pickS (smallS s) 17))), (.int .i64 (Prod.fst (Prod.snd (pickS (smallS s) 17)))), (.int .u64 (Prod.snd (Prod.snd (pickS (smallS s) 17))))]), (.sl 0 (.float .f32) (xs ++ [fdiv FloatKind.f32 (FloatKind.nearest FloatKind.f32 (IntKind.wrap IntKind.i64 (pickV (smallS s) 17 - 8))) 1098907648]))])
 (False))
 (False))
 (cond (decide ((List.length xs + 1) * 4 ≤ 140737488355328))
 (Kn [(0, (.ptr 0 0)), (1, (.int .i64 (k))), (5, (.obj 1 0)), (6, (.int .i64 (IntKind.wrap IntKind.i64 (c - 1))))] [(.box [(.vec (.int .u8) (Prod.fst (smallS s))), (.int .i64 (Prod.fst (Prod.snd (smallS s)))), (.int .u64 (Prod.snd (Prod.snd (smallS s))))]), (.sl 0 (.float .f32) (xs ++ [smallV s]))])
 (False))))))))
 (cond (k == 16)
 (cond (decide ((List.length xs + 1) * 4 ≤ 140737488355328))
 (Kn [(0, (.ptr 0 0)), (1, (.int .i64 (k))), (5, (.obj 1 0)), (6, (.int .i64 (IntKind.wrap IntKind.i64 (c - 1))))] [(.box [(.vec (.int .u8) (Prod.fst (smallS s))), (.int .i64 (Prod.fst (Prod.snd (smallS s)))), (.int .u64 (Prod.snd (Prod.snd (smallS s))))]), (.sl 0 (.float .f32) (xs ++ [sizeV (smallV s)]))])
 (False))
 (cond (k == 8)
 (cond (k == 8)
 (cond (srcIn 6 (smallS s))
 (cond (decide ((List.length xs + 1) * 4 ≤ 140737488355328))
 (Kn [(0, (.ptr 0 0)), (1, (.int .i64 (k))), (5, (.obj 1 0)), (6, (.int .i64 (IntKind.wrap IntKind.i64 (c - 1))))] [(.box [(.vec (.int .u8) (Prod.fst (pickS (smallS s) 8))), (.int .i64 (Prod.fst (Prod.snd (pickS (smallS s) 8)))), (.int .u64 (Prod.snd (Prod.snd (pickS (smallS s) 8))))]), (.sl 0 (.float .f32) (xs ++ [fdiv FloatKind.f32 (FloatKind.nearest FloatKind.f32 (IntKind.wrap IntKind.i64 (1 + pickV (smallS s) 8))) 1082130432]))])
 (False))
 (False))
 (cond (k == 12)
 (cond (srcIn 6 (smallS s))
 (cond (decide ((List.length xs + 1) * 4 ≤ 140737488355328))
 (Kn [(0, (.ptr 0 0)), (1, (.int .i64 (k))), (5, (.obj 1 0)), (6, (.int .i64 (IntKind.wrap IntKind.i64 (c - 1))))] [(.box [(.vec (.int .u8) (Prod.fst (pickS (smallS s) 17))), (.int .i64 (Prod.fst (Prod.snd (pickS (smallS s) 17)))), (.int .u64 (Prod.snd (Prod.snd (pickS (smallS s) 17))))]), (.sl 0 (.float .f32) (xs ++ [fdiv FloatKind.f32 (FloatKind.nearest FloatKind.f32 (IntKind.wrap IntKind.i64 (pickV (smallS s) 17 - 8))) 1098907648]))])
 (False))
 (False))
 (cond (decide ((List.length xs + 1) * 4 ≤ 140737488355328))
 (Kn [(0, (.ptr 0 0)), (1, (.int .i64 (k))), (5, (.obj 1 0)), (6, (.int .i64 (IntKind.wrap IntKind.i64 (c - 1))))] [(.box [(.vec (.int .u8) (Prod.fst (smallS s))), (.int .i64 (Prod.fst (Prod.snd (smallS s)))), (.int .u64 (Prod.snd (Prod.snd (smallS s))))]), (.sl 0 (.float .f32) (xs ++ [smallV s]))])
 (False))))
 (cond (k == 10)
 (cond (k == 10)
 (cond (srcIn 6 (smallS s))
 (cond (decide ((List.length xs + 1) * 4 ≤ 140737488355328))
 (Kn [(0, (.ptr 0 0)), (1, (.int .i64 (k))), (5, (.obj 1 0)), (6, (.int .i64 (IntKind.wrap IntKind.i64 (c - 1))))] [(.box [(.vec (.int .u8) (Prod.fst (pickS (smallS s) 8))), (.int .i64 (Prod.fst (Prod.snd (pickS (smallS s) 8)))), (.int .u64 (Prod.snd (Prod.snd (pickS (smallS s) 8))))]), (.sl 0 (.float .f32) (xs ++ [fdiv FloatKind.f32 (FloatKind.nearest FloatKind.f32 (IntKind.wrap IntKind.i64 (1 + pickV (smallS s) 8))) 1082130432]))])
 (False))
 (False))
 (cond (k == 12)
 (cond (srcIn 6 (smallS s))
 (cond (decide ((List.length xs + 1) * 4 ≤ 140737488355328))
 (Kn [(0, (.ptr 0 0)), (1, (.int .i64 (k))), (5, (.obj 1 0)), (6, (.int .i64 (IntKind.wrap IntKind.i64 (c - 1))))] [(.box [(.vec (.int .u8) (Prod.fst (pickS (smallS s) 17))), (.int .i64 (Prod.fst (Prod.snd (pickS (smallS s) 17)))), (.int .u64 (Prod.snd (Prod.snd (pickS (smallS s) 17))))]), (.sl 0 (.float .f32) (xs ++ [fdiv FloatKind.f32 (FloatKind.nearest FloatKind.f32 (IntKind.wrap IntKind.i64 (pickV (smallS s) 17 - 8))) 1098907648]))])
 (False))
 (False))
 (cond (decide ((List.length xs + 1) * 4 ≤ 140737488355328))
 (Kn [(0, (.ptr 0 0)), (1, (.int .i64 (k))), (5, (.obj 1 0)), (6, (.int .i64 (IntKind.wrap IntKind.i64 (c - 1))))] [(.box [(.vec (.int .u8) (Prod.fst (smallS s))), (.int .i64 (Prod.fst (Prod.snd (smallS s)))), (.int .u64 (Prod.snd (Prod.snd (smallS s))))]), (.sl 0 (.float .f32) (xs ++ [smallV s]))])
 (False))))
 (cond (k == 11)
 (cond (k == 11)
 (cond (srcIn 6 (smallS s))
 (cond (decide ((List.length xs + 1) * 4 ≤ 140737488355328))
 (Kn [(0, (.ptr 0 0)), (1, (.int .i64 (k))), (5, (.obj 1 0)), (6, (.int .i64 (IntKind.wrap IntKind.i64 (c - 1))))] [(.box [(.vec (.int .u8) (Prod.fst (pickS (smallS s) 8))), (.int .i64 (Prod.fst (Prod.snd (pickS (smallS s) 8)))), (.int .u64 (Prod.snd (Prod.snd (pickS (smallS s) 8))))]), (.sl 0 (.float .f32) (xs ++ [fdiv FloatKind.f32 (FloatKind.nearest FloatKind.f32 (IntKind.wrap IntKind.i64 (1 + pickV (smallS s) 8))) 1082130432]))])
 (False))
 (False))
 (cond (k == 12)
 (cond (srcIn 6 (smallS s))
 (cond (decide ((List.length xs + 1) * 4 ≤ 140737488355328))
 (Kn [(0, (.ptr 0 0)), (1, (.int .i64 (k))), (5, (.obj 1 0)), (6, (.int .i64 (IntKind.wrap IntKind.i64 (c - 1))))] [(.box [(.vec (.int .u8) (Prod.fst (pickS (smallS s) 17))), (.int .i64 (Prod.fst (Prod.snd (pickS (smallS s) 17)))), (.int .u64 (Prod.snd (Prod.snd (pickS (smallS s) 17))))]), (.sl 0 (.float .f32) (xs ++ [fdiv FloatKind.f32 (FloatKind.nearest FloatKind.f32 (IntKind.wrap IntKind.i64 (pickV (smallS s) 17 - 8))) 1098907648]))])
 (False))
 (False))
 (cond (decide ((List.length xs + 1) * 4 ≤ 140737488355328))
 (Kn [(0, (.ptr 0 0)), (1, (.int .i64 (k))), (5, (.obj 1 0)), (6, (.int .i64 (IntKind.wrap IntKind.i64 (c - 1))))] [(.box [(.vec (.int .u8) (Prod.fst (smallS s))), (.int .i64 (Prod.fst (Prod.snd (smallS s)))), (.int .u64 (Prod.snd (Prod.snd (smallS s))))]), (.sl 0 (.float .f32) (xs ++ [smallV s]))])
 (False))))
 (cond (k == 14)
 (cond (srcIn 6 (smallS s))
 (cond (decide ((List.length xs + 1) * 4 ≤ 140737488355328))
 (Kn [(0, (.ptr 0 0)), (1, (.int .i64 (k))), (5, (.obj 1 0)), (6, (.int .i64 (IntKind.wrap IntKind.i64 (c - 1))))] [(.box [(.vec (.int .u8) (Prod.fst (pickS (smallS s) 8))), (.int .i64 (Prod.fst (Prod.snd (pickS (smallS s) 8)))), (.int .u64 (Prod.snd (Prod.snd (pickS (smallS s) 8))))]), (.sl 0 (.float .f32) (xs ++ [fdiv FloatKind.f32 (FloatKind.nearest FloatKind.f32 (IntKind.wrap IntKind.i64 (1 + pickV (smallS s) 8))) 1082130432]))])
 (False))
 (False))
 (cond (k == 12)
 (cond (srcIn 6 (smallS s))
 (cond (decide ((List.length xs + 1) * 4 ≤ 140737488355328))
 (Kn [(0, (.ptr 0 0)), (1, (.int .i64 (k))), (5, (.obj 1 0)), (6, (.int .i64 (IntKind.wrap IntKind.i64 (c - 1))))] [(.box [(.vec (.int .u8) (Prod.fst (pickS (smallS s) 17))), (.int .i64 (Prod.fst (Prod.snd (pickS (smallS s) 17)))), (.int .u64 (Prod.snd (Prod.snd (pickS (smallS s) 17))))]), (.sl 0 (.float .f32) (xs ++ [fdiv FloatKind.f32 (FloatKind.nearest FloatKind.f32 (IntKind.wrap IntKind.i64 (pickV (smallS s) 17 - 8))) 1098907648]))])
 (False))
 (False))
 (cond (decide ((List.length xs + 1) * 4 ≤ 140737488355328))
 (Kn [(0, (.ptr 0 0)), (1, (.int .i64 (k))), (5, (.obj 1 0)), (6, (.int .i64 (IntKind.wrap IntKind.i64 (c - 1))))] [(.box [(.vec (.int .u8) (Prod.fst (smallS s))), (.int .i64 (Prod.fst (Prod.snd (smallS s)))), (.int .u64 (Prod.snd (Prod.snd (smallS s))))]), (.sl 0 (.float .f32) (xs ++ [smallV s]))])
 (False))))))))))))
 (False))
 (K (.obj 1 0) [(.box [(.vec (.int .u8) (Prod.fst s)), (.int .i64 (Prod.fst (Prod.snd s))), (.int .u64 (Prod.snd (Prod.snd s)))]), (.sl 0 (.float .f32) (xs))]) := by kernel_rfl
theorem w_spec_l02DrawNumbers (s : SrcD) (k : Int) (K : V → Heap → Prop) : wpFnG gp_spec_l02DrawNumbers c_spec_l02DrawNumbers Try.f159 (.ptr 0 0 :: encAs [.cell tI] (k, ())) [.box (enc tSrc s)] K =
 LoopE c_spec_l02DrawNumbers ⟨[0, 1, 5, 6], 1, true⟩ (lb c_spec_l02DrawNumbers 3 Try.f159) [(0, (.ptr 0 0)), (1, (.int .i64 (k))), (5, (.obj 1 0)), (6, (.int .i64 (kindN k)))] [(.box [(.vec (.int .u8) (Prod.fst s)), (.int .i64 (Prod.fst (Prod.snd s))), (.int .u64 (Prod.snd (Prod.snd s)))]), (.sl 0 (.float .f32) ([]))] (lkG gp_spec_l02DrawNumbers c_spec_l02DrawNumbers 3 Try.f159 [.box []] K) := by kernel_rfl
noncomputable def s_spec_l02DrawNumbers : Sm := semPG tSrc [.cell tI] [.cell (.own tF)] (fun s x => match x with | (k, _) => inS 900000 s && isK k) fun s x => match x with | (k, _) => ((numsV k s, ()), numsS k s)
theorem ok_spec_l02DrawNumbers : FnOkL Try.prog 159 s_spec_l02DrawNumbers := fnOkO_boxg (fnOkO_runG (C := c_spec_l02DrawNumbers) gp_spec_l02DrawNumbers rfl mixed (.cons ok_spec_l02Size (.cons ok_spec_l02Count .nil)) .nil (.cons ok_spec_l01DrawSmall (.cons ok_spec_l00Src_pick .nil)) Try.func159 (by kernel_rfl)) rfl fun (s : SrcD) (x : ((Int) × Unit)) ws wf hg K h => by
  obtain ⟨k, ⟨⟩⟩ := x
  replace hg : (inS 900000 s && isK k) = true := hg
  replace h : K (tup (valRs [.cell (.own tF)] ((numsV k s, ())) 1)) (.box (enc tSrc (numsS k s)) :: thRs [.cell (.own tF)] ((numsV k s, ()))) := h
  rw [w_spec_l02DrawNumbers s k K]
  simp only [Bool.and_eq_true] at hg
  obtain ⟨hs, hk⟩ := hg
  have kr := kindN_ok k
  have hb : bytes s.1 := bytes_of ws.1
  unfold numsV numsS at h
  obtain ⟨m, hm⟩ : ∃ m : Nat, kindN k = m := ⟨(kindN k).toNat, by omega⟩
  rw [hm, Int.toNat_natCast] at h
  rw [hm] at kr ⊢
  refine loop_run (σ := Nat × SrcD × List Nat) (fun r => fr_spec_l02DrawNumbers_3 s k r.1 []) (fun r => hp_spec_l02DrawNumbers_3 r.2.1 k r.1 r.2.2) (fun r => r.2.2.length + r.1 = m ∧ Far s r.2.1 (4 * (m - r.1 : Nat)) ∧ r.2.2 ++ nusL k r.1 r.2.1 = nusL k m s ∧ nusN k r.1 r.2.1 = nusN k m s) (fun r => r.1) ?_ (m, s, []) ⟨by simp, by simp only [Nat.sub_self]; exact Far.refl s, rfl, rfl⟩
  rintro ⟨j, u, xs⟩ ⟨hl, hf, h1, h2⟩ Kn hk3
  simp only at hl hf h1 h2 hk3 ⊢
  rw [show fr_spec_l02DrawNumbers_3 s k j [] = fr_spec_l02DrawNumbers_3 u k j xs from rfl, r_spec_l02DrawNumbers_3 u k j xs Kn K]
  rw [← h1, ← h2] at h
  cases j with
  | zero =>
    rw [d_f (show ¬ ((0 : Nat) : Int) > 0 by omega), cond_false]
    simp only [nusL, nusN, List.append_nil] at h
    exact h
  | succ j =>
    have hk1 := hk3 (j, nuS k u, xs ++ [nuV k u])
    simp only [nusL, nusN] at h1 h2
    have bu : bytes u.1 := hf.bytes hb
    have b1 := (far_small u).bytes bu
    have f1 : inS 1000000 u = true := hf.ok hs (by omega)
    have f2 : inS 1000000 (smallS u) = true := (hf.trans (far_small u)).ok hs (by omega)
    have r8 := pickV_range (s := smallS u) b1 (n := 8) (by omega)
    have r17 := pickV_range (s := smallS u) b1 (n := 17) (by omega)
    have hnext := hk1 ⟨by simp only [List.length_append, List.length_cons, List.length_nil]; omega, (hf.trans (far_nu k u)).mono (by omega), by rw [List.append_assoc]; exact h1, h2⟩ (by simp only; omega)
    simp only at hnext
    have hcap : decide ((xs.length + 1) * 4 ≤ 140737488355328) = true := decide_eq_true (by omega)
    have g2 : srcIn 6 (smallS u) = true := inS_src f2 (by omega) 6 (by omega)
    rw [d_t (show ((j + 1 : Nat) : Int) > 0 by omega), cond_true, f1, cond_true]
    rw [i64_of (n := ((j + 1 : Nat) : Int) - 1) (by omega) (by omega), show ((j + 1 : Nat) : Int) - 1 = (j : Int) by omega, i64_of (n := 1 + pickV (smallS u) 8) (by omega) (by omega), i64_of (n := pickV (smallS u) 17 - 8) (by omega) (by omega), hcap, g2]
    clear hk1 hk3 h1 h2 h hl hf hcap g2 f1 f2 hm
    rcases kinds hk with r | r | r | r | r | r | r | r | r | r | r | r | r | r | r | r | r <;> subst r <;> exact hnext

theorem node_two {f : List Int} {s : SrcD} (h2 : 2 ≤ f.length) (e : (pickV (pickS s 5) 2 == 0) = true) : nodeV f s = (5 + pickV (pickS (pickS s 5) 2) 4, at2 f 2, at2 f 1, numsV (5 + pickV (pickS (pickS s 5) 2) 4) (pickS (pickS (pickS s 5) 2) 4)) ∧
    nodeS f s = numsS (5 + pickV (pickS (pickS s 5) 2) 4) (pickS (pickS (pickS s 5) 2) 4) ∧ usedV f s = 2 := by
  have hn : dn2 f s = true := by unfold dn2; rw [d_t h2, e]; rfl
  have h1 : dnS1 f s = pickS (pickS s 5) 2 := by unfold dnS1; rw [d_t h2]; rfl
  unfold nodeV nodeS usedV dnA dnB dnT dnK
  rw [hn, h1]
  exact ⟨rfl, rfl, rfl⟩
theorem node_one {f : List Int} {s t : SrcD} (hn : dn2 f s = false) (ht : dnS1 f s = t) (h1 : 1 ≤ f.length) (e : (pickV t 2 == 0) = true) : nodeV f s = (9 + pickV (pickS t 2) 8, at2 f 1, (bif inR (9 + pickV (pickS t 2) 8) 12 14 then pickV (pickS (pickS t 2) 8) 3 else 0), numsV (9 + pickV (pickS t 2) 8) (bif inR (9 + pickV (pickS t 2) 8) 12 14 then pickS (pickS (pickS t 2) 8) 3 else pickS (pickS t 2) 8)) ∧
    nodeS f s = numsS (9 + pickV (pickS t 2) 8) (bif inR (9 + pickV (pickS t 2) 8) 12 14 then pickS (pickS (pickS t 2) 8) 3 else pickS (pickS t 2) 8) ∧ usedV f s = 1 := by
  have hn1 : dn1 f s = true := by unfold dn1; rw [d_t h1, ht, e]; rfl
  have h2 : dnS2 f s = pickS t 2 := by unfold dnS2; rw [d_t h1, ht]; rfl
  have hk : dnK f s = 9 + pickV (pickS t 2) 8 := by unfold dnK; rw [hn, hn1, h2]; rfl
  unfold nodeV nodeS usedV dnA dnB dnT dnX
  rw [hk, hn, hn1, h2]
  exact ⟨rfl, rfl, rfl⟩
theorem node_leaf {f : List Int} {s t : SrcD} (hn : dn2 f s = false) (hn1 : dn1 f s = false) (ht : dnS2 f s = t) : nodeV f s = (pickV s 5, 0, 0, numsV (pickV s 5) t) ∧ nodeS f s = numsS (pickV s 5) t ∧ usedV f s = 0 := by
  have hk : dnK f s = pickV s 5 := by unfold dnK; rw [hn, hn1]; rfl
  unfold nodeV nodeS usedV dnA dnB dnT dnX
  rw [hk, hn, hn1, ht]
  exact ⟨rfl, rfl, rfl⟩

noncomputable def c_spec_l02DrawNode : Ctx := mkC Try.prog tyT [(158, s_spec_l02Axis)] [] [(70, s_spec_l00Src_pick), (127, s_spec_l00Src_one), (159, s_spec_l02DrawNumbers)] 69 (fun _ => none) 1
noncomputable def gp_spec_l02DrawNode : List (List (Option Ty)) := List.map giveR [.agg [.imm tN], .cell (.imm tI)]
theorem w_spec_l02DrawNode (s : SrcD) (f : List Int) (K : V → Heap → Prop) : wpFnG gp_spec_l02DrawNode c_spec_l02DrawNode Try.f133 (.ptr 0 0 :: encAs [.cell (.slice tI)] (f, ())) [.box (enc tSrc s)] K =
  cond (srcIn 6 s)
    (cond (decide ((↑(List.length f) : Int) ≥ 2))
      (cond (srcIn 6 (pickS s 5))
        (cond (pickV (pickS s 5) 2 == 0)
          (cond (srcIn 6 (pickS (pickS s 5) 2))
            (cond (decide (0 ≤ IntKind.wrap IntKind.i64 ((↑(List.length f) : Int) - 2)))
              ((match f[Int.toNat (IntKind.wrap IntKind.i64 ((↑(List.length f) : Int) - 2))]? with
                | some y0 => cond (decide (0 ≤ IntKind.wrap IntKind.i64 ((↑(List.length f) : Int) - 1)))
                  ((match f[Int.toNat (IntKind.wrap IntKind.i64 ((↑(List.length f) : Int) - 1))]? with
                    | some y1 => cond (inS 900000 (pickS (pickS (pickS s 5) 2) 4) && isK (IntKind.wrap IntKind.i64 (5 + pickV (pickS (pickS s 5) 2) 4)))
                      (K (.tuple [(.agg [(.int .i64 (IntKind.wrap IntKind.i64 (5 + pickV (pickS (pickS s 5) 2) 4))), (.int .i64 (y0)), (.int .i64 (y1)), (.vec (.float .f32) (numsV (IntKind.wrap IntKind.i64 (5 + pickV (pickS (pickS s 5) 2) 4)) (pickS (pickS (pickS s 5) 2) 4)))]), (.int .i64 2)]) [(.box [(.vec (.int .u8) (Prod.fst (numsS (IntKind.wrap IntKind.i64 (5 + pickV (pickS (pickS s 5) 2) 4)) (pickS (pickS (pickS s 5) 2) 4)))), (.int .i64 (Prod.fst (Prod.snd (numsS (IntKind.wrap IntKind.i64 (5 + pickV (pickS (pickS s 5) 2) 4)) (pickS (pickS (pickS s 5) 2) 4))))), (.int .u64 (Prod.snd (Prod.snd (numsS (IntKind.wrap IntKind.i64 (5 + pickV (pickS (pickS s 5) 2) 4)) (pickS (pickS (pickS s 5) 2) 4)))))])])
                      (False)
                    | none => False))
                  (False)
                | none => False))
              (False))
            (False))
          (cond (decide ((↑(List.length f) : Int) ≥ 1))
            (cond (srcIn 6 (pickS (pickS s 5) 2))
              (cond (pickV (pickS (pickS s 5) 2) 2 == 0)
                (cond (srcIn 6 (pickS (pickS (pickS s 5) 2) 2))
                  (cond (decide (0 ≤ IntKind.wrap IntKind.i64 ((↑(List.length f) : Int) - 1)))
                    ((match f[Int.toNat (IntKind.wrap IntKind.i64 ((↑(List.length f) : Int) - 1))]? with
                      | some y2 => cond (inR (IntKind.wrap IntKind.i64 (9 + pickV (pickS (pickS (pickS s 5) 2) 2) 8)) 12 14)
                        (cond (srcIn 6 (pickS (pickS (pickS (pickS s 5) 2) 2) 8))
                          (cond (inS 900000 (pickS (pickS (pickS (pickS (pickS s 5) 2) 2) 8) 3) && isK (IntKind.wrap IntKind.i64 (9 + pickV (pickS (pickS (pickS s 5) 2) 2) 8)))
                            (K (.tuple [(.agg [(.int .i64 (IntKind.wrap IntKind.i64 (9 + pickV (pickS (pickS (pickS s 5) 2) 2) 8))), (.int .i64 (y2)), (.int .i64 (pickV (pickS (pickS (pickS (pickS s 5) 2) 2) 8) 3)), (.vec (.float .f32) (numsV (IntKind.wrap IntKind.i64 (9 + pickV (pickS (pickS (pickS s 5) 2) 2) 8)) (pickS (pickS (pickS (pickS (pickS s 5) 2) 2) 8) 3)))]), (.int .i64 1)]) [(.box [(.vec (.int .u8) (Prod.fst (numsS (IntKind.wrap IntKind.i64 (9 + pickV (pickS (pickS (pickS s 5) 2) 2) 8)) (pickS (pickS (pickS (pickS (pickS s 5) 2) 2) 8) 3)))), (.int .i64 (Prod.fst (Prod.snd (numsS (IntKind.wrap IntKind.i64 (9 + pickV (pickS (pickS (pickS s 5) 2) 2) 8)) (pickS (pickS (pickS (pickS (pickS s 5) 2) 2) 8) 3))))), (.int .u64 (Prod.snd (Prod.snd (numsS (IntKind.wrap IntKind.i64 (9 + pickV (pickS (pickS (pickS s 5) 2) 2) 8)) (pickS (pickS (pickS (pickS (pickS s 5) 2) 2) 8) 3)))))])])
                            (False))
                          (False))
                        (cond (inS 900000 (pickS (pickS (pickS (pickS s 5) 2) 2) 8) && isK (IntKind.wrap IntKind.i64 (9 + pickV (pickS (pickS (pickS s 5) 2) 2) 8)))
                          (K (.tuple [(.agg [(.int .i64 (IntKind.wrap IntKind.i64 (9 + pickV (pickS (pickS (pickS s 5) 2) 2) 8))), (.int .i64 (y2)), (.int .i64 0), (.vec (.float .f32) (numsV (IntKind.wrap IntKind.i64 (9 + pickV (pickS (pickS (pickS s 5) 2) 2) 8)) (pickS (pickS (pickS (pickS s 5) 2) 2) 8)))]), (.int .i64 1)]) [(.box [(.vec (.int .u8) (Prod.fst (numsS (IntKind.wrap IntKind.i64 (9 + pickV (pickS (pickS (pickS s 5) 2) 2) 8)) (pickS (pickS (pickS (pickS s 5) 2) 2) 8)))), (.int .i64 (Prod.fst (Prod.snd (numsS (IntKind.wrap IntKind.i64 (9 + pickV (pickS (pickS (pickS s 5) 2) 2) 8)) (pickS (pickS (pickS (pickS s 5) 2) 2) 8))))), (.int .u64 (Prod.snd (Prod.snd (numsS (IntKind.wrap IntKind.i64 (9 + pickV (pickS (pickS (pickS s 5) 2) 2) 8)) (pickS (pickS (pickS (pickS s 5) 2) 2) 8)))))])])
                          (False))
                      | none => False))
                    (False))
                  (False))
                (cond (inS 900000 (pickS (pickS (pickS s 5) 2) 2) && isK (pickV s 5))
                  (K (.tuple [(.agg [(.int .i64 (pickV s 5)), (.int .i64 0), (.int .i64 0), (.vec (.float .f32) (numsV (pickV s 5) (pickS (pickS (pickS s 5) 2) 2)))]), (.int .i64 0)]) [(.box [(.vec (.int .u8) (Prod.fst (numsS (pickV s 5) (pickS (pickS (pickS s 5) 2) 2)))), (.int .i64 (Prod.fst (Prod.snd (numsS (pickV s 5) (pickS (pickS (pickS s 5) 2) 2))))), (.int .u64 (Prod.snd (Prod.snd (numsS (pickV s 5) (pickS (pickS (pickS s 5) 2) 2)))))])])
                  (False)))
              (False))
            (cond (inS 900000 (pickS (pickS s 5) 2) && isK (pickV s 5))
              (K (.tuple [(.agg [(.int .i64 (pickV s 5)), (.int .i64 0), (.int .i64 0), (.vec (.float .f32) (numsV (pickV s 5) (pickS (pickS s 5) 2)))]), (.int .i64 0)]) [(.box [(.vec (.int .u8) (Prod.fst (numsS (pickV s 5) (pickS (pickS s 5) 2)))), (.int .i64 (Prod.fst (Prod.snd (numsS (pickV s 5) (pickS (pickS s 5) 2))))), (.int .u64 (Prod.snd (Prod.snd (numsS (pickV s 5) (pickS (pickS s 5) 2)))))])])
              (False))))
        (False))
      (cond (decide ((↑(List.length f) : Int) ≥ 1))
        (cond (srcIn 6 (pickS s 5))
          (cond (pickV (pickS s 5) 2 == 0)
            (cond (srcIn 6 (pickS (pickS s 5) 2))
              (cond (decide (0 ≤ IntKind.wrap IntKind.i64 ((↑(List.length f) : Int) - 1)))
                ((match f[Int.toNat (IntKind.wrap IntKind.i64 ((↑(List.length f) : Int) - 1))]? with
                  | some y3 => cond (inR (IntKind.wrap IntKind.i64 (9 + pickV (pickS (pickS s 5) 2) 8)) 12 14)
                    (cond (srcIn 6 (pickS (pickS (pickS s 5) 2) 8))
                      (cond (inS 900000 (pickS (pickS (pickS (pickS s 5) 2) 8) 3) && isK (IntKind.wrap IntKind.i64 (9 + pickV (pickS (pickS s 5) 2) 8)))
                        (K (.tuple [(.agg [(.int .i64 (IntKind.wrap IntKind.i64 (9 + pickV (pickS (pickS s 5) 2) 8))), (.int .i64 (y3)), (.int .i64 (pickV (pickS (pickS (pickS s 5) 2) 8) 3)), (.vec (.float .f32) (numsV (IntKind.wrap IntKind.i64 (9 + pickV (pickS (pickS s 5) 2) 8)) (pickS (pickS (pickS (pickS s 5) 2) 8) 3)))]), (.int .i64 1)]) [(.box [(.vec (.int .u8) (Prod.fst (numsS (IntKind.wrap IntKind.i64 (9 + pickV (pickS (pickS s 5) 2) 8)) (pickS (pickS (pickS (pickS s 5) 2) 8) 3)))), (.int .i64 (Prod.fst (Prod.snd (numsS (IntKind.wrap IntKind.i64 (9 + pickV (pickS (pickS s 5) 2) 8)) (pickS (pickS (pickS (pickS s 5) 2) 8) 3))))), (.int .u64 (Prod.snd (Prod.snd (numsS (IntKind.wrap IntKind.i64 (9 + pickV (pickS (pickS s 5) 2) 8)) (pickS (pickS (pickS (pickS s 5) 2) 8) 3)))))])])
                        (False))
                      (False))
                    (cond (inS 900000 (pickS (pickS (pickS s 5) 2) 8) && isK (IntKind.wrap IntKind.i64 (9 + pickV (pickS (pickS s 5) 2) 8)))
                      (K (.tuple [(.agg [(.int .i64 (IntKind.wrap IntKind.i64 (9 + pickV (pickS (pickS s 5) 2) 8))), (.int .i64 (y3)), (.int .i64 0), (.vec (.float .f32) (numsV (IntKind.wrap IntKind.i64 (9 + pickV (pickS (pickS s 5) 2) 8)) (pickS (pickS (pickS s 5) 2) 8)))]), (.int .i64 1)]) [(.box [(.vec (.int .u8) (Prod.fst (numsS (IntKind.wrap IntKind.i64 (9 + pickV (pickS (pickS s 5) 2) 8)) (pickS (pickS (pickS s 5) 2) 8)))), (.int .i64 (Prod.fst (Prod.snd (numsS (IntKind.wrap IntKind.i64 (9 + pickV (pickS (pickS s 5) 2) 8)) (pickS (pickS (pickS s 5) 2) 8))))), (.int .u64 (Prod.snd (Prod.snd (numsS (IntKind.wrap IntKind.i64 (9 + pickV (pickS (pickS s 5) 2) 8)) (pickS (pickS (pickS s 5) 2) 8)))))])])
                      (False))
                  | none => False))
                (False))
              (False))
            (cond (inS 900000 (pickS (pickS s 5) 2) && isK (pickV s 5))
              (K (.tuple [(.agg [(.int .i64 (pickV s 5)), (.int .i64 0), (.int .i64 0), (.vec (.float .f32) (numsV (pickV s 5) (pickS (pickS s 5) 2)))]), (.int .i64 0)]) [(.box [(.vec (.int .u8) (Prod.fst (numsS (pickV s 5) (pickS (pickS s 5) 2)))), (.int .i64 (Prod.fst (Prod.snd (numsS (pickV s 5) (pickS (pickS s 5) 2))))), (.int .u64 (Prod.snd (Prod.snd (numsS (pickV s 5) (pickS (pickS s 5) 2)))))])])
              (False)))
          (False))
        (cond (inS 900000 (pickS s 5) && isK (pickV s 5))
          (K (.tuple [(.agg [(.int .i64 (pickV s 5)), (.int .i64 0), (.int .i64 0), (.vec (.float .f32) (numsV (pickV s 5) (pickS s 5)))]), (.int .i64 0)]) [(.box [(.vec (.int .u8) (Prod.fst (numsS (pickV s 5) (pickS s 5)))), (.int .i64 (Prod.fst (Prod.snd (numsS (pickV s 5) (pickS s 5))))), (.int .u64 (Prod.snd (Prod.snd (numsS (pickV s 5) (pickS s 5)))))])])
          (False))))
    (False) := by kernel_rfl
noncomputable def s_spec_l02DrawNode : Sm := semPG tSrc [.cell (.slice tI)] [.agg [.imm tN], .cell (.imm tI)] (fun s x => match x with | (f, _) => inS 800000 s) fun s x => match x with | (f, _) => (((nodeV f s, ()), usedV f s, ()), nodeS f s)
theorem ok_spec_l02DrawNode : FnOkL Try.prog 133 s_spec_l02DrawNode := fnOkO_boxg (fnOkO_runG (C := c_spec_l02DrawNode) gp_spec_l02DrawNode rfl mixed (.cons ok_spec_l02Axis .nil) .nil (.cons ok_spec_l00Src_pick (.cons ok_spec_l00Src_one (.cons ok_spec_l02DrawNumbers .nil))) Try.func133 (by kernel_rfl)) rfl fun (s : SrcD) (x : ((List Int) × Unit)) ws wf hg K h => by
  obtain ⟨f, ⟨⟩⟩ := x
  replace hg : (inS 800000 s) = true := hg
  replace h : K (tup (valRs [.agg [.imm tN], .cell (.imm tI)] (((nodeV f s, ()), usedV f s, ())) 1)) (.box (enc tSrc (nodeS f s)) :: thRs [.agg [.imm tN], .cell (.imm tI)] (((nodeV f s, ()), usedV f s, ()))) := h
  rw [w_spec_l02DrawNode s f K]
  have hb : bytes s.1 := bytes_of ws.1
  obtain ⟨⟨wl, _⟩, _⟩ := wf
  have wl : f.length ≤ 9223372036854775807 := wl
  have F1 := far_pick s 5
  have F2 := F1.trans (far_pick (pickS s 5) 2)
  have F3 := F2.trans (far_pick (pickS (pickS s 5) 2) 2)
  have G9 : ∀ {t : SrcD} {n : Int}, Far s t n → n ≤ 100 → inS 900000 t = true := fun hf hn => hf.ok hg (by omega)
  have G : ∀ {t : SrcD} {n : Int}, Far s t n → n ≤ 100 → srcIn 6 t = true := fun hf hn => inS_src (G9 hf hn) (by omega) 6 (by omega)
  have K0 : isK (pickV s 5) = true := by have := pickV_range (s := s) hb (n := 5) (by omega); exact inR_iff.2 (by omega)
  have K4 : ∀ {t : SrcD}, bytes t.1 → IntKind.i64.wrap (5 + pickV t 4) = 5 + pickV t 4 ∧ isK (5 + pickV t 4) = true := fun hb => by
    have := pickV_range hb (n := 4) (by omega)
    exact ⟨i64_of (by omega) (by omega), inR_iff.2 (by omega)⟩
  have K8 : ∀ {t : SrcD}, bytes t.1 → IntKind.i64.wrap (9 + pickV t 8) = 9 + pickV t 8 ∧ isK (9 + pickV t 8) = true := fun hb => by
    have := pickV_range hb (n := 8) (by omega)
    exact ⟨i64_of (by omega) (by omega), inR_iff.2 (by omega)⟩
  have e2 : decide ((f.length : Int) ≥ 2) = decide (2 ≤ f.length) := decide_eq_decide.2 (by omega)
  have e1 : decide ((f.length : Int) ≥ 1) = decide (1 ≤ f.length) := decide_eq_decide.2 (by omega)
  have b2 := F2.bytes hb
  have b3 := F3.bytes hb
  simp only [e2, e1, G (Far.refl s) (by omega), G F1 (by omega), G F2 (by omega), G F3 (by omega), G (F3.trans (far_pick _ 8)) (by omega), G (F2.trans (far_pick _ 8)) (by omega), (K4 b2).1, (K8 b2).1, (K8 b3).1, cond_true]
  have one : ∀ {t : SrcD} {n : Int}, Far s t n → n ≤ 8 → dn2 f s = false → dnS1 f s = t → 1 ≤ f.length → (pickV t 2 == 0) = true →
      cond (inR (9 + pickV (pickS t 2) 8) 12 14)
        (cond (inS 900000 (pickS (pickS (pickS t 2) 8) 3) && isK (9 + pickV (pickS t 2) 8))
          (K (.tuple [.agg [.int .i64 (9 + pickV (pickS t 2) 8), .int .i64 (at2 f 1), .int .i64 (pickV (pickS (pickS t 2) 8) 3), .vec tF (numsV (9 + pickV (pickS t 2) 8) (pickS (pickS (pickS t 2) 8) 3))], .int .i64 1]) [.box (enc tSrc (numsS (9 + pickV (pickS t 2) 8) (pickS (pickS (pickS t 2) 8) 3)))]) False)
        (cond (inS 900000 (pickS (pickS t 2) 8) && isK (9 + pickV (pickS t 2) 8))
          (K (.tuple [.agg [.int .i64 (9 + pickV (pickS t 2) 8), .int .i64 (at2 f 1), .int .i64 0, .vec tF (numsV (9 + pickV (pickS t 2) 8) (pickS (pickS t 2) 8))], .int .i64 1]) [.box (enc tSrc (numsS (9 + pickV (pickS t 2) 8) (pickS (pickS t 2) 8)))]) False) := by
    intro t n hf hn hd ht h1 e
    obtain ⟨q1, q2, q3⟩ := node_one hd ht h1 e
    rw [q1, q2, q3] at h
    have bt := (hf.trans (far_pick t 2)).bytes hb
    have g1 : inS 900000 (pickS (pickS t 2) 8) = true := G9 ((hf.trans (far_pick t 2)).trans (far_pick _ 8)) (by omega)
    have g2 : inS 900000 (pickS (pickS (pickS t 2) 8) 3) = true := G9 (((hf.trans (far_pick t 2)).trans (far_pick _ 8)).trans (far_pick _ 3)) (by omega)
    rw [g1, g2, (K8 bt).2]
    revert h
    cases inR (9 + pickV (pickS t 2) 8) 12 14 <;> exact id
  have leaf : ∀ {t : SrcD} {n : Int}, Far s t n → n ≤ 8 → dn2 f s = false → dn1 f s = false → dnS2 f s = t →
      cond (inS 900000 t && isK (pickV s 5)) (K (.tuple [.agg [.int .i64 (pickV s 5), .int .i64 0, .int .i64 0, .vec tF (numsV (pickV s 5) t)], .int .i64 0]) [.box (enc tSrc (numsS (pickV s 5) t))]) False := by
    intro t n hf hn hd hd1 ht
    obtain ⟨q1, q2, q3⟩ := node_leaf hd hd1 ht
    rw [q1, q2, q3] at h
    rw [G9 hf (by omega), K0]
    exact h
  have x1 : 1 ≤ f.length → IntKind.i64.wrap ((f.length : Int) - 1) = ((f.length - 1 : Nat) : Int) ∧ f[f.length - 1]? = some (at2 f 1) := fun h1 => by
    refine ⟨by rw [i64_of (by omega) (by omega)]; omega, ?_⟩
    unfold at2
    rw [get_lt (show f.length - 1 < f.length by omega)]
    rfl
  by_cases h2 : 2 ≤ f.length
  · have h1 : 1 ≤ f.length := by omega
    obtain ⟨w1, y1⟩ := x1 h1
    have w2 : IntKind.i64.wrap ((f.length : Int) - 2) = ((f.length - 2 : Nat) : Int) := by rw [i64_of (by omega) (by omega)]; omega
    have y2 : f[f.length - 2]? = some (at2 f 2) := by
      unfold at2
      rw [get_lt (show f.length - 2 < f.length by omega)]
      rfl
    simp only [d_t h2, d_t h1, cond_true, w1, w2, d_0, Int.toNat_natCast, y1, y2]
    cases e : (pickV (pickS s 5) 2 == 0) with
    | true =>
      obtain ⟨q1, q2, q3⟩ := node_two h2 e
      rw [q1, q2, q3] at h
      rw [G9 (F2.trans (far_pick _ 4)) (by omega), (K4 b2).2]
      exact h
    | false =>
      have hd : dn2 f s = false := by unfold dn2; rw [d_t h2, e]; rfl
      have hs1 : dnS1 f s = pickS (pickS s 5) 2 := by unfold dnS1; rw [d_t h2]; rfl
      simp only [cond_false]
      cases e3 : (pickV (pickS (pickS s 5) 2) 2 == 0) with
      | true => exact one F2 (by omega) hd hs1 h1 e3
      | false => exact leaf F3 (by omega) hd (by unfold dn1; rw [d_t h1, hs1, e3]; rfl) (by unfold dnS2; rw [d_t h1, hs1]; rfl)
  · have hd : dn2 f s = false := by unfold dn2; rw [d_f h2]; rfl
    have hs1 : dnS1 f s = pickS s 5 := by unfold dnS1; rw [d_f h2]; rfl
    by_cases h1 : 1 ≤ f.length
    · obtain ⟨w1, y1⟩ := x1 h1
      simp only [d_f h2, d_t h1, cond_true, cond_false, w1, d_0, Int.toNat_natCast, y1]
      cases e3 : (pickV (pickS s 5) 2 == 0) with
      | true => exact one F1 (by omega) hd hs1 h1 e3
      | false => exact leaf F2 (by omega) hd (by unfold dn1; rw [d_t h1, hs1, e3]; rfl) (by unfold dnS2; rw [d_t h1, hs1]; rfl)
    · simp only [d_f h2, d_f h1, cond_false]
      exact leaf F1 (by omega) hd (by unfold dn1; rw [d_f h1]; rfl) (by unfold dnS2; rw [d_f h1, hs1]; rfl)

noncomputable def a_spec_l02DrawOk : Nat → Option Ann := fun n => bif Nat.beq n 4 then some ⟨[0,2,3,4,5],1,true⟩ else bif Nat.beq n 9 then some ⟨[0,2,3,4],1,true⟩ else none
noncomputable def c_spec_l02DrawOk : Ctx := mkC Try.prog tyT [] [] [(133, s_spec_l02DrawNode)] 81 a_spec_l02DrawOk 1 true [] false true true [(70, s_spec_l00Src_pick), (134, s_spec_l00Own)]
noncomputable def gp_spec_l02DrawOk : List (List (Option Ty)) := List.map giveR [.agg [.own tN]]
noncomputable def fr_spec_l02DrawOk_4 (s : SrcD) (ns : List NodeD) (fs : List Int) (k : Int) : Fr := [(0, .ptr 0 0), (2, .ptr 1 0), (3, .ptr 2 0), (4, .obj 3 0), (5, .int .i64 k)]
noncomputable def hp_spec_l02DrawOk_4 (s : SrcD) (ns : List NodeD) (fs : List Int) (k : Int) : Heap := [.box (enc tSrc s), .box [.nils], .box [.obj 4 0], .sl 0 tI fs, .sl 0 tN ns]
theorem r_spec_l02DrawOk_4 (s : SrcD) (ns : List NodeD) (fs : List Int) (k : Int) (Kn : Fr → Heap → Prop) (K : V → Heap → Prop) : round c_spec_l02DrawOk ⟨[0,2,3,4,5],1,true⟩ (lb c_spec_l02DrawOk 4 Try.f82) (fr_spec_l02DrawOk_4 s ns fs k) (hp_spec_l02DrawOk_4 s ns fs k) Kn (lkG gp_spec_l02DrawOk c_spec_l02DrawOk 4 Try.f82 [.box []] K) =
 cond (decide (k > 0))
 (cond (inS 800000 s)
 (cond (decide (0 ≤ 0) && (decide (0 ≤ IntKind.wrap IntKind.i64 ((↑(List.length fs) : Int) - usedV fs s)) && decide (IntKind.wrap IntKind.i64 ((↑(List.length fs) : Int) - usedV fs s) ≤ (↑(List.length fs) : Int))))
 (cond (decide (List.length (List.drop 0 (List.take (Int.toNat (IntKind.wrap IntKind.i64 ((↑(List.length fs) : Int) - usedV fs s))) fs)) ≤ 1000))
 (cond (decide ((List.length (List.drop 0 (List.take (Int.toNat (IntKind.wrap IntKind.i64 ((↑(List.length fs) : Int) - usedV fs s))) fs)) + 1) * 8 ≤ 140737488355328))
 (cond (decide ((List.length ns + 1) * 48 ≤ 140737488355328))
 (Kn [(0, (.ptr 0 0)), (2, (.ptr 1 0)), (3, (.ptr 2 0)), (4, (.obj 3 0)), (5, (.int .i64 (IntKind.wrap IntKind.i64 (k - 1))))] [(.box [(.vec (.int .u8) (Prod.fst (nodeS fs s))), (.int .i64 (Prod.fst (Prod.snd (nodeS fs s)))), (.int .u64 (Prod.snd (Prod.snd (nodeS fs s))))]), (.box [.nils]), (.box [(.obj 4 0)]), (.sl 0 (.int .i64) (List.drop 0 (List.take (Int.toNat (IntKind.wrap IntKind.i64 ((↑(List.length fs) : Int) - usedV fs s))) fs) ++ [(↑(List.length ns) : Int)])), (.sl 0 tN (ns ++ [nodeV fs s]))])
 (False))
 (False))
 (False))
 (False))
 (False))
 (LoopE c_spec_l02DrawOk ⟨[0, 2, 3, 4], 1, true⟩ (lb c_spec_l02DrawOk 9 Try.f82) [(0, (.ptr 0 0)), (2, (.ptr 1 0)), (3, (.ptr 2 0)), (4, (.obj 3 0))] [(.box [(.vec (.int .u8) (Prod.fst s)), (.int .i64 (Prod.fst (Prod.snd s))), (.int .u64 (Prod.snd (Prod.snd s)))]), (.box [.nils]), (.box [(.obj 4 0)]), (.sl 0 (.int .i64) (fs)), (.sl 0 tN (ns))] (lkG gp_spec_l02DrawOk c_spec_l02DrawOk 9 Try.f82 [.box []] K)) := by kernel_rfl
noncomputable def fr_spec_l02DrawOk_9 (s : SrcD) (ns : List NodeD) (fs : List Int) : Fr := [(0, .ptr 0 0), (2, .ptr 1 0), (3, .ptr 2 0), (4, .obj 3 0)]
noncomputable def hp_spec_l02DrawOk_9 (s : SrcD) (ns : List NodeD) (fs : List Int) : Heap := [.box (enc tSrc s), .box [.nils], .box [.obj 4 0], .sl 0 tI fs, .sl 0 tN ns]
theorem r_spec_l02DrawOk_9 (s : SrcD) (ns : List NodeD) (fs : List Int) (Kn : Fr → Heap → Prop) (K : V → Heap → Prop) : round c_spec_l02DrawOk ⟨[0,2,3,4],1,true⟩ (lb c_spec_l02DrawOk 9 Try.f82) (fr_spec_l02DrawOk_9 s ns fs) (hp_spec_l02DrawOk_9 s ns fs) Kn (lkG gp_spec_l02DrawOk c_spec_l02DrawOk 9 Try.f82 [.box []] K) =
  cond (decide ((↑(List.length fs) : Int) > 1))
    (cond (decide (0 ≤ IntKind.wrap IntKind.i64 ((↑(List.length fs) : Int) - 2)) && Nat.blt (Int.toNat (IntKind.wrap IntKind.i64 ((↑(List.length fs) : Int) - 2))) (List.length fs))
      ((match fs[Int.toNat (IntKind.wrap IntKind.i64 ((↑(List.length fs) : Int) - 2))]? with
        | some x0 => cond (decide (0 ≤ IntKind.wrap IntKind.i64 ((↑(List.length fs) : Int) - 1)) && Nat.blt (Int.toNat (IntKind.wrap IntKind.i64 ((↑(List.length fs) : Int) - 1))) (List.length fs))
          ((match fs[Int.toNat (IntKind.wrap IntKind.i64 ((↑(List.length fs) : Int) - 1))]? with
            | some x1 => cond (srcIn 6 s)
              (cond (decide (0 ≤ 0) && (decide (0 ≤ IntKind.wrap IntKind.i64 ((↑(List.length fs) : Int) - 2)) && decide (IntKind.wrap IntKind.i64 ((↑(List.length fs) : Int) - 2) ≤ (↑(List.length fs) : Int))))
                (cond (decide (List.length (List.take (Int.toNat (IntKind.wrap IntKind.i64 ((↑(List.length fs) : Int) - 2))) fs) ≤ 1000))
                  (cond (decide ((List.length (List.take (Int.toNat (IntKind.wrap IntKind.i64 ((↑(List.length fs) : Int) - 2))) fs) + 1) * 8 ≤ 140737488355328))
                    (cond (decide ((List.length ns + 1) * 48 ≤ 140737488355328))
                      (Kn [(0, (.ptr 0 0)), (2, (.ptr 1 0)), (3, (.ptr 2 0)), (4, (.obj 3 0))] [(.box [(.vec (.int .u8) (Prod.fst (pickS s 3))), (.int .i64 (Prod.fst (Prod.snd (pickS s 3)))), (.int .u64 (Prod.snd (Prod.snd (pickS s 3))))]), (.box [.nils]), (.box [(.obj 4 0)]), (.sl 0 (.int .i64) (List.take (Int.toNat (IntKind.wrap IntKind.i64 ((↑(List.length fs) : Int) - 2))) fs ++ [(↑(List.length ns) : Int)])), (.sl 0 tN (ns ++ [(IntKind.wrap IntKind.i64 (5 + pickV s 3), x0, x1, [])]))])
                      (False))
                    (False))
                  (False))
                (False))
              (False)
            | none => False))
          (False)
        | none => False))
      (False))
    (K (.agg [(.obj 1 0)]) [(.box [(.vec (.int .u8) (Prod.fst s)), (.int .i64 (Prod.fst (Prod.snd s))), (.int .u64 (Prod.snd (Prod.snd s)))]), (.sl 0 tN (ns))]) := by kernel_rfl
theorem w_spec_l02DrawOk (s : SrcD) (K : V → Heap → Prop) : wpFnG gp_spec_l02DrawOk c_spec_l02DrawOk Try.f82 (.ptr 0 0 :: encAs [] ()) [.box (enc tSrc s)] K =
 cond (srcIn 6 s)
 (LoopE c_spec_l02DrawOk ⟨[0, 2, 3, 4, 5], 1, true⟩ (lb c_spec_l02DrawOk 4 Try.f82) [(0, (.ptr 0 0)), (2, (.ptr 1 0)), (3, (.ptr 2 0)), (4, (.obj 3 0)), (5, (.int .i64 (IntKind.wrap IntKind.i64 (1 + pickV s 7))))] [(.box [(.vec (.int .u8) (Prod.fst (pickS s 7))), (.int .i64 (Prod.fst (Prod.snd (pickS s 7)))), (.int .u64 (Prod.snd (Prod.snd (pickS s 7))))]), (.box [.nils]), (.box [(.obj 4 0)]), (.sl 0 (.int .i64) ([])), (.sl 0 tN ([]))] (lkG gp_spec_l02DrawOk c_spec_l02DrawOk 4 Try.f82 [.box []] K))
 (False) := by kernel_rfl
noncomputable def s_spec_l02DrawOk : Sm := semPG tSrc [] [.agg [.own tN]] (fun s x => match x with | _ => inS 500000 s) fun s x => match x with | _ => (((shapeV s, ()), ()), shapeS s)
theorem ok_spec_l02DrawOk : FnOkL Try.prog 82 s_spec_l02DrawOk := fnOkO_boxg (fnOkO_runG (C := c_spec_l02DrawOk) gp_spec_l02DrawOk rfl mixed .nil .nil (.cons ok_spec_l02DrawNode .nil) Try.func82 (by kernel_rfl) (h5 := (.cons ok_spec_l00Src_pick (by first | exact semP_localE _ _ _ _ | exact semPG_localE _ _ _ _ _ | exact semV_localE _ _ _ _) (.cons ok_spec_l00Own (by first | exact semP_localE _ _ _ _ | exact semPG_localE _ _ _ _ _ | exact semV_localE _ _ _ _) .nil)))) rfl fun (s : SrcD) (x : Unit) ws wf hg K h => by
  obtain ⟨⟩ := x
  replace hg : (inS 500000 s) = true := hg
  replace h : K (tup (valRs [.agg [.own tN]] (((shapeV s, ()), ())) 1)) (.box (enc tSrc (shapeS s)) :: thRs [.agg [.own tN]] (((shapeV s, ()), ()))) := h
  rw [w_spec_l02DrawOk s  K]
  have hb : bytes s.1 := bytes_of ws.1
  have g6 : srcIn 6 s = true := inS_src hg (by omega) 6 (by omega)
  obtain ⟨n, hn, n1, n2, hok, f1, f2⟩ := sh1_ok hb
  have hs1 : sh1 s = shGo n (sh0 s) := by unfold sh1; rw [hn, Int.toNat_natCast]
  rw [g6, cond_true, hn, i64_of (n := (n : Int)) (by omega) (by omega)]
  refine loop_run (σ := Nat × ShD) (fun r => fr_spec_l02DrawOk_4 s [] [] r.1) (fun r => hp_spec_l02DrawOk_4 r.2.2.2 r.2.1 r.2.2.1 r.1) (fun r => r.1 ≤ n ∧ ShOk r.2 (n - r.1) ∧ Far s r.2.2.2 (2 + 26 * (n - r.1 : Nat)) ∧ shGo r.1 r.2 = sh1 s) (fun r => r.1) ?_ (n, sh0 s) ⟨Nat.le_refl _, by simp only [Nat.sub_self]; exact sh0_ok hb, by simp only [Nat.sub_self]; exact far_pick s 7, hs1.symm⟩
  rintro ⟨j, ns, fs, u⟩ ⟨hj, hq, hf, hgo⟩ Kn hk3
  simp only at hj hq hf hgo hk3 ⊢
  rw [show fr_spec_l02DrawOk_4 s [] [] j = fr_spec_l02DrawOk_4 u ns fs j from rfl, r_spec_l02DrawOk_4 u ns fs j Kn K]
  have hnl : ns.length = n - j := hq.l
  have hfl : fs.length ≤ ns.length := hq.st.len
  cases j with
  | zero =>
    rw [d_f (show ¬ ((0 : Nat) : Int) > 0 by omega), cond_false]
    have hgo : (ns, fs, u) = sh1 s := hgo
    have e1 : (sh1 s).2.1 = fs := by rw [← hgo]
    rw [e1] at f1 f2
    have hsh2 : sh2 s = clGo (fs.length - 1) (ns, fs, u) := by unfold sh2; rw [e1, hgo]
    refine loop_run (σ := Nat × ShD) (fun r => fr_spec_l02DrawOk_9 u [] []) (fun r => hp_spec_l02DrawOk_9 r.2.2.2 r.2.1 r.2.2.1) (fun r => r.2.2.1.length = r.1 + 1 ∧ (∃ m, ShOk r.2 m ∧ m + r.1 ≤ 14) ∧ Far s r.2.2.2 (200 + 2 * (14 - r.1 : Nat)) ∧ clGo r.1 r.2 = sh2 s) (fun r => r.1) ?_ (fs.length - 1, ns, fs, u) ⟨by simp only; omega, ⟨n - 0, hq, by simp only; omega⟩, hf.mono (by omega), hsh2.symm⟩
    rintro ⟨i, ms, es, v⟩ ⟨hl, ⟨m, hm, hmi⟩, hv, hcl⟩ Kn9 hk9
    simp only at hl hm hmi hv hcl hk9 ⊢
    rw [show fr_spec_l02DrawOk_9 u [] [] = fr_spec_l02DrawOk_9 v ms es from rfl, r_spec_l02DrawOk_9 v ms es Kn9 K]
    have hml : ms.length = m := hm.l
    cases i with
    | zero =>
      rw [d_f (show ¬ ((es.length : Nat) : Int) > 1 by omega), cond_false]
      have hcl : (ms, es, v) = sh2 s := hcl
      unfold shapeV shapeS at h
      rw [← hcl] at h
      exact h
    | succ i =>
      have hk1 := hk9 (i, clStep (ms, es, v))
      have bv : bytes v.1 := hv.bytes hb
      have r3 := pickV_range bv (n := 3) (by omega)
      have w2 : IntKind.i64.wrap ((es.length : Int) - 2) = ((es.length - 2 : Nat) : Int) := by rw [i64_of (by omega) (by omega)]; omega
      have w1 : IntKind.i64.wrap ((es.length : Int) - 1) = ((es.length - 1 : Nat) : Int) := by rw [i64_of (by omega) (by omega)]; omega
      have w5 : IntKind.i64.wrap (5 + pickV v 3) = 5 + pickV v 3 := i64_of (by omega) (by omega)
      have y2 : es[es.length - 2]? = some (at2 es 2) := by
        unfold at2
        rw [get_lt (show es.length - 2 < es.length by omega)]
        rfl
      have y1 : es[es.length - 1]? = some (at2 es 1) := by
        unfold at2
        rw [get_lt (show es.length - 1 < es.length by omega)]
        rfl
      have gv : srcIn 6 v = true := inS_src ((hv.ok hg (m := 900000) (by omega))) (by omega) 6 (by omega)
      have htl : (es.take (es.length - 2)).length = es.length - 2 := by rw [List.length_take]; omega
      have hcf : (clStep (ms, es, v)).2.1.length = i + 1 := by rw [clStep_free _ (by show 2 ≤ es.length; omega)]; show es.length - 1 = i + 1; omega
      have next := hk1 ⟨hcf, ⟨m + 1, clStep_ok hm (by show 2 ≤ es.length; omega), by have := hmi; show m + 1 + i ≤ 14; omega⟩, (hv.trans (far_pick v 3)).mono (by simp only; omega), hcl⟩ (by simp only; omega)
      simp only [d_t (show ((es.length : Nat) : Int) > 1 by omega), cond_true, w1, w2, w5, d_0, Int.toNat_natCast, blt_t (show es.length - 2 < es.length by omega), blt_t (show es.length - 1 < es.length by omega), Bool.and_self, y1, y2, gv, htl, d_t (show (0 : Int) ≤ 0 by omega), d_t (show ((es.length - 2 : Nat) : Int) ≤ (es.length : Int) by omega), d_t (show es.length - 2 ≤ 1000 by omega), d_t (show (es.length - 2 + 1) * 8 ≤ 140737488355328 by omega), d_t (show (ms.length + 1) * 48 ≤ 140737488355328 by omega)]
      exact next
  | succ j =>
    have hk1 := hk3 (j, shStep (ns, fs, u))
    have bu : bytes u.1 := hf.bytes hb
    have ur := used_range fs u
    obtain ⟨d, hd⟩ : ∃ d : Nat, ((fs.length : Int) - usedV fs u) = (d : Int) := ⟨((fs.length : Int) - usedV fs u).toNat, by omega⟩
    have w1 : IntKind.i64.wrap ((fs.length : Int) - usedV fs u) = (d : Int) := by rw [hd]; exact i64_of (by omega) (by omega)
    have wj : IntKind.i64.wrap (((j + 1 : Nat) : Int) - 1) = (j : Int) := by rw [i64_of (by omega) (by omega)]; omega
    have htl : (List.drop 0 (fs.take d)).length = d := by rw [List.drop_zero, List.length_take]; omega
    have gu : inS 800000 u = true := hf.ok hg (by omega)
    have next := hk1 ⟨by simp only; omega, by have := shStep_ok hq; rw [show n - (j + 1) + 1 = n - j by omega] at this; exact this, (hf.trans (far_node fs u)).mono (by simp only; omega), hgo⟩ (by simp only; omega)
    unfold shStep at next
    simp only [hd, Int.toNat_natCast] at next
    simp only [d_t (show ((j + 1 : Nat) : Int) > 0 by omega), cond_true, gu, w1, wj, d_0, Int.toNat_natCast, htl, d_t (show (0 : Int) ≤ 0 by omega), d_t (show (d : Int) ≤ (fs.length : Int) by omega), d_t (show d ≤ 1000 by omega), d_t (show (d + 1) * 8 ≤ 140737488355328 by omega), d_t (show (ns.length + 1) * 48 ≤ 140737488355328 by omega), Bool.and_self]
    exact next

end Go.Proofs.Ytfhpmcdbfebflaa

/- Rays, factors and marches: walks. -/
set_option linter.unusedVariables false
set_option linter.unusedSimpArgs false
set_option maxRecDepth 100000
namespace Go.Proofs.Ytfhpmcdbfebflaa
open Go.Ev Go.Ev.Fl

end Go.Proofs.Ytfhpmcdbfebflaa

/- Plain: the numbers of turns in drawn shapes; shapes with nodes that change nothing; rays and marches. -/
set_option linter.unusedVariables false
set_option linter.unusedSimpArgs false
set_option maxRecDepth 100000
namespace Go.Proofs.Ytfhpmcdbfebflaa
open Go.Ev Go.Ev.Fl

theorem tab_sine : (List.range 17).all (fun j => sineOk (sixtV (Int.ofNat j - 8)) && sineOk (fsub .f32 1048576000 (sixtV (Int.ofNat j - 8)))) = true := by decide +kernel
theorem turn_ok {n : Int} (h : 0 ≤ n ∧ n < 17) : (sineOk (sixtV (n - 8)) && sineOk (fsub .f32 1048576000 (sixtV (n - 8)))) = true := by
  have := List.all_eq_true.1 tab_sine n.toNat (by simp; omega)
  have e : Int.ofNat n.toNat = n := Int.toNat_of_nonneg h.1
  rw [e] at this
  exact this
theorem turn_not {k : Int} (h : k ≠ 12) (xs : List Nat) : turnB k xs = true := by
  unfold turnB
  rw [beq_eq_false_iff_ne.2 h]
  rfl
theorem turn_nums (k : Int) {s : SrcD} (hb : bytes s.1) : turnB k (numsV k s) = true := by
  by_cases e : k = 12
  · subst e
    exact turn_ok (pickV_range (s := smallS s) ((far_small s).bytes hb) (n := 17) (by omega))
  · exact turn_not e _
theorem turns_iff {ns : ShapeD} : turnsB ns = true ↔ ∀ n ∈ ns, turnB n.1 n.2.2.2 = true := List.all_eq_true
theorem turns_snoc {ns : ShapeD} {n : NodeD} (h : turnsB ns = true) (hn : turnB n.1 n.2.2.2 = true) : turnsB (ns ++ [n]) = true := by
  rw [turns_iff] at h ⊢
  intro m hm
  rcases List.mem_append.1 hm with h1 | h1
  · exact h m h1
  · rw [List.mem_singleton.1 h1]; exact hn
theorem turns_shGo : ∀ (m : Nat) (q : ShD), turnsB q.1 = true → bytes q.2.2.1 → turnsB (shGo m q).1 = true
  | 0, _, h, _ => h
  | m + 1, q, h, hb => turns_shGo m (shStep q) (turns_snoc h (turn_nums _ ((far_T _ _).bytes hb))) ((far_node _ _).bytes hb)
theorem turns_clGo : ∀ (m : Nat) (q : ShD), turnsB q.1 = true → bytes q.2.2.1 → turnsB (clGo m q).1 = true
  | 0, _, h, _ => h
  | m + 1, q, h, hb => turns_clGo m (clStep q) (turns_snoc h (turn_not (by
      have r := pickV_range (s := q.2.2) hb (n := 3) (by omega)
      show 5 + pickV q.2.2 3 ≠ 12
      omega) _)) ((far_pick _ _).bytes hb)
theorem shape_okS {s : SrcD} (hb : bytes s.1) : okS (shapeV s) = true := by
  unfold okS
  rw [shape_ok hb, Bool.true_and]
  have h0 := sh0_ok hb
  have h1 := turns_shGo (1 + pickV s 7).toNat (sh0 s) rfl h0.b
  exact turns_clGo _ _ h1 (shGo_ok _ h0).b
theorem shape_stack {s : SrcD} (hb : bytes s.1) : Stack (shapeV s) [((shapeV s).length : Int) - 1] ∧ 1 ≤ (shapeV s).length := by
  obtain ⟨n, e, n1, n2, h, f1, f2⟩ := sh1_ok hb
  obtain ⟨h2, h3⟩ := clGo_ok ((sh1 s).2.1.length - 1) h (by omega)
  obtain ⟨r, hr⟩ := List.length_eq_one_iff.1 h3
  have hs := h2.st
  rw [hr] at hs
  have hl := h2.l
  have hne : (clGo ((sh1 s).2.1.length - 1) (sh1 s)).1 ≠ [] := fun e => by rw [e] at hl; simp at hl; omega
  have := hs.last hne
  have e2 : r = ((clGo ((sh1 s).2.1.length - 1) (sh1 s)).1.length : Int) - 1 := by simpa using this
  rw [e2] at hs
  exact ⟨hs, by show 1 ≤ (clGo ((sh1 s).2.1.length - 1) (sh1 s)).1.length; omega⟩

abbrev ExD := ShapeD × SrcD
structure ExOk (q : ExD) : Prop where
  st : Stack q.1 [(q.1.length : Int) - 1]
  b : bytes q.2.1
  lo : 1 ≤ q.1.length
  hi : q.1.length ≤ 16
  t : turnsB q.1 = true
end Go.Proofs.Ytfhpmcdbfebflaa

/- What the laws draw: shapes with nodes that change nothing, rays, marches: walks. -/
set_option linter.unusedVariables false
set_option linter.unusedSimpArgs false
set_option maxRecDepth 100000
namespace Go.Proofs.Ytfhpmcdbfebflaa
open Go.Ev Go.Ev.Fl

end Go.Proofs.Ytfhpmcdbfebflaa

/- What the laws of the second kind draw: points, shapes, shapes of few nodes. -/
set_option linter.unusedVariables false
set_option linter.unusedSimpArgs false
set_option maxRecDepth 100000
namespace Go.Proofs.Ytfhpmcdbfebflaa
open Go.Ev Go.Ev.Fl

noncomputable def c_laws_r8Long : Ctx := mkC Try.prog tyT [] [] [] 13 (fun _ => none) 0
theorem w_laws_r8Long (xs ys : List Int) (K : V → Heap → Prop) : wpFn c_laws_r8Long Try.f24 (encAs [.cell tB, .cell tB] (xs, ys, ())) [] K =
 cond (decide ((↑(List.length xs) : Int) > 48))
 (K (.bool true) [])
 (K (.bool (decide ((↑(List.length ys) : Int) > 48))) []) := by kernel_rfl
noncomputable def s_laws_r8Long : Sm := semT [.cell tB, .cell tB] fun x => match x with | (xs, ys, _) => .bool (decide (48 < xs.length) || decide (48 < ys.length))
theorem ok_laws_r8Long : FnOk Try.prog 24 s_laws_r8Long := fnOk_typed (fnOk_runC (C := c_laws_r8Long) rfl mixed .nil .nil .nil Try.func24 (by kernel_rfl)) fun (x : ((List Int) × (List Int) × Unit)) wf K h => by
  obtain ⟨xs, ys, ⟨⟩⟩ := x
  replace h : K (.bool (decide (48 < xs.length) || decide (48 < ys.length))) [] := h
  rw [w_laws_r8Long xs ys K]
  have e : ∀ n : Nat, decide ((n : Int) > 48) = decide (48 < n) := fun n => decide_eq_decide.2 (by omega)
  rw [e, e]
  cases h1 : decide (48 < xs.length) <;> rw [h1] at h <;> exact h

def atV (xs : List Int) (k n : Int) : Int := bif decide (n ≤ 1) || decide ((xs.length : Int) ≤ k) then 0 else ((xs[k.toNat]?).getD 0).tmod n
noncomputable def c_laws_r8At : Ctx := mkC Try.prog tyT [] [] [] 22 (fun _ => none) 0
theorem w_laws_r8At (xs : List Int) (k n : Int) (K : V → Heap → Prop) : wpFn c_laws_r8At Try.f31 (encAs [.cell tB, .cell (.int .i64), .cell (.int .i64)] (xs, k, n, ())) [] K =
  cond (decide (n ≤ 1))
    (K (.int .i64 0) [])
    (cond (decide (k ≥ (↑(List.length xs) : Int)))
      (K (.int .i64 0) [])
      (cond (decide (0 ≤ k))
        ((match xs[Int.toNat k]? with
          | some y0 => cond (n == 0)
            (False)
            (K (.int .i64 (Int.tmod (IntKind.wrap IntKind.i64 y0) n)) [])
          | none => False))
        (False))) := by kernel_rfl
noncomputable def s_laws_r8At : Sm := semG [.cell tB, .cell (.int .i64), .cell (.int .i64)] (fun x => match x with | (xs, k, n, _) => decide (0 ≤ k)) fun x => match x with | (xs, k, n, _) => .int .i64 (atV xs k n)
theorem ok_laws_r8At : FnOk Try.prog 31 s_laws_r8At := fnOk_typedG (fnOk_runC (C := c_laws_r8At) rfl mixed .nil .nil .nil Try.func31 (by kernel_rfl)) fun (x : ((List Int) × (Int) × (Int) × Unit)) wf hg K h => by
  obtain ⟨xs, k, n, ⟨⟩⟩ := x
  replace hg : (decide (0 ≤ k)) = true := hg
  replace h : K (.int .i64 (atV xs k n)) [] := h
  rw [w_laws_r8At xs k n K]
  have hk := of_decide_eq_true hg
  unfold atV at h
  by_cases h1 : n ≤ 1
  · rw [d_t h1] at h ⊢; exact h
  · rw [d_f h1] at h ⊢
    simp only [Bool.false_or, cond_false] at h ⊢
    rw [show decide (k ≥ (xs.length : Int)) = decide ((xs.length : Int) ≤ k) from rfl]
    by_cases h2 : (xs.length : Int) ≤ k
    · rw [d_t h2] at h ⊢; exact h
    · rw [d_f h2] at h ⊢
      simp only [cond_false] at h ⊢
      have hl : k.toNat < xs.length := by omega
      rw [d_t hk, get_lt hl] at *
      have hb := bytes_of wf.1 _ (List.getElem_mem hl)
      simp only [cond_true, Option.getD_some] at h ⊢
      rw [beq_eq_false_iff_ne.2 (show n ≠ 0 by omega), i64_of (by omega) (by omega)]
      exact h

theorem atV_range {xs : List Int} (hb : bytes xs) {k n : Int} (hn : 1 ≤ n) : 0 ≤ atV xs k n ∧ atV xs k n < n := by
  unfold atV
  cases decide (n ≤ 1) || decide ((xs.length : Int) ≤ k) with
  | true => simp only [cond_true]; omega
  | false =>
    simp only [cond_false]
    have pos : ∀ x : Int, 0 ≤ x → 0 ≤ x.tmod n ∧ x.tmod n < n := fun x hx => ⟨Int.tmod_nonneg _ hx, Int.tmod_lt_of_pos _ (by omega)⟩
    refine pos _ ?_
    cases e : xs[k.toNat]? with
    | none => simp
    | some b => exact (hb b (List.mem_of_getElem? e)).1

def pointV (xs : List Int) : V3 := (smallV (xs, 0, 0), smallV (smallS (xs, 0, 0)), smallV (smallS (smallS (xs, 0, 0))))
noncomputable def c_spec_R8Point : Ctx := mkC Try.prog tyT [] [] [(67, s_spec_l00From), (69, s_spec_l01DrawSmall)] 17 (fun _ => none) 0
theorem w_spec_R8Point (xs : List Int) (K : V → Heap → Prop) : wpFn c_spec_R8Point Try.f26 (encAs [.cell tB] (xs, ())) [] K =
 cond (inS 1000000 (xs, 0, 0))
 (cond (inS 1000000 (smallS (xs, 0, 0)))
 (cond (inS 1000000 (smallS (smallS (xs, 0, 0))))
 (K (.agg [(.float .f32 (smallV (xs, 0, 0))), (.float .f32 (smallV (smallS (xs, 0, 0)))), (.float .f32 (smallV (smallS (smallS (xs, 0, 0)))))]) [])
 (False))
 (False))
 (False) := by kernel_rfl
noncomputable def s_spec_R8Point : Sm := semT [.cell tB] fun x => match x with | (xs, _) => .agg (enc tV (pointV xs))
theorem ok_spec_R8Point : FnOk Try.prog 26 s_spec_R8Point := fnOk_typed (fnOk_runC (C := c_spec_R8Point) rfl mixed .nil .nil (.cons ok_spec_l00From (.cons ok_spec_l01DrawSmall .nil)) Try.func26 (by kernel_rfl)) fun (x : ((List Int) × Unit)) wf K h => by
  obtain ⟨xs, ⟨⟩⟩ := x
  replace h : K (.agg (enc tV (pointV xs))) [] := h
  rw [w_spec_R8Point xs K]
  have g0 : inS 0 (xs, 0, 0) = true := inS_iff.2 ⟨Int.le_refl _, Int.le_refl _⟩
  have F1 := far_small (xs, 0, 0)
  have F2 := F1.trans (far_small (smallS (xs, 0, 0)))
  have a0 : inS 1000000 (xs, 0, 0) = true := (Far.refl (xs, 0, 0)).ok g0 (by omega)
  have a1 : inS 1000000 (smallS (xs, 0, 0)) = true := F1.ok g0 (by omega)
  have a2 : inS 1000000 (smallS (smallS (xs, 0, 0))) = true := F2.ok g0 (by omega)
  refine cond_yes a0 (cond_yes a1 (cond_yes a2 ?_))
  exact h

theorem nodes_at0 {ns : ShapeD} (h : nodesB ns = true) (h1 : 1 ≤ ns.length) : ns[0]? = some (nodeAt ns 0) ∧ nodeB 0 (nodeAt ns 0) = true := by
  have e : ns[0]? = some (ns[0]'h1) := get_lt h1
  have en : nodeAt ns 0 = ns[0]'h1 := by unfold nodeAt; rw [show (0 : Int).toNat = 0 from rfl, e]; rfl
  refine ⟨by rw [e, en], ?_⟩
  have := List.all_eq_true.1 h 0 (List.mem_range.2 h1)
  rw [e] at this
  rw [en]
  exact this
theorem node0_leaf {ns : ShapeD} (h : nodesB ns = true) (h1 : 1 ≤ ns.length) : inR (nodeAt ns 0).1 0 4 = true ∧ inR (nodeAt ns 0).1 5 8 = false := by
  obtain ⟨e, hb⟩ := nodes_at0 h h1
  generalize nodeAt ns 0 = n at *
  obtain ⟨k, a, c, xs⟩ := n
  obtain ⟨b1, b2, b3⟩ := nodeB_parts hb
  rcases kind_cases a c (nums_isK b1) with ⟨q1, q2, q3⟩ | ⟨q1, q2, q3⟩ | ⟨q1, q2, q3⟩
  · exact ⟨q1, q2⟩
  · rw [q3] at b3
    have := b3 a (by simp); omega
  · rw [q3] at b3
    have := b3 a (by simp); omega

noncomputable def a_spec_l02Below_v0 : Nat → Option Ann := fun n => bif Nat.beq n 4 then some ⟨[0,5,6],1,false⟩ else none
noncomputable def c_spec_l02Below_v0 : Ctx := mkC Try.prog tyT [(145, s_spec_l02Leaf), (146, s_spec_l02Two)] [] [] 58 a_spec_l02Below_v0 0
noncomputable def gp_spec_l02Below_v0 : List (List (Option Ty)) := List.map giveR [.cell (.own .bool)]
noncomputable def fr_spec_l02Below_v0_4 (ns : ShapeD) (bs : List Bool) (i : Int) : Fr := [(0, .ref [.vec tN ns] 0), (5, .obj 0 0), (6, .int .i64 i)]
noncomputable def hp_spec_l02Below_v0_4 (ns : ShapeD) (bs : List Bool) (i : Int) : Heap := [.sl 0 .bool bs]
theorem r_spec_l02Below_v0_4 (ns : ShapeD) (bs : List Bool) (i : Int) (Kn : Fr → Heap → Prop) (K : V → Heap → Prop) : round c_spec_l02Below_v0 ⟨[0,5,6],1,false⟩ (lb c_spec_l02Below_v0 4 Try.f97) (fr_spec_l02Below_v0_4 ns bs i) (hp_spec_l02Below_v0_4 ns bs i) Kn (lkG gp_spec_l02Below_v0 c_spec_l02Below_v0 4 Try.f97 [] K) =
  cond (decide (i ≥ 0))
    (cond (decide (0 ≤ i))
      ((match ns[Int.toNat i]? with
        | some y0 => cond (decide (0 ≤ i) && Nat.blt (Int.toNat i) (List.length bs))
          ((match bs[Int.toNat i]? with
            | some x1 => cond (!x1)
              (Kn [(0, (.ref [(.vec tN (ns))] 0)), (5, (.obj 0 0)), (6, (.int .i64 (IntKind.wrap IntKind.i64 (i - 1))))] [(.sl 0 .bool (bs))])
              (cond (inR (Prod.fst y0) 0 4)
                (Kn [(0, (.ref [(.vec tN (ns))] 0)), (5, (.obj 0 0)), (6, (.int .i64 (IntKind.wrap IntKind.i64 (i - 1))))] [(.sl 0 .bool (bs))])
                (cond (decide (0 ≤ Prod.fst (Prod.snd y0)) && Nat.blt (Int.toNat (Prod.fst (Prod.snd y0))) (List.length bs))
                  ((match bs[Int.toNat (Prod.fst (Prod.snd y0))]? with
                    | some x2 => cond (inR (Prod.fst y0) 5 8)
                      (cond (decide (0 ≤ Prod.fst (Prod.snd (Prod.snd y0))) && Nat.blt (Int.toNat (Prod.fst (Prod.snd (Prod.snd y0)))) (List.length (List.set bs (Int.toNat (Prod.fst (Prod.snd y0))) true)))
                        ((match (List.set bs (Int.toNat (Prod.fst (Prod.snd y0))) true)[Int.toNat (Prod.fst (Prod.snd (Prod.snd y0)))]? with
                          | some x3 => Kn [(0, (.ref [(.vec tN (ns))] 0)), (5, (.obj 0 0)), (6, (.int .i64 (IntKind.wrap IntKind.i64 (i - 1))))] [(.sl 0 .bool (List.set (List.set bs (Int.toNat (Prod.fst (Prod.snd y0))) true) (Int.toNat (Prod.fst (Prod.snd (Prod.snd y0)))) true))]
                          | none => False))
                        (False))
                      (Kn [(0, (.ref [(.vec tN (ns))] 0)), (5, (.obj 0 0)), (6, (.int .i64 (IntKind.wrap IntKind.i64 (i - 1))))] [(.sl 0 .bool (List.set bs (Int.toNat (Prod.fst (Prod.snd y0))) true))])
                    | none => False))
                  (False)))
            | none => False))
          (False)
        | none => False))
      (False))
    (K (.obj 0 0) [(.sl 0 .bool (bs))]) := by kernel_rfl
theorem w_spec_l02Below_v0 (ns : ShapeD) (node : Int) (K : V → Heap → Prop) : wpFnG gp_spec_l02Below_v0 c_spec_l02Below_v0 Try.f97 (encAs [.ref tS, .cell tI] (ns, node, ())) [] K =
  cond (decide (0 ≤ (↑(List.length ns) : Int)) && (decide ((↑(List.length ns) : Int) ≤ (↑(List.length ns) : Int)) && decide ((↑1 : Int) * (↑(List.length ns) : Int) ≤ 281474976710656)))
    (cond (decide (0 ≤ node) && Nat.blt (Int.toNat node) (List.length (List.replicate (Int.toNat (↑(List.length ns) : Int)) false)))
      ((match (List.replicate (Int.toNat (↑(List.length ns) : Int)) false)[Int.toNat node]? with
        | some x0 => LoopE c_spec_l02Below_v0 ⟨[0, 5, 6], 1, false⟩ (lb c_spec_l02Below_v0 4 Try.f97) [(0, (.ref [(.vec tN (ns))] 0)), (5, (.obj 0 0)), (6, (.int .i64 (node)))] [(.sl 0 .bool (List.set (List.replicate (Int.toNat (↑(List.length ns) : Int)) false) (Int.toNat node) true))] (lkG gp_spec_l02Below_v0 c_spec_l02Below_v0 4 Try.f97 [] K)
        | none => False))
      (False))
    (False) := by kernel_rfl
noncomputable def s_spec_l02Below_v0 : Sm := semV [.ref tS, .cell tI] [.cell (.own .bool)] (fun x => match x with | (ns, node, _) => nodesB ns && (node == 0 && (decide (1 ≤ ns.length) && decide (ns.length ≤ 16)))) fun x => match x with | (ns, node, _) => (true :: List.replicate (ns.length - 1) false, ())
theorem ok_spec_l02Below_v0 : FnOkL Try.prog 97 s_spec_l02Below_v0 := fnOkO_give (fnOkO_runG (C := c_spec_l02Below_v0) gp_spec_l02Below_v0 rfl mixed (.cons ok_spec_l02Leaf (.cons ok_spec_l02Two .nil)) .nil .nil Try.func97 (by kernel_rfl)) rfl fun (x : ((ShapeD) × (Int) × Unit)) wf hg K h => by
  obtain ⟨ns, node, ⟨⟩⟩ := x
  replace hg : (nodesB ns && (node == 0 && (decide (1 ≤ ns.length) && decide (ns.length ≤ 16)))) = true := hg
  replace h : K (tup (valRs [.cell (.own .bool)] ((true :: List.replicate (ns.length - 1) false, ())) 0)) (thRs [.cell (.own .bool)] ((true :: List.replicate (ns.length - 1) false, ()))) := h
  rw [w_spec_l02Below_v0 ns node K]
  simp only [Bool.and_eq_true, decide_eq_true_eq, beq_iff_eq] at hg
  obtain ⟨hn, rfl, l1, l2⟩ := hg
  obtain ⟨q1, q2⟩ := node0_leaf hn l1
  obtain ⟨e, hb⟩ := nodes_at0 hn l1
  obtain ⟨m, hm⟩ : ∃ m, ns.length = m + 1 := ⟨ns.length - 1, by omega⟩
  simp only [Int.toNat_natCast, List.length_replicate]
  refine cond_yes (by simp only [Bool.and_eq_true, decide_eq_true_eq]; omega) ?_
  have hset : (List.replicate ns.length false).set (Int.toNat 0) true = true :: List.replicate (ns.length - 1) false := by rw [hm]; rfl
  have hrep : (List.replicate ns.length false)[Int.toNat 0]? = some false := by rw [hm]; rfl
  simp only [d_t (show (0 : Int) ≤ 0 by omega), blt_t (show Int.toNat 0 < ns.length by show 0 < ns.length; omega), Bool.and_self, cond_true, hrep, hset]
  refine loop_run (σ := Nat × Int) (fun q => fr_spec_l02Below_v0_4 ns [] q.2) (fun q => hp_spec_l02Below_v0_4 ns (true :: List.replicate (ns.length - 1) false) 0) (fun q => q.1 ≤ 1 ∧ q.2 = (q.1 : Int) - 1) (fun q => q.1) ?_ (1, 0) ⟨Nat.le_refl _, rfl⟩
  rintro ⟨r, i⟩ ⟨hr, hi⟩ Kn hk
  simp only at hr hi hk ⊢
  rw [show fr_spec_l02Below_v0_4 ns [] i = fr_spec_l02Below_v0_4 ns (true :: List.replicate (ns.length - 1) false) i from rfl, show hp_spec_l02Below_v0_4 ns (true :: List.replicate (ns.length - 1) false) 0 = hp_spec_l02Below_v0_4 ns (true :: List.replicate (ns.length - 1) false) i from rfl, r_spec_l02Below_v0_4 ns (true :: List.replicate (ns.length - 1) false) i Kn K]
  cases r with
  | zero =>
    rw [d_f (show ¬ i ≥ 0 by omega)]
    exact h
  | succ r =>
    have hr0 : r = 0 := by omega
    subst hr0
    have hi0 : i = 0 := by omega
    subst hi0
    have next := hk (0, -1) ⟨by omega, rfl⟩ (by omega)
    have hw : IntKind.i64.wrap ((0 : Int) - 1) = -1 := i64_of (by omega) (by omega)
    have e0 : ns[Int.toNat 0]? = some (nodeAt ns 0) := e
    have hb0 : (true :: List.replicate (ns.length - 1) false)[Int.toNat 0]? = some true := rfl
    simp only [d_t (show (0 : Int) ≥ 0 by omega), d_t (show (0 : Int) ≤ 0 by omega), cond_true, e0, hb0, blt_t (show Int.toNat 0 < (true :: List.replicate (ns.length - 1) false).length by show 0 < _; simp), Bool.and_self, Bool.not_true, cond_false, q1, hw]
    exact next

noncomputable def a_spec_l02Keep_v0 : Nat → Option Ann := fun n => bif Nat.beq n 4 then some ⟨[0,1,4,5,6,7],0,true⟩ else none
noncomputable def c_spec_l02Keep_v0 : Ctx := mkC Try.prog tyT [(145, s_spec_l02Leaf), (146, s_spec_l02Two)] [] [] 75 a_spec_l02Keep_v0 0 false [] true
noncomputable def gp_spec_l02Keep_v0 : List (List (Option Ty)) := List.map giveR [.agg [.deep tN]]
noncomputable def fr_spec_l02Keep_v0_4 (ns : ShapeD) (bs : List Bool) (pl : List Int) (out : ShapeD) (i : Int) : Fr := [(0, .ref [.vec tN ns] 0), (1, .vec .bool bs), (4, .ptr 0 0), (5, .ptr 1 0), (6, .obj 2 0), (7, .int .i64 i)]
noncomputable def hp_spec_l02Keep_v0_4 (ns : ShapeD) (bs : List Bool) (pl : List Int) (out : ShapeD) (i : Int) : Heap := [.box [.nils], .box [.dob 3 0], .sl 0 tI pl, .dp 0 0 tN out]
theorem r_spec_l02Keep_v0_4 (ns : ShapeD) (bs : List Bool) (pl : List Int) (out : ShapeD) (i : Int) (Kn : Fr → Heap → Prop) (K : V → Heap → Prop) : round c_spec_l02Keep_v0 ⟨[0,1,4,5,6,7],0,true⟩ (lb c_spec_l02Keep_v0 4 Try.f96) (fr_spec_l02Keep_v0_4 ns bs pl out i) (hp_spec_l02Keep_v0_4 ns bs pl out i) Kn (lkG gp_spec_l02Keep_v0 c_spec_l02Keep_v0 4 Try.f96 [] K) =
  cond (decide (i < (↑(List.length ns) : Int)))
    (cond (decide (0 ≤ i))
      ((match bs[Int.toNat i]? with
        | some y0 => cond (!y0)
          (Kn [(0, (.ref [(.vec tN (ns))] 0)), (1, (.vec .bool (bs))), (4, (.ptr 0 0)), (5, (.ptr 1 0)), (6, (.obj 2 0)), (7, (.int .i64 (IntKind.wrap IntKind.i64 (i + 1))))] [(.box [.nils]), (.box [(.dob 3 0)]), (.sl 0 (.int .i64) (pl)), (.dp 0 0 tN (out))])
          (cond (decide (0 ≤ i))
            ((match ns[Int.toNat i]? with
              | some y1 => cond (decide ((0 + List.length (Prod.snd (Prod.snd (Prod.snd y1)))) * 4 ≤ 140737488355328))
                (cond (!inR (Prod.fst y1) 0 4)
                  (cond (decide (0 ≤ Prod.fst (Prod.snd y1)) && Nat.blt (Int.toNat (Prod.fst (Prod.snd y1))) (List.length pl))
                    ((match pl[Int.toNat (Prod.fst (Prod.snd y1))]? with
                      | some x2 => cond (inR (Prod.fst y1) 5 8)
                        (cond (decide (0 ≤ Prod.fst (Prod.snd (Prod.snd y1))) && Nat.blt (Int.toNat (Prod.fst (Prod.snd (Prod.snd y1)))) (List.length pl))
                          ((match pl[Int.toNat (Prod.fst (Prod.snd (Prod.snd y1)))]? with
                            | some x3 => cond (decide (0 ≤ i) && Nat.blt (Int.toNat i) (List.length pl))
                              ((match pl[Int.toNat i]? with
                                | some x4 => cond (decide ((List.length out + 1) * 48 ≤ 140737488355328))
                                  (Kn [(0, (.ref [(.vec tN (ns))] 0)), (1, (.vec .bool (bs))), (4, (.ptr 0 0)), (5, (.ptr 1 0)), (6, (.obj 2 0)), (7, (.int .i64 (IntKind.wrap IntKind.i64 (i + 1))))] [(.box [.nils]), (.box [(.dob 3 0)]), (.sl 0 (.int .i64) (List.set pl (Int.toNat i) (↑(List.length out) : Int))), (.dp 0 0 tN (out ++ [(Prod.fst y1, x2, x3, [] ++ Prod.snd (Prod.snd (Prod.snd y1)))]))])
                                  (False)
                                | none => False))
                              (False)
                            | none => False))
                          (False))
                        (cond (decide (0 ≤ i) && Nat.blt (Int.toNat i) (List.length pl))
                          ((match pl[Int.toNat i]? with
                            | some x5 => cond (decide ((List.length out + 1) * 48 ≤ 140737488355328))
                              (Kn [(0, (.ref [(.vec tN (ns))] 0)), (1, (.vec .bool (bs))), (4, (.ptr 0 0)), (5, (.ptr 1 0)), (6, (.obj 2 0)), (7, (.int .i64 (IntKind.wrap IntKind.i64 (i + 1))))] [(.box [.nils]), (.box [(.dob 3 0)]), (.sl 0 (.int .i64) (List.set pl (Int.toNat i) (↑(List.length out) : Int))), (.dp 0 0 tN (out ++ [(Prod.fst y1, x2, Prod.fst (Prod.snd (Prod.snd y1)), [] ++ Prod.snd (Prod.snd (Prod.snd y1)))]))])
                              (False)
                            | none => False))
                          (False))
                      | none => False))
                    (False))
                  (cond (inR (Prod.fst y1) 5 8)
                    (cond (decide (0 ≤ Prod.fst (Prod.snd (Prod.snd y1))) && Nat.blt (Int.toNat (Prod.fst (Prod.snd (Prod.snd y1)))) (List.length pl))
                      ((match pl[Int.toNat (Prod.fst (Prod.snd (Prod.snd y1)))]? with
                        | some x6 => cond (decide (0 ≤ i) && Nat.blt (Int.toNat i) (List.length pl))
                          ((match pl[Int.toNat i]? with
                            | some x7 => cond (decide ((List.length out + 1) * 48 ≤ 140737488355328))
                              (Kn [(0, (.ref [(.vec tN (ns))] 0)), (1, (.vec .bool (bs))), (4, (.ptr 0 0)), (5, (.ptr 1 0)), (6, (.obj 2 0)), (7, (.int .i64 (IntKind.wrap IntKind.i64 (i + 1))))] [(.box [.nils]), (.box [(.dob 3 0)]), (.sl 0 (.int .i64) (List.set pl (Int.toNat i) (↑(List.length out) : Int))), (.dp 0 0 tN (out ++ [(Prod.fst y1, Prod.fst (Prod.snd y1), x6, [] ++ Prod.snd (Prod.snd (Prod.snd y1)))]))])
                              (False)
                            | none => False))
                          (False)
                        | none => False))
                      (False))
                    (cond (decide (0 ≤ i) && Nat.blt (Int.toNat i) (List.length pl))
                      ((match pl[Int.toNat i]? with
                        | some x8 => cond (decide ((List.length out + 1) * 48 ≤ 140737488355328))
                          (Kn [(0, (.ref [(.vec tN (ns))] 0)), (1, (.vec .bool (bs))), (4, (.ptr 0 0)), (5, (.ptr 1 0)), (6, (.obj 2 0)), (7, (.int .i64 (IntKind.wrap IntKind.i64 (i + 1))))] [(.box [.nils]), (.box [(.dob 3 0)]), (.sl 0 (.int .i64) (List.set pl (Int.toNat i) (↑(List.length out) : Int))), (.dp 0 0 tN (out ++ [(Prod.fst y1, Prod.fst (Prod.snd y1), Prod.fst (Prod.snd (Prod.snd y1)), [] ++ Prod.snd (Prod.snd (Prod.snd y1)))]))])
                          (False)
                        | none => False))
                      (False))))
                (False)
              | none => False))
            (False))
        | none => False))
      (False))
    (K (.agg [(.dob 0 0)]) [(.dp 0 0 tN (out))]) := by kernel_rfl
theorem w_spec_l02Keep_v0 (ns : ShapeD) (bs : List Bool) (K : V → Heap → Prop) : wpFnG gp_spec_l02Keep_v0 c_spec_l02Keep_v0 Try.f96 (encAs [.ref tS, .cell (.slice .bool)] (ns, bs, ())) [] K =
 cond (decide (0 ≤ (↑(List.length ns) : Int)) && (decide ((↑(List.length ns) : Int) ≤ (↑(List.length ns) : Int)) && decide ((↑8 : Int) * (↑(List.length ns) : Int) ≤ 281474976710656)))
 (LoopE c_spec_l02Keep_v0 ⟨[0, 1, 4, 5, 6, 7], 0, true⟩ (lb c_spec_l02Keep_v0 4 Try.f96) [(0, (.ref [(.vec tN (ns))] 0)), (1, (.vec .bool (bs))), (4, (.ptr 0 0)), (5, (.ptr 1 0)), (6, (.obj 2 0)), (7, (.int .i64 0))] [(.box [.nils]), (.box [(.dob 3 0)]), (.sl 0 (.int .i64) (List.replicate (Int.toNat (↑(List.length ns) : Int)) 0)), (.dp 0 0 tN ([]))] (lkG gp_spec_l02Keep_v0 c_spec_l02Keep_v0 4 Try.f96 [] K))
 (False) := by kernel_rfl
noncomputable def s_spec_l02Keep_v0 : Sm := semV [.ref tS, .cell (.slice .bool)] [.agg [.deep tN]] (fun x => match x with | (ns, bs, _) => nodesB ns && ((bs == true :: List.replicate (ns.length - 1) false) && (decide (1 ≤ ns.length) && decide (ns.length ≤ 16)))) fun x => match x with | (ns, bs, _) => (([nodeAt ns 0], ()), ())
theorem ok_spec_l02Keep_v0 : FnOkL Try.prog 96 s_spec_l02Keep_v0 := fnOkO_give (fnOkO_runG (C := c_spec_l02Keep_v0) gp_spec_l02Keep_v0 rfl mixed (.cons ok_spec_l02Leaf (.cons ok_spec_l02Two .nil)) .nil .nil Try.func96 (by kernel_rfl)) rfl fun (x : ((ShapeD) × (List Bool) × Unit)) wf hg K h => by
  obtain ⟨ns, bs, ⟨⟩⟩ := x
  replace hg : (nodesB ns && ((bs == true :: List.replicate (ns.length - 1) false) && (decide (1 ≤ ns.length) && decide (ns.length ≤ 16)))) = true := hg
  replace h : K (tup (valRs [.agg [.deep tN]] ((([nodeAt ns 0], ()), ())) 0)) (thRs [.agg [.deep tN]] ((([nodeAt ns 0], ()), ()))) := h
  rw [w_spec_l02Keep_v0 ns bs K]
  simp only [Bool.and_eq_true, decide_eq_true_eq, beq_iff_eq] at hg
  obtain ⟨hn, rfl, l1, l2⟩ := hg
  obtain ⟨q1, q2⟩ := node0_leaf hn l1
  obtain ⟨e, hb⟩ := nodes_at0 hn l1
  obtain ⟨m, hm⟩ : ∃ m, ns.length = m + 1 := ⟨ns.length - 1, by omega⟩
  have h8 : (8 : Int) * (ns.length : Int) ≤ 281474976710656 := by omega
  simp only [Int.toNat_natCast]
  refine cond_yes (by simp only [Bool.and_eq_true, decide_eq_true_eq]; exact ⟨by omega, Int.le_refl _, h8⟩) ?_
  have hset : (List.replicate ns.length (0 : Int)).set 0 0 = List.replicate ns.length 0 := by rw [hm]; rfl
  have hxl : (nodeAt ns 0).2.2.2.length ≤ 4 := by
    generalize nodeAt ns 0 = nd at *
    obtain ⟨k, a, c, xs⟩ := nd
    have b1 := (nodeB_parts hb).1
    have := nums_len b1
    have hkn : kindN k ≤ 4 := by rcases kinds (nums_isK b1) with r | r | r | r | r | r | r | r | r | r | r | r | r | r | r | r | r <;> subst r <;> decide
    simp only
    omega
  refine loop_run (σ := Nat) (fun i => fr_spec_l02Keep_v0_4 ns (true :: List.replicate (ns.length - 1) false) [] [] i) (fun i => hp_spec_l02Keep_v0_4 ns [] (List.replicate ns.length 0) (match i with | 0 => [] | _ + 1 => [nodeAt ns 0]) 0) (fun i => i ≤ ns.length) (fun i => ns.length - i) ?_ 0 (Nat.zero_le _)
  intro i hi Kn hk
  cases i with
  | zero =>
    have next := hk 1 (by omega) (by omega)
    simp only at next ⊢
    refine Eq.mpr (r_spec_l02Keep_v0_4 ns (true :: List.replicate (ns.length - 1) false) (List.replicate ns.length 0) [] ((0 : Nat) : Int) Kn K) ?_
    have hb0 : (true :: List.replicate (ns.length - 1) false)[0]? = some true := rfl
    have hr0 : (List.replicate ns.length (0 : Int))[0]? = some 0 := by rw [hm]; rfl
    have hw : IntKind.i64.wrap (((0 : Nat) : Int) + 1) = 1 := i64_of (by omega) (by omega)
    have hl : (List.replicate ns.length (0 : Int)).length = ns.length := List.length_replicate
    have hset' : (List.replicate ns.length (0 : Int)).set 0 ((0 : Nat) : Int) = List.replicate ns.length 0 := hset
    simp only [d_t (show ((0 : Nat) : Int) < ns.length by omega), d_0, cond_true, Int.toNat_natCast, hb0, e, Bool.not_true, Bool.not_false, cond_false, q1, q2, hr0, hl, blt_t (show 0 < ns.length by omega), Bool.and_self, hw, d_t (show (0 + (nodeAt ns 0).2.2.2.length) * 4 ≤ 140737488355328 by omega), List.length_nil, List.nil_append, d_t (show (0 + 1) * 48 ≤ 140737488355328 by omega), hset']
    exact next
  | succ i =>
    simp only
    refine Eq.mpr (r_spec_l02Keep_v0_4 ns (true :: List.replicate (ns.length - 1) false) (List.replicate ns.length 0) [nodeAt ns 0] ((i + 1 : Nat) : Int) Kn K) ?_
    by_cases hlt : i + 1 < ns.length
    · have next := hk (i + 1 + 1) hlt (by omega)
      have hb1 : (true :: List.replicate (ns.length - 1) false)[i + 1]? = some false := by
        rw [List.getElem?_cons_succ, List.getElem?_replicate, if_pos (by omega)]
      simp only [d_t (show ((i + 1 : Nat) : Int) < ns.length by omega), d_0, cond_true, Int.toNat_natCast, hb1, Bool.not_false]
      rw [i64_of (n := ((i + 1 : Nat) : Int) + 1) (by omega) (by omega)]
      exact next
    · rw [d_f (show ¬ ((i + 1 : Nat) : Int) < ns.length by omega)]
      exact h

def fewV (s : SrcD) : ShapeD := bif decide (7 < (shapeV s).length) then [nodeAt (shapeV s) 0] else shapeV s
noncomputable def c_spec_R8Few : Ctx := mkC Try.prog tyT [] [] [(67, s_spec_l00From), (82, s_spec_l02DrawOk), (97, s_spec_l02Below_v0), (96, s_spec_l02Keep_v0)] 16 (fun _ => none) 0
theorem w_spec_R8Few (xs : List Int) (K : V → Heap → Prop) : wpFn c_spec_R8Few Try.f34 (encAs [.cell tB] (xs, ())) [] K =
 cond (inS 500000 (xs, 0, 0))
 (cond (decide ((↑(List.length (shapeV (xs, 0, 0))) : Int) > 7))
 (cond (nodesB (shapeV (xs, 0, 0)) && (0 == 0 && (decide (1 ≤ List.length (shapeV (xs, 0, 0))) && decide (List.length (shapeV (xs, 0, 0)) ≤ 16))))
 (cond (nodesB (shapeV (xs, (0 : Int), (0 : Int))) && (true :: List.replicate (List.length (shapeV (xs, (0 : Int), (0 : Int))) - (1 : Nat)) false == true :: List.replicate (List.length (shapeV (xs, (0 : Int), (0 : Int))) - (1 : Nat)) false && (decide ((1 : Nat) ≤ List.length (shapeV (xs, (0 : Int), (0 : Int)))) && decide (List.length (shapeV (xs, (0 : Int), (0 : Int))) ≤ (16 : Nat)))))
 (K (.agg [(.vec tN ([nodeAt (shapeV (xs, (0 : Int), (0 : Int))) (0 : Int)]))]) [])
 (False))
 (False))
 (K (.agg [(.vec tN (shapeV (xs, 0, 0)))]) []))
 (False) := by kernel_rfl
noncomputable def s_spec_R8Few : Sm := semT [.cell tB] fun x => match x with | (xs, _) => .agg [.vec tN (fewV (xs, 0, 0))]
theorem ok_spec_R8Few : FnOk Try.prog 34 s_spec_R8Few := fnOk_typed (fnOk_runC (C := c_spec_R8Few) rfl mixed .nil .nil (.cons ok_spec_l00From (.cons ok_spec_l02DrawOk (.cons ok_spec_l02Below_v0 (.cons ok_spec_l02Keep_v0 .nil)))) Try.func34 (by kernel_rfl)) fun (x : ((List Int) × Unit)) wf K h => by
  obtain ⟨xs, ⟨⟩⟩ := x
  replace h : K (.agg [.vec tN (fewV (xs, 0, 0))]) [] := h
  rw [w_spec_R8Few xs K]
  have hb : bytes xs := bytes_of wf.1
  obtain ⟨g1, g2, g3, g4⟩ := okS_good (shape_okS (s := (xs, 0, 0)) hb)
  have hn := valid_nodes g2
  refine cond_yes (by rw [inS_iff]; exact ⟨Int.le_refl _, by show (0 : Int) ≤ _; decide⟩) ?_
  unfold fewV at h
  rw [show decide (((shapeV (xs, 0, 0)).length : Int) > 7) = decide (7 < (shapeV (xs, 0, 0)).length) from decide_eq_decide.2 (by omega)]
  cases e7 : decide (7 < (shapeV (xs, 0, 0)).length) with
  | false => rw [e7] at h; exact h
  | true =>
    rw [e7] at h
    simp only [cond_true] at h ⊢
    rw [hn, d_t g3, d_t g4, beq_self_eq_true]
    simp only [Bool.and_self, beq_self_eq_true, cond_true]
    exact h

theorem few_okS {s : SrcD} (hb : bytes s.1) : okS (fewV s) = true ∧ (fewV s).length ≤ 7 := by
  have h := shape_okS hb
  obtain ⟨g1, g2, g3, g4⟩ := okS_good h
  unfold fewV
  by_cases h7 : 7 < (shapeV s).length
  · rw [d_t h7]
    simp only [cond_true]
    obtain ⟨q1, q2⟩ := node0_leaf (valid_nodes g2) g3
    obtain ⟨e, hb0⟩ := nodes_at0 (valid_nodes g2) g3
    refine ⟨?_, by simp⟩
    generalize nodeAt (shapeV s) 0 = n at *
    obtain ⟨k, a, c, xs⟩ := n
    have hk := nums_isK (nodeB_parts hb0).1
    have hkid : kids k a c = [] := by
      rcases kind_cases a c hk with ⟨p1, p2, p3⟩ | ⟨p1, p2, p3⟩ | ⟨p1, p2, p3⟩
      · exact p3
      · rw [p1] at q1; cases q1
      · rw [p1] at q1; cases q1
    have st : Stack [(k, a, c, xs)] [((0 : Nat) : Int)] := by
      have := stack_nil.push (n := (k, a, c, xs)) (rest := []) (by rw [show kidsN (k, a, c, xs) = [] from hkid]; rfl) hb0
      exact this
    unfold okS
    rw [st.valid (by simp) (by simp)]
    have hk12 : k ≠ 12 := by
      have := inR_iff.1 q1
      simp only at this
      omega
    show (true && turnsB [(k, a, c, xs)]) = true
    rw [Bool.true_and]
    exact turns_iff.2 fun n hn => by rw [List.mem_singleton.1 hn]; exact turn_not hk12 _
  · rw [d_f h7]
    exact ⟨h, by simp only [cond_false]; omega⟩

end Go.Proofs.Ytfhpmcdbfebflaa

/- Plain: parts of shapes: which nodes they have, that they are valid, how deep they are; leaves. -/
set_option linter.unusedVariables false
set_option linter.unusedSimpArgs false
set_option maxRecDepth 100000
namespace Go.Proofs.Ytfhpmcdbfebflaa
open Go.Ev Go.Ev.Fl

abbrev kidsAt (ns : ShapeD) (i : Nat) : List Int := kidsN (nodeAt ns (i : Int))
structure Tree (ns : ShapeD) : Prop where
  st : Stack ns [(ns.length : Int) - 1]
  lo : 1 ≤ ns.length
theorem Tree.at {ns : ShapeD} (h : Tree ns) {i : Nat} (hi : i < ns.length) : ns[i]? = some (nodeAt ns i) ∧ nodeB i (nodeAt ns i) = true := by
  have e : ns[i]? = some (ns[i]'hi) := get_lt hi
  have en : nodeAt ns (i : Int) = ns[i]'hi := by unfold nodeAt; rw [Int.toNat_natCast, e]; rfl
  rw [en]
  exact ⟨e, h.st.nodes i _ e⟩
theorem Tree.kid {ns : ShapeD} (h : Tree ns) {i : Nat} (hi : i < ns.length) : ∀ c ∈ kidsAt ns i, 0 ≤ c ∧ c < i := by
  have hb := (h.at hi).2
  intro c hc
  have := nodeB_kids hb c hc
  omega
theorem Tree.nodes {ns : ShapeD} (h : Tree ns) : nodesB ns = true := okUp_all fun j n _ e => h.st.nodes j n e
theorem shape_map {ns : ShapeD} : (List.range ns.length).map (fun (i : Nat) => nodeAt ns (i : Int)) = ns := by
  apply List.ext_getElem
  · rw [List.length_map, List.length_range]
  · intro i h1 h2
    rw [List.getElem_map, List.getElem_range]
    unfold nodeAt
    rw [Int.toNat_natCast, get_lt h2]
    rfl
theorem flat_range (ns : ShapeD) : ns.flatMap kidsN = (List.range ns.length).flatMap (kidsAt ns) := by
  conv => lhs; rw [← shape_map (ns := ns)]
  rw [List.flatMap_map]
theorem Tree.parent {ns : ShapeD} (h : Tree ns) {j : Nat} (hj : j + 1 < ns.length) : ∃ i, i < ns.length ∧ (j : Int) ∈ kidsAt ns i := by
  have hm : (j : Int) ∈ upTo ns.length := by
    unfold upTo
    exact List.mem_map.2 ⟨j, List.mem_range.2 (by omega), rfl⟩
  have := h.st.perm.symm.subset hm
  rw [flat_range] at this
  rcases List.mem_append.1 this with k | k
  · obtain ⟨i, hi, hc⟩ := List.mem_flatMap.1 k
    exact ⟨i, List.mem_range.1 hi, hc⟩
  · rw [List.mem_singleton] at k; omega

def mkB (bs : List Bool) (j : Nat) : Bool := (bs[j]?).getD false
theorem mk_set {bs : List Bool} {c : Nat} (hc : c < bs.length) (j : Nat) : mkB (bs.set c true) j = true ↔ mkB bs j = true ∨ j = c := by
  unfold mkB
  rw [List.getElem?_set]
  by_cases e : c = j
  · subst e
    rw [if_pos rfl, if_pos hc]
    simp
  · rw [if_neg e]
    constructor
    · exact .inl
    · rintro (k | k)
      · exact k
      · exact absurd k.symm e
theorem mk_markK : ∀ (cs : List Int) (bs : List Bool), (∀ c ∈ cs, 0 ≤ c ∧ c < bs.length) → ∀ j, mkB (markK bs cs) j = true ↔ mkB bs j = true ∨ (j : Int) ∈ cs
  | [], bs, _, j => by simp [markK]
  | c :: cs, bs, h, j => by
    have hc := h c (by simp)
    have ih := mk_markK cs (bs.set c.toNat true) (fun d hd => by rw [List.length_set]; exact h d (by simp [hd])) j
    show mkB (markK (bs.set c.toNat true) cs) j = true ↔ _
    rw [ih, mk_set (by omega), List.mem_cons]
    constructor
    · rintro ((k | k) | k)
      · exact .inl k
      · exact .inr (.inl (by omega))
      · exact .inr (.inr k)
    · rintro (k | k | k)
      · exact .inl (.inl k)
      · exact .inl (.inr (by omega))
      · exact .inr k
structure Mkd (ns : ShapeD) (node i : Nat) (bs : List Bool) : Prop where
  len : bs.length = ns.length
  top : mkB bs node = true
  le : ∀ j, mkB bs j = true → j ≤ node
  down : ∀ p, i ≤ p → p < ns.length → mkB bs p = true → ∀ c ∈ kidsAt ns p, mkB bs c.toNat = true
  up : ∀ j, mkB bs j = true → j ≠ node → ∃ p, i ≤ p ∧ p < ns.length ∧ mkB bs p = true ∧ (j : Int) ∈ kidsAt ns p
theorem Mkd.step {ns : ShapeD} (T : Tree ns) {node i : Nat} {bs : List Bool} (h : Mkd ns node (i + 1) bs) (hi : i < ns.length) : Mkd ns node i (bif mkB bs i then markK bs (kidsAt ns i) else bs) := by
  have hk := T.kid hi
  cases e : mkB bs i with
  | false =>
    simp only [cond_false]
    refine ⟨h.len, h.top, h.le, fun p hp hpl hm c hc => ?_, fun j hj hn => ?_⟩
    · rcases Nat.lt_or_ge i p with k | k
      · exact h.down p (by omega) hpl hm c hc
      · have : p = i := by omega
        subst this
        rw [e] at hm; cases hm
    · obtain ⟨p, h1, h2⟩ := h.up j hj hn
      exact ⟨p, by omega, h2⟩
  | true =>
    have K := mk_markK (kidsAt ns i) bs (fun c hc => by have := hk c hc; have := h.len; omega)
    simp only [cond_true]
    refine ⟨by rw [markK_len]; exact h.len, (K node).2 (.inl h.top), fun j hj => ?_, fun p hp hpl hm c hc => ?_, fun j hj hn => ?_⟩
    · rcases (K j).1 hj with k | k
      · exact h.le j k
      · have := hk _ k; have := h.le i e; omega
    · rw [K]
      have cr := T.kid hpl c hc
      rcases Nat.lt_or_ge i p with k | k
      · have hpm : mkB bs p = true := by
          rcases (K p).1 hm with q | q
          · exact q
          · have := hk _ q; omega
        exact .inl (h.down p (by omega) hpl hpm c hc)
      · have : p = i := by omega
        subst this
        exact .inr (by rw [Int.toNat_of_nonneg cr.1]; exact hc)
    · rcases (K j).1 hj with k | k
      · obtain ⟨p, h1, h2, h3, h4⟩ := h.up j k hn
        exact ⟨p, by omega, h2, (K p).2 (.inl h3), h4⟩
      · exact ⟨i, Nat.le_refl _, hi, (K i).2 (.inl e), k⟩
theorem Mkd.go {ns : ShapeD} (T : Tree ns) {node : Nat} : ∀ (i : Nat) {bs : List Bool}, i ≤ ns.length → Mkd ns node i bs → Mkd ns node 0 (belGo ns i bs)
  | 0, _, _, h => h
  | i + 1, bs, hi, h => Mkd.go T i (by omega) (h.step T (by omega))
theorem belV_mkd {ns : ShapeD} (T : Tree ns) {node : Nat} (hn : node < ns.length) : Mkd ns node 0 (belV ns (node : Int)) := by
  have hf : ∀ j, mkB (List.replicate ns.length false) j = false := fun j => by
    unfold mkB
    rw [List.getElem?_replicate]
    split <;> rfl
  have hs := fun j => mk_set (bs := List.replicate ns.length false) (c := node) (by rw [List.length_replicate]; exact hn) j
  have h0 : Mkd ns node ns.length ((List.replicate ns.length false).set node true) := by
    refine ⟨by rw [List.length_set, List.length_replicate], (hs node).2 (.inr rfl), fun j hj => ?_, fun p hp hpl => by omega, fun j hj hne => ?_⟩
    · rcases (hs j).1 hj with k | k
      · rw [hf] at k; cases k
      · omega
    · rcases (hs j).1 hj with k | k
      · rw [hf] at k; cases k
      · exact absurd k hne
  unfold belV
  rw [Int.toNat_natCast]
  exact Mkd.go T ns.length (Nat.le_refl _) h0

def ms (bs : List Bool) (i : Nat) : List Nat := (List.range i).filter (mkB bs)
def rk (bs : List Bool) (c : Int) : Int := ((ms bs c.toNat).length : Int)
def reN (bs : List Bool) (n : NodeD) : NodeD := (n.1, (bif !inR n.1 0 4 then rk bs n.2.1 else n.2.1), (bif inR n.1 5 8 then rk bs n.2.2.1 else n.2.2.1), n.2.2.2)
theorem ms_succ (bs : List Bool) (i : Nat) : ms bs (i + 1) = bif mkB bs i then ms bs i ++ [i] else ms bs i := by
  unfold ms
  rw [List.range_succ, List.filter_append, List.filter_cons, List.filter_nil]
  cases mkB bs i <;> simp
theorem kp_is {ns : ShapeD} (T : Tree ns) {bs : List Bool} (hb : bs.length = ns.length) (hd : ∀ p, p < ns.length → mkB bs p = true → ∀ c ∈ kidsAt ns p, mkB bs c.toNat = true) :
    ∀ i, i ≤ ns.length → (kpGo ns bs i).2 = (ms bs i).map (fun (j : Nat) => reN bs (nodeAt ns (j : Int))) ∧ (∀ j, j < i → mkB bs j = true → dI (kpGo ns bs i).1 (j : Int) = rk bs (j : Int))
  | 0, _ => ⟨rfl, fun j hj => by omega⟩
  | i + 1, hi => by
    obtain ⟨h1, h2⟩ := kp_is T hb hd i (by omega)
    obtain ⟨l1, l2⟩ := kp_len ns bs i
    have hs : kpGo ns bs (i + 1) = bif mkB bs i then ((kpGo ns bs i).1.set i (kpGo ns bs i).2.length, (kpGo ns bs i).2 ++ [keepN ((kpGo ns bs i).1.set i (kpGo ns bs i).2.length) (nodeAt ns i)]) else kpGo ns bs i := rfl
    rw [hs, ms_succ]
    cases e : mkB bs i with
    | false =>
      refine ⟨h1, fun j hj hm => ?_⟩
      have : j ≠ i := fun c => by rw [c, e] at hm; cases hm
      exact h2 j (by omega) hm
    | true =>
      have hlen : ((kpGo ns bs i).2.length : Int) = rk bs (i : Int) := by
        rw [h1, List.length_map]
        unfold rk
        rw [Int.toNat_natCast]
      have hset : ∀ j, j < i + 1 → mkB bs j = true → dI ((kpGo ns bs i).1.set i (kpGo ns bs i).2.length) (j : Int) = rk bs (j : Int) := by
        intro j hj hm
        unfold dI
        rw [Int.toNat_natCast, List.getElem?_set]
        by_cases c : i = j
        · subst c
          rw [if_pos rfl, if_pos (by omega)]
          exact hlen
        · rw [if_neg c]
          exact h2 j (by omega) hm
      refine ⟨?_, hset⟩
      simp only [cond_true, List.map_append, List.map_cons, List.map_nil]
      rw [h1]
      congr 2
      have hk := T.kid (i := i) (by omega)
      have hm := hd i (by omega) e
      obtain ⟨_, hb2⟩ := T.at (i := i) (by omega)
      unfold kidsAt at hk hm
      rw [h1, List.length_map] at hset
      generalize nodeAt ns (i : Int) = n at *
      obtain ⟨k, a, c, xs⟩ := n
      have hk0 := nums_isK (nodeB_parts hb2).1
      have D : ∀ d, d ∈ kids k a c → dI ((kpGo ns bs i).1.set i ((ms bs i).length : Int)) d = rk bs d := by
        intro d hdk
        have r := hk d hdk
        have := hset d.toNat (by omega) (hm d hdk)
        rw [Int.toNat_of_nonneg r.1] at this
        exact this
      rw [List.length_map]
      unfold keepN reN
      simp only
      rcases kind_cases a c hk0 with ⟨q1, q2, q3⟩ | ⟨q1, q2, q3⟩ | ⟨q1, q2, q3⟩ <;> rw [q3] at D <;> simp only [q1, q2, Bool.not_true, Bool.not_false, cond_true, cond_false]
      · rw [D a (by simp)]
      · rw [D a (by simp), D c (by simp)]
theorem part_is {ns : ShapeD} (T : Tree ns) {node : Nat} (hn : node < ns.length) : partV ns (node : Int) = (ms (belV ns (node : Int)) ns.length).map (fun (j : Nat) => reN (belV ns (node : Int)) (nodeAt ns (j : Int))) := by
  have M := belV_mkd T hn
  exact (kp_is T M.len (fun p hp hm c hc => M.down p (Nat.zero_le _) hp hm c hc) ns.length (Nat.le_refl _)).1

theorem ax_reN {k a c a' c' : Int} (hk : isK k = true) (h0 : inR k 0 4 = true → a' = a) (h5 : inR k 5 8 = false → c' = c) (h : axB k a c = true) : axB k a' c' = true := by
  rcases kind_ax a c hk with ⟨q1, q2, q3⟩ | ⟨q1, q2, q3, q4, q5⟩ | ⟨q1, q2, q3, q4, q5⟩ | ⟨q1, q2, q3, q4⟩
  · have q5 : inR k 5 8 = false := by rcases kinds hk with r | r | r | r | r | r | r | r | r | r | r | r | r | r | r | r | r <;> subst r <;> first | rfl | cases q1
    rw [h0 q1, h5 q5]; exact h
  · rw [h5 q2]
    rcases kind_ax a' c hk with ⟨p1, p2, p3⟩ | ⟨p1, p2, p3, p4, p5⟩ | ⟨p1, p2, p3, p4, p5⟩ | ⟨p1, p2, p3, p4⟩
    · rw [p1] at q1; cases q1
    · rw [p5, ← q5]; exact h
    · rw [p3] at q3; cases q3
    · exact p4
  · rw [h5 q2]
    rcases kind_ax a' c hk with ⟨p1, p2, p3⟩ | ⟨p1, p2, p3, p4, p5⟩ | ⟨p1, p2, p3, p4, p5⟩ | ⟨p1, p2, p3, p4⟩
    · rw [p1] at q1; cases q1
    · rw [p3] at q3; cases q3
    · rw [p5, ← q5]; exact h
    · exact p4
  · rcases kind_ax a' c' hk with ⟨p1, p2, p3⟩ | ⟨p1, p2, p3, p4, p5⟩ | ⟨p1, p2, p3, p4, p5⟩ | ⟨p1, p2, p3, p4⟩
    · rw [p1] at q1; cases q1
    · rw [p2] at q2; cases q2
    · rw [p2] at q2; cases q2
    · exact p4
theorem Tree.isK {ns : ShapeD} (T : Tree ns) {i : Nat} (hi : i < ns.length) : isK (nodeAt ns (i : Int)).1 = true := nodeB_isK (T.at hi).2
def dp (ns : ShapeD) (i : Nat) : Int := dMax (dpL ns i) (kidsAt ns i) + 1
end Go.Proofs.Ytfhpmcdbfebflaa

/- Floats as rational numbers: numbers that are bounded by a power of two; so nothing is a not-a-number. -/
set_option linter.unusedVariables false
set_option linter.unusedSimpArgs false
namespace Go.Ev
open Ieee

namespace Fl
def wpw (e : Nat) : Nat := (e + 127) * 8388608
theorem wpw_ex {e : Nat} (h : e ≤ 126) : Ex .f32 (wpw e) (pw (e : Int)) := by
  have hb : FloatKind.f32.format.binade = 8388608 := by decide
  have hr : (e + 126) * FloatKind.f32.format.binade + 8388608 ≤ infOf .f32 := by
    rw [hb]
    have : infOf .f32 = 2139095040 := rfl
    omega
  have hw : wpw e = FloatKind.f32.format.word false ((e + 126) * FloatKind.f32.format.binade + 8388608) := by
    rw [hb]
    unfold wpw
    show _ = (e + 126) * 8388608 + 8388608
    omega
  have hlt : wpw e < infOf .f32 := by
    have : infOf .f32 = 2139095040 := rfl
    unfold wpw
    omega
  have hi : infOf .f32 = 2139095040 := rfl
  have hs : signOf .f32 = 2147483648 := rfl
  refine ⟨?_, by omega, ?_⟩
  · rw [fin_iff]
    show wpw e % signOf .f32 < infOf .f32
    rw [Nat.mod_eq_of_lt (by omega)]
    exact hlt
  · rw [ev_lit (k := .f32) false (e + 126) 8388608 (by rw [hb]; decide) (.inr (by omega)) hw hr]
    have hl : FloatKind.f32.format.leastPlace = -149 := by decide
    rw [hl, show ∀ q : Rat, sgd false q = q from fun _ => rfl]
    have e1 : ((8388608 : Nat) : Rat) = pw ((23 : Nat) : Int) := by rw [pw_nat, show (2 ^ 23 : Nat) = 8388608 by decide]
    rw [e1, ← pw_add]
    exact congrArg pw (by omega)
structure Bd (e : Nat) (x : Nat) : Prop where
  f : fin .f32 x = true
  l : x < 2 * signOf .f32
  lo : -pw (e : Int) ≤ ev .f32 x
  hi : ev .f32 x ≤ pw (e : Int)
theorem Bd.nan {e x : Nat} (h : Bd e x) : nan .f32 x = false := fin_nan h.f
theorem Bd.ex {e x : Nat} (h : Bd e x) : Ex .f32 x (ev .f32 x) := ⟨h.f, h.l, rfl⟩
theorem Bd.mono {e g x : Nat} (h : Bd e x) (he : e ≤ g) : Bd g x := by
  have := pw_le (show (e : Int) ≤ (g : Int) by omega)
  exact ⟨h.f, h.l, by have := h.lo; grind, by have := h.hi; grind⟩
theorem Bd.of_rnd {q : Rat} {b e : Nat} (h : Rnd .f32 q b) (h1 : -pw (e : Int) ≤ q) (h2 : q ≤ pw (e : Int)) (he : e ≤ 126) : Bd e b := by
  have W := wpw_ex he
  have V := W.neg
  have hi := h.le W.nan W.l (by rw [W.e]; exact h2)
  have lo := h.ge V.nan V.l (by rw [V.e]; exact h1)
  have hp := ev_le_iff.1 hi
  have lp := ev_le_iff.1 lo
  have f1 := (fin_pos W.nan).1 W.f
  have f2 := (fin_pos V.nan).1 V.f
  rw [W.e] at hi
  rw [V.e] at lo
  exact ⟨(fin_pos h.nan).2 ⟨by omega, by omega⟩, h.lt2, lo, hi⟩
theorem Bd.of_ex {q : Rat} {b e : Nat} (h : Ex .f32 b q) (h1 : -pw (e : Int) ≤ q) (h2 : q ≤ pw (e : Int)) : Bd e b := ⟨h.f, h.l, by rw [h.e]; exact h1, by rw [h.e]; exact h2⟩
theorem pw_two (e : Nat) : pw ((e + 1 : Nat) : Int) = 2 * pw (e : Int) := by rw [show ((e + 1 : Nat) : Int) = (e : Int) + 1 by omega]; exact pw_succ _
theorem pw_sum (e g : Nat) : pw ((e + g : Nat) : Int) = pw (e : Int) * pw (g : Int) := by rw [show ((e + g : Nat) : Int) = (e : Int) + (g : Int) by omega]; exact pw_add _ _
theorem pw_one_le (e : Nat) : 1 ≤ pw (e : Int) := by rw [← pw_zero]; exact pw_le (by omega)
theorem Bd.add {e x y : Nat} (hx : Bd e x) (hy : Bd e y) (he : e ≤ 125) : Bd (e + 1) (fadd .f32 x y) := by
  have p := pw_two e
  have := hx.lo; have := hx.hi; have := hy.lo; have := hy.hi
  exact .of_rnd (hx.ex.radd hy.ex) (by rw [p]; grind) (by rw [p]; grind) (by omega)
theorem Bd.sub {e x y : Nat} (hx : Bd e x) (hy : Bd e y) (he : e ≤ 125) : Bd (e + 1) (fsub .f32 x y) := by
  have p := pw_two e
  have := hx.lo; have := hx.hi; have := hy.lo; have := hy.hi
  exact .of_rnd (hx.ex.rsub hy.ex) (by rw [p]; grind) (by rw [p]; grind) (by omega)
theorem mul_bound {a b A B : Rat} (hA : 0 ≤ A) (hB : 0 ≤ B) (h1 : -A ≤ a) (h2 : a ≤ A) (h3 : -B ≤ b) (h4 : b ≤ B) : -(A * B) ≤ a * b ∧ a * b ≤ A * B := by
  have p1 := Rat.mul_nonneg (show 0 ≤ A - a by grind) (show 0 ≤ B - b by grind)
  have p2 := Rat.mul_nonneg (show 0 ≤ A + a by grind) (show 0 ≤ B + b by grind)
  have p3 := Rat.mul_nonneg (show 0 ≤ A - a by grind) (show 0 ≤ B + b by grind)
  have p4 := Rat.mul_nonneg (show 0 ≤ A + a by grind) (show 0 ≤ B - b by grind)
  constructor <;> grind
theorem Bd.mul {e g x y : Nat} (hx : Bd e x) (hy : Bd g y) (he : e + g ≤ 126) : Bd (e + g) (fmul .f32 x y) := by
  have p := pw_sum e g
  have := mul_bound (Rat.le_of_lt (pw_pos (e : Int))) (Rat.le_of_lt (pw_pos (g : Int))) hx.lo hx.hi hy.lo hy.hi
  exact .of_rnd (hx.ex.rmul hy.ex) (by rw [p]; exact this.1) (by rw [p]; exact this.2) he
theorem Bd.div {e g x y : Nat} (hx : Bd e x) {q : Rat} (hy : Ex .f32 y q) (h1 : 0 < q) (h2 : 1 ≤ q * pw (g : Int)) (he : e + g ≤ 126) : Bd (e + g) (fdiv .f32 x y) := by
  have h0 : q ≠ 0 := by grind
  have p := pw_sum e g
  have hq : ev .f32 x / q * q = ev .f32 x := Rat.div_mul_cancel h0
  have hm := Rat.mul_nonneg (Rat.le_of_lt (pw_pos (e : Int))) (show 0 ≤ q * pw (g : Int) - 1 by grind)
  have hi : ev .f32 x / q ≤ pw (e : Int) * pw (g : Int) := by
    refine Rat.le_of_mul_le_mul_right ?_ h1
    rw [hq]
    have := hx.hi
    grind
  have lo : -(pw (e : Int) * pw (g : Int)) ≤ ev .f32 x / q := by
    refine Rat.le_of_mul_le_mul_right ?_ h1
    rw [hq]
    have := hx.lo
    grind
  exact .of_rnd (hx.ex.rdiv hy h0) (by rw [p]; exact lo) (by rw [p]; exact hi) he
theorem Bd.neg {e x : Nat} (hx : Bd e x) : Bd e (fneg .f32 x) := by
  have := hx.lo; have := hx.hi
  exact .of_ex hx.ex.neg (by grind) (by grind)
theorem bd_zero (e : Nat) : Bd e 0 := by
  have := pw_pos (e : Int)
  exact .of_ex q_zero.x (by grind) (by grind)
theorem rnd_nonneg {q : Rat} {b : Nat} (h : Rnd .f32 q b) (h0 : 0 ≤ q) : 0 ≤ ev .f32 b := by
  have := h.ge (w := 0) (by decide) (by decide) (by rw [(ev_zero (by decide)).2 (.inl rfl)]; exact h0)
  rwa [(ev_zero (by decide)).2 (.inl rfl)] at this
theorem tab_root : (List.range 63).all (fun m => Nat.beq (rootN (wpw (2 * m))) (wpw m)) = true := by decide +kernel
theorem Bd.root {m x : Nat} (hx : Bd (2 * m) x) (h0 : 0 ≤ ev .f32 x) (hm : m ≤ 62) : Bd m (rootN x) ∧ 0 ≤ ev .f32 (rootN x) := by
  obtain ⟨a1, a2, a3⟩ := root_ex hx.ex h0
  have t := List.all_eq_true.1 tab_root m (List.mem_range.2 (by omega))
  have t := Nat.eq_of_beq_eq_true t
  have W := wpw_ex (e := 2 * m) (by omega)
  have V := wpw_ex (e := m) (by omega)
  have h := root_mono hx.ex W h0 hx.hi
  rw [t, V.e] at h
  have := pw_pos (m : Int)
  exact ⟨⟨a1, a2, by grind, h⟩, a3⟩
theorem Bd.rint {e x : Nat} (hx : Bd e x) : Bd (e + 1) (narrow (fwhole .even (widen x))) := by
  obtain ⟨n, h1, h2, h3, h4⟩ := even_ex (widen_ex hx.ex) hx.ex.rep
  have p := pw_two e
  have o := pw_one_le e
  have := hx.lo; have := hx.hi
  exact .of_ex (narrow_ex h1 h2).1 (by rw [p]; grind) (by rw [p]; grind)
theorem Bd.sel {e x y : Nat} {c : Bool} (hx : Bd e x) (hy : Bd e y) : Bd e (bif c then x else y) := by cases c <;> assumption
end Fl
end Go.Ev

/- Plain: distances of shapes of small numbers are bounded, so none is a not-a-number. -/
set_option linter.unusedVariables false
set_option linter.unusedSimpArgs false
set_option maxRecDepth 100000
namespace Go.Proofs.Ytfhpmcdbfebflaa
open Go.Ev Go.Ev.Fl

def n4B (x : Nat) : Bool := Nat.blt x 4294967296 && (Fl.fin .f32 x && (fle .f32 x 1082130432 && fge .f32 x 3229614080))
def n1B (x : Nat) : Bool := Nat.blt x 4294967296 && (Fl.fin .f32 x && (fle .f32 x 1065353216 && fge .f32 x 3212836864))
def lowB (x : Nat) : Bool := fge .f32 x 1048576000
def numOk (k : Int) (xs : List Nat) : Bool := xs.all n4B && ((!(kindS k == 2) || xs.all lowB) && (!(k == 12) || (n1B (sineF (nt xs 0)) && n1B (sineF (fsub .f32 1048576000 (nt xs 0))))))
def smlS (ns : ShapeD) : Bool := ns.all fun n => numOk n.1 n.2.2.2
theorem q_four' : Ex .f32 1082130432 4 := q_four.x
theorem q_nfour : Ex .f32 3229614080 (-4) := ((nearest_lit (x := 3229614080) (-4) (by decide) (by decide +kernel)).as rfl).x
theorem q_quarter : Ex .f32 1048576000 (1 / 4) := by
  have h := q_div (n := 1) (b := 1) 2 1082130432 (by decide) (by decide) (by decide) (by
    have := q_four.x
    exact this.cast rfl)
  rw [show fdiv .f32 (FloatKind.f32.nearest 1) 1082130432 = 1048576000 by decide +kernel] at h
  exact h.x.cast rfl
theorem pw2 : pw ((2 : Nat) : Int) = 4 := by rw [pw_nat]; rfl
theorem pw0 : pw ((0 : Nat) : Int) = 1 := by rw [pw_nat]; rfl
theorem n4_bd {x : Nat} (h : n4B x = true) : Bd 2 x := by
  unfold n4B at h
  simp only [Bool.and_eq_true, Nat.blt_eq] at h
  obtain ⟨h1, h2, h3, h4⟩ := h
  have hn := fin_nan h2
  rw [fle_ev hn q_four'.nan, decide_eq_true_eq, q_four'.e] at h3
  rw [fge_ev hn q_nfour.nan, decide_eq_true_eq, q_nfour.e] at h4
  exact ⟨h2, h1, by rw [pw2]; exact h4, by rw [pw2]; exact h3⟩
theorem n1_bd {x : Nat} (h : n1B x = true) : Bd 0 x := by
  unfold n1B at h
  simp only [Bool.and_eq_true, Nat.blt_eq] at h
  obtain ⟨h1, h2, h3, h4⟩ := h
  have hn := fin_nan h2
  rw [fle_ev hn q_one.x.nan, decide_eq_true_eq, q_one.x.e] at h3
  rw [fge_ev hn q_neg1.x.nan, decide_eq_true_eq, q_neg1.x.e] at h4
  exact ⟨h2, h1, by rw [pw0]; exact h4, by rw [pw0]; exact h3⟩
theorem low_ev {x : Nat} (h : lowB x = true) (hx : Bd 2 x) : 1 / 4 ≤ ev .f32 x := by
  unfold lowB at h
  rwa [fge_ev hx.nan q_quarter.nan, decide_eq_true_eq, q_quarter.e] at h
theorem nt_n4 {k : Int} {xs : List Nat} (h : numOk k xs = true) (i : Nat) : Bd 2 (nt xs i) := by
  unfold numOk at h
  simp only [Bool.and_eq_true] at h
  unfold nt
  cases e : xs[i]? with
  | none => exact bd_zero 2
  | some x => exact n4_bd (List.all_eq_true.1 h.1 x (List.mem_of_getElem? e))
theorem nt_low {k : Int} {xs : List Nat} (h : numOk k xs = true) (hk : kindS k = 2) {i : Nat} (hi : i < xs.length) : 1 / 4 ≤ ev .f32 (nt xs i) := by
  have hb := nt_n4 h i
  unfold numOk at h
  simp only [Bool.and_eq_true] at h
  have h2 := h.2.1
  rw [hk] at h2
  have h2 : xs.all lowB = true := h2
  have e : nt xs i = xs[i]'hi := by unfold nt; rw [get_lt hi]; rfl
  rw [e] at hb ⊢
  exact low_ev (List.all_eq_true.1 h2 _ (List.getElem_mem hi)) hb

structure BV (e : Nat) (p : V3) : Prop where
  x : Bd e p.1
  y : Bd e p.2.1
  z : Bd e p.2.2
theorem BV.mono {e g : Nat} {p : V3} (h : BV e p) (he : e ≤ g) : BV g p := ⟨h.x.mono he, h.y.mono he, h.z.mono he⟩
theorem abs_bd {e x : Nat} (h : Bd e x) : Bd e (absV x) := by
  unfold absV
  exact h.neg.sel h
theorem abs_nn {e x : Nat} (h : Bd e x) : 0 ≤ ev .f32 (absV x) := by
  unfold absV
  rw [flt_ev h.nan q_zero.x.nan, q_zero.x.e]
  by_cases c : ev .f32 x < 0
  · rw [decide_eq_true c]
    simp only [cond_true]
    rw [h.ex.neg.e]
    grind
  · rw [decide_eq_false c]
    exact Rat.not_lt.1 c
theorem ls_bd {e x y : Nat} (hx : Bd e x) (hy : Bd e y) : Bd e (lsV x y) := hy.sel hx
theorem gr_bd {e x y : Nat} (hx : Bd e x) (hy : Bd e y) : Bd e (grV x y) := hy.sel hx
theorem inner_bd {e g : Nat} {p q : V3} (hp : BV e p) (hq : BV g q) (he : e + g ≤ 120) : Bd (e + g + 2) (innerV p q) := by
  have a := hp.x.mul hq.x (by omega)
  have b := hp.y.mul hq.y (by omega)
  have c := hp.z.mul hq.z (by omega)
  exact (a.add b (by omega)).add (c.mono (by omega)) (by omega)
theorem sq_nn {e : Nat} {x : Nat} (h : Bd e x) : 0 ≤ ev .f32 (fmul .f32 x x) := rnd_nonneg (h.ex.rmul h.ex) (by
  rcases Rat.le_total (a := 0) (b := ev .f32 x) with k | k
  · exact Rat.mul_nonneg k k
  · have := Rat.mul_nonneg (show 0 ≤ -ev .f32 x by grind) (show 0 ≤ -ev .f32 x by grind)
    grind)
theorem inner_nn {e : Nat} {p : V3} (hp : BV e p) (he : e ≤ 60) : 0 ≤ ev .f32 (innerV p p) := by
  have a := hp.x.mul hp.x (by omega)
  have b := hp.y.mul hp.y (by omega)
  have c := hp.z.mul hp.z (by omega)
  have ab := a.add b (by omega)
  have h1 := rnd_nonneg (a.ex.radd b.ex) (by have := sq_nn hp.x; have := sq_nn hp.y; grind)
  exact rnd_nonneg (ab.ex.radd c.ex) (by have := sq_nn hp.z; grind)
theorem long_bd {e : Nat} {p : V3} (hp : BV e p) (he : e ≤ 59) : Bd (e + 1) (longV p) ∧ 0 ≤ ev .f32 (longV p) := by
  have h := inner_bd hp hp (by omega)
  exact (h.mono (show e + e + 2 ≤ 2 * (e + 1) by omega)).root (inner_nn hp (by omega)) (by omega)
theorem leaf_bd {k : Int} {xs : List Nat} {p : V3} {e : Nat} (hn : numOk k xs = true) (hp : BV e p) (h2 : 2 ≤ e) (he : e ≤ 56) : Bd (e + 5) (leafV k xs p) := by
  have N := nt_n4 hn
  have z := bd_zero
  have L0 : Bd (e + 5) (fsub .f32 (longV p) (nt xs 0)) := ((long_bd hp (by omega)).1.sub ((N 0).mono (by omega)) (by omega)).mono (by omega)
  have L1 : Bd (e + 5) (boxN xs p) := by
    have a := (abs_bd hp.x).sub ((N 0).mono (by omega)) (by omega)
    have b := (abs_bd hp.y).sub ((N 1).mono (by omega)) (by omega)
    have c := (abs_bd hp.z).sub ((N 2).mono (by omega)) (by omega)
    have l := (long_bd (e := e + 1) (p := (grV 0 (fsub .f32 (absV p.1) (nt xs 0)), grV 0 (fsub .f32 (absV p.2.1) (nt xs 1)), grV 0 (fsub .f32 (absV p.2.2) (nt xs 2)))) ⟨gr_bd (z _) a, gr_bd (z _) b, gr_bd (z _) c⟩ (by omega)).1
    unfold boxN
    exact (l.add ((ls_bd (z _) (gr_bd (gr_bd a b) c)).mono (by omega)) (by omega)).mono (by omega)
  have L2 : Bd (e + 5) (fsub .f32 (longV (p.1, shoV p.2.1 (nt xs 0), p.2.2)) (nt xs 1)) := by
    have s : Bd (e + 1) (shoV p.2.1 (nt xs 0)) := hp.y.sub (ls_bd (gr_bd (z _) hp.y) ((N 0).mono (by omega))) (by omega)
    have l := (long_bd (e := e + 1) (p := (p.1, shoV p.2.1 (nt xs 0), p.2.2)) ⟨hp.x.mono (by omega), s, hp.z.mono (by omega)⟩ (by omega)).1
    exact (l.sub ((N 1).mono (by omega)) (by omega)).mono (by omega)
  have L3 : Bd (e + 5) (fsub .f32 (longV (fsub .f32 (longV (p.1, 0, p.2.2)) (nt xs 0), p.2.1, 0)) (nt xs 1)) := by
    have l := (long_bd (e := e) (p := (p.1, 0, p.2.2)) ⟨hp.x, z _, hp.z⟩ (by omega)).1
    have m := l.sub ((N 0).mono (by omega)) (by omega)
    have l2 := (long_bd (e := e + 1 + 1) (p := (fsub .f32 (longV (p.1, 0, p.2.2)) (nt xs 0), p.2.1, 0)) ⟨m, hp.y.mono (by omega), z _⟩ (by omega)).1
    exact (l2.sub ((N 1).mono (by omega)) (by omega)).mono (by omega)
  have L4 : Bd (e + 5) (fsub .f32 (innerV p (nt xs 0, nt xs 1, nt xs 2)) (nt xs 3)) := by
    have l := inner_bd (q := (nt xs 0, nt xs 1, nt xs 2)) hp ⟨N 0, N 1, N 2⟩ (by omega)
    exact (l.sub ((N 3).mono (by omega)) (by omega)).mono (by omega)
  unfold leafV
  cases k == 0 with
  | true => simp only [cond_true, cond_false]; exact L0
  | false => cases k == 1 with
    | true => simp only [cond_true, cond_false]; exact L1
    | false => cases k == 2 with
      | true => simp only [cond_true, cond_false]; exact L2
      | false => cases k == 3 with
        | true => simp only [cond_true, cond_false]; exact L3
        | false => simp only [cond_true, cond_false]; exact L4

theorem one_low {x : Nat} (hx : Bd 2 x) (h : 1 / 4 ≤ ev .f32 x) : Bd 4 (fmul .f32 1082130432 x) ∧ 1 ≤ ev .f32 (fmul .f32 1082130432 x) := by
  have f : Bd 2 1082130432 := .of_ex q_four' (by rw [pw2]; grind) (by rw [pw2]; grind)
  refine ⟨f.mul hx (by omega), ?_⟩
  have r := q_four'.rmul hx.ex
  have := r.ge (w := 1065353216) q_one.x.nan q_one.x.l (by rw [q_one.x.e]; grind)
  rwa [q_one.x.e] at this
theorem mix_bd {k : Int} {xs : List Nat} {x y g : Nat} (hn : numOk k xs = true) (hk : kindS k = 2 → 1 ≤ xs.length) (hx : Bd g x) (hy : Bd g y) (h4 : 4 ≤ g) (hg : g ≤ 122) : Bd (g + 2) (mixV k xs x y) := by
  have N := nt_n4 hn
  have M5 : Bd (g + 2) (lsV x y) := (ls_bd hx hy).mono (by omega)
  have M6 : Bd (g + 2) (grV x y) := (gr_bd hx hy).mono (by omega)
  have M7 : Bd (g + 2) (grV x (fneg .f32 y)) := (gr_bd hx hy.neg).mono (by omega)
  have M10 : Bd (g + 2) (fmul .f32 x (nt xs 0)) := hx.mul (N 0) (by omega)
  have M15 : Bd (g + 2) (fsub .f32 x (nt xs 0)) := (hx.sub ((N 0).mono (by omega)) (by omega)).mono (by omega)
  have M16 : Bd (g + 2) (fsub .f32 (absV x) (nt xs 0)) := ((abs_bd hx).sub ((N 0).mono (by omega)) (by omega)).mono (by omega)
  have M0 : Bd (g + 2) x := hx.mono (by omega)
  have M8 : k = 8 → Bd (g + 2) (smoN (nt xs 0) x y) := by
    intro e
    subst e
    have lo := nt_low hn rfl (i := 0) (hk rfl)
    have a := abs_bd (hx.sub hy (by omega))
    have ann := abs_nn (hx.sub hy (by omega))
    have r := ((N 0).mono (show 2 ≤ g + 1 by omega)).sub a (by omega)
    unfold smoN
    rw [fgt_ev r.nan q_zero.x.nan, q_zero.x.e]
    by_cases c : 0 < ev .f32 (fsub .f32 (nt xs 0) (absV (fsub .f32 x y)))
    · rw [decide_eq_true c]
      simp only [cond_true]
      have hh : Bd 2 (fsub .f32 (nt xs 0) (absV (fsub .f32 x y))) := by
        have rn := (N 0).ex.rsub a.ex
        have := rn.le (N 0).nan (N 0).l (show ev .f32 (nt xs 0) - ev .f32 (absV (fsub .f32 x y)) ≤ ev .f32 (nt xs 0) by grind)
        have h2 := (N 0).hi
        have := pw_pos ((2 : Nat) : Int)
        exact ⟨r.f, r.l, by grind, by grind⟩
      have b : Bd 4 (bulV (fsub .f32 (nt xs 0) (absV (fsub .f32 x y))) (nt xs 0)) := by
        unfold bulV
        obtain ⟨d1, d2⟩ := one_low (N 0) lo
        have := (hh.mul hh (by omega)).div (g := 0) d1.ex (by grind) (by rw [pw0]; grind) (by omega)
        exact this.sel (bd_zero _)
      exact ((ls_bd hx hy).sub (b.mono (by omega)) (by omega)).mono (by omega)
    · rw [decide_eq_false c]
      exact M5
  unfold mixV
  cases k == 5 with
  | true => simp only [cond_true, cond_false]; exact M5
  | false => cases k == 6 with
    | true => simp only [cond_true, cond_false]; exact M6
    | false => cases k == 7 with
      | true => simp only [cond_true, cond_false]; exact M7
      | false => cases e8 : k == 8 with
        | true => simp only [cond_true, cond_false]; exact M8 (beq_iff_eq.1 e8)
        | false => cases k == 10 with
          | true => simp only [cond_true, cond_false]; exact M10
          | false => cases k == 15 with
            | true => simp only [cond_true, cond_false]; exact M15
            | false => cases k == 16 with
              | true => simp only [cond_true, cond_false]; exact M16
              | false => simp only [cond_true, cond_false]; exact M0

theorem set3_bv {e : Nat} {p : V3} {i : Int} {x : Nat} (hp : BV e p) (hx : Bd e x) : BV e (set3 p i x) := by
  unfold set3
  cases i == 0 with
  | true => exact ⟨hx, hp.y, hp.z⟩
  | false => cases i == 1 with
    | true => exact ⟨hp.x, hx, hp.z⟩
    | false => exact ⟨hp.x, hp.y, hx⟩
theorem c3_bd {e : Nat} {p : V3} (i : Int) (hp : BV e p) : Bd e (c3 p i) := by
  unfold c3
  cases i == 0 with
  | true => exact hp.x
  | false => cases i == 1 with
    | true => exact hp.y
    | false => exact hp.z
theorem fold_bd {e c s : Nat} (hc : Bd e c) (hs : Bd 2 s) (lo : 1 / 4 ≤ ev .f32 s) (he : e ≤ 100) : Bd (e + 5) (foldV c s) := by
  have two : Ex .f32 1073741824 2 := q_two.x
  have p1 : pw ((1 : Nat) : Int) = 2 := by rw [pw_nat]; rfl
  have t : Bd 1 1073741824 := .of_ex two (by rw [p1]; grind) (by rw [p1]; grind)
  have d : Bd 3 (fmul .f32 1073741824 s) := t.mul hs (by omega)
  have dl : 1 / 2 ≤ ev .f32 (fmul .f32 1073741824 s) := by
    have r := two.rmul hs.ex
    have half : Ex .f32 1056964608 (1 / 2) := by
      have h := q_div (n := 1) (b := 1) 1 1073741824 (by decide) (by decide) (by decide) (q_two.x.cast rfl)
      rw [show fdiv .f32 (FloatKind.f32.nearest 1) 1073741824 = 1056964608 by decide +kernel] at h
      exact h.x.cast rfl
    have := r.ge (w := 1056964608) half.nan half.l (by rw [half.e]; grind)
    rwa [half.e] at this
  have q := hc.div (g := 1) d.ex (by grind) (by rw [p1]; grind) (by omega)
  have r := q.rint
  exact (d.mul r (by omega)).mono (by omega)
theorem point_bd {k a : Int} {xs : List Nat} {p : V3} {e : Nat} (hb : numsB k xs = true) (hn : numOk k xs = true) (hp : BV e p) (h2 : 2 ≤ e) (he : e ≤ 56) : BV (e + 6) (pointN k a xs p) := by
  have N := nt_n4 hn
  have hl := nums_len hb
  have div : ∀ {x : Nat} (i : Nat), kindS k = 2 → i < xs.length → Bd e x → Bd (e + 2) (fdiv .f32 x (nt xs i)) := by
    intro x i hk hi hx
    have lo := nt_low hn hk hi
    exact hx.div (g := 2) (N i).ex (by grind) (by rw [pw2]; grind) (by omega)
  unfold pointN
  cases e9 : k == 9 with
  | true => simp only [cond_true, cond_false]; exact ⟨(hp.x.sub ((N 0).mono (by omega)) (by omega)).mono (by omega), (hp.y.sub ((N 1).mono (by omega)) (by omega)).mono (by omega), (hp.z.sub ((N 2).mono (by omega)) (by omega)).mono (by omega)⟩
  | false => cases e10 : k == 10 with
    | true =>
      have e10 := beq_iff_eq.1 e10
      subst e10
      have hl : (xs.length : Int) = 1 := hl
      simp only [cond_true, cond_false]
      exact ⟨(div 0 rfl (by omega) hp.x).mono (by omega), (div 0 rfl (by omega) hp.y).mono (by omega), (div 0 rfl (by omega) hp.z).mono (by omega)⟩
    | false => cases e11 : k == 11 with
      | true =>
        have e11 := beq_iff_eq.1 e11
        subst e11
        have hl : (xs.length : Int) = 3 := hl
        simp only [cond_true, cond_false]
        exact ⟨(div 0 rfl (by omega) hp.x).mono (by omega), (div 1 rfl (by omega) hp.y).mono (by omega), (div 2 rfl (by omega) hp.z).mono (by omega)⟩
      | false => cases e12 : k == 12 with
        | true =>
          have e12 := beq_iff_eq.1 e12
          subst e12
          have ht : n1B (sineF (nt xs 0)) = true ∧ n1B (sineF (fsub .f32 1048576000 (nt xs 0))) = true := by
            unfold numOk at hn
            simp only [Bool.and_eq_true] at hn
            have := hn.2.2
            simp only [beq_self_eq_true, Bool.not_true, Bool.false_or, Bool.and_eq_true] at this
            exact this
          have s1 := n1_bd ht.1
          have s2 := n1_bd ht.2
          have m : ∀ {s : Nat} (i : Int), Bd 0 s → Bd e (fmul .f32 s (c3 p i)) := fun i hs => by
            have := hs.mul (c3_bd i hp) (by omega)
            rwa [Nat.zero_add] at this
          have A := (m ((a + 1) % 3) s2).add (m ((a + 2) % 3) s1) (by omega)
          have B := (m ((a + 2) % 3) s2).sub (m ((a + 1) % 3) s1) (by omega)
          simp only [cond_true, cond_false]
          unfold turnN
          exact (set3_bv (set3_bv (hp.mono (by omega)) A) B).mono (by omega)
        | false => cases e13 : k == 13 with
          | true => simp only [cond_true, cond_false]; exact (set3_bv hp (abs_bd (c3_bd a hp))).mono (by omega)
          | false => cases e14 : k == 14 with
            | true =>
              have e14 := beq_iff_eq.1 e14
              subst e14
              have hl : (xs.length : Int) = 1 := hl
              have f := fold_bd (c3_bd a hp) (N 0) (nt_low hn rfl (i := 0) (by omega)) (by omega)
              simp only [cond_true, cond_false]
              exact set3_bv (hp.mono (by omega)) (abs_bd (((c3_bd a hp).mono (by omega)).sub f (by omega)))
            | false => simp only [cond_false]; exact hp.mono (by omega)

theorem sml_at {ns : ShapeD} (h : smlS ns = true) (i : Int) (hi : ns[i.toNat]? = some (nodeAt ns i)) : numOk (nodeAt ns i).1 (nodeAt ns i).2.2.2 = true := List.all_eq_true.1 h _ (List.mem_of_getElem? hi)
theorem dist_bd {ns : ShapeD} (hg : goodS ns = true) (hs : smlS ns = true) : ∀ (N : Nat) (i : Int) (p : V3) (e : Nat), 0 ≤ i → i < ns.length → i < N → 2 ≤ e → (e : Int) + 6 * i ≤ 56 → BV e p → Bd (e + 8 * i.toNat + 5) (distV N ns i p)
  | 0, i, p, e, h0, h1, h2, _, _, _ => by omega
  | N + 1, i, p, e, h0, h1, h2, h3, h4, hp => by
    obtain ⟨ee, hb, ht⟩ := good_at hg h0 h1
    have hn := sml_at hs i ee
    have hu : distV (N + 1) ns i p = bif inR (nodeAt ns i).1 0 4 then leafV (nodeAt ns i).1 (nodeAt ns i).2.2.2 p else
      bif inR (nodeAt ns i).1 5 8 then mixV (nodeAt ns i).1 (nodeAt ns i).2.2.2 (distV N ns (nodeAt ns i).2.1 p) (distV N ns (nodeAt ns i).2.2.1 p) else
      mixV (nodeAt ns i).1 (nodeAt ns i).2.2.2 (distV N ns (nodeAt ns i).2.1 (pointN (nodeAt ns i).1 (nodeAt ns i).2.2.1 (nodeAt ns i).2.2.2 p)) 0 := rfl
    rw [hu]
    generalize nodeAt ns i = n at *
    obtain ⟨k, a, c, xs⟩ := n
    obtain ⟨b1, b2, b3⟩ := nodeB_parts hb
    have hk := nums_isK b1
    have hl := nums_len b1
    have hk2 : kindS k = 2 → 1 ≤ xs.length := by
      intro hh
      rcases kinds hk with r | r | r | r | r | r | r | r | r | r | r | r | r | r | r | r | r <;> subst r <;> first | (cases hh; done) | (have hl : (xs.length : Int) = 1 := hl; omega) | (have hl : (xs.length : Int) = 3 := hl; omega)
    simp only at hn ⊢
    rcases kind_cases a c hk with ⟨q1, q2, q3⟩ | ⟨q1, q2, q3⟩ | ⟨q1, q2, q3⟩ <;> rw [q3] at b3 <;> simp only [q1, q2, cond_true, cond_false]
    · exact (leaf_bd hn hp h3 (by omega)).mono (by omega)
    · have k1 := b3 a (by simp)
      have P := point_bd (a := c) b1 hn hp h3 (by omega)
      have D := dist_bd hg hs N a _ (e + 6) k1.1 (by omega) (by omega) (by omega) (by omega) P
      exact (mix_bd hn hk2 D (bd_zero _) (by omega) (by omega)).mono (by omega)
    · have k1 := b3 a (by simp)
      have k2 := b3 c (by simp)
      have D1 := dist_bd hg hs N a p e k1.1 (by omega) (by omega) h3 (by omega) hp
      have D2 := dist_bd hg hs N c p e k2.1 (by omega) (by omega) h3 (by omega) hp
      exact (mix_bd hn hk2 (D1.mono (show _ ≤ e + 8 * (i.toNat - 1) + 5 by omega)) (D2.mono (by omega)) (by omega) (by omega)).mono (by omega)
theorem dis_bd {ns : ShapeD} (h : okS ns = true) (hs : smlS ns = true) (h8 : ns.length ≤ 8) {p : V3} (hp : BV 3 p) : Bd 72 (disV ns p) := by
  obtain ⟨g1, g2, g3, g4⟩ := okS_good h
  exact (dist_bd g1 hs 17 ((ns.length : Int) - 1) p 3 (by omega) (by omega) (by omega) (by omega) (by omega) hp).mono (by omega)

end Go.Proofs.Ytfhpmcdbfebflaa

/- Plain: joined and wrapped shapes: they are trees, and their distances. Drawn shapes have small numbers. -/
set_option linter.unusedVariables false
set_option linter.unusedSimpArgs false
set_option maxRecDepth 100000
namespace Go.Proofs.Ytfhpmcdbfebflaa
open Go.Ev Go.Ev.Fl

def reF (f : Int → Int) (n : NodeD) : NodeD := (n.1, (bif !inR n.1 0 4 then f n.2.1 else n.2.1), (bif inR n.1 5 8 then f n.2.2.1 else n.2.2.1), n.2.2.2)
theorem kids_reF (f : Int → Int) {n : NodeD} (hk : isK n.1 = true) : kidsN (reF f n) = (kidsN n).map f := by
  obtain ⟨k, a, c, xs⟩ := n
  unfold reF
  simp only
  rcases kind_cases a c hk with ⟨q1, q2, q3⟩ | ⟨q1, q2, q3⟩ | ⟨q1, q2, q3⟩ <;> simp only [q1, q2, Bool.not_true, Bool.not_false, cond_true, cond_false]
  · show kids k a c = (kids k a c).map f
    rw [q3]; rfl
  · show kids k (f a) c = (kids k a c).map f
    rw [q3]
    rcases kind_cases (f a) c hk with ⟨p1, p2, p3⟩ | ⟨p1, p2, p3⟩ | ⟨p1, p2, p3⟩
    · rw [p1] at q1; cases q1
    · rw [p3]; rfl
    · rw [p2] at q2; cases q2
  · show kids k (f a) (f c) = (kids k a c).map f
    rw [q3]
    rcases kind_cases (f a) (f c) hk with ⟨p1, p2, p3⟩ | ⟨p1, p2, p3⟩ | ⟨p1, p2, p3⟩
    · rw [p1] at q1; cases q1
    · rw [p2] at q2; cases q2
    · rw [p3]; rfl
theorem reF_id (n : NodeD) : reF id n = n := by
  obtain ⟨k, a, c, xs⟩ := n
  unfold reF
  simp only [id]
  cases inR k 0 4 <;> cases inR k 5 8 <;> rfl
theorem put_re {d : Nat} {i : Int} {n : NodeD} (hd : d ≤ 64) (hi : i ≤ 64) (hb : nodeB i n = true) : putN1 d n = reF (fun c => c + d) n := by
  obtain ⟨k, a, c, xs⟩ := n
  obtain ⟨b1, b2, b3⟩ := nodeB_parts hb
  unfold putN1 reF
  simp only
  rcases kind_cases a c (nums_isK b1) with ⟨q1, q2, q3⟩ | ⟨q1, q2, q3⟩ | ⟨q1, q2, q3⟩ <;> rw [q3] at b3 <;> simp only [q1, q2, Bool.not_true, Bool.not_false, cond_true, cond_false]
  · have k1 := b3 a (by simp)
    rw [i64_of (by omega) (by omega)]
  · have k1 := b3 a (by simp)
    have k2 := b3 c (by simp)
    rw [i64_of (by omega) (by omega), i64_of (by omega) (by omega)]
theorem nodeB_re {i j : Int} {n : NodeD} {f : Int → Int} (hb : nodeB i n = true) (hf : ∀ c, 0 ≤ c → c < i → 0 ≤ f c ∧ f c < j) : nodeB j (reF f n) = true := by
  have hk := nodeB_isK hb
  have hkid := kids_reF f hk
  obtain ⟨k, a, c, xs⟩ := n
  obtain ⟨b1, b2, b3⟩ := nodeB_parts hb
  unfold nodeB
  rw [hkid]
  simp only [Bool.and_eq_true]
  refine ⟨b1, ax_reN (k := k) (a := a) (c := c) hk (fun e => ?_) (fun e => ?_) b2, List.all_eq_true.2 fun x hx => ?_⟩
  · show (bif !inR k 0 4 then f a else a) = a
    rw [e]; rfl
  · show (bif inR k 5 8 then f c else c) = c
    rw [e]; rfl
  · obtain ⟨y, hy, rfl⟩ := List.mem_map.1 hx
    have h3 := b3 y hy
    have := hf y h3.1 h3.2
    exact inR_iff.2 (by omega)

theorem upTo_add (m n : Nat) : upTo (m + n) = upTo m ++ (upTo n).map (fun c => c + (m : Int)) := by
  induction n with
  | zero => simp [upTo]
  | succ n ih =>
    rw [← Nat.add_assoc, upTo_succ, ih, upTo_succ, List.map_append, List.append_assoc]
    congr 2
    simp only [List.map_cons, List.map_nil]
    congr 1
    omega
theorem flat_put {v : ShapeD} {d : Nat} (hd : d ≤ 64) (h : ∀ n ∈ v, ∃ i : Int, i ≤ 64 ∧ nodeB i n = true) : (v.map (putN1 d)).flatMap kidsN = (v.flatMap kidsN).map (fun c => c + (d : Int)) := by
  induction v with
  | nil => rfl
  | cons n r ih =>
    rw [List.map_cons, List.flatMap_cons, List.flatMap_cons, List.map_append, ih fun m hm => h m (by simp [hm])]
    obtain ⟨i, hi, hb⟩ := h n (by simp)
    rw [put_re hd hi hb, kids_reF _ (nodeB_isK hb)]
theorem Stack.app {u v : ShapeD} {fu fv : List Int} (hu : Stack u fu) (hv : Stack v fv) (hn : v ≠ []) (hl : u.length ≤ 64) (hl2 : v.length ≤ 64) : Stack (u ++ v.map (putN1 u.length)) (fu ++ fv.map (fun c => c + (u.length : Int))) := by
  have hb : ∀ n ∈ v, ∃ i : Int, i ≤ 64 ∧ nodeB i n = true := fun n hn => by
    obtain ⟨i, hi, rfl⟩ := List.mem_iff_getElem.1 hn
    exact ⟨i, by omega, hv.nodes i _ (List.getElem?_eq_getElem hi)⟩
  refine ⟨fun j n hj => ?_, ?_, fun _ => ?_⟩
  · rcases Nat.lt_or_ge j u.length with h | h
    · rw [List.getElem?_append_left h] at hj
      exact hu.nodes j n hj
    · rw [List.getElem?_append_right h, List.getElem?_map] at hj
      cases e : v[j - u.length]? with
      | none => rw [e] at hj; cases hj
      | some m =>
        rw [e] at hj
        cases hj
        have hm := hv.nodes _ m e
        have hlt := lt_of_get e
        rw [put_re (i := ((j - u.length : Nat) : Int)) hl (by omega) hm]
        exact nodeB_re hm fun c h0 h1 => by omega
  · rw [List.length_append, List.length_map, upTo_add, List.flatMap_append, flat_put hl hb]
    have h1 := hu.perm
    have h2 := hv.perm.map (fun c => c + (u.length : Int))
    rw [List.map_append] at h2
    refine List.Perm.trans ?_ (h1.append h2)
    rw [List.append_assoc, List.append_assoc]
    refine List.Perm.append_left _ ?_
    rw [← List.append_assoc, ← List.append_assoc]
    exact List.Perm.append_right _ List.perm_append_comm
  · have := hv.last hn
    rw [List.getLast?_append, List.getLast?_map, this, List.length_append, List.length_map]
    show some ((v.length : Int) - 1 + (u.length : Int)) = some (((u.length + v.length : Nat) : Int) - 1)
    congr 1
    omega
theorem Tree.ne {s : ShapeD} (h : Tree s) : s ≠ [] := fun e => by have := h.lo; rw [e] at this; simp at this
theorem join_tree {k : Int} {u v : ShapeD} {xs : List Nat} (hu : Tree u) (hv : Tree v) (hl : u.length ≤ 16) (hl2 : v.length ≤ 16) (hk : inR k 5 8 = true) (hx : numsB k xs = true) : Tree (joinS k u v xs) := by
  have A := hu.st.app hv.st hv.ne (by omega) (by omega)
  have hk0 := inR_iff.1 hk
  have q := kind_cases ((u.length : Int) - 1) ((u.length : Int) + v.length - 1) (nums_isK hx)
  have q3 : kids k ((u.length : Int) - 1) ((u.length : Int) + v.length - 1) = [(u.length : Int) - 1, (u.length : Int) + v.length - 1] := by
    rcases q with ⟨_, q2, _⟩ | ⟨_, q2, _⟩ | ⟨_, _, q3⟩
    · rw [q2] at hk; cases hk
    · rw [q2] at hk; cases hk
    · exact q3
  have ax : axB k ((u.length : Int) - 1) ((u.length : Int) + v.length - 1) = true := by
    rcases kind_ax ((u.length : Int) - 1) ((u.length : Int) + v.length - 1) (nums_isK hx) with ⟨h1, _⟩ | ⟨_, h2, _⟩ | ⟨_, h2, _⟩ | ⟨_, _, _, h4⟩
    · have := inR_iff.1 h1; omega
    · rw [h2] at hk; cases hk
    · rw [h2] at hk; cases hk
    · exact h4
  have l1 := hu.lo
  have l2 := hv.lo
  have P := A.push (n := (k, (u.length : Int) - 1, (u.length : Int) + v.length - 1, xs)) (rest := []) (by
    rw [show kidsN (k, (u.length : Int) - 1, (u.length : Int) + v.length - 1, xs) = _ from q3]
    simp only [List.map_cons, List.map_nil, List.nil_append, List.cons_append]
    congr 2
    omega) (by
    unfold nodeB
    rw [show kidsN (k, (u.length : Int) - 1, (u.length : Int) + v.length - 1, xs) = _ from q3]
    simp only [hx, ax, Bool.true_and, List.all_cons, List.all_nil, Bool.and_true, Bool.and_eq_true, List.length_append, List.length_map]
    exact ⟨inR_iff.2 (by omega), inR_iff.2 (by omega)⟩)
  refine ⟨?_, by rw [joinS_len]; omega⟩
  rw [joinS_len]
  rw [List.nil_append, List.length_append, List.length_map] at P
  have e : ((u.length + v.length + 1 : Nat) : Int) - 1 = ((u.length + v.length : Nat) : Int) := by omega
  rw [e]
  exact P
theorem turns_join {k : Int} {u v : ShapeD} {xs : List Nat} (hk : inR k 5 8 = true) (h1 : turnsB u = true) (h2 : turnsB v = true) : turnsB (joinS k u v xs) = true := by
  rw [turns_iff] at h1 h2 ⊢
  intro n hn
  unfold joinS at hn
  rcases List.mem_append.1 hn with h | h
  · rcases List.mem_append.1 h with h | h
    · exact h1 n h
    · obtain ⟨m, hm, rfl⟩ := List.mem_map.1 h
      exact h2 m hm
  · rw [List.mem_singleton.1 h]
    refine turn_not ?_ _
    have := inR_iff.1 hk
    show k ≠ 12
    omega
theorem join_okS {k : Int} {u v : ShapeD} {xs : List Nat} (hu : Tree u) (hv : Tree v) (ou : okS u = true) (ov : okS v = true) (hl : u.length + v.length ≤ 15) (hk : inR k 5 8 = true) (hx : numsB k xs = true) : okS (joinS k u v xs) = true ∧ joinOk k u v xs = true ∧ Tree (joinS k u v xs) := by
  have T := join_tree hu hv (by omega) (by omega) hk hx
  have v1 : validS (joinS k u v xs) = true := T.st.valid T.lo (by rw [joinS_len]; omega)
  unfold okS at ou ov ⊢
  simp only [Bool.and_eq_true] at ou ov ⊢
  refine ⟨⟨v1, turns_join hk ou.2 ov.2⟩, ?_, T⟩
  unfold joinOk
  rw [ou.1, ov.1, hk, joinBig, v1]
  rfl
theorem wrap_okS {k : Int} {s : ShapeD} {ax : Int} {xs : List Nat} (hu : Tree s) (ou : okS s = true) (hl : s.length ≤ 15) (hk : inR k 9 16 = true) (hx : numsB k xs = true) (hax : axB k ((s.length : Int) - 1) ax = true) (ht : turnB k xs = true) : okS (wrapS k s ax xs) = true ∧ wrapOk k s ax xs = true ∧ Tree (wrapS k s ax xs) := by
  have hk0 := inR_iff.1 hk
  have l1 := hu.lo
  have q3 : kids k ((s.length : Int) - 1) ax = [(s.length : Int) - 1] := by
    rcases kind_cases ((s.length : Int) - 1) ax (nums_isK hx) with ⟨q1, _, _⟩ | ⟨_, _, q3⟩ | ⟨_, q2, _⟩
    · have := inR_iff.1 q1; omega
    · exact q3
    · have := inR_iff.1 q2; omega
  have P := hu.st.push (n := (k, (s.length : Int) - 1, ax, xs)) (rest := []) (by rw [show kidsN (k, (s.length : Int) - 1, ax, xs) = _ from q3]; rfl) (by
    unfold nodeB
    rw [show kidsN (k, (s.length : Int) - 1, ax, xs) = _ from q3]
    simp only [hx, hax, Bool.true_and, List.all_cons, List.all_nil, Bool.and_true]
    exact inR_iff.2 (by omega))
  have hlen : (wrapS k s ax xs).length = s.length + 1 := by unfold wrapS; simp
  have T : Tree (wrapS k s ax xs) := by
    refine ⟨?_, by omega⟩
    rw [hlen, show ((s.length + 1 : Nat) : Int) - 1 = (s.length : Int) by omega]
    exact P
  have v1 : validS (wrapS k s ax xs) = true := T.st.valid T.lo (by omega)
  unfold okS at ou ⊢
  simp only [Bool.and_eq_true] at ou ⊢
  refine ⟨⟨v1, turns_snoc ou.2 ht⟩, ?_, T⟩
  unfold wrapOk
  rw [ou.1, hk, v1]
  rfl

theorem dist_unfold (N : Nat) (ns : ShapeD) (i : Int) (p : V3) : distV (N + 1) ns i p = bif inR (nodeAt ns i).1 0 4 then leafV (nodeAt ns i).1 (nodeAt ns i).2.2.2 p else
    bif inR (nodeAt ns i).1 5 8 then mixV (nodeAt ns i).1 (nodeAt ns i).2.2.2 (distV N ns (nodeAt ns i).2.1 p) (distV N ns (nodeAt ns i).2.2.1 p) else
    mixV (nodeAt ns i).1 (nodeAt ns i).2.2.2 (distV N ns (nodeAt ns i).2.1 (pointN (nodeAt ns i).1 (nodeAt ns i).2.2.1 (nodeAt ns i).2.2.2 p)) 0 := rfl
theorem dist_map {ns ms : ShapeD} {f : Int → Int} {P : Int → Prop} (h : ∀ i, P i → isK (nodeAt ns i).1 = true ∧ nodeAt ms (f i) = reF f (nodeAt ns i) ∧ ∀ c ∈ kidsN (nodeAt ns i), P c) : ∀ (N : Nat) (i : Int) (p : V3), P i → distV N ms (f i) p = distV N ns i p
  | 0, _, _, _ => rfl
  | N + 1, i, p, hi => by
    obtain ⟨hk, e, hc⟩ := h i hi
    rw [dist_unfold, dist_unfold, e]
    generalize nodeAt ns i = n at *
    obtain ⟨k, a, c, xs⟩ := n
    unfold reF
    simp only at hk ⊢
    rcases kind_cases a c hk with ⟨q1, q2, q3⟩ | ⟨q1, q2, q3⟩ | ⟨q1, q2, q3⟩ <;> rw [show kidsN (k, a, c, xs) = _ from q3] at hc <;> simp only [q1, q2, Bool.not_true, Bool.not_false, cond_true, cond_false]
    · rw [dist_map h N a _ (hc a (by simp))]
    · rw [dist_map h N a _ (hc a (by simp)), dist_map h N c _ (hc c (by simp))]
theorem dist_fuel {ns : ShapeD} (hg : goodS ns = true) : ∀ (N : Nat) (i : Int) (p : V3), 0 ≤ i → i < ns.length → i < N → distV (N + 1) ns i p = distV N ns i p
  | 0, i, p, h0, h1, h2 => by omega
  | N + 1, i, p, h0, h1, h2 => by
    obtain ⟨ee, hb, ht⟩ := good_at hg h0 h1
    rw [dist_unfold (N + 1) ns i p, dist_unfold N ns i p]
    generalize nodeAt ns i = n at *
    obtain ⟨k, a, c, xs⟩ := n
    obtain ⟨b1, b2, b3⟩ := nodeB_parts hb
    simp only
    rcases kind_cases a c (nums_isK b1) with ⟨q1, q2, q3⟩ | ⟨q1, q2, q3⟩ | ⟨q1, q2, q3⟩ <;> rw [q3] at b3 <;> simp only [q1, q2, cond_true, cond_false]
    · have k1 := b3 a (by simp)
      rw [dist_fuel hg N a _ k1.1 (by omega) (by omega)]
    · have k1 := b3 a (by simp)
      have k2 := b3 c (by simp)
      rw [dist_fuel hg N a _ k1.1 (by omega) (by omega), dist_fuel hg N c _ k2.1 (by omega) (by omega)]
theorem nodeAt_left {u t : ShapeD} {i : Int} (h0 : 0 ≤ i) (h : i < u.length) : nodeAt (u ++ t) i = nodeAt u i := by
  unfold nodeAt
  rw [List.getElem?_append_left (by omega)]
theorem nodeAt_mid {u t : ShapeD} {n : NodeD} : nodeAt (u ++ n :: t) (u.length : Int) = n := by
  unfold nodeAt
  rw [Int.toNat_natCast, List.getElem?_append_right (Nat.le_refl _), Nat.sub_self]
  rfl
theorem dist_left {u t : ShapeD} (hu : goodS u = true) (N : Nat) {i : Int} (p : V3) (h0 : 0 ≤ i) (h : i < u.length) : distV N (u ++ t) i p = distV N u i p :=
  dist_map (ms := u ++ t) (f := id) (P := fun i => 0 ≤ i ∧ i < u.length) (fun j hj => by
    obtain ⟨ee, hb, ht⟩ := good_at hu hj.1 hj.2
    refine ⟨nodeB_isK hb, by rw [reF_id]; exact nodeAt_left hj.1 hj.2, fun c hc => ?_⟩
    have := (nodeB_parts (k := (nodeAt u j).1) (a := (nodeAt u j).2.1) (c := (nodeAt u j).2.2.1) (xs := (nodeAt u j).2.2.2) hb).2.2 c hc
    omega) N i p ⟨h0, h⟩
theorem nodeAt_map {u v t : ShapeD} {i : Int} (h0 : 0 ≤ i) (h : i < v.length) : nodeAt (u ++ v.map (putN1 u.length) ++ t) (i + u.length) = putN1 u.length (nodeAt v i) := by
  unfold nodeAt
  have e : (i + (u.length : Int)).toNat = u.length + i.toNat := by omega
  rw [e, List.append_assoc, List.getElem?_append_right (by omega), Nat.add_sub_cancel_left, List.getElem?_append_left (by rw [List.length_map]; omega), List.getElem?_map, get_lt (show i.toNat < v.length by omega)]
  rfl
theorem dist_right {u v t : ShapeD} (hv : goodS v = true) (hl : u.length ≤ 64) (hl2 : v.length ≤ 64) (N : Nat) {i : Int} (p : V3) (h0 : 0 ≤ i) (h : i < v.length) : distV N (u ++ v.map (putN1 u.length) ++ t) (i + u.length) p = distV N v i p :=
  dist_map (ms := u ++ v.map (putN1 u.length) ++ t) (f := fun c => c + (u.length : Int)) (P := fun i => 0 ≤ i ∧ i < v.length) (fun j hj => by
    obtain ⟨ee, hb, ht⟩ := good_at hv hj.1 hj.2
    refine ⟨nodeB_isK hb, by rw [nodeAt_map hj.1 hj.2]; exact put_re hl (by omega) hb, fun c hc => ?_⟩
    have := (nodeB_parts (k := (nodeAt v j).1) (a := (nodeAt v j).2.1) (c := (nodeAt v j).2.2.1) (xs := (nodeAt v j).2.2.2) hb).2.2 c hc
    omega) N i p ⟨h0, h⟩
theorem dis_fuel {s : ShapeD} (h : okS s = true) (p : V3) : distV 16 s ((s.length : Int) - 1) p = disV s p := by
  obtain ⟨g1, g2, g3, g4⟩ := okS_good h
  exact (dist_fuel g1 16 _ p (by omega) (by omega) (by omega)).symm
theorem dis_join {k : Int} {u v : ShapeD} {xs : List Nat} (hu : okS u = true) (hv : okS v = true) (hk : inR k 5 8 = true) (p : V3) : disV (joinS k u v xs) p = mixV k xs (disV u p) (disV v p) := by
  obtain ⟨g1, g2, g3, g4⟩ := okS_good hu
  obtain ⟨k1, k2, k3, k4⟩ := okS_good hv
  have e : nodeAt (joinS k u v xs) (((joinS k u v xs).length : Int) - 1) = (k, (u.length : Int) - 1, (u.length : Int) + v.length - 1, xs) := by
    have : (((joinS k u v xs).length : Int) - 1) = ((u ++ v.map (putN1 u.length)).length : Int) := by
      rw [joinS_len, List.length_append, List.length_map]; omega
    rw [this]
    exact nodeAt_mid
  have k0 : inR k 0 4 = false := by
    cases e0 : inR k 0 4 with
    | false => rfl
    | true => have := inR_iff.1 e0; have := inR_iff.1 hk; omega
  unfold disV
  rw [dist_unfold, e]
  simp only [k0, hk, cond_true, cond_false]
  have l := dist_left (u := u) (t := v.map (putN1 u.length) ++ [(k, (u.length : Int) - 1, (u.length : Int) + v.length - 1, xs)]) g1 16 p (i := (u.length : Int) - 1) (by omega) (by omega)
  have r := dist_right (u := u) (t := [(k, (u.length : Int) - 1, (u.length : Int) + v.length - 1, xs)]) k1 (by omega) (by omega) 16 p (i := (v.length : Int) - 1) (by omega) (by omega)
  rw [← List.append_assoc] at l
  rw [show (v.length : Int) - 1 + u.length = (u.length : Int) + v.length - 1 by omega] at r
  rw [dis_fuel hu] at l
  rw [dis_fuel hv] at r
  unfold joinS
  rw [l, r]
  rfl
theorem dis_wrap {k : Int} {s : ShapeD} {ax : Int} {xs : List Nat} (hs : okS s = true) (hk : inR k 9 16 = true) (p : V3) : disV (wrapS k s ax xs) p = mixV k xs (disV s (pointN k ax xs p)) 0 := by
  obtain ⟨g1, g2, g3, g4⟩ := okS_good hs
  have e : nodeAt (wrapS k s ax xs) (((wrapS k s ax xs).length : Int) - 1) = (k, (s.length : Int) - 1, ax, xs) := by
    have : (((wrapS k s ax xs).length : Int) - 1) = (s.length : Int) := by
      unfold wrapS
      rw [List.length_append, List.length_singleton]; omega
    rw [this]
    exact nodeAt_mid
  have hk0 := inR_iff.1 hk
  have k0 : inR k 0 4 = false := by
    cases e0 : inR k 0 4 with
    | false => rfl
    | true => have := inR_iff.1 e0; omega
  have k5 : inR k 5 8 = false := by
    cases e0 : inR k 5 8 with
    | false => rfl
    | true => have := inR_iff.1 e0; omega
  unfold disV
  rw [dist_unfold, e]
  simp only [k0, k5, cond_false]
  have l := dist_left (u := s) (t := [(k, (s.length : Int) - 1, ax, xs)]) g1 16 (pointN k ax xs p) (i := (s.length : Int) - 1) (by omega) (by omega)
  rw [dis_fuel hs] at l
  unfold wrapS
  rw [l]
  rfl

theorem tab_n4 : (List.range 33).all (fun j => n4B (quartV (Int.ofNat j - 16)) && n4B (sizeV (quartV (Int.ofNat j - 16)))) = true := by decide +kernel
theorem tab_low : (List.range 8).all (fun j => n4B (quartV (1 + Int.ofNat j)) && lowB (quartV (1 + Int.ofNat j))) = true := by decide +kernel
theorem tab_n1 : (List.range 17).all (fun j => n4B (sixtV (Int.ofNat j - 8)) && (n1B (sineF (sixtV (Int.ofNat j - 8))) && n1B (sineF (fsub .f32 1048576000 (sixtV (Int.ofNat j - 8)))))) = true := by decide +kernel
theorem nt_ofNat {n : Int} (h : 0 ≤ n) : n = Int.ofNat n.toNat := (Int.toNat_of_nonneg h).symm
theorem small_n4 {s : SrcD} (hb : bytes s.1) : n4B (smallV s) = true ∧ n4B (sizeV (smallV s)) = true := by
  have r := pickV_range (s := s) hb (n := 33) (by omega)
  have := List.all_eq_true.1 tab_n4 (pickV s 33).toNat (by simp; omega)
  rw [← nt_ofNat r.1, Bool.and_eq_true] at this
  exact this
theorem nu_n4 {k : Int} {s : SrcD} (hb : bytes s.1) : n4B (nuV k s) = true ∧ (kindS k = 2 → lowB (nuV k s) = true) ∧ (k = 12 → n1B (sineF (nuV k s)) = true ∧ n1B (sineF (fsub .f32 1048576000 (nuV k s))) = true) := by
  have b1 := (far_small s).bytes hb
  obtain ⟨s1, s2⟩ := small_n4 hb
  have r8 := pickV_range (s := smallS s) b1 (n := 8) (by omega)
  have r17 := pickV_range (s := smallS s) b1 (n := 17) (by omega)
  have t8 := List.all_eq_true.1 tab_low (pickV (smallS s) 8).toNat (by simp; omega)
  have t17 := List.all_eq_true.1 tab_n1 (pickV (smallS s) 17).toNat (by simp; omega)
  rw [← nt_ofNat r8.1, Bool.and_eq_true] at t8
  rw [← nt_ofNat r17.1, Bool.and_eq_true, Bool.and_eq_true] at t17
  unfold nuV
  cases h1 : sizeK k with
  | true =>
    have e : kindS k = 1 := by unfold sizeK at h1; simpa using h1
    rw [cond_true]
    exact ⟨s2, ⟨fun h => (by rw [e] at h; cases h), fun h => (by subst h; cases e)⟩⟩
  | false =>
    cases h2 : posK k with
    | true =>
      have e : kindS k = 2 := by unfold posK at h2; simpa using h2
      rw [cond_true, cond_false]
      exact ⟨t8.1, fun _ => t8.2, fun h => by subst h; cases e⟩
    | false =>
      have e : kindS k ≠ 2 := fun h => by unfold posK at h2; rw [h] at h2; cases h2
      rw [cond_false, cond_false]
      cases h3 : k == 12 with
      | true => exact ⟨t17.1, fun h => absurd h e, fun _ => t17.2⟩
      | false => exact ⟨s1, fun h => absurd h e, fun h => by subst h; cases h3⟩
theorem nus_n4 (k : Int) : ∀ (n : Nat) {s : SrcD}, bytes s.1 → (nusL k n s).all n4B = true ∧ (kindS k = 2 → (nusL k n s).all lowB = true)
  | 0, s, _ => ⟨rfl, fun _ => rfl⟩
  | n + 1, s, hb => by
    obtain ⟨h1, h2, _⟩ := nu_n4 (k := k) hb
    obtain ⟨i1, i2⟩ := nus_n4 k n ((far_nu k s).bytes hb)
    rw [nusL, List.all_cons, List.all_cons]
    exact ⟨by rw [h1, i1]; rfl, fun e => by rw [h2 e, i2 e]; rfl⟩
theorem nums_n4 (k : Int) {s : SrcD} (hb : bytes s.1) : numOk k (numsV k s) = true := by
  obtain ⟨h1, h2⟩ := nus_n4 k (kindN k).toNat hb
  unfold numOk
  rw [show (numsV k s).all n4B = true from h1, Bool.true_and, Bool.and_eq_true]
  refine ⟨?_, ?_⟩
  · cases e : kindS k == 2 with
    | false => rfl
    | true => exact h2 (beq_iff_eq.1 e)
  · cases e : k == 12 with
    | false => rfl
    | true =>
      have e := beq_iff_eq.1 e
      subst e
      obtain ⟨_, _, h3⟩ := nu_n4 (k := 12) hb
      obtain ⟨h3, h4⟩ := h3 rfl
      show (n1B (sineF (nuV 12 s)) && n1B (sineF (fsub .f32 1048576000 (nuV 12 s)))) = true
      rw [h3, h4]
      rfl
theorem sml_snoc {ns : ShapeD} {n : NodeD} (h : smlS ns = true) (hn : numOk n.1 n.2.2.2 = true) : smlS (ns ++ [n]) = true := by
  unfold smlS at h ⊢
  rw [List.all_append, h]
  simp only [List.all_cons, List.all_nil, hn]
  rfl
theorem sml_shGo : ∀ (m : Nat) (q : ShD), smlS q.1 = true → bytes q.2.2.1 → smlS (shGo m q).1 = true
  | 0, _, h, _ => h
  | m + 1, q, h, hb => sml_shGo m (shStep q) (sml_snoc h (nums_n4 _ ((far_T _ _).bytes hb))) ((far_node _ _).bytes hb)
theorem num_nil {k : Int} (h : k ≠ 12) : numOk k [] = true := by
  unfold numOk
  rw [beq_eq_false_iff_ne.2 h]
  cases kindS k == 2 <;> rfl
theorem sml_clGo : ∀ (m : Nat) (q : ShD), smlS q.1 = true → bytes q.2.2.1 → smlS (clGo m q).1 = true
  | 0, _, h, _ => h
  | m + 1, q, h, hb => sml_clGo m (clStep q) (sml_snoc h (num_nil (by
      have r := pickV_range (s := q.2.2) hb (n := 3) (by omega)
      show 5 + pickV q.2.2 3 ≠ 12
      omega))) ((far_pick _ _).bytes hb)
theorem shape_sml {s : SrcD} (hb : bytes s.1) : smlS (shapeV s) = true := by
  have h0 := sh0_ok hb
  exact sml_clGo _ _ (sml_shGo (1 + pickV s 7).toNat (sh0 s) rfl h0.b) (shGo_ok _ h0).b
theorem few_sml {s : SrcD} (hb : bytes s.1) : smlS (fewV s) = true := by
  have h := shape_sml hb
  obtain ⟨g1, g2, g3, g4⟩ := okS_good (shape_okS hb)
  unfold fewV
  cases decide (7 < (shapeV s).length) with
  | false => exact h
  | true =>
    obtain ⟨e, hb0⟩ := nodes_at0 (valid_nodes g2) g3
    have := sml_at h 0 e
    show (numOk _ _ && true) = true
    rw [this]
    rfl
theorem few_tree {s : SrcD} (hb : bytes s.1) : Tree (fewV s) := by
  have h := shape_okS hb
  obtain ⟨g1, g2, g3, g4⟩ := okS_good h
  unfold fewV
  cases decide (7 < (shapeV s).length) with
  | false => exact ⟨(shape_stack hb).1, (shape_stack hb).2⟩
  | true =>
    obtain ⟨q1, q2⟩ := node0_leaf (valid_nodes g2) g3
    obtain ⟨e, hb0⟩ := nodes_at0 (valid_nodes g2) g3
    generalize nodeAt (shapeV s) 0 = n at *
    have hk := nodeB_isK hb0
    have hkid : kidsN n = [] := by
      rcases kind_cases n.2.1 n.2.2.1 hk with ⟨p1, p2, p3⟩ | ⟨p1, p2, p3⟩ | ⟨p1, p2, p3⟩
      · exact p3
      · rw [p1] at q1; cases q1
      · rw [p1] at q1; cases q1
    have := stack_nil.push (n := n) (rest := []) (by rw [hkid]; rfl) hb0
    exact ⟨this, Nat.le_refl 1⟩
theorem point_bv {xs : List Int} (hb : bytes xs) : BV 3 (pointV xs) := by
  have b1 := (far_small (xs, 0, 0)).bytes hb
  have b2 := (far_small (smallS (xs, 0, 0))).bytes b1
  exact ⟨(n4_bd (small_n4 (s := (xs, 0, 0)) hb).1).mono (by omega), (n4_bd (small_n4 b1).1).mono (by omega), (n4_bd (small_n4 b2).1).mono (by omega)⟩

end Go.Proofs.Ytfhpmcdbfebflaa

/- Plain: the parts of a joined shape are the shapes that were joined. -/
set_option linter.unusedVariables false
set_option linter.unusedSimpArgs false
set_option maxRecDepth 100000
namespace Go.Proofs.Ytfhpmcdbfebflaa
open Go.Ev Go.Ev.Fl

theorem ms_block {bs : List Bool} {d m : Nat} (h : ∀ j, mkB bs j = true ↔ d ≤ j ∧ j < d + m) : ∀ n, ms bs n = (List.range (min (n - d) m)).map (fun j => d + j) := by
  intro n
  induction n with
  | zero =>
    rw [show min (0 - d) m = 0 by omega]
    rfl
  | succ n ih =>
    rw [ms_succ, ih]
    cases e : mkB bs n with
    | true =>
      have := (h n).1 e
      rw [show min (n + 1 - d) m = min (n - d) m + 1 by omega, List.range_succ, List.map_append, cond_true, show min (n - d) m = n - d by omega]
      congr 1
      show [n] = [d + (n - d)]
      rw [show d + (n - d) = n by omega]
    | false =>
      have h2 : ¬ (d ≤ n ∧ n < d + m) := fun c => by rw [(h n).2 c] at e; cases e
      rw [show min (n + 1 - d) m = min (n - d) m by omega, cond_false]
theorem part_block {J v : ShapeD} {d : Nat} (T : Tree J) (V : Tree v) (hl : d + v.length ≤ J.length) (h : ∀ j : Nat, j < v.length → nodeAt J ((d + j : Nat) : Int) = reF (fun c => c + (d : Int)) (nodeAt v (j : Int))) : partV J ((d + v.length - 1 : Nat) : Int) = v := by
  have lo := V.lo
  have M := belV_mkd T (node := d + v.length - 1) (by omega)
  have kidJ : ∀ j, j < v.length → kidsAt J (d + j) = (kidsAt v j).map (fun c => c + (d : Int)) := fun j hj => by
    unfold kidsAt
    rw [h j hj]
    exact kids_reF _ (V.isK hj)
  have up : ∀ e : Nat, e < v.length → mkB (belV J ((d + v.length - 1 : Nat) : Int)) (d + (v.length - 1 - e)) = true := by
    intro e
    induction e using Nat.strongRecOn with
    | _ e ih =>
      intro he
      by_cases e0 : e = 0
      · subst e0
        rw [show d + (v.length - 1 - 0) = d + v.length - 1 by omega]
        exact M.top
      · obtain ⟨p, hp, hc⟩ := V.parent (j := v.length - 1 - e) (by omega)
        have r := V.kid hp _ hc
        have := ih (v.length - 1 - p) (by omega) (by omega)
        rw [show v.length - 1 - (v.length - 1 - p) = p by omega] at this
        have h2 := M.down (d + p) (Nat.zero_le _) (by omega) this (((v.length - 1 - e : Nat) : Int) + (d : Int)) (by rw [kidJ p hp]; exact List.mem_map_of_mem hc)
        rwa [show (((v.length - 1 - e : Nat) : Int) + (d : Int)).toNat = d + (v.length - 1 - e) by omega] at h2
  have down : ∀ (t j : Nat), j + t = d + v.length - 1 → mkB (belV J ((d + v.length - 1 : Nat) : Int)) j = true → d ≤ j := by
    intro t
    induction t using Nat.strongRecOn with
    | _ t ih =>
      intro j hj hm
      by_cases e0 : t = 0
      · omega
      · obtain ⟨p, _, hp, hpm, hc⟩ := M.up j hm (by omega)
        have r := T.kid hp _ hc
        have hle := M.le p hpm
        have hd := ih (d + v.length - 1 - p) (by omega) p (by omega) hpm
        have := kidJ (p - d) (by omega)
        rw [show d + (p - d) = p by omega] at this
        rw [this] at hc
        obtain ⟨c, hcm, hce⟩ := List.mem_map.1 hc
        have r2 := V.kid (i := p - d) (by omega) c hcm
        omega
  have iff : ∀ j, mkB (belV J ((d + v.length - 1 : Nat) : Int)) j = true ↔ d ≤ j ∧ j < d + v.length := fun j => by
    constructor
    · intro hm
      have h1 := M.le j hm
      exact ⟨down (d + v.length - 1 - j) j (by omega) hm, by omega⟩
    · intro hj
      have := up (v.length - 1 - (j - d)) (by omega)
      rwa [show d + (v.length - 1 - (v.length - 1 - (j - d))) = j by omega] at this
  rw [part_is T (by omega)]
  generalize belV J ((d + v.length - 1 : Nat) : Int) = bs at *
  have hms := ms_block iff
  have hrk : ∀ c : Int, 0 ≤ c → c < v.length → rk bs (c + (d : Int)) = c := fun c h0 h1 => by
    unfold rk
    rw [hms, List.length_map, List.length_range]
    omega
  rw [hms, show min (J.length - d) v.length = v.length by omega, List.map_map]
  conv => rhs; rw [← shape_map (ns := v)]
  refine List.map_congr_left fun i hi => ?_
  have hi := List.mem_range.1 hi
  show reN bs (nodeAt J ((d + i : Nat) : Int)) = nodeAt v (i : Int)
  rw [h i hi]
  have hk := V.isK hi
  have kd := V.kid hi
  unfold kidsAt at kd
  generalize nodeAt v (i : Int) = nd at *
  obtain ⟨k, a, c, xs⟩ := nd
  unfold reN reF
  simp only
  have kd : ∀ e ∈ kids k a c, 0 ≤ e ∧ e < i := kd
  rcases kind_cases a c hk with ⟨q1, q2, q3⟩ | ⟨q1, q2, q3⟩ | ⟨q1, q2, q3⟩ <;> rw [q3] at kd <;> simp only [q1, q2, Bool.not_true, Bool.not_false, cond_true, cond_false]
  · have k1 := kd a (by simp)
    rw [hrk a k1.1 (by omega)]
  · have k1 := kd a (by simp)
    have k2 := kd c (by simp)
    rw [hrk a k1.1 (by omega), hrk c k2.1 (by omega)]
theorem part_left {k : Int} {u v : ShapeD} {xs : List Nat} (U : Tree u) (T : Tree (joinS k u v xs)) : partV (joinS k u v xs) ((u.length : Int) - 1) = u := by
  have lo := U.lo
  have := part_block (d := 0) T U (by rw [joinS_len]; omega) (fun j hj => by
    have e : nodeAt (joinS k u v xs) ((0 + j : Nat) : Int) = nodeAt u (j : Int) := by
      unfold joinS
      rw [Nat.zero_add, List.append_assoc]
      exact nodeAt_left (by omega) (by omega)
    rw [e]
    have : (fun c : Int => c + ((0 : Nat) : Int)) = id := by funext c; simp
    rw [this, reF_id])
  rw [show ((0 + u.length - 1 : Nat) : Int) = (u.length : Int) - 1 by omega] at this
  exact this
theorem part_right {k : Int} {u v : ShapeD} {xs : List Nat} (V : Tree v) (hl : u.length ≤ 64) (hl2 : v.length ≤ 64) (T : Tree (joinS k u v xs)) : partV (joinS k u v xs) ((u.length : Int) + v.length - 1) = v := by
  have lo := V.lo
  have := part_block (d := u.length) T V (by rw [joinS_len]; omega) (fun j hj => by
    have e : nodeAt (joinS k u v xs) ((u.length + j : Nat) : Int) = putN1 u.length (nodeAt v (j : Int)) := by
      unfold joinS
      rw [show ((u.length + j : Nat) : Int) = (j : Int) + u.length by omega]
      exact nodeAt_map (by omega) (by omega)
    rw [e]
    exact put_re hl (by omega) (V.at hj).2)
  rw [show ((u.length + v.length - 1 : Nat) : Int) = (u.length : Int) + v.length - 1 by omega] at this
  exact this

end Go.Proofs.Ytfhpmcdbfebflaa

/- Floats: words that are alike: the same, or both zeros. What is done with them is alike again. -/
set_option linter.unusedVariables false
set_option linter.unusedSimpArgs false
namespace Go.Ev
open Ieee

namespace Fl
def isZ (x : Nat) : Prop := x = 0 ∨ x = 2147483648
def Alk (x y : Nat) : Prop := x = y ∨ (isZ x ∧ isZ y)
theorem Alk.refl (x : Nat) : Alk x x := .inl rfl
theorem Alk.symm {x y : Nat} (h : Alk x y) : Alk y x := by
  rcases h with h | ⟨a, b⟩
  · exact .inl h.symm
  · exact .inr ⟨b, a⟩
theorem Alk.trans {x y z : Nat} (h : Alk x y) (h' : Alk y z) : Alk x z := by
  rcases h with rfl | ⟨a, b⟩
  · exact h'
  · rcases h' with rfl | ⟨c, d⟩
    · exact .inr ⟨a, b⟩
    · exact .inr ⟨a, d⟩
theorem Alk.cond {x y x' y' : Nat} (hx : Alk x x') (hy : Alk y y') (c : Bool) : Alk (bif c then x else y) (bif c then x' else y') := by
  cases c
  · exact hy
  · exact hx
theorem alk_zeros : Alk 0 2147483648 := .inr ⟨.inl rfl, .inr rfl⟩
theorem Alk.one {f : Nat → Nat} (h : Alk (f 0) (f 2147483648)) {x x' : Nat} (hx : Alk x x') : Alk (f x) (f x') := by
  rcases hx with rfl | ⟨rfl | rfl, rfl | rfl⟩
  · exact .refl _
  · exact .refl _
  · exact h
  · exact h.symm
  · exact .refl _
theorem Alk.two {f : Nat → Nat → Nat} (h1 : ∀ y, Alk (f 0 y) (f 2147483648 y)) (h2 : ∀ x, Alk (f x 0) (f x 2147483648)) {x x' y y' : Nat} (hx : Alk x x') (hy : Alk y y') : Alk (f x y) (f x' y') :=
  (Alk.one (f := fun x => f x y) (h1 y) hx).trans (Alk.one (f := fun y => f x' y) (h2 x') hy)
theorem read_0 : FloatKind.f32.format.read 0 = .number false 0 (-149) := by decide +kernel
theorem read_S : FloatKind.f32.format.read 2147483648 = .number true 0 (-149) := by decide +kernel
theorem write_0 (s : Bool) (e : Int) : FloatKind.f32.format.write (.number s 0 e) = FloatKind.f32.format.word s 0 := by
  simp [Format.write, Format.nearest]
theorem word_0 (s : Bool) : isZ (FloatKind.f32.format.word s 0) := by
  cases s
  · exact .inl rfl
  · exact .inr rfl
theorem alk_w (s t : Bool) (i j : Int) : Alk (FloatKind.f32.format.write (.number s 0 i)) (FloatKind.f32.format.write (.number t 0 j)) := by
  rw [write_0, write_0]
  exact .inr ⟨word_0 s, word_0 t⟩
theorem signed_0 (s : Bool) (n : Nat) : signed s 0 n = 0 := by
  cases s <;> simp [signed]
theorem alk_sum (d : Datum) : Alk (orNan .f32 (((Datum.number false 0 (-149)).sum d).map FloatKind.f32.format.write)) (orNan .f32 (((Datum.number true 0 (-149)).sum d).map FloatKind.f32.format.write)) := by
  cases d with
  | nan s f => exact .refl _
  | infinity s => exact .refl _
  | number t n j =>
    simp only [Datum.sum, signed_0, Option.map_some, orNan, Int.zero_add]
    generalize signed t n (j - min (-149) j).toNat = total
    by_cases h : total = 0
    · subst h
      exact alk_w _ _ _ _
    · rw [if_neg h, if_neg h]
      exact .refl _
theorem alk_sum' (d : Datum) : Alk (orNan .f32 ((d.sum (Datum.number false 0 (-149))).map FloatKind.f32.format.write)) (orNan .f32 ((d.sum (Datum.number true 0 (-149))).map FloatKind.f32.format.write)) := by
  cases d with
  | nan s f => exact .refl _
  | infinity s => exact .refl _
  | number t n j =>
    simp only [Datum.sum, signed_0, Option.map_some, orNan, Int.add_zero]
    generalize signed t n (j - min j (-149)).toNat = total
    by_cases h : total = 0
    · subst h
      exact alk_w _ _ _ _
    · rw [if_neg h, if_neg h]
      exact .refl _
theorem Alk.add {x x' y y' : Nat} (hx : Alk x x') (hy : Alk y y') : Alk (fadd .f32 x y) (fadd .f32 x' y') :=
  Alk.two (f := fadd .f32) (fun y => by unfold fadd Format.add; rw [read_0, read_S]; exact alk_sum _) (fun x => by unfold fadd Format.add; rw [read_0, read_S]; exact alk_sum' _) hx hy
theorem Alk.sub {x x' y y' : Nat} (hx : Alk x x') (hy : Alk y y') : Alk (fsub .f32 x y) (fsub .f32 x' y') :=
  Alk.two (f := fsub .f32) (fun y => by unfold fsub Format.sub; rw [read_0, read_S]; exact alk_sum _) (fun x => by unfold fsub Format.sub; rw [read_0, read_S]; exact (alk_sum' _).symm) hx hy
theorem alk_prod (d : Datum) : Alk (orNan .f32 (((Datum.number false 0 (-149)).product d).map FloatKind.f32.format.write)) (orNan .f32 (((Datum.number true 0 (-149)).product d).map FloatKind.f32.format.write)) := by
  cases d with
  | nan s f => exact .refl _
  | infinity s => exact .refl _
  | number t n j =>
    simp only [Datum.product, Option.map_some, orNan, Nat.zero_mul]
    exact alk_w _ _ _ _
theorem alk_prod' (d : Datum) : Alk (orNan .f32 ((d.product (Datum.number false 0 (-149))).map FloatKind.f32.format.write)) (orNan .f32 ((d.product (Datum.number true 0 (-149))).map FloatKind.f32.format.write)) := by
  cases d with
  | nan s f => exact .refl _
  | infinity s => exact .refl _
  | number t n j =>
    simp only [Datum.product, Option.map_some, orNan, Nat.mul_zero]
    exact alk_w _ _ _ _
theorem Alk.mul {x x' y y' : Nat} (hx : Alk x x') (hy : Alk y y') : Alk (fmul .f32 x y) (fmul .f32 x' y') :=
  Alk.two (f := fmul .f32) (fun y => by unfold fmul Format.mul; rw [read_0, read_S]; exact alk_prod _) (fun x => by unfold fmul Format.mul; rw [read_0, read_S]; exact alk_prod' _) hx hy
theorem alk_quot (m : Nat) (d : Datum) : Alk (orNan .f32 (((Datum.number false 0 (-149)).quotient m d).map FloatKind.f32.format.write)) (orNan .f32 (((Datum.number true 0 (-149)).quotient m d).map FloatKind.f32.format.write)) := by
  cases d with
  | nan s f => exact .refl _
  | infinity s =>
    simp only [Datum.quotient, Option.map_some, orNan]
    exact alk_w _ _ _ _
  | number t n j =>
    simp only [Datum.quotient]
    by_cases h : n = 0
    · rw [if_pos h, if_pos h]
      exact .refl _
    · rw [if_neg h, if_neg h]
      simp only [Nat.zero_shiftLeft, Nat.zero_div, Nat.zero_mod, bne_self_eq_false, Bool.toNat_false, Nat.mul_zero, Nat.add_zero, Option.map_some, orNan]
      exact alk_w _ _ _ _
theorem Alk.div {x x' : Nat} (hx : Alk x x') (y : Nat) : Alk (fdiv .f32 x y) (fdiv .f32 x' y) :=
  Alk.one (f := fun x => fdiv .f32 x y) (by simp only [fdiv, Format.div]; rw [read_0, read_S]; exact alk_quot _ _) hx
theorem Alk.neg {x x' : Nat} (hx : Alk x x') : Alk (fneg .f32 x) (fneg .f32 x') := Alk.one (f := fneg .f32) (by
  rw [show fneg .f32 0 = 2147483648 by decide +kernel, show fneg .f32 2147483648 = 0 by decide +kernel]
  exact alk_zeros.symm) hx
theorem Alk.root {x x' : Nat} (hx : Alk x x') : Alk (rootN x) (rootN x') := Alk.one (f := rootN) (by
  rw [show rootN 0 = 0 by decide +kernel, show rootN 2147483648 = 2147483648 by decide +kernel]
  exact alk_zeros) hx
theorem Alk.rint {x x' : Nat} (hx : Alk x x') : Alk (narrow (fwhole .even (widen x))) (narrow (fwhole .even (widen x'))) := Alk.one (f := fun x => narrow (fwhole .even (widen x))) (by
  rw [show narrow (fwhole .even (widen 0)) = 0 by decide +kernel, show narrow (fwhole .even (widen 2147483648)) = 2147483648 by decide +kernel]
  exact alk_zeros) hx
theorem ord_0 (d : Datum) : (Datum.number false 0 (-149)).order d = (Datum.number true 0 (-149)).order d := by
  cases d with
  | nan s f => rfl
  | infinity s => rfl
  | number t n j => simp only [Datum.order, signed_0]
theorem ord_0' (d : Datum) : d.order (Datum.number false 0 (-149)) = d.order (Datum.number true 0 (-149)) := by
  cases d with
  | nan s f => rfl
  | infinity s => rfl
  | number t n j => simp only [Datum.order, signed_0]
theorem Alk.order {x x' y y' : Nat} (hx : Alk x x') (hy : Alk y y') : FloatKind.f32.format.order x y = FloatKind.f32.format.order x' y' := by
  have h1 : ∀ y, FloatKind.f32.format.order 0 y = FloatKind.f32.format.order 2147483648 y := fun y => by
    unfold Format.order; rw [read_0, read_S]; exact ord_0 _
  have h2 : ∀ x, FloatKind.f32.format.order x 0 = FloatKind.f32.format.order x 2147483648 := fun x => by
    unfold Format.order; rw [read_0, read_S]; exact ord_0' _
  rcases hx with rfl | ⟨rfl | rfl, rfl | rfl⟩ <;> rcases hy with rfl | ⟨rfl | rfl, rfl | rfl⟩ <;> simp only [h1, h2]
theorem Alk.flt {x x' y y' : Nat} (hx : Alk x x') (hy : Alk y y') : Go.Ev.flt .f32 x y = Go.Ev.flt .f32 x' y' := by unfold Go.Ev.flt; rw [hx.order hy]
theorem Alk.fgt {x x' y y' : Nat} (hx : Alk x x') (hy : Alk y y') : Go.Ev.fgt .f32 x y = Go.Ev.fgt .f32 x' y' := by unfold Go.Ev.fgt; rw [hx.order hy]
theorem Alk.fle {x x' y y' : Nat} (hx : Alk x x') (hy : Alk y y') : Go.Ev.fle .f32 x y = Go.Ev.fle .f32 x' y' := by unfold Go.Ev.fle; rw [hx.order hy]
theorem Alk.feq {x x' y y' : Nat} (hx : Alk x x') (hy : Alk y y') : Go.Ev.feq .f32 x y = Go.Ev.feq .f32 x' y' := by unfold Go.Ev.feq; rw [hx.order hy]
theorem Alk.nan {x x' : Nat} (hx : Alk x x') : Go.Ev.nan .f32 x = Go.Ev.nan .f32 x' := by
  rcases hx with rfl | ⟨rfl | rfl, rfl | rfl⟩ <;> rfl
end Fl
end Go.Ev

/- Plain: distances at alike points are alike. -/
set_option linter.unusedVariables false
set_option linter.unusedSimpArgs false
set_option maxRecDepth 100000
namespace Go.Proofs.Ytfhpmcdbfebflaa
open Go.Ev Go.Ev.Fl

structure AlkV (p q : V3) : Prop where
  x : Alk p.1 q.1
  y : Alk p.2.1 q.2.1
  z : Alk p.2.2 q.2.2
theorem AlkV.refl (p : V3) : AlkV p p := ⟨.refl _, .refl _, .refl _⟩
theorem alk3 {a b c a' b' c' : Nat} (h1 : Alk a a') (h2 : Alk b b') (h3 : Alk c c') : AlkV (a, b, c) (a', b', c') := ⟨h1, h2, h3⟩
theorem alk_ls {x y x' y' : Nat} (hx : Alk x x') (hy : Alk y y') : Alk (lsV x y) (lsV x' y') := by
  unfold lsV
  rw [hy.flt hx]
  exact hy.cond hx _
theorem alk_gr {x y x' y' : Nat} (hx : Alk x x') (hy : Alk y y') : Alk (grV x y) (grV x' y') := by
  unfold grV
  rw [hy.fgt hx]
  exact hy.cond hx _
theorem alk_abs {x x' : Nat} (hx : Alk x x') : Alk (absV x) (absV x') := by
  unfold absV
  rw [hx.flt (.refl 0)]
  exact hx.neg.cond hx _
theorem alk_inner {p p' q q' : V3} (hp : AlkV p p') (hq : AlkV q q') : Alk (innerV p q) (innerV p' q') :=
  ((hp.x.mul hq.x).add (hp.y.mul hq.y)).add (hp.z.mul hq.z)
theorem alk_long {p p' : V3} (hp : AlkV p p') : Alk (longV p) (longV p') := (alk_inner hp hp).root
theorem alk_leaf (k : Int) (xs : List Nat) {p p' : V3} (hp : AlkV p p') : Alk (leafV k xs p) (leafV k xs p') := by
  have L0 : Alk (fsub .f32 (longV p) (nt xs 0)) (fsub .f32 (longV p') (nt xs 0)) := (alk_long hp).sub (.refl _)
  have L1 : Alk (boxN xs p) (boxN xs p') := by
    have a := (alk_abs hp.x).sub (.refl (nt xs 0))
    have b := (alk_abs hp.y).sub (.refl (nt xs 1))
    have c := (alk_abs hp.z).sub (.refl (nt xs 2))
    exact (alk_long (alk3 (alk_gr (.refl 0) a) (alk_gr (.refl 0) b) (alk_gr (.refl 0) c))).add (alk_ls (.refl 0) (alk_gr (alk_gr a b) c))
  have L2 : Alk (fsub .f32 (longV (p.1, shoV p.2.1 (nt xs 0), p.2.2)) (nt xs 1)) (fsub .f32 (longV (p'.1, shoV p'.2.1 (nt xs 0), p'.2.2)) (nt xs 1)) :=
    (alk_long (alk3 hp.x (hp.y.sub (alk_ls (alk_gr (.refl 0) hp.y) (.refl _))) hp.z)).sub (.refl _)
  have L3 : Alk (fsub .f32 (longV (fsub .f32 (longV (p.1, 0, p.2.2)) (nt xs 0), p.2.1, 0)) (nt xs 1)) (fsub .f32 (longV (fsub .f32 (longV (p'.1, 0, p'.2.2)) (nt xs 0), p'.2.1, 0)) (nt xs 1)) :=
    (alk_long (alk3 ((alk_long (alk3 hp.x (.refl 0) hp.z)).sub (.refl _)) hp.y (.refl 0))).sub (.refl _)
  have L4 : Alk (fsub .f32 (innerV p (nt xs 0, nt xs 1, nt xs 2)) (nt xs 3)) (fsub .f32 (innerV p' (nt xs 0, nt xs 1, nt xs 2)) (nt xs 3)) := (alk_inner hp (.refl _)).sub (.refl _)
  unfold leafV
  exact L0.cond (L1.cond (L2.cond (L3.cond L4 _) _) _) _
theorem alk_bul {x x' : Nat} (hx : Alk x x') (k : Nat) : Alk (bulV x k) (bulV x' k) := by
  unfold bulV
  rw [hx.fgt (.refl 0)]
  exact ((hx.mul hx).div _).cond (.refl 0) _
theorem alk_smo (r : Nat) {x y x' y' : Nat} (hx : Alk x x') (hy : Alk y y') : Alk (smoN r x y) (smoN r x' y') := by
  have a := (Alk.refl r).sub (alk_abs (hx.sub hy))
  unfold smoN
  rw [a.fgt (.refl 0)]
  exact ((alk_ls hx hy).sub (alk_bul a r)).cond (alk_ls hx hy) _
theorem alk_mix (k : Int) (xs : List Nat) {x y x' y' : Nat} (hx : Alk x x') (hy : Alk y y') : Alk (mixV k xs x y) (mixV k xs x' y') := by
  unfold mixV
  exact (alk_ls hx hy).cond ((alk_gr hx hy).cond ((alk_gr hx hy.neg).cond ((alk_smo _ hx hy).cond ((hx.mul (.refl _)).cond ((hx.sub (.refl _)).cond (((alk_abs hx).sub (.refl _)).cond hx _) _) _) _) _) _) _
theorem AlkV.cond {p q p' q' : V3} (hp : AlkV p p') (hq : AlkV q q') (c : Bool) : AlkV (bif c then p else q) (bif c then p' else q') := by
  cases c
  · exact hq
  · exact hp
theorem alk_c3 {p p' : V3} (hp : AlkV p p') (i : Int) : Alk (c3 p i) (c3 p' i) := by
  unfold c3
  exact hp.x.cond (hp.y.cond hp.z _) _
theorem alk_set3 {p p' : V3} (hp : AlkV p p') (i : Int) {x x' : Nat} (hx : Alk x x') : AlkV (set3 p i x) (set3 p' i x') := by
  unfold set3
  exact AlkV.cond (alk3 hx hp.y hp.z) (AlkV.cond (alk3 hp.x hx hp.z) (alk3 hp.x hp.y hx) _) _
theorem alk_fold {c c' : Nat} (hc : Alk c c') (s : Nat) : Alk (foldV c s) (foldV c' s) := (Alk.refl _).mul (hc.div _).rint
theorem alk_point (k a : Int) (xs : List Nat) {p p' : V3} (hp : AlkV p p') : AlkV (pointN k a xs p) (pointN k a xs p') := by
  have P9 : AlkV (subV p (nt xs 0, nt xs 1, nt xs 2)) (subV p' (nt xs 0, nt xs 1, nt xs 2)) := ⟨hp.x.sub (.refl _), hp.y.sub (.refl _), hp.z.sub (.refl _)⟩
  have P10 : AlkV (fdiv .f32 p.1 (nt xs 0), fdiv .f32 p.2.1 (nt xs 0), fdiv .f32 p.2.2 (nt xs 0)) (fdiv .f32 p'.1 (nt xs 0), fdiv .f32 p'.2.1 (nt xs 0), fdiv .f32 p'.2.2 (nt xs 0)) := ⟨hp.x.div _, hp.y.div _, hp.z.div _⟩
  have P11 : AlkV (fdiv .f32 p.1 (nt xs 0), fdiv .f32 p.2.1 (nt xs 1), fdiv .f32 p.2.2 (nt xs 2)) (fdiv .f32 p'.1 (nt xs 0), fdiv .f32 p'.2.1 (nt xs 1), fdiv .f32 p'.2.2 (nt xs 2)) := ⟨hp.x.div _, hp.y.div _, hp.z.div _⟩
  have P12 : AlkV (turnN a (nt xs 0) p) (turnN a (nt xs 0) p') := by
    unfold turnN
    have m : ∀ (s : Nat) (i : Int), Alk (fmul .f32 s (c3 p i)) (fmul .f32 s (c3 p' i)) := fun s i => (Alk.refl s).mul (alk_c3 hp i)
    exact alk_set3 (alk_set3 hp _ ((m _ _).add (m _ _))) _ ((m _ _).sub (m _ _))
  have P13 : AlkV (set3 p a (absV (c3 p a))) (set3 p' a (absV (c3 p' a))) := alk_set3 hp a (alk_abs (alk_c3 hp a))
  have P14 : AlkV (set3 p a (absV (fsub .f32 (c3 p a) (foldV (c3 p a) (nt xs 0))))) (set3 p' a (absV (fsub .f32 (c3 p' a) (foldV (c3 p' a) (nt xs 0))))) := alk_set3 hp a (alk_abs ((alk_c3 hp a).sub (alk_fold (alk_c3 hp a) _)))
  unfold pointN
  exact P9.cond (P10.cond (P11.cond (P12.cond (P13.cond (P14.cond hp _) _) _) _) _) _
theorem alk_dist (ns : ShapeD) : ∀ (N : Nat) (i : Int) {p p' : V3}, AlkV p p' → Alk (distV N ns i p) (distV N ns i p')
  | 0, _, _, _, _ => .refl 0
  | N + 1, i, p, p', hp => by
    rw [dist_unfold, dist_unfold]
    exact (alk_leaf _ _ hp).cond ((alk_mix _ _ (alk_dist ns N _ hp) (alk_dist ns N _ hp)).cond (alk_mix _ _ (alk_dist ns N _ (alk_point _ _ _ hp)) (.refl 0)) _) _
theorem alk_dis (ns : ShapeD) {p p' : V3} (hp : AlkV p p') : Alk (disV ns p) (disV ns p') := alk_dist ns 17 _ hp
theorem alk_feq {x y : Nat} (h : Alk x y) (hn : nan .f32 x = false) : feq .f32 x y = true := by
  rw [← (Alk.refl x).feq h, feq_self, hn]
  rfl
theorem neg_neg_bd {e x : Nat} (hx : Bd e x) : fneg .f32 (fneg .f32 x) = x := by
  obtain ⟨h1, h2, h3, h4, h5⟩ := fneg_ev hx.nan hx.l
  rw [fneg_word h2 h3, h4, h5, Bool.not_not]
  exact word_of hx.l
theorem alk_absn {e x : Nat} (hx : Bd e x) : Alk (absV x) (absV (fneg .f32 x)) := by
  have z := bd_zero e
  have e0 : ev .f32 0 = 0 := q_zero.x.e
  unfold absV
  rw [flt_ev hx.nan z.nan, flt_ev hx.neg.nan z.nan, hx.ex.neg.e, e0]
  have nn : fneg .f32 (fneg .f32 x) = x := neg_neg_bd hx
  by_cases c : ev .f32 x < 0
  · rw [decide_eq_true c, decide_eq_false (show ¬ -ev .f32 x < 0 by grind)]
    exact .refl _
  · rw [decide_eq_false c, cond_false]
    by_cases c2 : -ev .f32 x < 0
    · rw [decide_eq_true c2, cond_true, nn]
      exact .refl _
    · rw [decide_eq_false c2, cond_false]
      have h0 : ev .f32 x = 0 := by grind
      have hz : isZ x := (ev_zero hx.l).1 h0
      exact .inr ⟨hz, by rcases hz with rfl | rfl <;> first | exact .inr (by decide +kernel) | exact .inl (by decide +kernel)⟩

end Go.Proofs.Ytfhpmcdbfebflaa

/- The law of built shapes. -/
set_option linter.unusedVariables false
set_option linter.unusedSimpArgs false
set_option maxRecDepth 100000
namespace Go.Proofs.Ytfhpmcdbfebflaa
open Go.Ev Go.Ev.Fl

theorem cond_no {b : Bool} {P Q : Prop} (h : b = false) (hq : Q) : cond b P Q := by rw [h]; exact hq
theorem cond_both {b : Bool} {P Q : Prop} (h1 : b = true → P) (h0 : b = false → Q) : cond b P Q := by
  cases b
  · exact h0 rfl
  · exact h1 rfl
theorem mix5 (x y : Nat) : mixV 5 [] x y = bif flt .f32 y x then y else x := rfl
theorem mix9 (xs : List Nat) (x y : Nat) : mixV 9 xs x y = x := rfl
theorem mix13 (xs : List Nat) (x y : Nat) : mixV 13 xs x y = x := rfl
theorem point9 (v p : V3) : pointN 9 0 [v.1, v.2.1, v.2.2] p = subV p v := rfl
theorem point13 (ax : Int) (p : V3) : pointN 13 ax [] p = set3 p ax (absV (c3 p ax)) := rfl
theorem point_nums {xs : List Int} (hb : bytes xs) : numsB 9 [(pointV xs).1, (pointV xs).2.1, (pointV xs).2.2] = true := by
  have b1 := (far_small (xs, 0, 0)).bytes hb
  have b2 := (far_small (smallS (xs, 0, 0))).bytes b1
  have f : ∀ {s : SrcD}, bytes s.1 → numB 9 (smallV s) = true := fun {s} hs => by
    unfold numB
    rw [show finN (smallV s) = true from (small_fin (pickV_range (s := s) hs (n := 33) (by omega))).1]
    rfl
  refine nums_of (by decide) rfl fun x hx => ?_
  simp only [List.mem_cons, List.not_mem_nil, or_false] at hx
  rcases hx with rfl | rfl | rfl
  · exact f (s := (xs, 0, 0)) hb
  · exact f b1
  · exact f b2

noncomputable def a_impl_DistancesAt_vg : Nat → Option Ann := fun n => bif Nat.beq n 5 then some ⟨[2,6,18,19,20],2,false⟩ else none
noncomputable def c_impl_DistancesAt_vg : Ctx := mkC Try.prog tyT [(33, s_impl_ValidShape), (73, s_impl_Shape_at)] [] [] 31 a_impl_DistancesAt_vg 0
noncomputable def gp_impl_DistancesAt_vg : List (List (Option Ty)) := List.map giveR [.cell (.own tF), .cell (.imm .bool)]
noncomputable def fr_impl_DistancesAt_vg_5 (ns : ShapeD) (ps : List V3) (n i : Int) (out : List Nat) : Fr := [(2, .ptr 0 0), (6, .obj 1 0), (18, .vec tV ps), (19, .int .i64 n), (20, .int .i64 i)]
noncomputable def hp_impl_DistancesAt_vg_5 (ns : ShapeD) (ps : List V3) (n i : Int) (out : List Nat) : Heap := [.box [.vec tN ns], .sl 0 tF out]
theorem r_impl_DistancesAt_vg_5 (ns : ShapeD) (ps : List V3) (n i : Int) (out : List Nat) (Kn : Fr → Heap → Prop) (K : V → Heap → Prop) : round c_impl_DistancesAt_vg ⟨[2,6,18,19,20],2,false⟩ (lb c_impl_DistancesAt_vg 5 Try.f41) (fr_impl_DistancesAt_vg_5 ns ps n i out) (hp_impl_DistancesAt_vg_5 ns ps n i out) Kn (lkG gp_impl_DistancesAt_vg c_impl_DistancesAt_vg 5 Try.f41 [] K) =
  cond (decide (i < n))
    (cond (decide (0 ≤ i))
      ((match ps[Int.toNat i]? with
        | some y0 => cond (okS ns)
          (cond (decide ((List.length out + 1) * 4 ≤ 140737488355328))
            (Kn [(2, (.ptr 0 0)), (6, (.obj 1 0)), (18, (.vec (.pair (.float .f32) (.pair (.float .f32) (.float .f32))) (ps))), (19, (.int .i64 (n))), (20, (.int .i64 (IntKind.wrap IntKind.i64 (i + 1))))] [(.box [(.vec tN (ns))]), (.sl 0 (.float .f32) (out ++ [disV ns y0]))])
            (False))
          (False)
        | none => False))
      (False))
    (K (.tuple [(.obj 0 0), (.bool true)]) [(.sl 0 (.float .f32) (out))]) := by kernel_rfl
theorem w_impl_DistancesAt_vg (ns : ShapeD) (ps : List V3) (K : V → Heap → Prop) : wpFnG gp_impl_DistancesAt_vg c_impl_DistancesAt_vg Try.f41 (encAs [.agg tS, .cell (.slice tV)] (ns, ps, ())) [] K =
 cond (!validS ns)
 (K (.tuple [(.obj 0 0), (.bool false)]) [(.sl 0 (.float .f32) ([]))])
 (cond (decide ((↑(List.length ps) : Int) > 256))
 (K (.tuple [(.obj 0 0), (.bool false)]) [(.sl 0 (.float .f32) ([]))])
 (LoopE c_impl_DistancesAt_vg ⟨[2, 6, 18, 19, 20], 2, false⟩ (lb c_impl_DistancesAt_vg 5 Try.f41) [(2, (.ptr 0 0)), (6, (.obj 1 0)), (18, (.vec (.pair (.float .f32) (.pair (.float .f32) (.float .f32))) (ps))), (19, (.int .i64 ((↑(List.length ps) : Int)))), (20, (.int .i64 0))] [(.box [(.vec tN (ns))]), (.sl 0 (.float .f32) ([]))] (lkG gp_impl_DistancesAt_vg c_impl_DistancesAt_vg 5 Try.f41 [] K))) := by kernel_rfl
noncomputable def s_impl_DistancesAt_vg : Sm := semV [.agg tS, .cell (.slice tV)] [.cell (.own tF), .cell (.imm .bool)] (fun x => match x with | (ns, ps, _) => okS ns && decide (ps.length ≤ 256)) fun x => match x with | (ns, ps, _) => (ps.map (disV ns), true, ())
theorem ok_impl_DistancesAt_vg : FnOkL Try.prog 41 s_impl_DistancesAt_vg := fnOkO_give (fnOkO_runG (C := c_impl_DistancesAt_vg) gp_impl_DistancesAt_vg rfl mixed (.cons ok_impl_ValidShape (.cons ok_impl_Shape_at .nil)) .nil .nil Try.func41 (by kernel_rfl)) rfl fun (x : ((ShapeD) × (List V3) × Unit)) wf hg K h => by
  obtain ⟨ns, ps, ⟨⟩⟩ := x
  replace hg : (okS ns && decide (ps.length ≤ 256)) = true := hg
  replace h : K (tup (valRs [.cell (.own tF), .cell (.imm .bool)] ((ps.map (disV ns), true, ())) 0)) (thRs [.cell (.own tF), .cell (.imm .bool)] ((ps.map (disV ns), true, ()))) := h
  rw [w_impl_DistancesAt_vg ns ps K]
  simp only [Bool.and_eq_true, decide_eq_true_eq] at hg
  obtain ⟨h0, hp⟩ := hg
  obtain ⟨g1, g2, g3, g4⟩ := okS_good h0
  rw [g2, d_f (show ¬ (ps.length : Int) > 256 by omega)]
  simp only [Bool.not_true, cond_false]
  refine loop_run (σ := Nat) (fun i => fr_impl_DistancesAt_vg_5 ns ps ps.length i []) (fun i => hp_impl_DistancesAt_vg_5 ns ps ps.length i ((ps.take i).map (disV ns))) (fun i => i ≤ ps.length) (fun i => ps.length - i) ?_ 0 (Nat.zero_le _)
  intro i hi Kn hk
  rw [show fr_impl_DistancesAt_vg_5 ns ps ps.length i [] = fr_impl_DistancesAt_vg_5 ns ps ps.length i ((ps.take i).map (disV ns)) from rfl, r_impl_DistancesAt_vg_5 ns ps ps.length i ((ps.take i).map (disV ns)) Kn K]
  have hl : ((ps.take i).map (disV ns)).length = i := by rw [List.length_map, List.length_take]; omega
  by_cases hlt : i < ps.length
  · have next := hk (i + 1) hlt (by omega)
    rw [take_one hlt, List.map_append] at next
    simp only [d_lt hlt, d_0, cond_true, Int.toNat_natCast, get_lt hlt, h0, hl, d_t (show (i + 1) * 4 ≤ 140737488355328 by omega)]
    rw [i64_of (n := (i : Int) + 1) (by omega) (by omega)]
    exact next
  · have : i = ps.length := by omega
    subst this
    rw [d_nlt hlt, List.take_length]
    exact h

noncomputable def c_laws_FnBuilt : Ctx := mkC Try.prog tyT [(24, s_laws_r8Long), (34, s_spec_R8Few), (26, s_spec_R8Point), (18, s_impl_DistanceAt), (33, s_impl_ValidShape), (32, s_impl_SameShape), (39, s_impl_LessVectors), (31, s_laws_r8At), (40, s_impl_SameNumber)] [] [(41, s_impl_DistancesAt_vg), (35, s_impl_JoinShapes_vg), (30, s_impl_PartOf_vg), (37, s_impl_UnionOf_vg), (38, s_impl_WrapShape_vg)] 258 (fun _ => none) 0 false [(38, s_impl_WrapShape_vg_vv)] false true true []
theorem w_laws_FnBuilt (xs ys : List Int) (K : V → Heap → Prop) : wpFn c_laws_FnBuilt Try.f6 (encAs [.cell tB, .cell tB] (xs, ys, ())) [] K =
  cond (decide (48 < List.length xs) || decide (48 < List.length ys))
    (K (.bool true) [])
    (cond (validS (joinR 5 (fewV (xs, 0, 0)) (fewV (ys, 0, 0)) []) && inR (IntKind.wrap IntKind.i64 ((↑(List.length (fewV (xs, 0, 0))) : Int) - 1)) 0 ((↑(List.length (joinR 5 (fewV (xs, 0, 0)) (fewV (ys, 0, 0)) [])) : Int) - 1))
      (cond (validS (joinR 5 (fewV (xs, 0, 0)) (fewV (ys, 0, 0)) []) && inR (IntKind.wrap IntKind.i64 (IntKind.wrap IntKind.i64 ((↑(List.length (fewV (xs, 0, 0))) : Int) + (↑(List.length (fewV (ys, 0, 0))) : Int)) - 1)) 0 ((↑(List.length (joinR 5 (fewV (xs, 0, 0)) (fewV (ys, 0, 0)) [])) : Int) - 1))
        (cond (okS (fewV (xs, 0, 0)))
          (cond (okS (fewV (ys, 0, 0)))
            (cond (okS (joinR 5 (fewV (xs, 0, 0)) (fewV (ys, 0, 0)) []))
              (cond (!joinOk 5 (fewV (xs, 0, 0)) (fewV (ys, 0, 0)) [])
                (K (.bool false) [])
                (cond (!Option.isSome (unionO [fewV (xs, (0 : Int), (0 : Int)), fewV (ys, (0 : Int), (0 : Int))]))
                  (K (.bool false) [])
                  (cond (!validS (joinR 5 (fewV (xs, 0, 0)) (fewV (ys, 0, 0)) []))
                    (K (.bool false) [])
                    (cond (!partV (joinR 5 (fewV (xs, 0, 0)) (fewV (ys, 0, 0)) []) (IntKind.wrap IntKind.i64 ((↑(List.length (fewV (xs, 0, 0))) : Int) - 1)) == fewV (xs, 0, 0))
                      (K (.bool false) [])
                      (cond (!partV (joinR 5 (fewV (xs, 0, 0)) (fewV (ys, 0, 0)) []) (IntKind.wrap IntKind.i64 (IntKind.wrap IntKind.i64 ((↑(List.length (fewV (xs, 0, 0))) : Int) + (↑(List.length (fewV (ys, 0, 0))) : Int)) - 1)) == fewV (ys, 0, 0))
                        (K (.bool false) [])
                        (cond (!Option.getD (unionO [fewV (xs, (0 : Int), (0 : Int)), fewV (ys, (0 : Int), (0 : Int))]) [] == joinR (5 : Int) (fewV (xs, (0 : Int), (0 : Int))) (fewV (ys, (0 : Int), (0 : Int))) [])
                          (K (.bool false) [])
                          (cond (flt FloatKind.f32 (disV (fewV (ys, 0, 0)) (pointV ys)) (disV (fewV (xs, 0, 0)) (pointV ys)))
                            (cond (okS (wrapR (9 : Int) (fewV (xs, (0 : Int), (0 : Int))) (0 : Int) [Prod.fst (pointV xs), Prod.fst (Prod.snd (pointV xs)), Prod.snd (Prod.snd (pointV xs))]))
                              (cond (okS (fewV (xs, 0, 0)))
                                (cond (!wrapOk (9 : Int) (fewV (xs, (0 : Int), (0 : Int))) (0 : Int) [Prod.fst (pointV xs), Prod.fst (Prod.snd (pointV xs)), Prod.snd (Prod.snd (pointV xs))])
                                  (K (.bool false) [])
                                  (cond (!wrapOk 13 (fewV (xs, 0, 0)) (atV ys 40 3) [])
                                    (K (.bool false) [])
                                    (cond (!disV (joinR 5 (fewV (xs, 0, 0)) (fewV (ys, 0, 0)) []) (pointV ys) == disV (fewV (ys, 0, 0)) (pointV ys))
                                      (K (.bool false) [])
                                      (cond (!disV (wrapR (9 : Int) (fewV (xs, (0 : Int), (0 : Int))) (0 : Int) [Prod.fst (pointV xs), Prod.fst (Prod.snd (pointV xs)), Prod.snd (Prod.snd (pointV xs))]) (pointV ys) == disV (fewV (xs, (0 : Int), (0 : Int))) (subV (pointV ys) (pointV xs)))
                                        (K (.bool false) [])
                                        (cond (atV ys 40 3 == 0)
                                          (cond (okS (wrapR 13 (fewV (xs, 0, 0)) (atV ys 40 3) []) && decide (2 ≤ 256))
                                            ((match (List.map (disV (wrapR (13 : Int) (fewV (xs, (0 : Int), (0 : Int))) (atV ys (40 : Int) (3 : Int)) [])) [pointV ys, (fneg FloatKind.f32 (Prod.fst (pointV ys)), Prod.snd (pointV ys))])[(0 : Nat)]? with
                                              | some x0 => (match (List.map (disV (wrapR (13 : Int) (fewV (xs, (0 : Int), (0 : Int))) (atV ys (40 : Int) (3 : Int)) [])) [pointV ys, (fneg FloatKind.f32 (Prod.fst (pointV ys)), Prod.snd (pointV ys))])[(1 : Nat)]? with
                                                | some x1 => K (.bool (feq FloatKind.f32 x0 x1)) []
                                                | none => False)
                                              | none => False))
                                            (False))
                                          (cond (atV ys 40 3 == 1)
                                            (cond (okS (wrapR 13 (fewV (xs, 0, 0)) (atV ys 40 3) []) && decide (2 ≤ 256))
                                              ((match (List.map (disV (wrapR (13 : Int) (fewV (xs, (0 : Int), (0 : Int))) (atV ys (40 : Int) (3 : Int)) [])) [pointV ys, (Prod.fst (pointV ys), fneg FloatKind.f32 (Prod.fst (Prod.snd (pointV ys))), Prod.snd (Prod.snd (pointV ys)))])[(0 : Nat)]? with
                                                | some x2 => (match (List.map (disV (wrapR (13 : Int) (fewV (xs, (0 : Int), (0 : Int))) (atV ys (40 : Int) (3 : Int)) [])) [pointV ys, (Prod.fst (pointV ys), fneg FloatKind.f32 (Prod.fst (Prod.snd (pointV ys))), Prod.snd (Prod.snd (pointV ys)))])[(1 : Nat)]? with
                                                  | some x3 => K (.bool (feq FloatKind.f32 x2 x3)) []
                                                  | none => False)
                                                | none => False))
                                              (False))
                                            (cond (okS (wrapR 13 (fewV (xs, 0, 0)) (atV ys 40 3) []) && decide (2 ≤ 256))
                                              ((match (List.map (disV (wrapR (13 : Int) (fewV (xs, (0 : Int), (0 : Int))) (atV ys (40 : Int) (3 : Int)) [])) [pointV ys, (Prod.fst (pointV ys), Prod.fst (Prod.snd (pointV ys)), fneg FloatKind.f32 (Prod.snd (Prod.snd (pointV ys))))])[(0 : Nat)]? with
                                                | some x4 => (match (List.map (disV (wrapR (13 : Int) (fewV (xs, (0 : Int), (0 : Int))) (atV ys (40 : Int) (3 : Int)) [])) [pointV ys, (Prod.fst (pointV ys), Prod.fst (Prod.snd (pointV ys)), fneg FloatKind.f32 (Prod.snd (Prod.snd (pointV ys))))])[(1 : Nat)]? with
                                                  | some x5 => K (.bool (feq FloatKind.f32 x4 x5)) []
                                                  | none => False)
                                                | none => False))
                                              (False))))))))
                                (False))
                              (False))
                            (cond (okS (wrapR (9 : Int) (fewV (xs, (0 : Int), (0 : Int))) (0 : Int) [Prod.fst (pointV xs), Prod.fst (Prod.snd (pointV xs)), Prod.snd (Prod.snd (pointV xs))]))
                              (cond (okS (fewV (xs, 0, 0)))
                                (cond (!wrapOk (9 : Int) (fewV (xs, (0 : Int), (0 : Int))) (0 : Int) [Prod.fst (pointV xs), Prod.fst (Prod.snd (pointV xs)), Prod.snd (Prod.snd (pointV xs))])
                                  (K (.bool false) [])
                                  (cond (!wrapOk 13 (fewV (xs, 0, 0)) (atV ys 40 3) [])
                                    (K (.bool false) [])
                                    (cond (!disV (joinR 5 (fewV (xs, 0, 0)) (fewV (ys, 0, 0)) []) (pointV ys) == disV (fewV (xs, 0, 0)) (pointV ys))
                                      (K (.bool false) [])
                                      (cond (!disV (wrapR (9 : Int) (fewV (xs, (0 : Int), (0 : Int))) (0 : Int) [Prod.fst (pointV xs), Prod.fst (Prod.snd (pointV xs)), Prod.snd (Prod.snd (pointV xs))]) (pointV ys) == disV (fewV (xs, (0 : Int), (0 : Int))) (subV (pointV ys) (pointV xs)))
                                        (K (.bool false) [])
                                        (cond (atV ys 40 3 == 0)
                                          (cond (okS (wrapR 13 (fewV (xs, 0, 0)) (atV ys 40 3) []) && decide (2 ≤ 256))
                                            ((match (List.map (disV (wrapR (13 : Int) (fewV (xs, (0 : Int), (0 : Int))) (atV ys (40 : Int) (3 : Int)) [])) [pointV ys, (fneg FloatKind.f32 (Prod.fst (pointV ys)), Prod.snd (pointV ys))])[(0 : Nat)]? with
                                              | some x6 => (match (List.map (disV (wrapR (13 : Int) (fewV (xs, (0 : Int), (0 : Int))) (atV ys (40 : Int) (3 : Int)) [])) [pointV ys, (fneg FloatKind.f32 (Prod.fst (pointV ys)), Prod.snd (pointV ys))])[(1 : Nat)]? with
                                                | some x7 => K (.bool (feq FloatKind.f32 x6 x7)) []
                                                | none => False)
                                              | none => False))
                                            (False))
                                          (cond (atV ys 40 3 == 1)
                                            (cond (okS (wrapR 13 (fewV (xs, 0, 0)) (atV ys 40 3) []) && decide (2 ≤ 256))
                                              ((match (List.map (disV (wrapR (13 : Int) (fewV (xs, (0 : Int), (0 : Int))) (atV ys (40 : Int) (3 : Int)) [])) [pointV ys, (Prod.fst (pointV ys), fneg FloatKind.f32 (Prod.fst (Prod.snd (pointV ys))), Prod.snd (Prod.snd (pointV ys)))])[(0 : Nat)]? with
                                                | some x8 => (match (List.map (disV (wrapR (13 : Int) (fewV (xs, (0 : Int), (0 : Int))) (atV ys (40 : Int) (3 : Int)) [])) [pointV ys, (Prod.fst (pointV ys), fneg FloatKind.f32 (Prod.fst (Prod.snd (pointV ys))), Prod.snd (Prod.snd (pointV ys)))])[(1 : Nat)]? with
                                                  | some x9 => K (.bool (feq FloatKind.f32 x8 x9)) []
                                                  | none => False)
                                                | none => False))
                                              (False))
                                            (cond (okS (wrapR 13 (fewV (xs, 0, 0)) (atV ys 40 3) []) && decide (2 ≤ 256))
                                              ((match (List.map (disV (wrapR (13 : Int) (fewV (xs, (0 : Int), (0 : Int))) (atV ys (40 : Int) (3 : Int)) [])) [pointV ys, (Prod.fst (pointV ys), Prod.fst (Prod.snd (pointV ys)), fneg FloatKind.f32 (Prod.snd (Prod.snd (pointV ys))))])[(0 : Nat)]? with
                                                | some x10 => (match (List.map (disV (wrapR (13 : Int) (fewV (xs, (0 : Int), (0 : Int))) (atV ys (40 : Int) (3 : Int)) [])) [pointV ys, (Prod.fst (pointV ys), Prod.fst (Prod.snd (pointV ys)), fneg FloatKind.f32 (Prod.snd (Prod.snd (pointV ys))))])[(1 : Nat)]? with
                                                  | some x11 => K (.bool (feq FloatKind.f32 x10 x11)) []
                                                  | none => False)
                                                | none => False))
                                              (False))))))))
                                (False))
                              (False)))))))))
              (False))
            (False))
          (False))
        (False))
      (False)) := by kernel_rfl
noncomputable def s_laws_FnBuilt : Sm := semT [.cell tB, .cell tB] fun x => match x with | (xs, ys, _) => .bool true
theorem ok_laws_FnBuilt : FnOk Try.prog 6 s_laws_FnBuilt := fnOk_typed (fnOk_runC (C := c_laws_FnBuilt) rfl mixed (.cons ok_laws_r8Long (.cons ok_spec_R8Few (.cons ok_spec_R8Point (.cons ok_impl_DistanceAt (.cons ok_impl_ValidShape (.cons ok_impl_SameShape (.cons ok_impl_LessVectors (.cons ok_laws_r8At (.cons ok_impl_SameNumber .nil))))))))) .nil (.cons ok_impl_DistancesAt_vg (.cons ok_impl_JoinShapes_vg (.cons ok_impl_PartOf_vg (.cons ok_impl_UnionOf_vg (.cons ok_impl_WrapShape_vg .nil))))) Try.func6 (by kernel_rfl) (.cons ok_impl_WrapShape_vg_vv .nil)) fun (x : ((List Int) × (List Int) × Unit)) wf K h => by
  obtain ⟨xs, ys, ⟨⟩⟩ := x
  replace h : K (.bool true) [] := h
  rw [w_laws_FnBuilt xs ys K]
  have bx : bytes xs := bytes_of wf.1
  have bY : bytes ys := bytes_of wf.2.1
  cases (decide (48 < xs.length) || decide (48 < ys.length)) with
  | true => exact h
  | false =>
  obtain ⟨oa, la⟩ := few_okS (s := (xs, 0, 0)) bx
  obtain ⟨ou, lu⟩ := few_okS (s := (ys, 0, 0)) bY
  have Ta := few_tree (s := (xs, 0, 0)) bx
  have Tu := few_tree (s := (ys, 0, 0)) bY
  have ma := few_sml (s := (xs, 0, 0)) bx
  have hp := point_bv bY
  have nv := point_nums bx
  have hax := atV_range bY (k := 40) (n := 3) (by omega)
  generalize fewV (xs, 0, 0) = a at *
  generalize fewV (ys, 0, 0) = u at *
  generalize pointV ys = p at *
  generalize pointV xs = v at *
  generalize atV ys 40 3 = ax at *
  have loa := Ta.lo
  have lou := Tu.lo
  obtain ⟨o5, j5, T5⟩ := join_okS (k := 5) (xs := []) Ta Tu oa ou (by omega) (by decide) (by decide)
  have e5 : joinR 5 a u [] = joinS 5 a u [] := by unfold joinR; rw [j5]; rfl
  have hU : unionO [a, u] = some (joinS 5 a u []) := by
    show (bif inR (([a, u] : List ShapeD).length : Int) 1 16 && validS a then unionGo a [u] else none) = _
    rw [(okS_good oa).2.1]
    show (bif joinOk 5 a u [] then unionGo (joinS 5 a u []) [] else none) = _
    rw [j5]
    rfl
  have pl : partV (joinS 5 a u []) ((a.length : Int) - 1) = a := part_left Ta T5
  have pr : partV (joinS 5 a u []) ((a.length : Int) + u.length - 1) = u := part_right Tu (by omega) (by omega) T5
  have dJ : disV (joinS 5 a u []) p = bif flt .f32 (disV u p) (disV a p) then disV u p else disV a p := (dis_join oa ou (by decide) p).trans (mix5 _ _)
  have lJ : (joinS 5 a u []).length = a.length + u.length + 1 := joinS_len _ _ _ _
  have vJ := (okS_good o5).2.1
  have w1 : IntKind.i64.wrap ((a.length : Int) - 1) = (a.length : Int) - 1 := i64_of (by omega) (by omega)
  have w2 : IntKind.i64.wrap (IntKind.i64.wrap ((a.length : Int) + u.length) - 1) = (a.length : Int) + u.length - 1 := by
    rw [i64_of (n := (a.length : Int) + u.length) (by omega) (by omega), i64_of (by omega) (by omega)]
  obtain ⟨o9, k9, T9⟩ := wrap_okS (k := 9) (ax := 0) (xs := [v.1, v.2.1, v.2.2]) Ta oa (by omega) (by decide) nv (by unfold axB; rfl) (turn_not (by decide) _)
  have e9 : wrapR 9 a 0 [v.1, v.2.1, v.2.2] = wrapS 9 a 0 [v.1, v.2.1, v.2.2] := by unfold wrapR; rw [k9]; rfl
  have d9 : disV (wrapS 9 a 0 [v.1, v.2.1, v.2.2]) p = disV a (subV p v) := by
    rw [dis_wrap oa (by decide) p, mix9, point9]
  have hax2 : inR ax 0 2 = true := inR_iff.2 (by omega)
  obtain ⟨o13, k13, T13⟩ := wrap_okS (k := 13) (ax := ax) (xs := []) Ta oa (by omega) (by decide) (by decide) (by
    rcases kind_ax ((a.length : Int) - 1) ax (k := 13) (by decide) with ⟨h1, _⟩ | ⟨_, _, h2, _⟩ | ⟨_, _, _, _, h4⟩ | ⟨_, h2, _⟩
    · cases h1
    · cases h2
    · rw [h4]; exact hax2
    · cases h2) (turn_not (by decide) _)
  have e13 : wrapR 13 a ax [] = wrapS 13 a ax [] := by unfold wrapR; rw [k13]; rfl
  have D : ∀ q, AlkV (set3 p ax (absV (c3 p ax))) (set3 q ax (absV (c3 q ax))) → K (.bool (feq .f32 (disV (wrapR 13 a ax []) p) (disV (wrapR 13 a ax []) q))) [] := fun q hq => by
    have f : ∀ q, disV (wrapS 13 a ax []) q = disV a (set3 q ax (absV (c3 q ax))) := fun q => by
      rw [dis_wrap oa (by decide) q, mix13, point13]
    rw [e13, f, f, alk_feq (alk_dis a hq) (dis_bd oa ma (by omega) (set3_bv hp (abs_bd (c3_bd ax hp)))).nan]
    exact h
  have i1 : inR ((a.length : Int) - 1) 0 (((a.length + u.length + 1 : Nat) : Int) - 1) = true := inR_iff.2 (by omega)
  have i2 : inR ((a.length : Int) + u.length - 1) 0 (((a.length + u.length + 1 : Nat) : Int) - 1) = true := inR_iff.2 (by omega)
  have same : ∀ s : ShapeD, (!(s == s)) = false := fun s => by rw [beq_self_eq_true s]; rfl
  have same1 : ∀ s : Nat, (!(s == s)) = false := fun s => by rw [beq_self_eq_true s]; rfl
  have fin : cond (ax == 0) (cond (okS (wrapR 13 a ax []) && decide ((2 : Int) ≤ 256)) (K (.bool (feq .f32 (disV (wrapR 13 a ax []) p) (disV (wrapR 13 a ax []) (fneg .f32 p.1, p.2)))) []) False)
      (cond (ax == 1) (cond (okS (wrapR 13 a ax []) && decide ((2 : Int) ≤ 256)) (K (.bool (feq .f32 (disV (wrapR 13 a ax []) p) (disV (wrapR 13 a ax []) (p.1, fneg .f32 p.2.1, p.2.2)))) []) False)
      (cond (okS (wrapR 13 a ax []) && decide ((2 : Int) ≤ 256)) (K (.bool (feq .f32 (disV (wrapR 13 a ax []) p) (disV (wrapR 13 a ax []) (p.1, p.2.1, fneg .f32 p.2.2)))) []) False)) := by
    have g : (okS (wrapR 13 a ax []) && decide ((2 : Int) ≤ 256)) = true := by rw [e13, o13]; rfl
    rw [g]
    simp only [cond_true]
    rcases (by omega : ax = 0 ∨ ax = 1 ∨ ax = 2) with r | r | r <;> rw [r] at D ⊢
    · exact D (fneg .f32 p.1, p.2) (show AlkV (absV p.1, p.2.1, p.2.2) (absV (fneg .f32 p.1), p.2.1, p.2.2) from alk3 (alk_absn hp.x) (.refl _) (.refl _))
    · exact D (p.1, fneg .f32 p.2.1, p.2.2) (show AlkV (p.1, absV p.2.1, p.2.2) (p.1, absV (fneg .f32 p.2.1), p.2.2) from alk3 (.refl _) (alk_absn hp.y) (.refl _))
    · exact D (p.1, p.2.1, fneg .f32 p.2.2) (show AlkV (p.1, p.2.1, absV p.2.2) (p.1, p.2.1, absV (fneg .f32 p.2.2)) from alk3 (.refl _) (.refl _) (alk_absn hp.z))
  refine cond_no rfl ?_
  refine cond_intro (by rw [e5, w1, vJ, lJ]; exact i1) ?_
  refine cond_intro (by rw [e5, w2, vJ, lJ]; exact i2) ?_
  refine cond_intro oa ?_
  refine cond_intro ou ?_
  refine cond_intro (by rw [e5]; exact o5) ?_
  refine cond_no (by rw [j5]; rfl) ?_
  refine cond_no (by rw [hU]; rfl) ?_
  refine cond_no (by rw [e5, vJ]; rfl) ?_
  refine cond_no (by rw [e5, w1, pl]; exact same _) ?_
  refine cond_no (by rw [e5, w2, pr]; exact same _) ?_
  refine cond_no (by rw [hU, e5]; exact same _) ?_
  refine cond_both (fun c => ?_) (fun c => ?_)
  · refine cond_intro (by rw [e9]; exact o9) ?_
    refine cond_intro oa ?_
    refine cond_no (by rw [k9]; rfl) ?_
    refine cond_no (by rw [k13]; rfl) ?_
    refine cond_no (by rw [e5, dJ, c]; exact same1 _) ?_
    refine cond_no (by rw [e9, d9]; exact same1 _) ?_
    exact fin
  · refine cond_intro (by rw [e9]; exact o9) ?_
    refine cond_intro oa ?_
    refine cond_no (by rw [k9]; rfl) ?_
    refine cond_no (by rw [k13]; rfl) ?_
    refine cond_no (by rw [e5, dJ, c]; exact same1 _) ?_
    refine cond_no (by rw [e9, d9]; exact same1 _) ?_
    exact fin

end Go.Proofs.Ytfhpmcdbfebflaa

