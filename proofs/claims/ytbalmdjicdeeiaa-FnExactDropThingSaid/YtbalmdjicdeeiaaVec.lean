/- Vectors and lists: equality, copies, sizes. -/
import Derived.Test.YtbalmdjicdeeiaaPre
set_option linter.unusedVariables false
set_option linter.unusedSimpArgs false
set_option maxRecDepth 100000
namespace Go.Proofs.Ytbalmdjicdeeiaa
open Go.Ev
abbrev tI : Ty := .int .i64

/-! sizes -/
--B szV Int → Nat → Int
def szV (n : Int) (w : Nat) : Int := bif decide (n - (w : Int) < 0) then (-1) else n - w
theorem szV_no {n : Int} {w : Nat} (h : n - (w : Int) < 0) : szV n w = -1 := by unfold szV; rw [d_t h]; rfl
theorem szV_ok {n : Int} {w : Nat} (h : 0 ≤ n - (w : Int)) : szV n w = n - w := by unfold szV; rw [d_f (by omega)]; rfl
--B wList {α : Type} → (α → Nat) → List α → Nat
def wList {α : Type} (w : α → Nat) (xs : List α) : Nat := xs.length + (xs.map w).sum
theorem wList_ge {α : Type} (w : α → Nat) (xs : List α) : xs.length ≤ wList w xs := by unfold wList; omega
theorem sum_take {α : Type} (w : α → Nat) {xs : List α} {i : Nat} (hi : i < xs.length) : ((xs.take (i + 1)).map w).sum = ((xs.take i).map w).sum + w (xs[i]'hi) := by
  rw [take_one hi, List.map_append, List.sum_append]
  simp
theorem sum_le {α : Type} (w : α → Nat) : ∀ (xs : List α) (i : Nat), ((xs.take i).map w).sum ≤ (xs.map w).sum
  | [], i => by simp
  | x :: xs, 0 => by simp
  | x :: xs, i + 1 => by
    have := sum_le w xs i
    simp only [List.take_succ_cons, List.map_cons, List.sum_cons]
    omega
theorem mem_le {α : Type} (w : α → Nat) {xs : List α} {x : α} (h : x ∈ xs) : w x ≤ (xs.map w).sum := by
  induction xs with
  | nil => cases h
  | cons y xs ih =>
    simp only [List.map_cons, List.sum_cons]
    rcases List.mem_cons.1 h with e | e
    · subst e; omega
    · have := ih e; omega

/-! slices.EqualFunc[[]float32,[]float32,float32,float32] -/
noncomputable def a_slices_EqualFunc__float32 : Nat → Option Ann := fun n => bif Nat.beq n 4 then some ⟨[1,2,15,16,17],0,false⟩ else none
noncomputable def c_slices_EqualFunc__float32 : Ctx := mkC Try.prog tyT [(157, s_impl_SameNumber)] [] [] 32 a_slices_EqualFunc__float32 0
noncomputable def fr_slices_EqualFunc__float32_4 (xs ys : List (Nat)) (n i : Int) : Fr := [(1, .vec (tF) ys), (2, .fn 157 []), (15, .vec (tF) xs), (16, .int .i64 n), (17, .int .i64 i)]
theorem r_slices_EqualFunc__float32_4 (xs ys : List (Nat)) (n i : Int) (Kn : Fr → Heap → Prop) (K : V → Heap → Prop) : round c_slices_EqualFunc__float32 ⟨[1,2,15,16,17],0,false⟩ (lb c_slices_EqualFunc__float32 4 Try.f156) (fr_slices_EqualFunc__float32_4 xs ys n i) [] Kn (lk c_slices_EqualFunc__float32 4 Try.f156 [] K) =
  cond (decide (i < n))
    (cond (decide (0 ≤ i))
      ((match xs[Int.toNat i]? with
        | some y0 => cond (decide (0 ≤ i))
          ((match ys[Int.toNat i]? with
            | some y1 => cond (!y0 == y1)
              (K (.bool false) [])
              (Kn [(1, (.vec (.float .f32) (ys))), (2, (.fn 157 [])), (15, (.vec (.float .f32) (xs))), (16, (.int .i64 (n))), (17, (.int .i64 (IntKind.wrap IntKind.i64 (i + 1))))] [])
            | none => False))
          (False)
        | none => False))
      (False))
    (K (.bool true) []) := by kernel_rfl
theorem w_slices_EqualFunc__float32 (xs ys : List (Nat)) (K : V → Heap → Prop) : wpFn c_slices_EqualFunc__float32 Try.f156 (encAs [.cell (.slice (tF)), .cell (.slice (tF)), .fn 157] (xs, ys, (), ())) [] K =
  cond ((↑(List.length xs) : Int) != (↑(List.length ys) : Int))
    (K (.bool false) [])
    (LoopE c_slices_EqualFunc__float32 ⟨[1, 2, 15, 16, 17], 0, false⟩ (lb c_slices_EqualFunc__float32 4 Try.f156) [(1, (.vec (.float .f32) (ys))), (2, (.fn 157 [])), (15, (.vec (.float .f32) (xs))), (16, (.int .i64 ((↑(List.length xs) : Int)))), (17, (.int .i64 0))] [] (lk c_slices_EqualFunc__float32 4 Try.f156 [] K)) := by kernel_rfl
noncomputable def s_slices_EqualFunc__float32 : Sm := semT [.cell (.slice (tF)), .cell (.slice (tF)), .fn 157] fun x => match x with | (xs, ys, _, _) => .bool (xs == ys)
theorem ok_slices_EqualFunc__float32 : FnOk Try.prog 156 s_slices_EqualFunc__float32 := fnOk_typed (fnOk_runC (C := c_slices_EqualFunc__float32) rfl mixed (.cons ok_impl_SameNumber .nil) .nil .nil Try.func156 (by kernel_rfl)) fun (x : ((List (Nat)) × (List (Nat)) × Unit × Unit)) wf K h => by
  obtain ⟨xs, ys, ⟨⟩, ⟨⟩⟩ := x
  replace h : K (.bool (xs == ys)) [] := h
  rw [w_slices_EqualFunc__float32 xs ys K]
  obtain ⟨⟨wl, _⟩, _⟩ := wf
  have wl : xs.length ≤ 9223372036854775807 := wl
  rw [bne_cast]
  by_cases hl : xs.length = ys.length
  · rw [show (xs.length != ys.length) = false by rw [hl]; exact bne_self_eq_false _]
    simp only [cond_false]
    refine loop_run (σ := Nat) (fun i => fr_slices_EqualFunc__float32_4 xs ys xs.length i) (fun _ => []) (fun i => i ≤ ys.length ∧ xs.take i = ys.take i) (fun i => ys.length - i) ?_ 0 ⟨Nat.zero_le _, rfl⟩
    intro i hi Kn hk
    rw [r_slices_EqualFunc__float32_4 xs ys xs.length i Kn K]
    by_cases hlt : i < ys.length
    · have hlx : i < xs.length := by omega
      simp only [d_lt hlx, d_0, cond_true, Int.toNat_natCast, get_lt hlt, get_lt hlx]
      by_cases he : xs[i]'hlx = ys[i]'hlt
      · simp only [he, beq_self_eq_true, Bool.not_true, cond_false]
        rw [i64_of (by omega) (by omega)]
        refine hk (i + 1) ⟨hlt, ?_⟩ (by omega)
        rw [take_one hlx, take_one hlt, hi.2, he]
      · have hb : (xs[i]'hlx == ys[i]'hlt) = false := beq_eq_false_iff_ne.2 he
        simp only [hb, Bool.not_false, cond_true]
        have hne : (xs == ys) = false := beq_eq_false_iff_ne.2 fun e => he (by simp only [e])
        rw [hne] at h; exact h
    · have hlx : ¬ i < xs.length := by omega
      simp only [d_nlt hlx, cond_false]
      have : xs = ys := by
        have := hi.2
        rwa [List.take_of_length_le (by omega), List.take_of_length_le (by omega)] at this
      rw [this, beq_self_eq_true] at h; exact h
  · have : (xs.length != ys.length) = true := by simp [hl]
    simp only [this, cond_true]
    have hne : (xs == ys) = false := beq_eq_false_iff_ne.2 fun e => hl (by rw [e])
    rw [hne] at h; exact h

/-! impl.sameList -/
noncomputable def c_impl_sameList : Ctx := mkC Try.prog tyT [(156, s_slices_EqualFunc__float32)] [] [] 8 (fun _ => none) 0
theorem w_impl_sameList (xs ys : List Nat) (K : V → Heap → Prop) : wpFn c_impl_sameList Try.f121 (encAs [.cell (.slice tF), .cell (.slice tF)] (xs, ys, ())) [] K =
  K (.bool (xs == ys)) [] := by kernel_rfl
noncomputable def s_impl_sameList : Sm := semT [.cell (.slice tF), .cell (.slice tF)] fun x => match x with | (xs, ys, _) => .bool (xs == ys)
theorem ok_impl_sameList : FnOk Try.prog 121 s_impl_sameList := fnOk_typed (fnOk_runC (C := c_impl_sameList) rfl mixed (.cons ok_slices_EqualFunc__float32 .nil) .nil .nil Try.func121 (by kernel_rfl)) fun (x : ((List Nat) × (List Nat) × Unit)) wf K h => by
  obtain ⟨xs, ys, ⟨⟩⟩ := x
  replace h : K (.bool (xs == ys)) [] := h
  rw [w_impl_sameList xs ys K]
  exact h

/-! (impl.Vector).numbers -/
noncomputable def c_impl_Vector_numbers : Ctx := mkC Try.prog tyT [] [] [] 10 (fun _ => none) 0
theorem w_impl_Vector_numbers (u : V3) (K : V → Heap → Prop) : wpFn c_impl_Vector_numbers Try.f122 (encAs [.agg tV] (u, ())) [] K =
  K (.vec (.float .f32) ([Prod.fst u, Prod.fst (Prod.snd u), Prod.snd (Prod.snd u)])) [] := by kernel_rfl
noncomputable def s_impl_Vector_numbers : Sm := semT [.agg tV] fun x => match x with | (u, _) => .vec tF [u.1, u.2.1, u.2.2]
theorem ok_impl_Vector_numbers : FnOk Try.prog 122 s_impl_Vector_numbers := fnOk_typed (fnOk_runC (C := c_impl_Vector_numbers) rfl mixed .nil .nil .nil Try.func122 (by kernel_rfl)) fun (x : ((V3) × Unit)) wf K h => by
  obtain ⟨u, ⟨⟩⟩ := x
  replace h : K (.vec tF [u.1, u.2.1, u.2.2]) [] := h
  rw [w_impl_Vector_numbers u K]
  exact h

/-! impl.SameVector -/
noncomputable def c_impl_SameVector : Ctx := mkC Try.prog tyT [(121, s_impl_sameList), (122, s_impl_Vector_numbers)] [] [] 10 (fun _ => none) 0
theorem w_impl_SameVector (u v : V3) (K : V → Heap → Prop) : wpFn c_impl_SameVector Try.f84 (encAs [.agg tV, .agg tV] (u, v, ())) [] K =
  K (.bool ([Prod.fst u, Prod.fst (Prod.snd u), Prod.snd (Prod.snd u)] == [Prod.fst v, Prod.fst (Prod.snd v), Prod.snd (Prod.snd v)])) [] := by kernel_rfl
noncomputable def s_impl_SameVector : Sm := semT [.agg tV, .agg tV] fun x => match x with | (u, v, _) => .bool (u == v)
theorem ok_impl_SameVector : FnOk Try.prog 84 s_impl_SameVector := fnOk_typed (fnOk_runC (C := c_impl_SameVector) rfl mixed (.cons ok_impl_sameList (.cons ok_impl_Vector_numbers .nil)) .nil .nil Try.func84 (by kernel_rfl)) fun (x : ((V3) × (V3) × Unit)) wf K h => by
  obtain ⟨u, v, ⟨⟩⟩ := x
  replace h : K (.bool (u == v)) [] := h
  rw [w_impl_SameVector u v K]
  have : ([u.1, u.2.1, u.2.2] == [v.1, v.2.1, v.2.2]) = (u == v) := by
    show (u.1 == v.1 && (u.2.1 == v.2.1 && (u.2.2 == v.2.2 && true))) = (u.1 == v.1 && (u.2.1 == v.2.1 && u.2.2 == v.2.2))
    rw [Bool.and_true]
  rw [this]; exact h

/-! laws.toVector -/
noncomputable def c_laws_toVector : Ctx := mkC Try.prog tyT [] [] [] 14 (fun _ => none) 0
theorem w_laws_toVector (u : V3) (K : V → Heap → Prop) : wpFn c_laws_toVector Try.f141 (encAs [.agg tV] (u, ())) [] K =
  K (.agg [(.float .f32 (Prod.fst u)), (.float .f32 (Prod.fst (Prod.snd u))), (.float .f32 (Prod.snd (Prod.snd u)))]) [] := by kernel_rfl
noncomputable def s_laws_toVector : Sm := semT [.agg tV] fun x => match x with | (u, _) => .agg (enc tV u)
theorem ok_laws_toVector : FnOk Try.prog 141 s_laws_toVector := fnOk_typed (fnOk_runC (C := c_laws_toVector) rfl mixed .nil .nil .nil Try.func141 (by kernel_rfl)) fun (x : ((V3) × Unit)) wf K h => by
  obtain ⟨u, ⟨⟩⟩ := x
  replace h : K (.agg (enc tV u)) [] := h
  rw [w_laws_toVector u K]
  exact h


/-! laws.sameFloat -/
noncomputable def c_laws_sameFloat : Ctx := mkC Try.prog tyT [] [] [] 37 (fun _ => none) 0
theorem w_laws_sameFloat (a b : Nat) (K : V → Heap → Prop) : wpFn c_laws_sameFloat Try.f106 (encAs [.cell (.float .f64), .cell (.float .f64)] (a, b, ())) [] K =
  cond (!feq FloatKind.f64 a a)
    (cond (!feq FloatKind.f64 a a)
      (K (.bool (!feq FloatKind.f64 b b)) [])
      (K (.bool false) []))
    (cond (!feq FloatKind.f64 b b)
      (cond (!feq FloatKind.f64 a a)
        (K (.bool (!feq FloatKind.f64 b b)) [])
        (K (.bool false) []))
      (cond (feq FloatKind.f64 a 0)
        (cond (feq FloatKind.f64 b 0)
          (K (.bool (fgt FloatKind.f64 (fdiv FloatKind.f64 4607182418800017408 a) 0 == fgt FloatKind.f64 (fdiv FloatKind.f64 4607182418800017408 b) 0)) [])
          (K (.bool (feq FloatKind.f64 a b)) []))
        (K (.bool (feq FloatKind.f64 a b)) []))) := by kernel_rfl
noncomputable def s_laws_sameFloat : Sm := semG [.cell (.float .f64), .cell (.float .f64)] (fun x => match x with | (a, b, _) => a == b) fun x => match x with | (a, b, _) => .bool true
theorem ok_laws_sameFloat : FnOk Try.prog 106 s_laws_sameFloat := fnOk_typedG (fnOk_runC (C := c_laws_sameFloat) rfl mixed .nil .nil .nil Try.func106 (by kernel_rfl)) fun (x : ((Nat) × (Nat) × Unit)) wf hg K h => by
  obtain ⟨a, b, ⟨⟩⟩ := x
  replace hg : (a == b) = true := hg
  replace h : K (.bool true) [] := h
  rw [w_laws_sameFloat a b K]
  have e : a = b := by simpa using hg
  subst e
  rw [feq_self]
  cases nan .f64 a <;> simp only [Bool.not_true, Bool.not_false, cond_true, cond_false, beq_self_eq_true]
  · cases feq .f64 a 0 <;> exact h
  · exact h

/-! laws.eqVector -/
noncomputable def c_laws_eqVector : Ctx := mkC Try.prog tyT [(106, s_laws_sameFloat)] [] [] 29 (fun _ => none) 0
theorem w_laws_eqVector (u v : V3) (K : V → Heap → Prop) : wpFn c_laws_eqVector Try.f66 (encAs [.agg tV, .agg tV] (u, v, ())) [] K =
  cond (widen (Prod.fst u) == widen (Prod.fst v))
    (cond (widen (Prod.fst (Prod.snd u)) == widen (Prod.fst (Prod.snd v)))
      (cond (widen (Prod.snd (Prod.snd u)) == widen (Prod.snd (Prod.snd v)))
        (K (.bool true) [])
        (False))
      (False))
    (False) := by kernel_rfl
noncomputable def s_laws_eqVector : Sm := semG [.agg tV, .agg tV] (fun x => match x with | (u, v, _) => u == v) fun x => match x with | (u, v, _) => .bool true
theorem ok_laws_eqVector : FnOk Try.prog 66 s_laws_eqVector := fnOk_typedG (fnOk_runC (C := c_laws_eqVector) rfl mixed (.cons ok_laws_sameFloat .nil) .nil .nil Try.func66 (by kernel_rfl)) fun (x : ((V3) × (V3) × Unit)) wf hg K h => by
  obtain ⟨u, v, ⟨⟩⟩ := x
  replace hg : (u == v) = true := hg
  replace h : K (.bool true) [] := h
  rw [w_laws_eqVector u v K]
  have e : u = v := by simpa using hg
  subst e
  simp only [beq_self_eq_true, cond_true]
  exact h

/-! spec.l01SameAll -/
noncomputable def a_spec_l01SameAll : Nat → Option Ann := fun n => bif Nat.beq n 4 then some ⟨[0,1,5],0,false⟩ else none
noncomputable def c_spec_l01SameAll : Ctx := mkC Try.prog tyT [(120, s_spec_l01Same)] [] [] 27 a_spec_l01SameAll 0
noncomputable def fr_spec_l01SameAll_4 (xs ys : List (Nat)) (i : Int) : Fr := [(0, .vec (tF) xs), (1, .vec (tF) ys), (5, .int .i64 i)]
theorem r_spec_l01SameAll_4 (xs ys : List (Nat)) (i : Int) (Kn : Fr → Heap → Prop) (K : V → Heap → Prop) : round c_spec_l01SameAll ⟨[0,1,5],0,false⟩ (lb c_spec_l01SameAll 4 Try.f96) (fr_spec_l01SameAll_4 xs ys i) [] Kn (lk c_spec_l01SameAll 4 Try.f96 [] K) =
  cond (decide (i < (↑(List.length xs) : Int)))
    (cond (decide (0 ≤ i))
      ((match xs[Int.toNat i]? with
        | some y0 => cond (decide (0 ≤ i))
          ((match ys[Int.toNat i]? with
            | some y1 => cond (!y0 == y1)
              (K (.bool false) [])
              (Kn [(0, (.vec (.float .f32) (xs))), (1, (.vec (.float .f32) (ys))), (5, (.int .i64 (IntKind.wrap IntKind.i64 (i + 1))))] [])
            | none => False))
          (False)
        | none => False))
      (False))
    (K (.bool true) []) := by kernel_rfl
theorem w_spec_l01SameAll (xs ys : List (Nat)) (K : V → Heap → Prop) : wpFn c_spec_l01SameAll Try.f96 (encAs [.cell (.slice (tF)), .cell (.slice (tF))] (xs, ys, ())) [] K =
  cond ((↑(List.length xs) : Int) != (↑(List.length ys) : Int))
    (K (.bool false) [])
    (LoopE c_spec_l01SameAll ⟨[0, 1, 5], 0, false⟩ (lb c_spec_l01SameAll 4 Try.f96) [(0, (.vec (.float .f32) (xs))), (1, (.vec (.float .f32) (ys))), (5, (.int .i64 0))] [] (lk c_spec_l01SameAll 4 Try.f96 [] K)) := by kernel_rfl
noncomputable def s_spec_l01SameAll : Sm := semT [.cell (.slice (tF)), .cell (.slice (tF))] fun x => match x with | (xs, ys, _) => .bool (xs == ys)
theorem ok_spec_l01SameAll : FnOk Try.prog 96 s_spec_l01SameAll := fnOk_typed (fnOk_runC (C := c_spec_l01SameAll) rfl mixed (.cons ok_spec_l01Same .nil) .nil .nil Try.func96 (by kernel_rfl)) fun (x : ((List (Nat)) × (List (Nat)) × Unit)) wf K h => by
  obtain ⟨xs, ys, ⟨⟩⟩ := x
  replace h : K (.bool (xs == ys)) [] := h
  rw [w_spec_l01SameAll xs ys K]
  obtain ⟨⟨wl, _⟩, _⟩ := wf
  have wl : xs.length ≤ 9223372036854775807 := wl
  rw [bne_cast]
  by_cases hl : xs.length = ys.length
  · simp only [hl, bne_self_eq_false, cond_false]
    refine loop_run (σ := Nat) (fun i => fr_spec_l01SameAll_4 xs ys i) (fun _ => []) (fun i => i ≤ ys.length ∧ xs.take i = ys.take i) (fun i => ys.length - i) ?_ 0 ⟨Nat.zero_le _, rfl⟩
    intro i hi Kn hk
    rw [r_spec_l01SameAll_4 xs ys i Kn K]
    by_cases hlt : i < ys.length
    · have hlx : i < xs.length := by omega
      simp only [d_lt hlx, d_0, cond_true, Int.toNat_natCast, get_lt hlt, get_lt hlx]
      by_cases he : xs[i]'hlx = ys[i]'hlt
      · simp only [he, beq_self_eq_true, Bool.not_true, cond_false]
        rw [i64_of (by omega) (by omega)]
        refine hk (i + 1) ⟨hlt, ?_⟩ (by omega)
        rw [take_one hlx, take_one hlt, hi.2, he]
      · have hb : (xs[i]'hlx == ys[i]'hlt) = false := beq_eq_false_iff_ne.2 he
        simp only [hb, Bool.not_false, cond_true]
        have hne : (xs == ys) = false := beq_eq_false_iff_ne.2 fun e => he (by simp only [e])
        rw [hne] at h; exact h
    · have hlx : ¬ i < xs.length := by omega
      simp only [d_nlt hlx, cond_false]
      have : xs = ys := by
        have := hi.2
        rwa [List.take_of_length_le (by omega), List.take_of_length_le (by omega)] at this
      rw [this, beq_self_eq_true] at h; exact h
  · have : (xs.length != ys.length) = true := by simp [hl]
    simp only [this, cond_true]
    have hne : (xs == ys) = false := beq_eq_false_iff_ne.2 fun e => hl (by rw [e])
    rw [hne] at h; exact h

/-! laws.eqFloat32S -/
noncomputable def a_laws_eqFloat32S : Nat → Option Ann := fun n => bif Nat.beq n 4 then some ⟨[0,1,5],0,false⟩ else none
noncomputable def c_laws_eqFloat32S : Ctx := mkC Try.prog tyT [(106, s_laws_sameFloat)] [] [] 29 a_laws_eqFloat32S 0
noncomputable def fr_laws_eqFloat32S_4 (xs ys : List (Nat)) (i : Int) : Fr := [(0, .vec (tF) xs), (1, .vec (tF) ys), (5, .int .i64 i)]
theorem r_laws_eqFloat32S_4 (xs ys : List (Nat)) (i : Int) (Kn : Fr → Heap → Prop) (K : V → Heap → Prop) : round c_laws_eqFloat32S ⟨[0,1,5],0,false⟩ (lb c_laws_eqFloat32S 4 Try.f173) (fr_laws_eqFloat32S_4 xs ys i) [] Kn (lk c_laws_eqFloat32S 4 Try.f173 [] K) =
  cond (decide (i < (↑(List.length xs) : Int)))
    (cond (decide (0 ≤ i))
      ((match xs[Int.toNat i]? with
        | some y0 => cond (decide (0 ≤ i))
          ((match ys[Int.toNat i]? with
            | some y1 => cond (widen y0 == widen y1)
              (Kn [(0, (.vec (.float .f32) (xs))), (1, (.vec (.float .f32) (ys))), (5, (.int .i64 (IntKind.wrap IntKind.i64 (i + 1))))] [])
              (False)
            | none => False))
          (False)
        | none => False))
      (False))
    (K (.bool true) []) := by kernel_rfl
theorem w_laws_eqFloat32S (xs ys : List (Nat)) (K : V → Heap → Prop) : wpFn c_laws_eqFloat32S Try.f173 (encAs [.cell (.slice (tF)), .cell (.slice (tF))] (xs, ys, ())) [] K =
  cond ((↑(List.length xs) : Int) != (↑(List.length ys) : Int))
    (K (.bool false) [])
    (LoopE c_laws_eqFloat32S ⟨[0, 1, 5], 0, false⟩ (lb c_laws_eqFloat32S 4 Try.f173) [(0, (.vec (.float .f32) (xs))), (1, (.vec (.float .f32) (ys))), (5, (.int .i64 0))] [] (lk c_laws_eqFloat32S 4 Try.f173 [] K)) := by kernel_rfl
noncomputable def s_laws_eqFloat32S : Sm := semG [.cell (.slice (tF)), .cell (.slice (tF))] (fun x => match x with | (xs, ys, _) => xs == ys) fun x => match x with | (xs, ys, _) => .bool true
theorem ok_laws_eqFloat32S : FnOk Try.prog 173 s_laws_eqFloat32S := fnOk_typedG (fnOk_runC (C := c_laws_eqFloat32S) rfl mixed (.cons ok_laws_sameFloat .nil) .nil .nil Try.func173 (by kernel_rfl)) fun (x : ((List (Nat)) × (List (Nat)) × Unit)) wf hg K h => by
  obtain ⟨xs, ys, ⟨⟩⟩ := x
  replace hg : (xs == ys) = true := hg
  replace h : K (.bool true) [] := h
  rw [w_laws_eqFloat32S xs ys K]
  have e : xs = ys := by simpa using hg
  subst e
  obtain ⟨⟨wl, _⟩, _⟩ := wf
  rw [bne_self_eq_false, cond_false]
  refine loop_run (σ := Nat) (fun i => fr_laws_eqFloat32S_4 xs xs i) (fun _ => []) (fun i => i ≤ xs.length) (fun i => xs.length - i) ?_ 0 (Nat.zero_le _)
  intro i hi Kn hk
  rw [r_laws_eqFloat32S_4 xs xs i Kn K]
  by_cases hlt : i < xs.length
  · simp only [d_lt hlt, d_0, cond_true, Int.toNat_natCast, get_lt hlt, beq_self_eq_true]
    have hm : xs.length ≤ 9223372036854775807 := wl
    rw [i64_of (by omega) (by omega)]
    exact hk (i + 1) hlt (by omega)
  · simp only [d_nlt hlt, cond_false]
    exact h

/-! laws.szFloat32S -/
noncomputable def c_laws_szFloat32S : Ctx := mkC Try.prog tyT [] [] [] 12 (fun _ => none) 0
theorem w_laws_szFloat32S (xs : List (Nat)) (n : Int) (K : V → Heap → Prop) : wpFn c_laws_szFloat32S Try.f168 (encAs [.cell (.slice (tF)), .cell (.int .i64)] (xs, n, ())) [] K =
  cond (decide (IntKind.wrap IntKind.i64 (n - (↑(List.length xs) : Int)) < 0))
    (K (.int .i64 (-1)) [])
    (K (.int .i64 (IntKind.wrap IntKind.i64 (n - (↑(List.length xs) : Int)))) []) := by kernel_rfl
noncomputable def s_laws_szFloat32S : Sm := semG [.cell (.slice (tF)), .cell (.int .i64)] (fun x => match x with | (xs, n, _) => decide (n ≤ 1048576) && decide (0 ≤ n)) fun x => match x with | (xs, n, _) => .int .i64 (szV n xs.length)
theorem ok_laws_szFloat32S : FnOk Try.prog 168 s_laws_szFloat32S := fnOk_typedG (fnOk_runC (C := c_laws_szFloat32S) rfl mixed .nil .nil .nil Try.func168 (by kernel_rfl)) fun (x : ((List (Nat)) × (Int) × Unit)) wf hg K h => by
  obtain ⟨xs, n, ⟨⟩⟩ := x
  replace hg : (decide (n ≤ 1048576) && decide (0 ≤ n)) = true := hg
  replace h : K (.int .i64 (szV n xs.length)) [] := h
  rw [w_laws_szFloat32S xs n K]
  obtain ⟨⟨wl, _⟩, wn, _⟩ := wf
  have wl' : xs.length ≤ 9223372036854775807 := wl
  simp only [Bool.and_eq_true, decide_eq_true_eq] at hg
  rw [i64_of (by omega) (by omega)]
  unfold szV at h
  cases e : decide (n - (xs.length : Int) < 0) <;> simp only [e, cond_true, cond_false] at h ⊢ <;> exact h

/-! laws.toFloat32S -/
noncomputable def a_laws_toFloat32S : Nat → Option Ann := fun n => bif Nat.beq n 3 then some ⟨[0,3,4],1,false⟩ else none
noncomputable def c_laws_toFloat32S : Ctx := mkC Try.prog tyT [] [] [] 22 a_laws_toFloat32S 0
noncomputable def fr_laws_toFloat32S_3 (xs ys : List (Nat)) (i : Int) : Fr := [(0, .vec (tF) xs), (3, .obj 0 0), (4, .int .i64 i)]
noncomputable def hp_laws_toFloat32S_3 (xs ys : List (Nat)) (i : Int) : Heap := [.sl 0 (tF) ys]
theorem r_laws_toFloat32S_3 (xs ys : List (Nat)) (i : Int) (Kn : Fr → Heap → Prop) (K : V → Heap → Prop) : round c_laws_toFloat32S ⟨[0,3,4],1,false⟩ (lb c_laws_toFloat32S 3 Try.f172) (fr_laws_toFloat32S_3 xs ys i) (hp_laws_toFloat32S_3 xs ys i) Kn (lk c_laws_toFloat32S 3 Try.f172 [] K) =
  cond (decide (i < (↑(List.length xs) : Int)))
    (cond (decide (0 ≤ i))
      ((match xs[Int.toNat i]? with
        | some y0 => cond (decide (0 ≤ i) && Nat.blt (Int.toNat i) (List.length ys))
          ((match ys[Int.toNat i]? with
            | some x1 => Kn [(0, (.vec (.float .f32) (xs))), (3, (.obj 0 0)), (4, (.int .i64 (IntKind.wrap IntKind.i64 (i + 1))))] [(.sl 0 (.float .f32) (List.set ys (Int.toNat i) y0))]
            | none => False))
          (False)
        | none => False))
      (False))
    (K (.vec (.float .f32) (ys)) []) := by kernel_rfl
theorem w_laws_toFloat32S (xs : List (Nat)) (K : V → Heap → Prop) : wpFn c_laws_toFloat32S Try.f172 (encAs [.cell (.slice (tF))] (xs, ())) [] K =
  cond (decide (0 ≤ (↑(List.length xs) : Int)) && (decide ((↑(List.length xs) : Int) ≤ (↑(List.length xs) : Int)) && decide ((↑4 : Int) * (↑(List.length xs) : Int) ≤ 281474976710656)))
    (LoopE c_laws_toFloat32S ⟨[0, 3, 4], 1, false⟩ (lb c_laws_toFloat32S 3 Try.f172) [(0, (.vec (.float .f32) (xs))), (3, (.obj 0 0)), (4, (.int .i64 0))] [(.sl 0 (.float .f32) (List.replicate (Int.toNat (↑(List.length xs) : Int)) 0))] (lk c_laws_toFloat32S 3 Try.f172 [] K))
    (False) := by kernel_rfl
noncomputable def s_laws_toFloat32S : Sm := semG [.cell (.slice (tF))] (fun x => match x with | (xs, _) => decide (xs.length ≤ 1048576)) fun x => match x with | (xs, _) => .vec (tF) xs
theorem ok_laws_toFloat32S : FnOk Try.prog 172 s_laws_toFloat32S := fnOk_typedG (fnOk_runC (C := c_laws_toFloat32S) rfl mixed .nil .nil .nil Try.func172 (by kernel_rfl)) fun (x : ((List (Nat)) × Unit)) wf hg K h => by
  obtain ⟨xs, ⟨⟩⟩ := x
  replace hg : (decide (xs.length ≤ 1048576)) = true := hg
  replace h : K (.vec (tF) xs) [] := h
  rw [w_laws_toFloat32S xs K]
  simp only [decide_eq_true_eq] at hg
  skip
  rw [d_0, d_t (Int.le_refl _), d_t (by omega)]
  simp only [Bool.and_self, cond_true, Int.toNat_natCast]
  refine loop_run (σ := Nat) (fun i => fr_laws_toFloat32S_3 xs [] i) (fun i => hp_laws_toFloat32S_3 xs (xs.take i ++ List.replicate (xs.length - i) 0) i) (fun i => i ≤ xs.length) (fun i => xs.length - i) ?_ 0 (Nat.zero_le _)
  intro i hi Kn hk
  rw [show fr_laws_toFloat32S_3 xs [] i = fr_laws_toFloat32S_3 xs (xs.take i ++ List.replicate (xs.length - i) 0) i from rfl, r_laws_toFloat32S_3 xs (xs.take i ++ List.replicate (xs.length - i) 0) i Kn K]
  by_cases hlt : i < xs.length
  · have hl : (xs.take i ++ List.replicate (xs.length - i) 0).length = xs.length := by rw [List.length_append, List.length_take, List.length_replicate]; omega
    have hl' : i < (xs.take i ++ List.replicate (xs.length - i) 0).length := by omega
    simp only [d_lt hlt, d_0, cond_true, Int.toNat_natCast, get_lt hlt, blt_t hl', get_lt hl', Bool.and_self]
    rw [i64_of (by omega) (by omega), copy_step hlt rfl rfl]
    exact hk (i + 1) hlt (by omega)
  · have : i = xs.length := by omega
    subst this
    simp only [d_nlt hlt, cond_false, List.take_length, Nat.sub_self, List.replicate_zero, List.append_nil]
    exact h



/-! laws.eqVectorS -/
noncomputable def a_laws_eqVectorS : Nat → Option Ann := fun n => bif Nat.beq n 4 then some ⟨[0,1,5],0,false⟩ else none
noncomputable def c_laws_eqVectorS : Ctx := mkC Try.prog tyT [(66, s_laws_eqVector)] [] [] 27 a_laws_eqVectorS 0
noncomputable def fr_laws_eqVectorS_4 (xs ys : List (V3)) (i : Int) : Fr := [(0, .vec (tV) xs), (1, .vec (tV) ys), (5, .int .i64 i)]
theorem r_laws_eqVectorS_4 (xs ys : List (V3)) (i : Int) (Kn : Fr → Heap → Prop) (K : V → Heap → Prop) : round c_laws_eqVectorS ⟨[0,1,5],0,false⟩ (lb c_laws_eqVectorS 4 Try.f25) (fr_laws_eqVectorS_4 xs ys i) [] Kn (lk c_laws_eqVectorS 4 Try.f25 [] K) =
  cond (decide (i < (↑(List.length xs) : Int)))
    (cond (decide (0 ≤ i))
      ((match xs[Int.toNat i]? with
        | some y0 => cond (decide (0 ≤ i))
          ((match ys[Int.toNat i]? with
            | some y1 => cond (y0 == y1)
              (Kn [(0, (.vec (.pair (.float .f32) (.pair (.float .f32) (.float .f32))) (xs))), (1, (.vec (.pair (.float .f32) (.pair (.float .f32) (.float .f32))) (ys))), (5, (.int .i64 (IntKind.wrap IntKind.i64 (i + 1))))] [])
              (False)
            | none => False))
          (False)
        | none => False))
      (False))
    (K (.bool true) []) := by kernel_rfl
theorem w_laws_eqVectorS (xs ys : List (V3)) (K : V → Heap → Prop) : wpFn c_laws_eqVectorS Try.f25 (encAs [.cell (.slice (tV)), .cell (.slice (tV))] (xs, ys, ())) [] K =
  cond ((↑(List.length xs) : Int) != (↑(List.length ys) : Int))
    (K (.bool false) [])
    (LoopE c_laws_eqVectorS ⟨[0, 1, 5], 0, false⟩ (lb c_laws_eqVectorS 4 Try.f25) [(0, (.vec (.pair (.float .f32) (.pair (.float .f32) (.float .f32))) (xs))), (1, (.vec (.pair (.float .f32) (.pair (.float .f32) (.float .f32))) (ys))), (5, (.int .i64 0))] [] (lk c_laws_eqVectorS 4 Try.f25 [] K)) := by kernel_rfl
noncomputable def s_laws_eqVectorS : Sm := semG [.cell (.slice (tV)), .cell (.slice (tV))] (fun x => match x with | (xs, ys, _) => xs == ys) fun x => match x with | (xs, ys, _) => .bool true
theorem ok_laws_eqVectorS : FnOk Try.prog 25 s_laws_eqVectorS := fnOk_typedG (fnOk_runC (C := c_laws_eqVectorS) rfl mixed (.cons ok_laws_eqVector .nil) .nil .nil Try.func25 (by kernel_rfl)) fun (x : ((List (V3)) × (List (V3)) × Unit)) wf hg K h => by
  obtain ⟨xs, ys, ⟨⟩⟩ := x
  replace hg : (xs == ys) = true := hg
  replace h : K (.bool true) [] := h
  rw [w_laws_eqVectorS xs ys K]
  have e : xs = ys := by simpa using hg
  subst e
  obtain ⟨⟨wl, _⟩, _⟩ := wf
  rw [bne_self_eq_false, cond_false]
  refine loop_run (σ := Nat) (fun i => fr_laws_eqVectorS_4 xs xs i) (fun _ => []) (fun i => i ≤ xs.length) (fun i => xs.length - i) ?_ 0 (Nat.zero_le _)
  intro i hi Kn hk
  rw [r_laws_eqVectorS_4 xs xs i Kn K]
  by_cases hlt : i < xs.length
  · simp only [d_lt hlt, d_0, cond_true, Int.toNat_natCast, get_lt hlt, beq_self_eq_true]
    have hm : xs.length ≤ 9223372036854775807 := wl
    rw [i64_of (by omega) (by omega)]
    exact hk (i + 1) hlt (by omega)
  · simp only [d_nlt hlt, cond_false]
    exact h









end Go.Proofs.Ytbalmdjicdeeiaa
