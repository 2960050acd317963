/- Texts of shapes. -/
import Derived.Test.YtobdbgdgingjjaaDoorDec
import Derived.Test.YtobdbgdgingjjaaDoorTxt
set_option linter.unusedVariables false
set_option linter.unusedSimpArgs false
set_option maxRecDepth 100000
namespace Go.Proofs.YtobdbgdgingjjaaDoor
open Go.Ev

/-! plain -/
theorem lens_le {α : Type} (f : α → Str) (n : Nat) : ∀ (xs : List α), (∀ x ∈ xs, (f x).length ≤ n) → Lib.lens (xs.map f) ≤ n * xs.length
  | [], _ => by simp [Lib.lens]
  | x :: xs, h => by
    have h1 := lens_le f n xs fun y hy => h y (by simp [hy])
    have h2 := h x (by simp)
    simp only [Lib.lens, List.map_cons, List.sum_cons, List.length_cons] at h1 ⊢
    rw [Nat.mul_succ]; omega
theorem joinL_le {α : Type} (f : α → Str) (n : Nat) (xs : List α) (h : ∀ x ∈ xs, (f x).length ≤ n) (sep : Str) : (joinL (xs.map f) sep).length ≤ (sep.length + n) * xs.length := by
  match xs, h with
  | [], _ => simp [joinL, Lib.join_nil]
  | x :: r, h =>
    show (Lib.join (f x :: r.map f) sep).length ≤ _
    rw [Lib.join_length]
    have := lens_le f n (x :: r) h
    rw [List.map_cons] at this
    rw [List.length_map]
    rw [Nat.add_mul]
    have e : sep.length * (x :: r).length = sep.length * r.length + sep.length := by rw [List.length_cons, Nat.mul_succ]
    have e2 : r.length * sep.length = sep.length * r.length := Nat.mul_comm _ _
    omega
theorem numT_le (xs : List Nat) : (numT xs).length ≤ 9 * xs.length + 4 := by
  unfold numT
  cases xs with
  | nil => simp
  | cons x r =>
    have := joinL_len hexB 8 hexB_length (x :: r) [44]
    simp only [List.isEmpty_cons, cond_false]
    simp only [List.length_cons, List.length_nil] at this ⊢
    omega
--B decT List Int → List UInt8
def decT (ls : List Int) : Str := commaT (ls.map itoaL)
def rngB (n : Int) : Bool := decide (0 ≤ n) && decide (n < 65003)
theorem rngB_iff {n : Int} (h : rngB n = true) : 0 ≤ n ∧ n < 65003 := by simpa [rngB] using h
theorem itoas_le {ls : List Int} (h : ls.all rngB = true) (sep : Str) : (joinL (ls.map itoaL) sep).length ≤ (sep.length + 21) * ls.length :=
  joinL_le itoaL 21 ls (fun n hn => (itoa_len (rngB_iff (List.all_eq_true.1 h n hn))).2) sep
theorem decT_le {ls : List Int} (h : ls.all rngB = true) : (decT ls).length ≤ 22 * ls.length + 4 := by
  unfold decT commaT
  cases ls with
  | nil => simp
  | cons x r =>
    have := itoas_le h [44]
    simp only [List.map_cons, List.isEmpty_cons, cond_false]
    simp only [List.map_cons, List.length_cons, List.length_nil] at this ⊢
    omega

/-! impl.ListText -/
noncomputable def a_impl_ListText : Nat → Option Ann := fun n => bif Nat.beq n 3 then some ⟨[4,8,9,10],1,false⟩ else none
noncomputable def c_impl_ListText : Ctx := mkC Tryd.prog tyT [(72, s_impl_in), (37, s_impl_Decimal), (119, s_impl_joined)] [] [] 30 a_impl_ListText 0
noncomputable def fr_impl_ListText_3 (ps : List Str) (ls : List Int) (n i : Int) : Fr := [(4, .obj 0 0), (8, .vec tI ls), (9, .int .i64 n), (10, .int .i64 i)]
noncomputable def hp_impl_ListText_3 (ps : List Str) (ls : List Int) (n i : Int) : Heap := [.sl 0 .str ps]
theorem r_impl_ListText_3 (ps : List Str) (ls : List Int) (n i : Int) (Kn : Fr → Heap → Prop) (K : V → Heap → Prop) : round c_impl_ListText ⟨[4,8,9,10],1,false⟩ (lb c_impl_ListText 3 Tryd.f88) (fr_impl_ListText_3 ps ls n i) (hp_impl_ListText_3 ps ls n i) Kn (lk c_impl_ListText 3 Tryd.f88 [] K) =
  cond (decide (i < n))
    (cond (decide (0 ≤ i))
      ((match ls[Int.toNat i]? with
        | some y0 => cond (!inR y0 (-1000000000000000) 1000000000000000)
          (K (.tuple [(.str (Array.toList (ByteArray.data { data := #[] }))), (.bool false)]) [])
          (cond ((↑(List.length ps) : Int) == 64)
            (K (.tuple [(.str (Array.toList (ByteArray.data { data := #[] }))), (.bool false)]) [])
            (cond (decide ((List.length ps + 1) * 16 ≤ 140737488355328))
              (Kn [(4, (.obj 0 0)), (8, (.vec (.int .i64) (ls))), (9, (.int .i64 (n))), (10, (.int .i64 (IntKind.wrap IntKind.i64 (i + 1))))] [(.sl 0 .str (ps ++ [itoaL y0]))])
              (False)))
        | none => False))
      (False))
    (cond (decide (List.length ps ≤ 140737488355328) && decide (List.length (joinL ps [44]) ≤ 140737488355328))
      (K (.tuple [(.str (commaT ps)), (.bool true)]) [])
      (False)) := by kernel_rfl
theorem w_impl_ListText (ls : List Int) (K : V → Heap → Prop) : wpFn c_impl_ListText Tryd.f88 (encAs [.cell (.slice tI)] (ls, ())) [] K =
  LoopE c_impl_ListText ⟨[4, 8, 9, 10], 1, false⟩ (lb c_impl_ListText 3 Tryd.f88) [(4, (.obj 0 0)), (8, (.vec (.int .i64) (ls))), (9, (.int .i64 ((↑(List.length ls) : Int)))), (10, (.int .i64 0))] [(.sl 0 .str ([]))] (lk c_impl_ListText 3 Tryd.f88 [] K) := by kernel_rfl
noncomputable def s_impl_ListText : Sm := semG [.cell (.slice tI)] (fun x => match x with | (ls, _) => decide (ls.length ≤ 63) && ls.all rngB) fun x => match x with | (ls, _) => .tuple [.str (decT ls), .bool true]
theorem ok_impl_ListText : FnOk Tryd.prog 88 s_impl_ListText := fnOk_typedG (fnOk_runC (C := c_impl_ListText) rfl mixed (.cons ok_impl_in (.cons ok_impl_Decimal (.cons ok_impl_joined .nil))) .nil .nil Tryd.func88 (by kernel_rfl)) fun (x : ((List Int) × Unit)) wf hg K h => by
  obtain ⟨ls, ⟨⟩⟩ := x
  replace hg : (decide (ls.length ≤ 63) && ls.all rngB) = true := hg
  replace h : K (.tuple [.str (decT ls), .bool true]) [] := h
  rw [w_impl_ListText ls K]
  simp only [Bool.and_eq_true, decide_eq_true_eq] at hg
  obtain ⟨h63, hr⟩ := hg
  refine loop_run (σ := Nat) (fun i => fr_impl_ListText_3 [] ls ls.length i) (fun i => hp_impl_ListText_3 ((ls.take i).map itoaL) ls ls.length 0) (fun i => i ≤ ls.length) (fun i => ls.length - i) ?_ 0 (Nat.zero_le _)
  intro i hi Kn hk
  rw [show fr_impl_ListText_3 [] ls ls.length i = fr_impl_ListText_3 ((ls.take i).map itoaL) ls ls.length i from rfl, show hp_impl_ListText_3 ((ls.take i).map itoaL) ls ls.length 0 = hp_impl_ListText_3 ((ls.take i).map itoaL) ls ls.length i from rfl, r_impl_ListText_3 ((ls.take i).map itoaL) ls ls.length i Kn K]
  by_cases hlt : i < ls.length
  · simp only [d_lt hlt, d_0, cond_true, Int.toNat_natCast, get_lt hlt]
    have next := hk (i + 1) hlt (by omega)
    rw [take_one hlt, List.map_append] at next
    have hy := rngB_iff (List.all_eq_true.1 hr _ (List.getElem_mem hlt))
    have hpl : ((ls.take i).map itoaL).length = i := by rw [List.length_map, List.length_take]; omega
    generalize ls[i]'hlt = y at *
    rw [hpl]
    rw [show inR y (-1000000000000000) 1000000000000000 = true from inR_iff.2 (by omega), show (((i : Nat) : Int) == 64) = false from beq_eq_false_iff_ne.2 (by omega), d_t (show (i + 1) * 16 ≤ 140737488355328 by omega), i64_of (n := (i : Int) + 1) (by omega) (by omega)]
    exact next
  · have : i = ls.length := by omega
    subst this
    simp only [d_nlt hlt, cond_false, List.take_length]
    have := itoas_le hr [44]
    simp only [List.length_cons, List.length_nil] at this
    rw [d_t (show (ls.map itoaL).length ≤ 140737488355328 by rw [List.length_map]; omega), d_t (show (joinL (ls.map itoaL) [44]).length ≤ 140737488355328 by omega)]
    exact h

/-! impl.decimals -/
noncomputable def c_impl_decimals : Ctx := mkC Tryd.prog tyT [(88, s_impl_ListText)] [] [] 11 (fun _ => none) 0
theorem w_impl_decimals (ls : List Int) (K : V → Heap → Prop) : wpFn c_impl_decimals Tryd.f54 (encAs [.cell (.slice tI)] (ls, ())) [] K =
  cond (decide (List.length ls ≤ 63) && List.all ls rngB)
    (K (.str (decT ls)) [])
    (False) := by kernel_rfl
noncomputable def s_impl_decimals : Sm := semG [.cell (.slice tI)] (fun x => match x with | (ls, _) => decide (ls.length ≤ 63) && ls.all rngB) fun x => match x with | (ls, _) => .str (decT ls)
theorem ok_impl_decimals : FnOk Tryd.prog 54 s_impl_decimals := fnOk_typedG (fnOk_runC (C := c_impl_decimals) rfl mixed (.cons ok_impl_ListText .nil) .nil .nil Tryd.func54 (by kernel_rfl)) fun (x : ((List Int) × Unit)) wf hg K h => by
  obtain ⟨ls, ⟨⟩⟩ := x
  replace hg : (decide (ls.length ≤ 63) && ls.all rngB) = true := hg
  replace h : K (.str (decT ls)) [] := h
  rw [w_impl_decimals ls K]
  rw [hg]
  exact h

/-! impl.numbersText -/
noncomputable def c_impl_numbersText : Ctx := mkC Tryd.prog tyT [(86, s_impl_NumbersText)] [] [] 11 (fun _ => none) 0
theorem w_impl_numbersText (xs : List Nat) (K : V → Heap → Prop) : wpFn c_impl_numbersText Tryd.f62 (encAs [.cell (.slice tF)] (xs, ())) [] K =
  K (.str (bif decide (List.length xs ≤ 256) then numT xs else [])) [] := by kernel_rfl
noncomputable def s_impl_numbersText : Sm := semG [.cell (.slice tF)] (fun x => match x with | (xs, _) => decide (xs.length ≤ 256)) fun x => match x with | (xs, _) => .str (numT xs)
theorem ok_impl_numbersText : FnOk Tryd.prog 62 s_impl_numbersText := fnOk_typedG (fnOk_runC (C := c_impl_numbersText) rfl mixed (.cons ok_impl_NumbersText .nil) .nil .nil Tryd.func62 (by kernel_rfl)) fun (x : ((List Nat) × Unit)) wf hg K h => by
  obtain ⟨xs, ⟨⟩⟩ := x
  replace hg : (decide (xs.length ≤ 256)) = true := hg
  replace h : K (.str (numT xs)) [] := h
  rw [w_impl_numbersText xs K]
  rw [hg]
  exact h

/-! spec.l01Text -/
noncomputable def a_spec_l01Text : Nat → Option Ann := fun n => bif Nat.beq n 5 then some ⟨[0,3,4],0,false⟩ else none
noncomputable def c_spec_l01Text : Ctx := mkC Tryd.prog tyT [(41, s_spec_l01Dec)] [] [] 27 a_spec_l01Text 0
noncomputable def fr_spec_l01Text_5 (ls : List Int) (out : List UInt8) (i : Int) : Fr := [(0, .vec tI ls), (3, .str out), (4, .int .i64 i)]
theorem r_spec_l01Text_5 (ls : List Int) (out : List UInt8) (i : Int) (Kn : Fr → Heap → Prop) (K : V → Heap → Prop) : round c_spec_l01Text ⟨[0,3,4],0,false⟩ (lb c_spec_l01Text 5 Tryd.f49) (fr_spec_l01Text_5 ls out i) [] Kn (lk c_spec_l01Text 5 Tryd.f49 [] K) =
  cond (decide (i < (↑(List.length ls) : Int)))
    (cond (decide (0 ≤ i))
      ((match ls[Int.toNat i]? with
        | some y0 => cond (decide (0 ≤ y0) && decide (y0 < 65003))
          (cond (Nat.blt (1 + List.length (itoaL y0)) 9223372036854775808)
            (cond (Nat.blt (List.length out + List.length (Array.toList (ByteArray.data { data := #[44] }) ++ itoaL y0)) 9223372036854775808)
              (Kn [(0, (.vec (.int .i64) (ls))), (3, (.str (out ++ (Array.toList (ByteArray.data { data := #[44] }) ++ itoaL y0)))), (4, (.int .i64 (IntKind.wrap IntKind.i64 (i + 1))))] [])
              (False))
            (False))
          (False)
        | none => False))
      (False))
    (K (.str (out)) []) := by kernel_rfl
theorem w_spec_l01Text (ls : List Int) (K : V → Heap → Prop) : wpFn c_spec_l01Text Tryd.f49 (encAs [.cell (.slice tI)] (ls, ())) [] K =
  cond ((↑(List.length ls) : Int) == 0)
    (K (.str (Array.toList (ByteArray.data { data := #[110, 111, 110, 101] }))) [])
    ((match ls[0]? with
      | some y0 => cond (decide (0 ≤ y0) && decide (y0 < 65003))
        (LoopE c_spec_l01Text ⟨[0, 3, 4], 0, false⟩ (lb c_spec_l01Text 5 Tryd.f49) [(0, (.vec (.int .i64) (ls))), (3, (.str (itoaL y0))), (4, (.int .i64 1))] [] (lk c_spec_l01Text 5 Tryd.f49 [] K))
        (False)
      | none => False)) := by kernel_rfl
noncomputable def s_spec_l01Text : Sm := semG [.cell (.slice tI)] (fun x => match x with | (ls, _) => decide (ls.length ≤ 63) && ls.all rngB) fun x => match x with | (ls, _) => .str (decT ls)
theorem ok_spec_l01Text : FnOk Tryd.prog 49 s_spec_l01Text := fnOk_typedG (fnOk_runC (C := c_spec_l01Text) rfl mixed (.cons ok_spec_l01Dec .nil) .nil .nil Tryd.func49 (by kernel_rfl)) fun (x : ((List Int) × Unit)) wf hg K h => by
  obtain ⟨ls, ⟨⟩⟩ := x
  replace hg : (decide (ls.length ≤ 63) && ls.all rngB) = true := hg
  replace h : K (.str (decT ls)) [] := h
  rw [w_spec_l01Text ls K]
  simp only [Bool.and_eq_true, decide_eq_true_eq] at hg
  obtain ⟨h63, hr⟩ := hg
  match ls with
  | [] => exact h
  | y :: r =>
    have hy0 := rngB_iff (List.all_eq_true.1 hr y (by simp))
    have e : (((y :: r).length : Int) == 0) = false := beq_eq_false_iff_ne.2 (by simp only [List.length_cons]; omega)
    rw [e]
    simp only [cond_false, List.getElem?_cons_zero]
    generalize hxs : y :: r = ls at *
    have hx0 : (ls.take 1).map itoaL = [itoaL y] := by rw [← hxs]; rfl
    have h1 : 1 ≤ ls.length := by rw [← hxs]; simp
    have hD : decT ls = joinL (ls.map itoaL) [44] := by rw [← hxs]; rfl
    rw [hD] at h
    rw [d_t hy0.1, d_t hy0.2]
    simp only [Bool.and_self, cond_true]
    rw [show itoaL y = joinL ((ls.take 1).map itoaL) [44] by rw [hx0, joinL_one]]
    refine loop_run (σ := Nat) (fun i => fr_spec_l01Text_5 ls (joinL ((ls.take i).map itoaL) [44]) i) (fun _ => []) (fun i => 1 ≤ i ∧ i ≤ ls.length) (fun i => ls.length - i) ?_ 1 ⟨Nat.le_refl _, h1⟩
    intro i hi Kn hk
    rw [r_spec_l01Text_5 ls (joinL ((ls.take i).map itoaL) [44]) i Kn K]
    by_cases hlt : i < ls.length
    · have hb := itoas_le (ls := ls.take i) (List.all_eq_true.2 fun n hn => List.all_eq_true.1 hr n (List.mem_of_mem_take hn)) [44]
      rw [List.length_take] at hb
      simp only [List.length_cons, List.length_nil] at hb
      have hy := rngB_iff (List.all_eq_true.1 hr _ (List.getElem_mem hlt))
      have h8 := itoa_len hy
      have next := hk (i + 1) (by omega) (by omega)
      rw [show joinL ((ls.take (i + 1)).map itoaL) [44] = joinL ((ls.take i).map itoaL) [44] ++ ([44] ++ itoaL (ls[i]'hlt)) by
        rw [take_one hlt, List.map_append]
        refine joinL_snoc (fun e => ?_) _ _
        have := congrArg List.length e
        rw [List.length_map, List.length_take, List.length_nil] at this
        omega] at next
      simp only [d_lt hlt, d_0, cond_true, Int.toNat_natCast, get_lt hlt]
      generalize ls[i]'hlt = z at *
      have b2 : Nat.blt ((joinL ((ls.take i).map itoaL) [44]).length + ([44] ++ itoaL z).length) 9223372036854775808 = true := blt_big (by simp only [List.length_append, List.length_cons, List.length_nil]; omega)
      rw [d_t hy.1, d_t hy.2, blt_big (m := 1 + (itoaL z).length) (by omega), b2, i64_of (n := (i : Int) + 1) (by omega) (by omega)]
      exact next
    · have : i = ls.length := by omega
      subst this
      simp only [d_nlt hlt, cond_false, List.take_length]
      exact h

/-! plain: the text of a shape -/
--B okN Int × Int × Int × List Nat → Bool
def okN (n : NodeD) : Bool := rngB n.1 && (rngB n.2.1 && (rngB n.2.2.1 && decide (n.2.2.2.length ≤ 4)))
--B okS List NodeD → Bool
def okS (ns : ShapeD) : Bool := decide (ns.length ≤ 16) && ns.all okN
theorem valid_okS {ns : ShapeD} (h : validS ns = true) : okS ns = true := by
  unfold validS at h
  simp only [Bool.and_eq_true] at h
  have h1 := inR_iff.1 h.1
  unfold okS
  simp only [Bool.and_eq_true, decide_eq_true_eq]
  refine ⟨by omega, List.all_eq_true.2 fun n hn => ?_⟩
  obtain ⟨i, hi, rfl⟩ := List.mem_iff_getElem.1 hn
  have hb := List.all_eq_true.1 h.2.1 i (by simpa using hi)
  rw [get_lt hi] at hb
  generalize ns[i]'hi = y at *
  obtain ⟨k, a, b, xs⟩ := y
  have hb : nodeB i (k, a, b, xs) = true := hb
  have hkd := nodeB_kids hb
  have hk : isK k = true := nodeB_isK hb
  unfold nodeB numsB at hb
  simp only [Bool.and_eq_true] at hb
  have hx : (xs.length : Int) = kindN k := by simpa using hb.1.2.1
  have hax : axB k a b = true := hb.2.1
  have hkn : kindN k ≤ 4 := by
    rcases kinds hk with e | e | e | e | e | e | e | e | e | e | e | e | e | e | e | e | e <;> rw [e] <;> decide
  have hk' := inR_iff.1 hk
  have hab : (0 ≤ a ∧ a < 65003) ∧ (0 ≤ b ∧ b < 65003) := by
    rcases kind_ax a b hk with ⟨_, _, h5⟩ | ⟨_, _, _, h4, h5⟩ | ⟨_, _, _, h4, h5⟩ | ⟨_, _, h4, _⟩
    · rw [h5] at hax
      simp only [Bool.and_eq_true, beq_iff_eq] at hax
      omega
    · rw [h5] at hax
      simp only [beq_iff_eq] at hax
      have := hkd a (by show a ∈ kids k a b; rw [h4]; simp)
      omega
    · rw [h5] at hax
      have := inR_iff.1 hax
      have := hkd a (by show a ∈ kids k a b; rw [h4]; simp)
      omega
    · have := hkd a (by show a ∈ kids k a b; rw [h4]; simp)
      have := hkd b (by show b ∈ kids k a b; rw [h4]; simp)
      omega
  unfold okN rngB
  simp only [Bool.and_eq_true, decide_eq_true_eq]
  refine ⟨by omega, hab.1, hab.2, by omega⟩
--B nodeT Int × Int × Int × List Nat → List UInt8
def nodeT (n : NodeD) : Str := (decT [n.1, n.2.1, n.2.2.1] ++ [58]) ++ numT n.2.2.2
--B shapeX List NodeD → List UInt8
def shapeX (ns : ShapeD) : Str := joinL (ns.map nodeT) [59]
theorem okN_rng {n : NodeD} (h : okN n = true) : (decide ([n.1, n.2.1, n.2.2.1].length ≤ 63) && [n.1, n.2.1, n.2.2.1].all rngB) = true ∧ n.2.2.2.length ≤ 4 := by
  unfold okN at h
  simp only [Bool.and_eq_true, decide_eq_true_eq] at h
  refine ⟨?_, h.2.2.2⟩
  simp only [List.length_cons, List.length_nil, List.all_cons, List.all_nil, h.1, h.2.1, h.2.2.1]
  rfl
theorem nodeT_le {n : NodeD} (h : okN n = true) : (decT [n.1, n.2.1, n.2.2.1]).length ≤ 70 ∧ (numT n.2.2.2).length ≤ 40 ∧ (nodeT n).length ≤ 111 := by
  obtain ⟨h1, h2⟩ := okN_rng h
  simp only [Bool.and_eq_true] at h1
  have h3 := decT_le h1.2
  have h4 := numT_le n.2.2.2
  simp only [List.length_cons, List.length_nil] at h3
  simp only [nodeT, List.length_append, List.length_cons, List.length_nil]
  omega
theorem shapeX_le {ns : ShapeD} (h : okS ns = true) (i : Nat) : (joinL ((ns.take i).map nodeT) [59]).length ≤ 1792 := by
  unfold okS at h
  simp only [Bool.and_eq_true, decide_eq_true_eq] at h
  have := joinL_le nodeT 111 (ns.take i) (fun n hn => (nodeT_le (List.all_eq_true.1 h.2 n (List.mem_of_mem_take hn))).2.2) [59]
  rw [List.length_take] at this
  simp only [List.length_cons, List.length_nil] at this
  omega

/-! impl.ShapeText -/
noncomputable def a_impl_ShapeText : Nat → Option Ann := fun n => bif Nat.beq n 5 then some ⟨[4,12,13,14],2,false⟩ else none
noncomputable def c_impl_ShapeText : Ctx := mkC Tryd.prog tyT [(61, s_impl_ValidShape), (54, s_impl_decimals), (62, s_impl_numbersText), (63, s_strings_Join)] [] [] 37 a_impl_ShapeText 0
noncomputable def fr_impl_ShapeText_5 (ns : ShapeD) (ps : List Str) (n i : Int) : Fr := [(4, .obj 1 0), (12, .vec tN ns), (13, .int .i64 n), (14, .int .i64 i)]
noncomputable def hp_impl_ShapeText_5 (ns : ShapeD) (ps : List Str) (n i : Int) : Heap := [.box [.vec tN ns], .sl 0 .str ps]
theorem r_impl_ShapeText_5 (ns : ShapeD) (ps : List Str) (n i : Int) (Kn : Fr → Heap → Prop) (K : V → Heap → Prop) : round c_impl_ShapeText ⟨[4,12,13,14],2,false⟩ (lb c_impl_ShapeText 5 Tryd.f25) (fr_impl_ShapeText_5 ns ps n i) (hp_impl_ShapeText_5 ns ps n i) Kn (lk c_impl_ShapeText 5 Tryd.f25 [] K) =
  cond (decide (i < n))
    (cond (decide (0 ≤ i))
      ((match ns[Int.toNat i]? with
        | some y0 => cond (decide (3 ≤ 63) && List.all [Prod.fst y0, Prod.fst (Prod.snd y0), Prod.fst (Prod.snd (Prod.snd y0))] rngB)
          (cond (Nat.blt (List.length (decT [Prod.fst y0, Prod.fst (Prod.snd y0), Prod.fst (Prod.snd (Prod.snd y0))]) + 1) 9223372036854775808)
            (cond (decide (List.length (Prod.snd (Prod.snd (Prod.snd y0))) ≤ 256))
              (cond (Nat.blt (List.length (decT [Prod.fst y0, Prod.fst (Prod.snd y0), Prod.fst (Prod.snd (Prod.snd y0))] ++ Array.toList (ByteArray.data { data := #[58] })) + List.length (numT (Prod.snd (Prod.snd (Prod.snd y0))))) 9223372036854775808)
                (cond (decide ((List.length ps + 1) * 16 ≤ 140737488355328))
                  (Kn [(4, (.obj 1 0)), (12, (.vec (.pair (.int .i64) (.pair (.int .i64) (.pair (.int .i64) (.slice (.float .f32))))) (ns))), (13, (.int .i64 (n))), (14, (.int .i64 (IntKind.wrap IntKind.i64 (i + 1))))] [(.box [(.vec (.pair (.int .i64) (.pair (.int .i64) (.pair (.int .i64) (.slice (.float .f32))))) (ns))]), (.sl 0 .str (ps ++ [decT [Prod.fst y0, Prod.fst (Prod.snd y0), Prod.fst (Prod.snd (Prod.snd y0))] ++ Array.toList (ByteArray.data { data := #[58] }) ++ numT (Prod.snd (Prod.snd (Prod.snd y0)))]))])
                  (False))
                (False))
              (False))
            (False))
          (False)
        | none => False))
      (False))
    (cond (decide (List.length ps ≤ 140737488355328) && decide (List.length (joinL ps (Array.toList (ByteArray.data { data := #[59] }))) ≤ 140737488355328))
      (K (.tuple [(.str (joinL ps (Array.toList (ByteArray.data { data := #[59] })))), (.bool true)]) [])
      (False)) := by kernel_rfl
theorem w_impl_ShapeText (ns : ShapeD) (K : V → Heap → Prop) : wpFn c_impl_ShapeText Tryd.f25 (encAs [.agg tS] (ns, ())) [] K =
  cond (!validS ns)
    (K (.tuple [(.str (Array.toList (ByteArray.data { data := #[] }))), (.bool false)]) [])
    (LoopE c_impl_ShapeText ⟨[4, 12, 13, 14], 2, false⟩ (lb c_impl_ShapeText 5 Tryd.f25) [(4, (.obj 1 0)), (12, (.vec (.pair (.int .i64) (.pair (.int .i64) (.pair (.int .i64) (.slice (.float .f32))))) (ns))), (13, (.int .i64 ((↑(List.length ns) : Int)))), (14, (.int .i64 0))] [(.box [(.vec (.pair (.int .i64) (.pair (.int .i64) (.pair (.int .i64) (.slice (.float .f32))))) (ns))]), (.sl 0 .str ([]))] (lk c_impl_ShapeText 5 Tryd.f25 [] K)) := by kernel_rfl
noncomputable def s_impl_ShapeText : Sm := semT [.agg tS] fun x => match x with | (ns, _) => .tuple [.str (bif validS ns then shapeX ns else []), .bool (validS ns)]
theorem ok_impl_ShapeText : FnOk Tryd.prog 25 s_impl_ShapeText := fnOk_typed (fnOk_runC (C := c_impl_ShapeText) rfl mixed (.cons ok_impl_ValidShape (.cons ok_impl_decimals (.cons ok_impl_numbersText (.cons ok_strings_Join .nil)))) .nil .nil Tryd.func25 (by kernel_rfl)) fun (x : ((ShapeD) × Unit)) wf K h => by
  obtain ⟨ns, ⟨⟩⟩ := x
  replace h : K (.tuple [.str (bif validS ns then shapeX ns else []), .bool (validS ns)]) [] := h
  rw [w_impl_ShapeText ns K]
  cases hv : validS ns with
  | false => rw [hv] at h; exact h
  | true =>
  rw [hv] at h
  simp only [Bool.not_true, cond_false, cond_true] at h ⊢
  have ho := valid_okS hv
  have ho' := ho
  unfold okS at ho'
  simp only [Bool.and_eq_true, decide_eq_true_eq] at ho'
  obtain ⟨h16, hall⟩ := ho'
  refine loop_run (σ := Nat) (fun i => fr_impl_ShapeText_5 ns [] ns.length i) (fun i => hp_impl_ShapeText_5 ns ((ns.take i).map nodeT) ns.length 0) (fun i => i ≤ ns.length) (fun i => ns.length - i) ?_ 0 (Nat.zero_le _)
  intro i hi Kn hk
  rw [show fr_impl_ShapeText_5 ns [] ns.length i = fr_impl_ShapeText_5 ns ((ns.take i).map nodeT) ns.length i from rfl, show hp_impl_ShapeText_5 ns ((ns.take i).map nodeT) ns.length 0 = hp_impl_ShapeText_5 ns ((ns.take i).map nodeT) ns.length i from rfl, r_impl_ShapeText_5 ns ((ns.take i).map nodeT) ns.length i Kn K]
  by_cases hlt : i < ns.length
  · simp only [d_lt hlt, d_0, cond_true, Int.toNat_natCast, get_lt hlt]
    have next := hk (i + 1) hlt (by omega)
    rw [take_one hlt, List.map_append] at next
    have hy := List.all_eq_true.1 hall _ (List.getElem_mem hlt)
    have hpl : ((ns.take i).map nodeT).length = i := by rw [List.length_map, List.length_take]; omega
    generalize ns[i]'hlt = y at *
    obtain ⟨hr1, hr2⟩ := okN_rng hy
    obtain ⟨l1, l2, l3⟩ := nodeT_le hy
    have b1 : Nat.blt ((decT [y.1, y.2.1, y.2.2.1]).length + 1) 9223372036854775808 = true := blt_big (by omega)
    have b2 : Nat.blt ((decT [y.1, y.2.1, y.2.2.1] ++ [58]).length + (numT y.2.2.2).length) 9223372036854775808 = true := blt_big (by simp only [List.length_append, List.length_cons, List.length_nil]; omega)
    have b0 : (decide (3 ≤ 63) && [y.1, y.2.1, y.2.2.1].all rngB) = true := hr1
    rw [b0, b1, d_t (show y.2.2.2.length ≤ 256 by omega), b2, hpl, d_t (show (i + 1) * 16 ≤ 140737488355328 by omega), i64_of (n := (i : Int) + 1) (by omega) (by omega)]
    exact next
  · have : i = ns.length := by omega
    subst this
    simp only [d_nlt hlt, cond_false, List.take_length]
    have := shapeX_le ho ns.length
    rw [List.take_length] at this
    rw [d_t (show (ns.map nodeT).length ≤ 140737488355328 by rw [List.length_map]; omega), d_t (show (joinL (ns.map nodeT) [59]).length ≤ 140737488355328 by omega)]
    exact h

/-! spec.l11Text -/
noncomputable def a_spec_l11Text : Nat → Option Ann := fun n => bif Nat.beq n 3 then some ⟨[0,3,10,11],0,false⟩ else none
noncomputable def c_spec_l11Text : Ctx := mkC Tryd.prog tyT [(49, s_spec_l01Text), (80, s_spec_l01NText)] [] [] 49 a_spec_l11Text 0
noncomputable def fr_spec_l11Text_3 (ns : ShapeD) (out : List UInt8) (n i : Int) : Fr := [(0, .ref [.vec tN ns] 0), (3, .str out), (10, .int .i64 n), (11, .int .i64 i)]
theorem r_spec_l11Text_3 (ns : ShapeD) (out : List UInt8) (n i : Int) (Kn : Fr → Heap → Prop) (K : V → Heap → Prop) : round c_spec_l11Text ⟨[0,3,10,11],0,false⟩ (lb c_spec_l11Text 3 Tryd.f59) (fr_spec_l11Text_3 ns out n i) [] Kn (lk c_spec_l11Text 3 Tryd.f59 [] K) =
  cond (decide (i < n))
    (cond (decide (i > 0))
      (cond (Nat.blt (List.length out + 1) 9223372036854775808)
        (cond (decide (0 ≤ i))
          ((match ns[Int.toNat i]? with
            | some y0 => cond (decide (3 ≤ 63) && List.all [Prod.fst y0, Prod.fst (Prod.snd y0), Prod.fst (Prod.snd (Prod.snd y0))] rngB)
              (cond (Nat.blt (List.length (decT [Prod.fst y0, Prod.fst (Prod.snd y0), Prod.fst (Prod.snd (Prod.snd y0))]) + 1) 9223372036854775808)
                (cond (decide (List.length (Prod.snd (Prod.snd (Prod.snd y0))) ≤ 1048576))
                  (cond (Nat.blt (List.length (decT [Prod.fst y0, Prod.fst (Prod.snd y0), Prod.fst (Prod.snd (Prod.snd y0))] ++ Array.toList (ByteArray.data { data := #[58] })) + List.length (numT (Prod.snd (Prod.snd (Prod.snd y0))))) 9223372036854775808)
                    (cond (Nat.blt (List.length (out ++ Array.toList (ByteArray.data { data := #[59] })) + List.length (decT [Prod.fst y0, Prod.fst (Prod.snd y0), Prod.fst (Prod.snd (Prod.snd y0))] ++ Array.toList (ByteArray.data { data := #[58] }) ++ numT (Prod.snd (Prod.snd (Prod.snd y0))))) 9223372036854775808)
                      (Kn [(0, (.ref [(.vec (.pair (.int .i64) (.pair (.int .i64) (.pair (.int .i64) (.slice (.float .f32))))) (ns))] 0)), (3, (.str (out ++ Array.toList (ByteArray.data { data := #[59] }) ++ (decT [Prod.fst y0, Prod.fst (Prod.snd y0), Prod.fst (Prod.snd (Prod.snd y0))] ++ Array.toList (ByteArray.data { data := #[58] }) ++ numT (Prod.snd (Prod.snd (Prod.snd y0))))))), (10, (.int .i64 (n))), (11, (.int .i64 (IntKind.wrap IntKind.i64 (i + 1))))] [])
                      (False))
                    (False))
                  (False))
                (False))
              (False)
            | none => False))
          (False))
        (False))
      (cond (decide (0 ≤ i))
        ((match ns[Int.toNat i]? with
          | some y1 => cond (decide (3 ≤ 63) && List.all [Prod.fst y1, Prod.fst (Prod.snd y1), Prod.fst (Prod.snd (Prod.snd y1))] rngB)
            (cond (Nat.blt (List.length (decT [Prod.fst y1, Prod.fst (Prod.snd y1), Prod.fst (Prod.snd (Prod.snd y1))]) + 1) 9223372036854775808)
              (cond (decide (List.length (Prod.snd (Prod.snd (Prod.snd y1))) ≤ 1048576))
                (cond (Nat.blt (List.length (decT [Prod.fst y1, Prod.fst (Prod.snd y1), Prod.fst (Prod.snd (Prod.snd y1))] ++ Array.toList (ByteArray.data { data := #[58] })) + List.length (numT (Prod.snd (Prod.snd (Prod.snd y1))))) 9223372036854775808)
                  (cond (Nat.blt (List.length out + List.length (decT [Prod.fst y1, Prod.fst (Prod.snd y1), Prod.fst (Prod.snd (Prod.snd y1))] ++ Array.toList (ByteArray.data { data := #[58] }) ++ numT (Prod.snd (Prod.snd (Prod.snd y1))))) 9223372036854775808)
                    (Kn [(0, (.ref [(.vec (.pair (.int .i64) (.pair (.int .i64) (.pair (.int .i64) (.slice (.float .f32))))) (ns))] 0)), (3, (.str (out ++ (decT [Prod.fst y1, Prod.fst (Prod.snd y1), Prod.fst (Prod.snd (Prod.snd y1))] ++ Array.toList (ByteArray.data { data := #[58] }) ++ numT (Prod.snd (Prod.snd (Prod.snd y1))))))), (10, (.int .i64 (n))), (11, (.int .i64 (IntKind.wrap IntKind.i64 (i + 1))))] [])
                    (False))
                  (False))
                (False))
              (False))
            (False)
          | none => False))
        (False)))
    (K (.str (out)) []) := by kernel_rfl
theorem w_spec_l11Text (ns : ShapeD) (K : V → Heap → Prop) : wpFn c_spec_l11Text Tryd.f59 (encAs [.ref (.slice tN)] (ns, ())) [] K =
  LoopE c_spec_l11Text ⟨[0, 3, 10, 11], 0, false⟩ (lb c_spec_l11Text 3 Tryd.f59) [(0, (.ref [(.vec (.pair (.int .i64) (.pair (.int .i64) (.pair (.int .i64) (.slice (.float .f32))))) (ns))] 0)), (3, (.str (Array.toList (ByteArray.data { data := #[] })))), (10, (.int .i64 ((↑(List.length ns) : Int)))), (11, (.int .i64 0))] [] (lk c_spec_l11Text 3 Tryd.f59 [] K) := by kernel_rfl
noncomputable def s_spec_l11Text : Sm := semG [.ref (.slice tN)] (fun x => match x with | (ns, _) => okS ns) fun x => match x with | (ns, _) => .str (shapeX ns)
theorem ok_spec_l11Text : FnOk Tryd.prog 59 s_spec_l11Text := fnOk_typedG (fnOk_runC (C := c_spec_l11Text) rfl mixed (.cons ok_spec_l01Text (.cons ok_spec_l01NText .nil)) .nil .nil Tryd.func59 (by kernel_rfl)) fun (x : ((ShapeD) × Unit)) wf hg K h => by
  obtain ⟨ns, ⟨⟩⟩ := x
  replace hg : (okS ns) = true := hg
  replace h : K (.str (shapeX ns)) [] := h
  rw [w_spec_l11Text ns K]
  have ho' := hg
  unfold okS at ho'
  simp only [Bool.and_eq_true, decide_eq_true_eq] at ho'
  obtain ⟨h16, hall⟩ := ho'
  refine loop_run (σ := Nat) (fun i => fr_spec_l11Text_3 ns (joinL ((ns.take i).map nodeT) [59]) ns.length i) (fun i => []) (fun i => i ≤ ns.length) (fun i => ns.length - i) ?_ 0 (Nat.zero_le _)
  intro i hi Kn hk
  rw [r_spec_l11Text_3 ns (joinL ((ns.take i).map nodeT) [59]) ns.length i Kn K]
  by_cases hlt : i < ns.length
  · simp only [d_lt hlt, d_0, cond_true, Int.toNat_natCast, get_lt hlt]
    have hll := shapeX_le hg i
    have next := hk (i + 1) hlt (by omega)
    rw [take_one hlt, List.map_append] at next
    have hy := List.all_eq_true.1 hall _ (List.getElem_mem hlt)
    have hpl : ((ns.take i).map nodeT).length = i := by rw [List.length_map, List.length_take]; omega
    generalize ns[i]'hlt = y at *
    obtain ⟨hr1, hr2⟩ := okN_rng hy
    obtain ⟨l1, l2, l3⟩ := nodeT_le hy
    have b1 : Nat.blt ((decT [y.1, y.2.1, y.2.2.1]).length + 1) 9223372036854775808 = true := blt_big (by omega)
    have b2 : Nat.blt ((decT [y.1, y.2.1, y.2.2.1] ++ [58]).length + (numT y.2.2.2).length) 9223372036854775808 = true := blt_big (by simp only [List.length_append, List.length_cons, List.length_nil]; omega)
    have b0 : (decide (3 ≤ 63) && [y.1, y.2.1, y.2.2.1].all rngB) = true := hr1
    have hnt : (decT [y.1, y.2.1, y.2.2.1] ++ [58]) ++ numT y.2.2.2 = nodeT y := rfl
    rw [hnt, b0, b1, d_t (show y.2.2.2.length ≤ 1048576 by omega), b2, i64_of (n := (i : Int) + 1) (by omega) (by omega)]
    by_cases h0 : i = 0
    · subst h0
      rw [d_f (show ¬ ((0 : Nat) : Int) > 0 by decide)]
      simp only [cond_false, cond_true]
      have b3 : Nat.blt ((joinL ((ns.take 0).map nodeT) [59]).length + (nodeT y).length) 9223372036854775808 = true := blt_big (by omega)
      rw [b3]
      have e : joinL ((ns.take 0).map nodeT ++ [y].map nodeT) [59] = joinL ((ns.take 0).map nodeT) [59] ++ nodeT y := by
        rw [show (ns.take 0).map nodeT = [] from rfl]
        exact joinL_one (nodeT y) [59]
      rw [e] at next
      exact next
    · rw [d_t (show ((i : Nat) : Int) > 0 by omega)]
      simp only [cond_true]
      have b3 : Nat.blt ((joinL ((ns.take i).map nodeT) [59]).length + 1) 9223372036854775808 = true := blt_big (by omega)
      have b4 : Nat.blt ((joinL ((ns.take i).map nodeT) [59] ++ [59]).length + (nodeT y).length) 9223372036854775808 = true := blt_big (by simp only [List.length_append, List.length_cons, List.length_nil]; omega)
      rw [b3, b4]
      have e : joinL ((ns.take i).map nodeT ++ [y].map nodeT) [59] = (joinL ((ns.take i).map nodeT) [59] ++ [59]) ++ nodeT y := by
        rw [List.append_assoc]
        refine joinL_snoc (fun e => ?_) _ _
        have := congrArg List.length e
        rw [hpl, List.length_nil] at this
        exact h0 this
      rw [e] at next
      exact next
  · have : i = ns.length := by omega
    subst this
    simp only [d_nlt hlt, cond_false, List.take_length]
    exact h

/-! spec.ShapeText -/
noncomputable def c_spec_ShapeText : Ctx := mkC Tryd.prog tyT [(58, s_spec_l02Is), (59, s_spec_l11Text)] [] [] 7 (fun _ => none) 0
theorem w_spec_ShapeText (ns : ShapeD) (K : V → Heap → Prop) : wpFn c_spec_ShapeText Tryd.f23 (encAs [.agg tS] (ns, ())) [] K =
  cond (!validS ns)
    (K (.tuple [(.str (Array.toList (ByteArray.data { data := #[] }))), (.bool false)]) [])
    (cond (okS ns)
      (K (.tuple [(.str (shapeX ns)), (.bool true)]) [])
      (False)) := by kernel_rfl
noncomputable def s_spec_ShapeText : Sm := semT [.agg tS] fun x => match x with | (ns, _) => .tuple [.str (bif validS ns then shapeX ns else []), .bool (validS ns)]
theorem ok_spec_ShapeText : FnOk Tryd.prog 23 s_spec_ShapeText := fnOk_typed (fnOk_runC (C := c_spec_ShapeText) rfl mixed (.cons ok_spec_l02Is (.cons ok_spec_l11Text .nil)) .nil .nil Tryd.func23 (by kernel_rfl)) fun (x : ((ShapeD) × Unit)) wf K h => by
  obtain ⟨ns, ⟨⟩⟩ := x
  replace h : K (.tuple [.str (bif validS ns then shapeX ns else []), .bool (validS ns)]) [] := h
  rw [w_spec_ShapeText ns K]
  cases hv : validS ns with
  | false => rw [hv] at h; exact h
  | true =>
    rw [hv] at h
    rw [valid_okS hv]
    exact h

/-! laws.FnExactShapeText -/
noncomputable def c_laws_FnExactShapeText : Ctx := mkC Tryd.prog tyT [(22, s_laws_szShape), (24, s_laws_toShape), (23, s_spec_ShapeText), (25, s_impl_ShapeText), (26, s_laws_eqShape)] [] [] 40 (fun _ => none) 0
theorem w_laws_FnExactShapeText (s : ShapeD) (K : V → Heap → Prop) : wpFn c_laws_FnExactShapeText Tryd.f6 (encAs [.agg tS] (s, ())) [] K =
  cond (decide (szV 1048576 (wShape s) < 0))
    (K (.bool true) [])
    (cond (fitS s)
      (cond (fitS s)
        (cond (!bytesEq (bif validS s then shapeX s else []) (bif validS s then shapeX s else []))
          (K (.bool false) [])
          (cond (validS s != validS s)
            (K (.bool false) [])
            (cond (fitS s)
              (cond (s == s)
                (K (.bool true) [])
                (False))
              (False))))
        (False))
      (False)) := by kernel_rfl
noncomputable def s_laws_FnExactShapeText : Sm := semT [.agg tS] fun x => match x with | (s, _) => .bool true
theorem ok_laws_FnExactShapeText : FnOk Tryd.prog 6 s_laws_FnExactShapeText := fnOk_typed (fnOk_runC (C := c_laws_FnExactShapeText) rfl mixed (.cons ok_laws_szShape (.cons ok_laws_toShape (.cons ok_spec_ShapeText (.cons ok_impl_ShapeText (.cons ok_laws_eqShape .nil))))) .nil .nil Tryd.func6 (by kernel_rfl)) fun (x : ((ShapeD) × Unit)) wf K h => by
  obtain ⟨s, ⟨⟩⟩ := x
  replace h : K (.bool true) [] := h
  rw [w_laws_FnExactShapeText s K]
  by_cases h1 : (1048576 : Int) - (wShape s : Int) < 0
  · simp only [szV_no h1]
    exact h
  · have e1 : szV 1048576 (wShape s) = 1048576 - wShape s := szV_ok (by omega)
    have hfit : fitS s = true := fitS_of (by omega)
    simp only [e1, d_f h1, cond_false, hfit, cond_true, bne_self_eq_false, beq_self_eq_true, bytesEq, Bool.not_true]
    exact h

end Go.Proofs.YtobdbgdgingjjaaDoor
