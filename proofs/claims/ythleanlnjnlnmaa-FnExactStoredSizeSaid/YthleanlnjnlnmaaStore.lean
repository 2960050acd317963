/- Scenes as bytes. -/
import Derived.Test.YthleanlnjnlnmaaBytes
import Derived.Test.YthleanlnjnlnmaaLay
import Derived.Test.YthleanlnjnlnmaaEvBld
set_option linter.unusedVariables false
set_option linter.unusedSimpArgs false
set_option maxRecDepth 100000
namespace Go.Proofs.Ythleanlnjnlnmaa
open Go.Ev

--B keyS KeyD → List UInt8
def keyS (k : KeyD) : List UInt8 := wordB k.1 2 ++ floatsB [k.2.1, k.2.2.1, k.2.2.2]
--B thingH ThingD → List UInt8
def thingH (t : ThingD) : List UInt8 := ((wordB t.1.length 1 ++ t.1) ++ shapeS t.2.1) ++ wordB t.2.2.length 1
def thingS (t : ThingD) : List UInt8 := thingH t ++ t.2.2.flatMap keyS
--B sceneS List ThingD → List UInt8
def sceneS (ts : List ThingD) : List UInt8 := ([83, 68, 70, 49] ++ wordB ts.length 1) ++ ts.flatMap thingS
--B storeS List ThingD → List UInt8
def storeS (ts : List ThingD) : List UInt8 := sceneS ts ++ wordB (checkB (sceneS ts)) 2
theorem keyS_length (k : KeyD) : (keyS k).length ≤ 14 := by
  have := floatsB_length [k.2.1, k.2.2.1, k.2.2.2]
  simp only [keyS, List.length_append, wordB_length]
  simp only [List.length_cons, List.length_nil] at this
  omega
structure SmallT (t : ThingD) : Prop where
  name : t.1.length ≤ 8
  shape : smallS t.2.1 = true
  keys : t.2.2.length ≤ 8
theorem thing_small {t : ThingD} (h : thingB t = true) : SmallT t := by
  unfold thingB at h
  simp only [Bool.and_eq_true] at h
  obtain ⟨h1, h2, h3⟩ := h
  unfold nameB at h1
  simp only [Bool.and_eq_true, decide_eq_true_eq] at h1
  unfold keysB at h3
  simp only [Bool.and_eq_true] at h3
  have := inR_iff.1 h3.1
  exact ⟨by omega, valid_small h2, by omega⟩
theorem scene_small {ts : List ThingD} (h : sceneB ts = true) : ts.length ≤ 8 ∧ ∀ t ∈ ts, SmallT t := by
  unfold sceneB at h
  simp only [Bool.and_eq_true, decide_eq_true_eq] at h
  refine ⟨h.2, fun t ht => ?_⟩
  obtain ⟨i, hi, rfl⟩ := List.mem_iff_getElem.1 ht
  have := List.all_eq_true.1 h.1 i (by simpa using hi)
  rw [thingAt_eq hi] at this
  simp only [Bool.and_eq_true] at this
  exact thing_small this.1
theorem thingH_length {t : ThingD} (h : SmallT t) : (thingH t).length ≤ 315 := by
  have := shapeS_length h.shape
  have := h.name
  simp only [thingH, List.length_append, wordB_length]
  omega
theorem keys_len {t : ThingD} (h : SmallT t) (i : Nat) : ((t.2.2.take i).flatMap keyS).length ≤ 112 := by
  have := flat_len (f := keyS) (B := 14) (xs := t.2.2.take i) fun k _ => keyS_length k
  rw [List.length_take] at this
  have := h.keys
  omega
theorem thingS_length {t : ThingD} (h : SmallT t) : (thingS t).length ≤ 427 := by
  have h1 := thingH_length h
  have h2 := keys_len h t.2.2.length
  rw [List.take_length] at h2
  simp only [thingS, List.length_append]
  omega
theorem things_len {ts : List ThingD} (h : sceneB ts = true) (i : Nat) : ((ts.take i).flatMap thingS).length ≤ 3416 := by
  obtain ⟨h1, h2⟩ := scene_small h
  have := flat_len (f := thingS) (B := 427) (xs := ts.take i) fun t ht => thingS_length (h2 t (List.mem_of_mem_take ht))
  rw [List.length_take] at this
  omega
theorem sceneS_length {ts : List ThingD} (h : sceneB ts = true) : (sceneS ts).length ≤ 3421 := by
  have := things_len h ts.length
  rw [List.take_length] at this
  simp only [sceneS, List.length_append, wordB_length, List.length_cons, List.length_nil]
  omega

abbrev s_strings_Builder_WriteString : Sm := sBWrite 64 5
theorem ok_strings_Builder_WriteString : FnOkO Try.prog 33 (sBWrite 64 5) := ok_BWrite Try.laysn166 Try.laysn166_X rfl rfl rfl
abbrev s_strings_Builder_String : Sm := sBString 64 5
theorem ok_strings_Builder_String : FnOkO Try.prog 38 (sBString 64 5) := ok_BString Try.laysn169 Try.laysn169_X rfl rfl rfl

/-! impl.StoreScene -/
noncomputable def a_impl_StoreScene : Nat → Option Ann := fun n => bif Nat.beq n 6 then some ⟨[4,22,23,24],2⟩ else bif Nat.beq n 10 then some ⟨[4,22,23,24,46,47,48],2⟩ else none
noncomputable def c_impl_StoreScene : Ctx := mkC Try.prog tyT [(11, s_impl_ValidScene), (34, s_impl_bytesOf), (35, s_impl_shapeBytes), (36, s_impl_floats), (37, s_impl_CheckOf)] [] [(33, s_strings_Builder_WriteString), (38, s_strings_Builder_String)] 79 a_impl_StoreScene 0
noncomputable def fr_impl_StoreScene_6 (ts : List ThingD) (l : List UInt8) (n i : Int) : Fr := [(4, .bptr 1), (22, .vec tT ts), (23, .int .i64 n), (24, .int .i64 i)]
noncomputable def hp_impl_StoreScene_6 (ts : List ThingD) (l : List UInt8) (n i : Int) : Heap := [.box [.vec tT ts], .bld 64 5 l]
theorem r_impl_StoreScene_6 (ts : List ThingD) (l : List UInt8) (n i : Int) (Kn : Fr → Heap → Prop) (K : V → Heap → Prop) : round c_impl_StoreScene ⟨[4,22,23,24],2⟩ (lb c_impl_StoreScene 6 Try.f18) (fr_impl_StoreScene_6 ts l n i) (hp_impl_StoreScene_6 ts l n i) Kn (lk c_impl_StoreScene 6 Try.f18 [] K) =
  cond (decide (i < n))
    (cond (decide (0 ≤ i))
      ((match ts[Int.toNat i]? with
        | some y0 => cond (Nat.blt (List.length (wordB (↑(List.length (Prod.fst y0)) : Int) 1) + List.length (Prod.fst y0)) 9223372036854775808)
          (cond (smallS (Prod.fst (Prod.snd y0)))
            (cond (Nat.blt (List.length (wordB (↑(List.length (Prod.fst y0)) : Int) 1 ++ Prod.fst y0) + List.length (shapeS (Prod.fst (Prod.snd y0)))) 9223372036854775808)
              (cond (Nat.blt (List.length (wordB (↑(List.length (Prod.fst y0)) : Int) 1 ++ Prod.fst y0 ++ shapeS (Prod.fst (Prod.snd y0))) + List.length (wordB (↑(List.length (Prod.snd (Prod.snd y0))) : Int) 1)) 9223372036854775808)
                (cond (decide (List.length l + List.length (wordB (↑(List.length (Prod.fst y0)) : Int) 1 ++ Prod.fst y0 ++ shapeS (Prod.fst (Prod.snd y0)) ++ wordB (↑(List.length (Prod.snd (Prod.snd y0))) : Int) 1) ≤ 140737488355328))
                  (LoopE c_impl_StoreScene ⟨[4, 22, 23, 24, 46, 47, 48], 2⟩ (pathB c_impl_StoreScene [6, 10] (bodyOf Try.f18)) [(4, (.bptr 1)), (22, (.vec (.pair .str (.pair (.slice (.pair (.int .i64) (.pair (.int .i64) (.pair (.int .i64) (.slice (.float .f32)))))) (.slice (.pair (.int .i64) (.pair (.float .f32) (.pair (.float .f32) (.float .f32))))))) (ts))), (23, (.int .i64 (n))), (24, (.int .i64 (i))), (46, (.vec (.pair (.int .i64) (.pair (.float .f32) (.pair (.float .f32) (.float .f32)))) (Prod.snd (Prod.snd y0)))), (47, (.int .i64 ((↑(List.length (Prod.snd (Prod.snd y0))) : Int)))), (48, (.int .i64 0))] [(.box [(.vec (.pair .str (.pair (.slice (.pair (.int .i64) (.pair (.int .i64) (.pair (.int .i64) (.slice (.float .f32)))))) (.slice (.pair (.int .i64) (.pair (.float .f32) (.pair (.float .f32) (.float .f32))))))) (ts))]), (.bld 64 5 (l ++ (wordB (↑(List.length (Prod.fst y0)) : Int) 1 ++ Prod.fst y0 ++ shapeS (Prod.fst (Prod.snd y0)) ++ wordB (↑(List.length (Prod.snd (Prod.snd y0))) : Int) 1)))] (pathK c_impl_StoreScene [(6, ⟨[4,22,23,24],2⟩, Kn)] 10 (bodyOf Try.f18) (kFn c_impl_StoreScene Try.f18 [] K)))
                  (False))
                (False))
              (False))
            (False))
          (False)
        | none => False))
      (False))
    (cond (decide (List.length l ≤ 140737488355328))
      (cond (decide (List.length l ≤ 140737488355328))
        (cond (Nat.blt (List.length l + List.length (wordB (checkB l) 2)) 9223372036854775808)
          (K (.tuple [(.str (l ++ wordB (checkB l) 2)), (.bool true)]) [])
          (False))
        (False))
      (False)) := by kernel_rfl
noncomputable def fr_impl_StoreScene_10 (ts : List ThingD) (l : List UInt8) (n i : Int) (ks : List KeyD) (m j : Int) : Fr := [(4, .bptr 1), (22, .vec tT ts), (23, .int .i64 n), (24, .int .i64 i), (46, .vec tK ks), (47, .int .i64 m), (48, .int .i64 j)]
noncomputable def hp_impl_StoreScene_10 (ts : List ThingD) (l : List UInt8) (n i : Int) (ks : List KeyD) (m j : Int) : Heap := [.box [.vec tT ts], .bld 64 5 l]
theorem r_impl_StoreScene_10 (ts : List ThingD) (l : List UInt8) (n i : Int) (ks : List KeyD) (m j : Int) (Kn6 : Fr → Heap → Prop) (Kn : Fr → Heap → Prop) (K : V → Heap → Prop) : round c_impl_StoreScene ⟨[4,22,23,24,46,47,48],2⟩ (pathB c_impl_StoreScene [6, 10] (bodyOf Try.f18)) (fr_impl_StoreScene_10 ts l n i ks m j) (hp_impl_StoreScene_10 ts l n i ks m j) Kn (pathK c_impl_StoreScene [(6, ⟨[4,22,23,24],2⟩, Kn6)] 10 (bodyOf Try.f18) (kFn c_impl_StoreScene Try.f18 [] K)) =
  cond (decide (j < m))
    (cond (decide (0 ≤ j))
      ((match ks[Int.toNat j]? with
        | some y0 => cond (Nat.blt (List.length (wordB (Prod.fst y0) 2) + List.length (floatsB [Prod.fst (Prod.snd y0), Prod.fst (Prod.snd (Prod.snd y0)), Prod.snd (Prod.snd (Prod.snd y0))])) 9223372036854775808)
          (cond (decide (List.length l + List.length (wordB (Prod.fst y0) 2 ++ floatsB [Prod.fst (Prod.snd y0), Prod.fst (Prod.snd (Prod.snd y0)), Prod.snd (Prod.snd (Prod.snd y0))]) ≤ 140737488355328))
            (Kn [(4, (.bptr 1)), (22, (.vec (.pair .str (.pair (.slice (.pair (.int .i64) (.pair (.int .i64) (.pair (.int .i64) (.slice (.float .f32)))))) (.slice (.pair (.int .i64) (.pair (.float .f32) (.pair (.float .f32) (.float .f32))))))) (ts))), (23, (.int .i64 (n))), (24, (.int .i64 (i))), (46, (.vec (.pair (.int .i64) (.pair (.float .f32) (.pair (.float .f32) (.float .f32)))) (ks))), (47, (.int .i64 (m))), (48, (.int .i64 (IntKind.wrap IntKind.i64 (j + 1))))] [(.box [(.vec (.pair .str (.pair (.slice (.pair (.int .i64) (.pair (.int .i64) (.pair (.int .i64) (.slice (.float .f32)))))) (.slice (.pair (.int .i64) (.pair (.float .f32) (.pair (.float .f32) (.float .f32))))))) (ts))]), (.bld 64 5 (l ++ (wordB (Prod.fst y0) 2 ++ floatsB [Prod.fst (Prod.snd y0), Prod.fst (Prod.snd (Prod.snd y0)), Prod.snd (Prod.snd (Prod.snd y0))])))])
            (False))
          (False)
        | none => False))
      (False))
    (Kn6 [(4, (.bptr 1)), (22, (.vec (.pair .str (.pair (.slice (.pair (.int .i64) (.pair (.int .i64) (.pair (.int .i64) (.slice (.float .f32)))))) (.slice (.pair (.int .i64) (.pair (.float .f32) (.pair (.float .f32) (.float .f32))))))) (ts))), (23, (.int .i64 (n))), (24, (.int .i64 (IntKind.wrap IntKind.i64 (i + 1))))] [(.box [(.vec (.pair .str (.pair (.slice (.pair (.int .i64) (.pair (.int .i64) (.pair (.int .i64) (.slice (.float .f32)))))) (.slice (.pair (.int .i64) (.pair (.float .f32) (.pair (.float .f32) (.float .f32))))))) (ts))]), (.bld 64 5 (l))]) := by kernel_rfl
theorem w_impl_StoreScene (ts : List ThingD) (K : V → Heap → Prop) : wpFn c_impl_StoreScene Try.f18 (encAs [.agg (.slice tT)] (ts, ())) [] K =
  cond (!sceneB ts)
    (K (.tuple [(.str (Array.toList (ByteArray.data { data := #[] }))), (.bool false)]) [])
    (cond (Nat.blt (4 + List.length (wordB (↑(List.length ts) : Int) 1)) 9223372036854775808)
      (cond (decide (0 + List.length (Array.toList (ByteArray.data { data := #[83, 68, 70, 49] }) ++ wordB (↑(List.length ts) : Int) 1) ≤ 140737488355328))
        (LoopE c_impl_StoreScene ⟨[4, 22, 23, 24], 2⟩ (lb c_impl_StoreScene 6 Try.f18) [(4, (.bptr 1)), (22, (.vec (.pair .str (.pair (.slice (.pair (.int .i64) (.pair (.int .i64) (.pair (.int .i64) (.slice (.float .f32)))))) (.slice (.pair (.int .i64) (.pair (.float .f32) (.pair (.float .f32) (.float .f32))))))) (ts))), (23, (.int .i64 ((↑(List.length ts) : Int)))), (24, (.int .i64 0))] [(.box [(.vec (.pair .str (.pair (.slice (.pair (.int .i64) (.pair (.int .i64) (.pair (.int .i64) (.slice (.float .f32)))))) (.slice (.pair (.int .i64) (.pair (.float .f32) (.pair (.float .f32) (.float .f32))))))) (ts))]), (.bld 64 5 ([] ++ (Array.toList (ByteArray.data { data := #[83, 68, 70, 49] }) ++ wordB (↑(List.length ts) : Int) 1)))] (lk c_impl_StoreScene 6 Try.f18 [] K))
        (False))
      (False)) := by kernel_rfl
noncomputable def s_impl_StoreScene : Sm := semT [.agg (.slice tT)] fun x => match x with | (ts, _) => .tuple [.str (bif sceneB ts then storeS ts else []), .bool (sceneB ts)]
theorem ok_impl_StoreScene : FnOk Try.prog 18 s_impl_StoreScene := fnOk_typed (fnOk_runC (C := c_impl_StoreScene) rfl mixed (.cons ok_impl_ValidScene (.cons ok_impl_bytesOf (.cons ok_impl_shapeBytes (.cons ok_impl_floats (.cons ok_impl_CheckOf .nil))))) .nil (.cons ok_strings_Builder_WriteString (.cons ok_strings_Builder_String .nil)) Try.func18 (by kernel_rfl)) fun (x : ((List ThingD) × Unit)) wf K h => by
  obtain ⟨ts, ⟨⟩⟩ := x
  replace h : K (.tuple [.str (bif sceneB ts then storeS ts else []), .bool (sceneB ts)]) [] := h
  rw [w_impl_StoreScene ts K]
  cases hs : sceneB ts with
  | false => rw [hs] at h; exact h
  | true =>
  rw [hs] at h
  simp only [Bool.not_true, cond_false, cond_true] at h ⊢
  obtain ⟨h8, hsm⟩ := scene_small hs
  have hA : ([83, 68, 70, 49] ++ wordB (ts.length : Int) 1).length = 5 := by rw [List.length_append, wordB_length]; rfl
  rw [wordB_length, hA, blt_big (m := 4 + 1) (by omega), d_t (show 0 + 5 ≤ 140737488355328 by omega)]
  simp only [cond_true]
  generalize hAA : [83, 68, 70, 49] ++ wordB (ts.length : Int) 1 = A at *
  have hS : sceneS ts = A ++ ts.flatMap thingS := by unfold sceneS; rw [hAA]
  refine loop_run (σ := Nat × List UInt8) (fun p => fr_impl_StoreScene_6 ts p.2 ts.length p.1) (fun p => hp_impl_StoreScene_6 ts p.2 ts.length p.1) (fun p => p.1 ≤ ts.length ∧ p.2 = A ++ (ts.take p.1).flatMap thingS) (fun p => ts.length - p.1) ?_ (0, [] ++ A) ⟨Nat.zero_le _, by simp⟩
  rintro ⟨i, l⟩ ⟨hi, hl⟩ Kn6 hk6
  simp only at hi hl hk6 ⊢
  rw [r_impl_StoreScene_6 ts l ts.length i Kn6 K]
  have hlen : l.length ≤ 3421 := by
    have := things_len hs i
    rw [hl, List.length_append]
    omega
  by_cases hlt : i < ts.length
  · simp only [d_lt hlt, d_0, cond_true, Int.toNat_natCast, get_lt hlt]
    have hy := hsm _ (List.getElem_mem hlt)
    have next : ∀ l', l' = l ++ thingS (ts[i]'hlt) → Kn6 (fr_impl_StoreScene_6 ts l' ts.length ((i : Int) + 1)) (hp_impl_StoreScene_6 ts l' ts.length i) := fun l' e =>
      hk6 (i + 1, l') ⟨hlt, by simp only; rw [flat_take thingS hlt, e, hl, List.append_assoc]⟩ (by simp only; omega)
    generalize ts[i]'hlt = y at *
    have hh := thingH_length hy
    have hsh := shapeS_length hy.shape
    have hnm := hy.name
    have hk8 := hy.keys
    rw [show ((wordB (y.1.length : Int) 1 ++ y.1) ++ shapeS y.2.1) ++ wordB (y.2.2.length : Int) 1 = thingH y from rfl]
    simp only [List.length_append, wordB_length]
    rw [blt_big (m := 1 + y.1.length) (by omega), hy.shape, blt_big (m := 1 + y.1.length + (shapeS y.2.1).length) (by omega), blt_big (m := 1 + y.1.length + (shapeS y.2.1).length + 1) (by omega)]
    simp only [cond_true]
    rw [d_t (show l.length + (thingH y).length ≤ 140737488355328 by omega)]
    simp only [cond_true]
    refine loop_run (σ := Nat × List UInt8) (fun p => fr_impl_StoreScene_10 ts p.2 ts.length i y.2.2 y.2.2.length p.1) (fun p => hp_impl_StoreScene_10 ts p.2 ts.length i y.2.2 y.2.2.length p.1) (fun p => p.1 ≤ y.2.2.length ∧ p.2 = l ++ thingH y ++ (y.2.2.take p.1).flatMap keyS) (fun p => y.2.2.length - p.1) ?_ (0, l ++ thingH y) ⟨Nat.zero_le _, by simp⟩
    rintro ⟨j, l'⟩ ⟨hj, hl'⟩ Kn hk
    simp only at hj hl' hk ⊢
    rw [r_impl_StoreScene_10 ts l' ts.length i y.2.2 y.2.2.length j Kn6 Kn K]
    have hlen' : l'.length ≤ 4000 := by
      have := keys_len hy j
      rw [hl', List.length_append, List.length_append]
      omega
    by_cases hjl : j < y.2.2.length
    · simp only [d_lt hjl, d_0, cond_true, Int.toNat_natCast, get_lt hjl]
      have nextk : ∀ l'', l'' = l' ++ keyS (y.2.2[j]'hjl) → Kn (fr_impl_StoreScene_10 ts l'' ts.length i y.2.2 y.2.2.length ((j : Int) + 1)) (hp_impl_StoreScene_10 ts l'' ts.length i y.2.2 y.2.2.length j) := fun l'' e =>
        hk (j + 1, l'') ⟨hjl, by simp only; rw [flat_take keyS hjl, e, hl']; simp only [List.append_assoc]⟩ (by simp only; omega)
      generalize y.2.2[j]'hjl = z at *
      have hz := keyS_length z
      rw [show wordB z.1 2 ++ floatsB [z.2.1, z.2.2.1, z.2.2.2] = keyS z from rfl]
      have hf := floatsB_length [z.2.1, z.2.2.1, z.2.2.2]
      simp only [List.length_cons, List.length_nil] at hf
      rw [wordB_length, blt_big (by omega), d_t (show l'.length + (keyS z).length ≤ 140737488355328 by omega), i64_of (n := (j : Int) + 1) (by omega) (by omega)]
      exact nextk _ rfl
    · have : j = y.2.2.length := by omega
      subst this
      simp only [d_nlt hjl, cond_false]
      rw [i64_of (n := (i : Int) + 1) (by omega) (by omega)]
      exact next l' (by rw [hl', List.take_length, List.append_assoc]; rfl)
  · have : i = ts.length := by omega
    subst this
    simp only [d_nlt hlt, cond_false]
    rw [List.take_length, ← hS] at hl
    subst hl
    rw [d_t (show (sceneS ts).length ≤ 140737488355328 by omega), wordB_length, blt_big (m := (sceneS ts).length + 2) (by omega)]
    exact h

/-! impl.StoredSize -/
noncomputable def c_impl_StoredSize : Ctx := mkC Try.prog tyT [(18, s_impl_StoreScene)] [] [] 14 (fun _ => none) 0
theorem w_impl_StoredSize (ts : List ThingD) (K : V → Heap → Prop) : wpFn c_impl_StoredSize Try.f20 (encAs [.agg (.slice tT)] (ts, ())) [] K =
  K (.tuple [(.int .i64 ((↑(List.length (bif sceneB ts then storeS ts else [])) : Int))), (.bool (sceneB ts))]) [] := by kernel_rfl
noncomputable def s_impl_StoredSize : Sm := semT [.agg (.slice tT)] fun x => match x with | (ts, _) => .tuple [.int .i64 ((bif sceneB ts then storeS ts else []).length), .bool (sceneB ts)]
theorem ok_impl_StoredSize : FnOk Try.prog 20 s_impl_StoredSize := fnOk_typed (fnOk_runC (C := c_impl_StoredSize) rfl mixed (.cons ok_impl_StoreScene .nil) .nil .nil Try.func20 (by kernel_rfl)) fun (x : ((List ThingD) × Unit)) wf K h => by
  obtain ⟨ts, ⟨⟩⟩ := x
  replace h : K (.tuple [.int .i64 ((bif sceneB ts then storeS ts else []).length), .bool (sceneB ts)]) [] := h
  rw [w_impl_StoredSize ts K]
  exact h

/-! spec.l10Body -/
noncomputable def a_spec_l10Body : Nat → Option Ann := fun n => bif Nat.beq n 3 then some ⟨[0,3,4],0⟩ else bif Nat.beq n 8 then some ⟨[0,3,4,5,6],0⟩ else none
noncomputable def c_spec_l10Body : Ctx := mkC Try.prog tyT [(57, s_spec_l10Word), (82, s_spec_l10Shape), (83, s_spec_l10Floats)] [] [] 93 a_spec_l10Body 0
noncomputable def fr_spec_l10Body_3 (ts : List ThingD) (l : List UInt8) (i : Int) : Fr := [(0, .ref [.vec tT ts] 0), (3, .str l), (4, .int .i64 i)]
theorem r_spec_l10Body_3 (ts : List ThingD) (l : List UInt8) (i : Int) (Kn : Fr → Heap → Prop) (K : V → Heap → Prop) : round c_spec_l10Body ⟨[0,3,4],0⟩ (lb c_spec_l10Body 3 Try.f56) (fr_spec_l10Body_3 ts l i) [] Kn (lk c_spec_l10Body 3 Try.f56 [] K) =
  cond (decide (i < (↑(List.length ts) : Int)))
    (cond (decide (0 ≤ i))
      ((match ts[Int.toNat i]? with
        | some y0 => cond (Nat.blt (List.length (wordB (↑(List.length (Prod.fst y0)) : Int) 1) + List.length (Prod.fst y0)) 9223372036854775808)
          (cond (smallS (Prod.fst (Prod.snd y0)))
            (cond (Nat.blt (List.length (wordB (↑(List.length (Prod.fst y0)) : Int) 1 ++ Prod.fst y0) + List.length (shapeS (Prod.fst (Prod.snd y0)))) 9223372036854775808)
              (cond (Nat.blt (List.length (wordB (↑(List.length (Prod.fst y0)) : Int) 1 ++ Prod.fst y0 ++ shapeS (Prod.fst (Prod.snd y0))) + List.length (wordB (↑(List.length (Prod.snd (Prod.snd y0))) : Int) 1)) 9223372036854775808)
                (cond (Nat.blt (List.length l + List.length (wordB (↑(List.length (Prod.fst y0)) : Int) 1 ++ Prod.fst y0 ++ shapeS (Prod.fst (Prod.snd y0)) ++ wordB (↑(List.length (Prod.snd (Prod.snd y0))) : Int) 1)) 9223372036854775808)
                  (LoopE c_spec_l10Body ⟨[0, 3, 4, 5, 6], 0⟩ (pathB c_spec_l10Body [3, 8] (bodyOf Try.f56)) [(0, (.ref [(.vec (.pair .str (.pair (.slice (.pair (.int .i64) (.pair (.int .i64) (.pair (.int .i64) (.slice (.float .f32)))))) (.slice (.pair (.int .i64) (.pair (.float .f32) (.pair (.float .f32) (.float .f32))))))) (ts))] 0)), (3, (.str (l ++ (wordB (↑(List.length (Prod.fst y0)) : Int) 1 ++ Prod.fst y0 ++ shapeS (Prod.fst (Prod.snd y0)) ++ wordB (↑(List.length (Prod.snd (Prod.snd y0))) : Int) 1)))), (4, (.int .i64 (i))), (5, (.ref [(.str (Prod.fst y0)), (.vec (.pair (.int .i64) (.pair (.int .i64) (.pair (.int .i64) (.slice (.float .f32))))) (Prod.fst (Prod.snd y0))), (.vec (.pair (.int .i64) (.pair (.float .f32) (.pair (.float .f32) (.float .f32)))) (Prod.snd (Prod.snd y0)))] 0)), (6, (.int .i64 0))] [] (pathK c_spec_l10Body [(3, ⟨[0,3,4],0⟩, Kn)] 8 (bodyOf Try.f56) (kFn c_spec_l10Body Try.f56 [] K)))
                  (False))
                (False))
              (False))
            (False))
          (False)
        | none => False))
      (False))
    (K (.str (l)) []) := by kernel_rfl
noncomputable def fr_spec_l10Body_8 (ts : List ThingD) (l : List UInt8) (i : Int) (th : ThingD) (j : Int) : Fr := [(0, .ref [.vec tT ts] 0), (3, .str l), (4, .int .i64 i), (5, .ref [.str th.1, .vec tN th.2.1, .vec tK th.2.2] 0), (6, .int .i64 j)]
theorem r_spec_l10Body_8 (ts : List ThingD) (l : List UInt8) (i : Int) (th : ThingD) (j : Int) (Kn3 : Fr → Heap → Prop) (Kn : Fr → Heap → Prop) (K : V → Heap → Prop) : round c_spec_l10Body ⟨[0,3,4,5,6],0⟩ (pathB c_spec_l10Body [3, 8] (bodyOf Try.f56)) (fr_spec_l10Body_8 ts l i th j) [] Kn (pathK c_spec_l10Body [(3, ⟨[0,3,4],0⟩, Kn3)] 8 (bodyOf Try.f56) (kFn c_spec_l10Body Try.f56 [] K)) =
  cond (decide (j < (↑(List.length (Prod.snd (Prod.snd th))) : Int)))
    (cond (decide (0 ≤ j))
      ((match (Prod.snd (Prod.snd th))[Int.toNat j]? with
        | some y0 => cond (decide (0 ≤ j))
          ((match (Prod.snd (Prod.snd th))[Int.toNat j]? with
            | some y1 => cond (Nat.blt (List.length (wordB (Prod.fst y1) 2) + List.length (floatsB [Prod.fst (Prod.snd y0), Prod.fst (Prod.snd (Prod.snd y0)), Prod.snd (Prod.snd (Prod.snd y0))])) 9223372036854775808)
              (cond (Nat.blt (List.length l + List.length (wordB (Prod.fst y1) 2 ++ floatsB [Prod.fst (Prod.snd y0), Prod.fst (Prod.snd (Prod.snd y0)), Prod.snd (Prod.snd (Prod.snd y0))])) 9223372036854775808)
                (Kn [(0, (.ref [(.vec (.pair .str (.pair (.slice (.pair (.int .i64) (.pair (.int .i64) (.pair (.int .i64) (.slice (.float .f32)))))) (.slice (.pair (.int .i64) (.pair (.float .f32) (.pair (.float .f32) (.float .f32))))))) (ts))] 0)), (3, (.str (l ++ (wordB (Prod.fst y1) 2 ++ floatsB [Prod.fst (Prod.snd y0), Prod.fst (Prod.snd (Prod.snd y0)), Prod.snd (Prod.snd (Prod.snd y0))])))), (4, (.int .i64 (i))), (5, (.ref [(.str (Prod.fst th)), (.vec (.pair (.int .i64) (.pair (.int .i64) (.pair (.int .i64) (.slice (.float .f32))))) (Prod.fst (Prod.snd th))), (.vec (.pair (.int .i64) (.pair (.float .f32) (.pair (.float .f32) (.float .f32)))) (Prod.snd (Prod.snd th)))] 0)), (6, (.int .i64 (IntKind.wrap IntKind.i64 (j + 1))))] [])
                (False))
              (False)
            | none => False))
          (False)
        | none => False))
      (False))
    (Kn3 [(0, (.ref [(.vec (.pair .str (.pair (.slice (.pair (.int .i64) (.pair (.int .i64) (.pair (.int .i64) (.slice (.float .f32)))))) (.slice (.pair (.int .i64) (.pair (.float .f32) (.pair (.float .f32) (.float .f32))))))) (ts))] 0)), (3, (.str (l))), (4, (.int .i64 (IntKind.wrap IntKind.i64 (i + 1))))] []) := by kernel_rfl
theorem w_spec_l10Body (ts : List ThingD) (K : V → Heap → Prop) : wpFn c_spec_l10Body Try.f56 (encAs [.ref (.slice tT)] (ts, ())) [] K =
  cond (Nat.blt (4 + List.length (wordB (↑(List.length ts) : Int) 1)) 9223372036854775808)
    (LoopE c_spec_l10Body ⟨[0, 3, 4], 0⟩ (lb c_spec_l10Body 3 Try.f56) [(0, (.ref [(.vec (.pair .str (.pair (.slice (.pair (.int .i64) (.pair (.int .i64) (.pair (.int .i64) (.slice (.float .f32)))))) (.slice (.pair (.int .i64) (.pair (.float .f32) (.pair (.float .f32) (.float .f32))))))) (ts))] 0)), (3, (.str (Array.toList (ByteArray.data { data := #[83, 68, 70, 49] }) ++ wordB (↑(List.length ts) : Int) 1))), (4, (.int .i64 0))] [] (lk c_spec_l10Body 3 Try.f56 [] K))
    (False) := by kernel_rfl
noncomputable def s_spec_l10Body : Sm := semG [.ref (.slice tT)] (fun x => match x with | (ts, _) => sceneB ts) fun x => match x with | (ts, _) => .str (sceneS ts)
theorem ok_spec_l10Body : FnOk Try.prog 56 s_spec_l10Body := fnOk_typedG (fnOk_runC (C := c_spec_l10Body) rfl mixed (.cons ok_spec_l10Word (.cons ok_spec_l10Shape (.cons ok_spec_l10Floats .nil))) .nil .nil Try.func56 (by kernel_rfl)) fun (x : ((List ThingD) × Unit)) wf hg K h => by
  obtain ⟨ts, ⟨⟩⟩ := x
  replace hg : (sceneB ts) = true := hg
  replace h : K (.str (sceneS ts)) [] := h
  rw [w_spec_l10Body ts K]
  have hs := hg
  obtain ⟨h8, hsm⟩ := scene_small hs
  have hA : ([83, 68, 70, 49] ++ wordB (ts.length : Int) 1).length = 5 := by rw [List.length_append, wordB_length]; rfl
  rw [wordB_length, blt_big (m := 4 + 1) (by omega)]
  simp only [cond_true]
  change LoopE _ _ _ (fr_spec_l10Body_3 ts ([83, 68, 70, 49] ++ wordB (ts.length : Int) 1) 0) [] _
  generalize hAA : [83, 68, 70, 49] ++ wordB (ts.length : Int) 1 = A at *
  have hS : sceneS ts = A ++ ts.flatMap thingS := by unfold sceneS; rw [hAA]
  refine loop_run (σ := Nat × List UInt8) (fun p => fr_spec_l10Body_3 ts p.2 p.1) (fun p => []) (fun p => p.1 ≤ ts.length ∧ p.2 = A ++ (ts.take p.1).flatMap thingS) (fun p => ts.length - p.1) ?_ (0, A) ⟨Nat.zero_le _, by simp⟩
  rintro ⟨i, l⟩ ⟨hi, hl⟩ Kn3 hk3
  simp only at hi hl hk3 ⊢
  rw [r_spec_l10Body_3 ts l i Kn3 K]
  have hlen : l.length ≤ 3421 := by
    have := things_len hs i
    rw [hl, List.length_append]
    omega
  by_cases hlt : i < ts.length
  · simp only [d_lt hlt, d_0, cond_true, Int.toNat_natCast, get_lt hlt]
    have hy := hsm _ (List.getElem_mem hlt)
    have next : ∀ l', l' = l ++ thingS (ts[i]'hlt) → Kn3 (fr_spec_l10Body_3 ts l' ((i : Int) + 1)) [] := fun l' e =>
      hk3 (i + 1, l') ⟨hlt, by simp only; rw [flat_take thingS hlt, e, hl, List.append_assoc]⟩ (by simp only; omega)
    generalize ts[i]'hlt = y at *
    have hh := thingH_length hy
    have hsh := shapeS_length hy.shape
    have hnm := hy.name
    have hk8 := hy.keys
    rw [show ((wordB (y.1.length : Int) 1 ++ y.1) ++ shapeS y.2.1) ++ wordB (y.2.2.length : Int) 1 = thingH y from rfl]
    simp only [List.length_append, wordB_length]
    rw [blt_big (m := 1 + y.1.length) (by omega), hy.shape, blt_big (m := 1 + y.1.length + (shapeS y.2.1).length) (by omega), blt_big (m := 1 + y.1.length + (shapeS y.2.1).length + 1) (by omega)]
    simp only [cond_true]
    rw [blt_big (m := l.length + (thingH y).length) (by omega)]
    simp only [cond_true]
    refine loop_run (σ := Nat × List UInt8) (fun p => fr_spec_l10Body_8 ts p.2 i y p.1) (fun p => []) (fun p => p.1 ≤ y.2.2.length ∧ p.2 = l ++ thingH y ++ (y.2.2.take p.1).flatMap keyS) (fun p => y.2.2.length - p.1) ?_ (0, l ++ thingH y) ⟨Nat.zero_le _, by simp⟩
    rintro ⟨j, l'⟩ ⟨hj, hl'⟩ Kn hk
    simp only at hj hl' hk ⊢
    rw [r_spec_l10Body_8 ts l' i y j Kn3 Kn K]
    have hlen' : l'.length ≤ 4000 := by
      have := keys_len hy j
      rw [hl', List.length_append, List.length_append]
      omega
    by_cases hjl : j < y.2.2.length
    · simp only [d_lt hjl, d_0, cond_true, Int.toNat_natCast, get_lt hjl]
      have nextk : ∀ l'', l'' = l' ++ keyS (y.2.2[j]'hjl) → Kn (fr_spec_l10Body_8 ts l'' i y ((j : Int) + 1)) [] := fun l'' e =>
        hk (j + 1, l'') ⟨hjl, by simp only; rw [flat_take keyS hjl, e, hl']; simp only [List.append_assoc]⟩ (by simp only; omega)
      generalize y.2.2[j]'hjl = z at *
      have hz := keyS_length z
      rw [show wordB z.1 2 ++ floatsB [z.2.1, z.2.2.1, z.2.2.2] = keyS z from rfl]
      have hf := floatsB_length [z.2.1, z.2.2.1, z.2.2.2]
      simp only [List.length_cons, List.length_nil] at hf
      rw [wordB_length, blt_big (m := 2 + _) (by omega), blt_big (m := l'.length + (keyS z).length) (by omega), i64_of (n := (j : Int) + 1) (by omega) (by omega)]
      exact nextk _ rfl
    · have : j = y.2.2.length := by omega
      subst this
      simp only [d_nlt hjl, cond_false]
      rw [i64_of (n := (i : Int) + 1) (by omega) (by omega)]
      exact next l' (by rw [hl', List.take_length, List.append_assoc]; rfl)
  · have : i = ts.length := by omega
    subst this
    simp only [d_nlt hlt, cond_false]
    rw [List.take_length, ← hS] at hl
    subst hl
    exact h

/-! spec.l10Store -/
noncomputable def c_spec_l10Store : Ctx := mkC Try.prog tyT [(56, s_spec_l10Body), (58, s_spec_l01Check), (57, s_spec_l10Word)] [] [] 11 (fun _ => none) 0
theorem w_spec_l10Store (ts : List ThingD) (K : V → Heap → Prop) : wpFn c_spec_l10Store Try.f32 (encAs [.ref (.slice tT)] (ts, ())) [] K =
  cond (sceneB ts)
    (cond (Nat.blt (List.length (sceneS ts) + List.length (wordB (checkB (sceneS ts)) 2)) 9223372036854775808)
      (K (.str (sceneS ts ++ wordB (checkB (sceneS ts)) 2)) [])
      (False))
    (False) := by kernel_rfl
noncomputable def s_spec_l10Store : Sm := semG [.ref (.slice tT)] (fun x => match x with | (ts, _) => sceneB ts) fun x => match x with | (ts, _) => .str (storeS ts)
theorem ok_spec_l10Store : FnOk Try.prog 32 s_spec_l10Store := fnOk_typedG (fnOk_runC (C := c_spec_l10Store) rfl mixed (.cons ok_spec_l10Body (.cons ok_spec_l01Check (.cons ok_spec_l10Word .nil))) .nil .nil Try.func32 (by kernel_rfl)) fun (x : ((List ThingD) × Unit)) wf hg K h => by
  obtain ⟨ts, ⟨⟩⟩ := x
  replace hg : (sceneB ts) = true := hg
  replace h : K (.str (storeS ts)) [] := h
  rw [w_spec_l10Store ts K]
  have hl := sceneS_length hg
  rw [hg, wordB_length, blt_big (m := (sceneS ts).length + 2) (by omega)]
  exact h

/-! spec.StoreScene -/
noncomputable def c_spec_StoreScene : Ctx := mkC Try.prog tyT [(22, s_spec_l10Is), (32, s_spec_l10Store)] [] [] 7 (fun _ => none) 0
theorem w_spec_StoreScene (ts : List ThingD) (K : V → Heap → Prop) : wpFn c_spec_StoreScene Try.f17 (encAs [.agg (.slice tT)] (ts, ())) [] K =
  cond (!sceneB ts)
    (K (.tuple [(.str (Array.toList (ByteArray.data { data := #[] }))), (.bool false)]) [])
    (cond (sceneB ts)
      (K (.tuple [(.str (storeS ts)), (.bool true)]) [])
      (False)) := by kernel_rfl
noncomputable def s_spec_StoreScene : Sm := semT [.agg (.slice tT)] fun x => match x with | (ts, _) => .tuple [.str (bif sceneB ts then storeS ts else []), .bool (sceneB ts)]
theorem ok_spec_StoreScene : FnOk Try.prog 17 s_spec_StoreScene := fnOk_typed (fnOk_runC (C := c_spec_StoreScene) rfl mixed (.cons ok_spec_l10Is (.cons ok_spec_l10Store .nil)) .nil .nil Try.func17 (by kernel_rfl)) fun (x : ((List ThingD) × Unit)) wf K h => by
  obtain ⟨ts, ⟨⟩⟩ := x
  replace h : K (.tuple [.str (bif sceneB ts then storeS ts else []), .bool (sceneB ts)]) [] := h
  rw [w_spec_StoreScene ts K]
  revert h
  cases sceneB ts <;> exact id

/-! spec.StoredSize -/
noncomputable def c_spec_StoredSize : Ctx := mkC Try.prog tyT [(22, s_spec_l10Is), (32, s_spec_l10Store)] [] [] 8 (fun _ => none) 0
theorem w_spec_StoredSize (ts : List ThingD) (K : V → Heap → Prop) : wpFn c_spec_StoredSize Try.f19 (encAs [.agg (.slice tT)] (ts, ())) [] K =
  cond (!sceneB ts)
    (K (.tuple [(.int .i64 0), (.bool false)]) [])
    (cond (sceneB ts)
      (K (.tuple [(.int .i64 ((↑(List.length (storeS ts)) : Int))), (.bool true)]) [])
      (False)) := by kernel_rfl
noncomputable def s_spec_StoredSize : Sm := semT [.agg (.slice tT)] fun x => match x with | (ts, _) => .tuple [.int .i64 ((bif sceneB ts then storeS ts else []).length), .bool (sceneB ts)]
theorem ok_spec_StoredSize : FnOk Try.prog 19 s_spec_StoredSize := fnOk_typed (fnOk_runC (C := c_spec_StoredSize) rfl mixed (.cons ok_spec_l10Is (.cons ok_spec_l10Store .nil)) .nil .nil Try.func19 (by kernel_rfl)) fun (x : ((List ThingD) × Unit)) wf K h => by
  obtain ⟨ts, ⟨⟩⟩ := x
  replace h : K (.tuple [.int .i64 ((bif sceneB ts then storeS ts else []).length), .bool (sceneB ts)]) [] := h
  rw [w_spec_StoredSize ts K]
  revert h
  cases sceneB ts <;> exact id

/-! laws.FnExactStoreScene -/
noncomputable def c_laws_FnExactStoreScene : Ctx := mkC Try.prog tyT [(8, s_laws_szScene), (10, s_laws_toScene), (17, s_spec_StoreScene), (18, s_impl_StoreScene), (12, s_laws_eqScene)] [] [] 40 (fun _ => none) 0
theorem w_laws_FnExactStoreScene (s : List ThingD) (K : V → Heap → Prop) : wpFn c_laws_FnExactStoreScene Try.f6 (encAs [.agg (.slice tT)] (s, ())) [] K =
  cond (decide (szV 1048576 (wScene s) < 0))
    (K (.bool true) [])
    (cond (fitC s)
      (cond (fitC s)
        (cond (!bytesEq (bif sceneB s then storeS s else []) (bif sceneB s then storeS s else []))
          (K (.bool false) [])
          (cond (sceneB s != sceneB s)
            (K (.bool false) [])
            (cond (fitC s)
              (cond (s == s)
                (K (.bool true) [])
                (False))
              (False))))
        (False))
      (False)) := by kernel_rfl
noncomputable def s_laws_FnExactStoreScene : Sm := semT [.agg (.slice tT)] fun x => match x with | (s, _) => .bool true
theorem ok_laws_FnExactStoreScene : FnOk Try.prog 6 s_laws_FnExactStoreScene := fnOk_typed (fnOk_runC (C := c_laws_FnExactStoreScene) rfl mixed (.cons ok_laws_szScene (.cons ok_laws_toScene (.cons ok_spec_StoreScene (.cons ok_impl_StoreScene (.cons ok_laws_eqScene .nil))))) .nil .nil Try.func6 (by kernel_rfl)) fun (x : ((List ThingD) × Unit)) wf K h => by
  obtain ⟨s, ⟨⟩⟩ := x
  replace h : K (.bool true) [] := h
  rw [w_laws_FnExactStoreScene s K]
  by_cases h1 : (1048576 : Int) - (wScene s : Int) < 0
  · simp only [szV_no h1]
    exact h
  · have e1 : szV 1048576 (wScene s) = 1048576 - wScene s := szV_ok (by omega)
    have hfit : fitC s = true := fitC_of (by omega)
    simp only [e1, d_f h1, cond_false, hfit, cond_true, bne_self_eq_false, beq_self_eq_true, bytesEq, Bool.not_true]
    exact h

/-! laws.FnExactStoredSize -/
noncomputable def c_laws_FnExactStoredSize : Ctx := mkC Try.prog tyT [(8, s_laws_szScene), (10, s_laws_toScene), (19, s_spec_StoredSize), (20, s_impl_StoredSize), (12, s_laws_eqScene)] [] [] 40 (fun _ => none) 0
theorem w_laws_FnExactStoredSize (s : List ThingD) (K : V → Heap → Prop) : wpFn c_laws_FnExactStoredSize Try.f7 (encAs [.agg (.slice tT)] (s, ())) [] K =
  cond (decide (szV 1048576 (wScene s) < 0))
    (K (.bool true) [])
    (cond (fitC s)
      (cond (fitC s)
        (cond ((↑(List.length (bif sceneB s then storeS s else [])) : Int) != (↑(List.length (bif sceneB s then storeS s else [])) : Int))
          (K (.bool false) [])
          (cond (sceneB s != sceneB s)
            (K (.bool false) [])
            (cond (fitC s)
              (cond (s == s)
                (K (.bool true) [])
                (False))
              (False))))
        (False))
      (False)) := by kernel_rfl
noncomputable def s_laws_FnExactStoredSize : Sm := semT [.agg (.slice tT)] fun x => match x with | (s, _) => .bool true
theorem ok_laws_FnExactStoredSize : FnOk Try.prog 7 s_laws_FnExactStoredSize := fnOk_typed (fnOk_runC (C := c_laws_FnExactStoredSize) rfl mixed (.cons ok_laws_szScene (.cons ok_laws_toScene (.cons ok_spec_StoredSize (.cons ok_impl_StoredSize (.cons ok_laws_eqScene .nil))))) .nil .nil Try.func7 (by kernel_rfl)) fun (x : ((List ThingD) × Unit)) wf K h => by
  obtain ⟨s, ⟨⟩⟩ := x
  replace h : K (.bool true) [] := h
  rw [w_laws_FnExactStoredSize s K]
  by_cases h1 : (1048576 : Int) - (wScene s : Int) < 0
  · simp only [szV_no h1]
    exact h
  · have e1 : szV 1048576 (wScene s) = 1048576 - wScene s := szV_ok (by omega)
    have hfit : fitC s = true := fitC_of (by omega)
    simp only [e1, d_f h1, cond_false, hfit, cond_true, bne_self_eq_false, beq_self_eq_true]
    exact h

end Go.Proofs.Ythleanlnjnlnmaa
