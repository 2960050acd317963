/- The law of shapes that are read from bytes. -/
import Derived.Test.YtbbkhjeohfdcaaaEyes
set_option linter.unusedVariables false
set_option linter.unusedSimpArgs false
set_option maxRecDepth 100000
namespace Go.Proofs.Ytbbkhjeohfdcaaa
open Go.Ev

/-! laws.markShape -/
noncomputable def c_laws_markShape : Ctx := mkC Try.prog tyT [] [] [(16, s_laws_markNodeS)] 10 (fun _ => none) 1
theorem w_laws_markShape (ns : ShapeD) (k : Int) (K : V → Heap → Prop) : wpFnO c_laws_markShape Try.f7 (ofCells true (encP [.deep tN] (ns, ()) 0) :: encAs [.cell tI] (k, ())) (thP [.deep tN] (ns, ())) K =
  cond ((fun xs x => decide (0 ≤ Prod.fst x) && decide (Prod.fst x + (↑(sumW wN xs) : Int) ≤ 8388608)) ns (k, ()))
    (K (.int .i64 (k + (↑(sumW wN ns) : Int))) [(.dp 0 0 (.pair (.int .i64) (.pair (.int .i64) (.pair (.int .i64) (.slice (.float .f32))))) (markL mkN wN k ns))])
    (False) := by kernel_rfl
noncomputable def s_laws_markShape : Sm := semM true [.deep tN] [.cell tI] (fun y x => match y, x with | (ns, _), (k, _) => decide (0 ≤ k) && decide (k + sumW wN ns ≤ 8388608)) fun y x => match y, x with | (ns, _), (k, _) => (.int .i64 (k + sumW wN ns), (markL mkN wN k ns, ()))
theorem ok_laws_markShape : FnOkL Try.prog 7 s_laws_markShape := fnOkO_mark (fnOkO_runC (C := c_laws_markShape) rfl mixed .nil .nil (.cons ok_laws_markNodeS .nil) Try.func7 (by kernel_rfl)) (by first | exact .inl rfl | exact .inr (.inl ⟨_, rfl⟩) | exact .inr (.inr ⟨_, rfl⟩)) fun (y : ((ShapeD) × Unit)) (x : ((Int) × Unit)) wf hg K h => by
  obtain ⟨k, ⟨⟩⟩ := x
  obtain ⟨ns, ⟨⟩⟩ := y
  replace hg : (decide (0 ≤ k) && decide (k + sumW wN ns ≤ 8388608)) = true := hg
  replace h : K (.int .i64 (k + sumW wN ns)) (thP [.deep tN] ((markL mkN wN k ns, ()))) := h
  rw [w_laws_markShape ns k K]
  simp only
  rw [hg]
  exact h

/-! laws.heldShape -/
noncomputable def c_laws_heldShape : Ctx := mkC Try.prog tyT [(17, s_laws_heldNodeS)] [] [] 12 (fun _ => none) 0
theorem w_laws_heldShape (ns : ShapeD) (k : Int) (K : V → Heap → Prop) : wpFn c_laws_heldShape Try.f8 (encAs [.agg tS, .cell tI] (ns, k, ())) [] K =
  cond (decide (0 ≤ k) && (decide (k + (↑(sumW wN ns) : Int) ≤ 8388608) && ns == markL mkN wN k ns))
    (cond (decide (k + (↑(sumW wN ns) : Int) < 0))
      (K (.int .i64 (-1)) [])
      (K (.int .i64 (k + (↑(sumW wN ns) : Int))) []))
    (False) := by kernel_rfl
noncomputable def s_laws_heldShape : Sm := semG [.agg tS, .cell tI] (fun x => match x with | (ns, k, _) => decide (0 ≤ k) && (decide (k + sumW wN ns ≤ 8388608) && (ns == markL mkN wN k ns))) fun x => match x with | (ns, k, _) => .int .i64 (k + sumW wN ns)
theorem ok_laws_heldShape : FnOk Try.prog 8 s_laws_heldShape := fnOk_typedG (fnOk_runC (C := c_laws_heldShape) rfl mixed (.cons ok_laws_heldNodeS .nil) .nil .nil Try.func8 (by kernel_rfl)) fun (x : ((ShapeD) × (Int) × Unit)) wf hg K h => by
  obtain ⟨ns, k, ⟨⟩⟩ := x
  replace hg : (decide (0 ≤ k) && (decide (k + sumW wN ns ≤ 8388608) && (ns == markL mkN wN k ns))) = true := hg
  replace h : K (.int .i64 (k + sumW wN ns)) [] := h
  rw [w_laws_heldShape ns k K]
  rw [hg]
  simp only [Bool.and_eq_true, decide_eq_true_eq] at hg
  rw [show decide (k + (sumW wN ns : Int) < 0) = false from decide_eq_false (by omega)]
  exact h

theorem mkN_idem (k : Int) (x : NodeD) : mkN k (mkN k x) = mkN k x := by unfold mkN; simp only [markF_len]
theorem wN_mk (k : Int) (x : NodeD) : wN (mkN k x) = wN x := by unfold wN mkN; simp only [markF_len]

/-! plain: what was written is read -/
def Wd (x : Nat) : Prop := x < 4294967296 ∧ canon .f32 x = x
theorem wd_from (n : Int) : Wd (fromV n) := by
  unfold fromV
  refine ⟨?_, canon_canon _ _⟩
  have : 2 * signOf .f32 = 4294967296 := rfl
  have h := canon_lt (k := .f32) (b := (IntKind.u32.wrap n).toNat) (by
    rw [IntKind.wrap_u32]
    omega)
  omega
theorem from_wd {x : Nat} (h : Wd x) : fromV (x : Int) = x := by
  unfold fromV
  have h1 := h.1
  rw [IntKind.wrap_u32, show (((x : Int) % 4294967296).toNat) = x by omega]
  exact h.2
def RdG (g : Bool) (s : RdD) (u : Str) : Prop := s.2.2 = g ∧ ∃ p : Nat, s.2.1 = p ∧ p ≤ s.1.length ∧ s.1.drop p = u
theorem rd_len {t : Str} {p : Nat} {w u : Str} (hp : p ≤ t.length) (h : t.drop p = w ++ u) : p + w.length ≤ t.length ∧ t.drop (p + w.length) = u ∧ (t.drop p).take w.length = w := by
  have hl : (t.drop p).length = w.length + u.length := by rw [h, List.length_append]
  rw [List.length_drop] at hl
  refine ⟨by omega, ?_, ?_⟩
  · rw [← List.drop_drop, h, List.drop_left]
  · rw [h, List.take_left]
theorem text_at {s : RdD} {w u : Str} (h : RdG false s (w ++ u)) : textR s w.length = w ∧ RdG false (textN s w.length) u := by
  obtain ⟨e, p, hp, hl, hd⟩ := h
  obtain ⟨l1, l2, l3⟩ := rd_len hl hd
  have ok : rdOk s w.length = true := by
    unfold rdOk
    rw [e, hp, Bool.not_false, Bool.true_and]
    exact decide_eq_true (by omega)
  refine ⟨?_, ?_, p + w.length, ?_, l1, l2⟩
  · unfold textR
    rw [ok, cond_true, hp, Int.toNat_natCast, Int.toNat_natCast, l3]
  · unfold textN; rw [ok]; rfl
  · unfold textN; rw [ok, hp]; rfl
theorem word_at {s : RdD} {w u : Str} (h : RdG true s (w ++ u)) : wordV s w.length = leV w ∧ RdG true (wordN s w.length) u := by
  obtain ⟨e, p, hp, hl, hd⟩ := h
  obtain ⟨l1, l2, l3⟩ := rd_len hl hd
  have ok : eOk s w.length = true := by
    unfold eOk
    rw [hp]
    exact decide_eq_true (by omega)
  refine ⟨?_, ?_, p + w.length, ?_, l1, l2⟩
  · unfold wordV
    rw [ok, cond_true, hp, Int.toNat_natCast, Int.toNat_natCast, l3]
  · unfold wordN; rw [ok, e]; rfl
  · unfold wordN; rw [ok, hp]; rfl
theorem u8_back (m : Int) (h : 0 ≤ m ∧ m < 256) : (((UInt8.ofNat m.toNat).toNat : Nat) : Int) = m := by
  rw [UInt8.toNat_ofNat']
  omega
theorem leV_1 {n : Int} (h : 0 ≤ n ∧ n < 256) : leV (wordB n 1) = n := by
  have e : wordB n 1 = [UInt8.ofNat ((n / 256 ^ 0) % 256).toNat] := rfl
  rw [e, leV_cons]
  have e0 : n / 256 ^ 0 % 256 = n := by simp; omega
  rw [e0, u8_back n h]
  show (0 : Int) * 256 + n = n
  omega
theorem leV_4 {n : Int} (h : 0 ≤ n ∧ n < 4294967296) : leV (wordB n 4) = n := by
  have e : wordB n 4 = [UInt8.ofNat ((n / 256 ^ 0) % 256).toNat, UInt8.ofNat ((n / 256 ^ 1) % 256).toNat, UInt8.ofNat ((n / 256 ^ 2) % 256).toNat, UInt8.ofNat ((n / 256 ^ 3) % 256).toNat] := rfl
  have p0 : (256 : Int) ^ 0 = 1 := rfl
  have p1 : (256 : Int) ^ 1 = 256 := rfl
  have p2 : (256 : Int) ^ 2 = 65536 := rfl
  have p3 : (256 : Int) ^ 3 = 16777216 := rfl
  rw [e, leV_cons, leV_cons, leV_cons, leV_cons, p0, p1, p2, p3, u8_back _ (by omega), u8_back _ (by omega), u8_back _ (by omega), u8_back _ (by omega)]
  show (((0 * 256 + n / 16777216 % 256) * 256 + n / 65536 % 256) * 256 + n / 256 % 256) * 256 + n / 1 % 256 = n
  omega
theorem text_1 {s : RdD} {n : Int} {u : Str} (hn : 0 ≤ n ∧ n < 256) (h : RdG false s (wordB n 1 ++ u)) : leV (textR s 1) = n ∧ RdG false (textN s 1) u := by
  have := text_at h
  rw [wordB_length] at this
  exact ⟨by rw [show textR s 1 = wordB n 1 from this.1, leV_1 hn], this.2⟩
theorem text_4 {s : RdD} {n : Int} {u : Str} (hn : 0 ≤ n ∧ n < 4294967296) (h : RdG false s (wordB n 4 ++ u)) : leV (textR s 4) = n ∧ RdG false (textN s 4) u := by
  have := text_at h
  rw [wordB_length] at this
  exact ⟨by rw [show textR s 4 = wordB n 4 from this.1, leV_4 hn], this.2⟩
theorem word_1 {s : RdD} {n : Int} {u : Str} (hn : 0 ≤ n ∧ n < 256) (h : RdG true s (wordB n 1 ++ u)) : wordV s 1 = n ∧ RdG true (wordN s 1) u := by
  have := word_at h
  rw [wordB_length, leV_1 hn] at this
  exact this
theorem word_4 {s : RdD} {n : Int} {u : Str} (hn : 0 ≤ n ∧ n < 4294967296) (h : RdG true s (wordB n 4 ++ u)) : wordV s 4 = n ∧ RdG true (wordN s 4) u := by
  have := word_at h
  rw [wordB_length, leV_4 hn] at this
  exact this
theorem floatsB_cons (x : Nat) (xs : List Nat) : floatsB (x :: xs) = wordB (x : Int) 4 ++ floatsB xs := by unfold floatsB; rw [List.flatMap_cons]
theorem iFl_at : ∀ (xs : List Nat) (s : RdD) (u : Str), (∀ x ∈ xs, Wd x) → RdG false s (floatsB xs ++ u) → iFl xs.length s = xs ∧ RdG false (iFlN xs.length s) u
  | [], s, u, _, h => ⟨rfl, h⟩
  | x :: xs, s, u, hw, h => by
    have hx := hw x (by simp)
    rw [floatsB_cons, List.append_assoc] at h
    obtain ⟨h1, h2⟩ := text_4 (by have := hx.1; omega) h
    obtain ⟨k1, k2⟩ := iFl_at xs _ u (fun y hy => hw y (by simp [hy])) h2
    simp only [List.length_cons, iFl, iFlN]
    exact ⟨by rw [h1, from_wd hx, k1], k2⟩
theorem eFl_at : ∀ (xs : List Nat) (s : RdD) (u : Str), (∀ x ∈ xs, Wd x) → RdG true s (floatsB xs ++ u) → eFl xs.length s = xs ∧ RdG true (eFlN xs.length s) u
  | [], s, u, _, h => ⟨rfl, h⟩
  | x :: xs, s, u, hw, h => by
    have hx := hw x (by simp)
    rw [floatsB_cons, List.append_assoc] at h
    obtain ⟨h1, h2⟩ := word_4 (by have := hx.1; omega) h
    obtain ⟨k1, k2⟩ := eFl_at xs _ u (fun y hy => hw y (by simp [hy])) h2
    simp only [List.length_cons, eFl, eFlN, h.1, cond_true]
    exact ⟨by rw [h1, from_wd hx, k1], k2⟩
structure NodeOk (n : NodeD) : Prop where
  kind : isK n.1 = true
  a : 0 ≤ n.2.1 ∧ n.2.1 < 256
  b : 0 ≤ n.2.2.1 ∧ n.2.2.1 < 256
  len : (n.2.2.2.length : Int) = kindN n.1
  wd : ∀ x ∈ n.2.2.2, Wd x
theorem isK_byte {k : Int} (h : isK k = true) : 0 ≤ k ∧ k < 256 := by have := inR_iff.1 h; omega
theorem iNode_at {n : NodeD} {s : RdD} {u : Str} (hn : NodeOk n) (h : RdG false s (nodeS n ++ u)) : iNode s = n ∧ RdG false (iNodeS s) u := by
  obtain ⟨k, a, b, xs⟩ := n
  obtain ⟨h0, h1, h2, h3, h4⟩ := hn
  simp only at h0 h1 h2 h3 h4
  unfold nodeS at h
  simp only [List.append_assoc] at h
  obtain ⟨e1, r1⟩ := text_1 (isK_byte h0) h
  obtain ⟨e2, r2⟩ := text_1 h1 r1
  obtain ⟨e3, r3⟩ := text_1 h2 r2
  have hb : RdG false (iBad s) (floatsB xs ++ u) := by
    refine ⟨?_, r3.2⟩
    unfold iBad
    simp only
    rw [r3.1, e1, h0]
    rfl
  have hl : (kindN k).toNat = xs.length := by rw [← h3, Int.toNat_natCast]
  obtain ⟨k1, k2⟩ := iFl_at xs _ u h4 hb
  unfold iNode iNodeS
  rw [e1, e2, e3, hl]
  exact ⟨by rw [k1], k2⟩
theorem eNode_at {n : NodeD} {s : RdD} {u : Str} (hn : NodeOk n) (h : RdG true s (nodeS n ++ u)) : eNode s = n ∧ RdG true (eNodeS s) u := by
  obtain ⟨k, a, b, xs⟩ := n
  obtain ⟨h0, h1, h2, h3, h4⟩ := hn
  simp only at h0 h1 h2 h3 h4
  unfold nodeS at h
  simp only [List.append_assoc] at h
  obtain ⟨e1, r1⟩ := word_1 (isK_byte h0) h
  obtain ⟨e2, r2⟩ := word_1 h1 r1
  obtain ⟨e3, r3⟩ := word_1 h2 r2
  have hl : (kindN k).toNat = xs.length := by rw [← h3, Int.toNat_natCast]
  obtain ⟨k1, k2⟩ := eFl_at xs _ u h4 r3
  unfold eNode eNodeS eFlV eFlS
  rw [e1, e2, e3, hl]
  exact ⟨by rw [k1], k2⟩
theorem iGo_at : ∀ (ns : List NodeD) (s : RdD) (u : Str), (∀ n ∈ ns, NodeOk n) → RdG false s (ns.flatMap nodeS ++ u) → (iGo ns.length s).1 = ns ∧ (iGo ns.length s).2.2.2 = false
  | [], s, u, _, h => ⟨rfl, h.1⟩
  | n :: ns, s, u, hw, h => by
    rw [List.flatMap_cons, List.append_assoc] at h
    obtain ⟨h1, h2⟩ := iNode_at (hw n (by simp)) h
    obtain ⟨k1, k2⟩ := iGo_at ns _ u (fun y hy => hw y (by simp [hy])) h2
    simp only [List.length_cons, iGo, h2.1, cond_false]
    exact ⟨by rw [h1, k1], k2⟩
theorem eGo_at : ∀ (ns : List NodeD) (s : RdD) (u : Str), (∀ n ∈ ns, NodeOk n) → RdG true s (ns.flatMap nodeS ++ u) → (eGo ns.length s).1 = ns ∧ (eGo ns.length s).2.2.2 = true
  | [], s, u, _, h => ⟨rfl, h.1⟩
  | n :: ns, s, u, hw, h => by
    rw [List.flatMap_cons, List.append_assoc] at h
    have hf := h.1
    obtain ⟨h1, h2⟩ := eNode_at (hw n (by simp)) h
    obtain ⟨k1, k2⟩ := eGo_at ns _ u (fun y hy => hw y (by simp [hy])) h2
    simp only [List.length_cons, eGo, hf, cond_true]
    exact ⟨by rw [h1, k1], k2⟩
theorem iSh_at {ns : List NodeD} (hl : ns.length ≤ 16) (hw : ∀ n ∈ ns, NodeOk n) : iShV (shapeS ns, 0, false) = ns ∧ (iShS (shapeS ns, 0, false)).2.2 = false := by
  have h0 : RdG false (shapeS ns, 0, false) (wordB ns.length 1 ++ (ns.flatMap nodeS ++ [])) := ⟨rfl, 0, rfl, Nat.zero_le _, by unfold shapeS; simp⟩
  obtain ⟨e1, r1⟩ := text_1 (by omega) h0
  obtain ⟨k1, k2⟩ := iGo_at ns _ [] hw r1
  unfold iShV iShS
  rw [e1, Int.toNat_natCast]
  exact ⟨k1, k2⟩
theorem eSh_at {ns : List NodeD} (hl : ns.length ≤ 16) (hw : ∀ n ∈ ns, NodeOk n) : eShV (shapeS ns, 0, true) = ns ∧ (eShS (shapeS ns, 0, true)).2.2 = true := by
  have h0 : RdG true (shapeS ns, 0, true) (wordB ns.length 1 ++ (ns.flatMap nodeS ++ [])) := ⟨rfl, 0, rfl, Nat.zero_le _, by unfold shapeS; simp⟩
  obtain ⟨e1, r1⟩ := word_1 (by omega) h0
  obtain ⟨k1, k2⟩ := eGo_at ns _ [] hw r1
  unfold eShV eShS
  rw [e1, Int.toNat_natCast]
  exact ⟨k1, k2⟩
theorem iFl_wd : ∀ (c : Nat) (s : RdD), ∀ x ∈ iFl c s, Wd x
  | 0, s, x, h => by cases h
  | c + 1, s, x, h => by
    simp only [iFl] at h
    rcases List.mem_cons.1 h with k | k
    · rw [k]; exact wd_from _
    · exact iFl_wd c _ x k
theorem eFl_wd : ∀ (c : Nat) (s : RdD), ∀ x ∈ eFl c s, Wd x
  | 0, s, x, h => by cases h
  | c + 1, s, x, h => by
    simp only [eFl] at h
    cases e : s.2.2 with
    | false => rw [e] at h; cases h
    | true =>
      rw [e] at h
      rcases List.mem_cons.1 h with k | k
      · rw [k]; exact wd_from _
      · exact eFl_wd c _ x k
theorem iGo_wd : ∀ (c : Nat) (s : RdD), ∀ n ∈ (iGo c s).1, ∀ x ∈ n.2.2.2, Wd x
  | 0, s, n, h => by cases h
  | c + 1, s, n, h => by
    simp only [iGo] at h
    cases e : (iNodeS s).2.2 with
    | true => rw [e] at h; cases h
    | false =>
      rw [e] at h
      rcases List.mem_cons.1 h with k | k
      · rw [k]; exact iFl_wd _ _
      · exact iGo_wd c _ n k
theorem eGo_wd : ∀ (c : Nat) (s : RdD), ∀ n ∈ (eGo c s).1, ∀ x ∈ n.2.2.2, Wd x
  | 0, s, n, h => by cases h
  | c + 1, s, n, h => by
    simp only [eGo] at h
    cases e : s.2.2 with
    | false => rw [e] at h; cases h
    | true =>
      rw [e] at h
      rcases List.mem_cons.1 h with k | k
      · rw [k]; exact eFl_wd _ _
      · exact eGo_wd c _ n k
theorem valid_nodes {ns : List NodeD} (h : validS ns = true) (hw : ∀ n ∈ ns, ∀ x ∈ n.2.2.2, Wd x) : ns.length ≤ 16 ∧ ∀ n ∈ ns, NodeOk n := by
  unfold validS at h
  simp only [Bool.and_eq_true] at h
  have h1 := inR_iff.1 h.1
  refine ⟨by omega, fun n hn => ?_⟩
  obtain ⟨i, hi, rfl⟩ := List.mem_iff_getElem.1 hn
  have hb := List.all_eq_true.1 h.2.1 i (by simpa using hi)
  rw [get_lt hi] at hb
  simp only at hb
  have hw' := hw _ (List.getElem_mem hi)
  generalize ns[i]'hi = n at *
  have kd := nodeB_kids hb
  unfold nodeB numsB axB at hb
  simp only [Bool.and_eq_true, Bool.or_eq_true, beq_iff_eq, decide_eq_true_eq] at hb
  obtain ⟨⟨k1, k2, _⟩, ⟨a1, a2⟩, _⟩ := hb
  have kc := kindC_range n.1
  have mem1 : 1 ≤ kindC n.1 → n.2.1 ∈ kidsN n := fun hc => by
    unfold kidsN kids
    rcases (show kindC n.1 = 1 ∨ kindC n.1 = 2 by omega) with e | e <;> rw [e] <;> simp
  have mem2 : kindC n.1 = 2 → n.2.2.1 ∈ kidsN n := fun hc => by
    unfold kidsN kids
    rw [hc]
    simp
  refine ⟨k1, ?_, ?_, k2, hw'⟩
  · rcases a1 with a1 | a1
    · have := kd _ (mem1 (by omega)); omega
    · omega
  · rcases a2 with a2 | a2 | a2
    · have := kd _ (mem2 a2); omega
    · omega
    · have := inR_iff.1 a2.2; omega
def okI (t : Str) : Bool := !(iShS (t, 0, false)).2.2 && (validS (iShV (t, 0, false)) && bytesEq (shapeS (iShV (t, 0, false))) t)
def okE (t : Str) : Bool := (eShS (t, 0, true)).2.2 && (validS (eShV (t, 0, true)) && bytesEq (shapeS (eShV (t, 0, true))) t)
theorem okI_to {t : Str} (h : okI t = true) : okE t = true ∧ eShV (t, 0, true) = iShV (t, 0, false) := by
  unfold okI at h
  simp only [Bool.and_eq_true] at h
  obtain ⟨_, h2, h3⟩ := h
  have h3 : shapeS (iShV (t, 0, false)) = t := beq_iff_eq.1 h3
  obtain ⟨hl, hw⟩ := valid_nodes h2 (iGo_wd _ _)
  obtain ⟨e1, e2⟩ := eSh_at hl hw
  rw [h3] at e1 e2
  refine ⟨?_, e1⟩
  unfold okE
  rw [e1, e2, h2, h3, bytesEq, beq_self_eq_true]
  rfl
theorem okE_to {t : Str} (h : okE t = true) : okI t = true := by
  unfold okE at h
  simp only [Bool.and_eq_true] at h
  obtain ⟨_, h2, h3⟩ := h
  have h3 : shapeS (eShV (t, 0, true)) = t := beq_iff_eq.1 h3
  obtain ⟨hl, hw⟩ := valid_nodes h2 (eGo_wd _ _)
  obtain ⟨e1, e2⟩ := iSh_at hl hw
  rw [h3] at e1 e2
  unfold okI
  rw [e1, e2, h2, h3, bytesEq, beq_self_eq_true]
  rfl
theorem okE_eq (t : Str) : okE t = okI t := by
  cases h : okI t with
  | true => exact (okI_to h).1
  | false =>
    cases h2 : okE t with
    | false => rfl
    | true => rw [okE_to h2] at h; cases h
def rdV (t : Str) : List NodeD := bif okI t then iShV (t, 0, false) else []

/-! spec.ShapeOfBytes -/
noncomputable def c_spec_ShapeOfBytes_vg : Ctx := mkC Try.prog tyT [(10, s_spec_l02Is), (11, s_spec_l10Shape)] [] [(9, s_spec_l10Eyes_shape)] 27 (fun _ => none) 0 false [] true
noncomputable def gp_spec_ShapeOfBytes_vg : List (List (Option Ty)) := List.map giveR [.agg [.deep tN], .cell (.imm .bool)]
theorem w_spec_ShapeOfBytes_vg (t : Str) (K : V → Heap → Prop) : wpFnG gp_spec_ShapeOfBytes_vg c_spec_ShapeOfBytes_vg Try.f4 (encAs [.cell .str] (t, ())) [] K =
  cond (posR (t, 0, true))
    (cond (!Prod.snd (Prod.snd (eShS (t, 0, true))))
      (K (.tuple [(.agg [(.dob 0 0)]), (.bool false)]) [(.dp 0 0 (.pair (.int .i64) (.pair (.int .i64) (.pair (.int .i64) (.slice (.float .f32))))) ([]))])
      (cond (!validS (eShV (t, 0, true)))
        (K (.tuple [(.agg [(.dob 0 0)]), (.bool false)]) [(.dp 0 0 (.pair (.int .i64) (.pair (.int .i64) (.pair (.int .i64) (.slice (.float .f32))))) ([]))])
        (cond (smallS (eShV (t, 0, true)))
          (cond (!bytesEq (shapeS (eShV (t, 0, true))) t)
            (K (.tuple [(.agg [(.dob 0 0)]), (.bool false)]) [(.dp 0 0 (.pair (.int .i64) (.pair (.int .i64) (.pair (.int .i64) (.slice (.float .f32))))) ([]))])
            (K (.tuple [(.agg [(.dob 0 0)]), (.bool true)]) [(.dp 0 0 (.pair (.int .i64) (.pair (.int .i64) (.pair (.int .i64) (.slice (.float .f32))))) (eShV (t, 0, true)))]))
          (False))))
    (False) := by kernel_rfl
noncomputable def s_spec_ShapeOfBytes_vg : Sm := semV [.cell .str] [.agg [.deep tN], .cell (.imm .bool)] (fun x => match x with | (t, _) => decide (t.length ≤ 1048576)) fun x => match x with | (t, _) => ((rdV t, ()), okI t, ())
theorem ok_spec_ShapeOfBytes_vg : FnOkL Try.prog 4 s_spec_ShapeOfBytes_vg := fnOkO_give (fnOkO_runG (C := c_spec_ShapeOfBytes_vg) gp_spec_ShapeOfBytes_vg rfl mixed (.cons ok_spec_l02Is (.cons ok_spec_l10Shape .nil)) .nil (.cons ok_spec_l10Eyes_shape .nil) Try.func4 (by kernel_rfl)) rfl fun (x : ((Str) × Unit)) wf hg K h => by
  obtain ⟨t, ⟨⟩⟩ := x
  replace hg : (decide (t.length ≤ 1048576)) = true := hg
  replace h : K (tup (valRs [.agg [.deep tN], .cell (.imm .bool)] (((rdV t, ()), okI t, ())) 0)) (thRs [.agg [.deep tN], .cell (.imm .bool)] (((rdV t, ()), okI t, ()))) := h
  rw [w_spec_ShapeOfBytes_vg t K]
  have hp : posR (t, 0, true) = true := posR_iff.2 ⟨of_decide_eq_true hg, Int.le_refl _, Int.natCast_nonneg _⟩
  have key : (okE t = true → K (.tuple [(.agg [(.dob 0 0)]), (.bool true)]) [(.dp 0 0 tN (eShV (t, 0, true)))]) ∧ (okE t = false → K (.tuple [(.agg [(.dob 0 0)]), (.bool false)]) [(.dp 0 0 tN [])]) := by
    unfold rdV at h
    refine ⟨fun e => ?_, fun e => ?_⟩
    · have e' := okE_to e
      rw [e', ← (okI_to e').2] at h
      exact h
    · rw [okE_eq] at e
      rw [e] at h
      exact h
  rw [hp, cond_true]
  unfold okE at key
  cases e1 : (eShS (t, 0, true)).2.2 with
  | false => rw [e1] at key; exact key.2 rfl
  | true =>
    cases e2 : validS (eShV (t, 0, true)) with
    | false => rw [e1, e2] at key; exact key.2 rfl
    | true =>
      rw [valid_small e2]
      cases e3 : bytesEq (shapeS (eShV (t, 0, true))) t with
      | false => rw [e1, e2, e3] at key; exact key.2 rfl
      | true => rw [e1, e2, e3] at key; exact key.1 rfl
noncomputable def s_spec_ShapeOfBytes_vg_vv : Sm := semG [.cell .str] (fun x => match x with | (t, _) => decide (t.length ≤ 1048576)) fun x => tup (vecRs [.agg [.deep tN], .cell (.imm .bool)] (match x with | (t, _) => ((rdV t, ()), okI t, ())))
theorem ok_spec_ShapeOfBytes_vg_vv : FnOk Try.prog 4 s_spec_ShapeOfBytes_vg_vv := fnOk_of_give ok_spec_ShapeOfBytes_vg.1

/-! impl.ShapeOfBytes -/
noncomputable def c_impl_ShapeOfBytes_vg : Ctx := mkC Try.prog tyT [(13, s_impl_ValidShape), (14, s_impl_shapeBytes)] [] [(12, s_impl_reader_shape)] 24 (fun _ => none) 0 false [] true
noncomputable def gp_impl_ShapeOfBytes_vg : List (List (Option Ty)) := List.map giveR [.agg [.deep tN], .cell (.imm .bool)]
theorem w_impl_ShapeOfBytes_vg (t : Str) (K : V → Heap → Prop) : wpFnG gp_impl_ShapeOfBytes_vg c_impl_ShapeOfBytes_vg Try.f5 (encAs [.cell .str] (t, ())) [] K =
  cond (posR (t, 0, false))
    (cond (Prod.snd (Prod.snd (iShS (t, 0, false))))
      (K (.tuple [(.agg [(.dob 0 0)]), (.bool false)]) [(.dp 0 0 (.pair (.int .i64) (.pair (.int .i64) (.pair (.int .i64) (.slice (.float .f32))))) ([]))])
      (cond (!validS (iShV (t, 0, false)))
        (K (.tuple [(.agg [(.dob 0 0)]), (.bool false)]) [(.dp 0 0 (.pair (.int .i64) (.pair (.int .i64) (.pair (.int .i64) (.slice (.float .f32))))) ([]))])
        (cond (smallS (iShV (t, 0, false)))
          (cond (!bytesEq (shapeS (iShV (t, 0, false))) t)
            (K (.tuple [(.agg [(.dob 0 0)]), (.bool false)]) [(.dp 0 0 (.pair (.int .i64) (.pair (.int .i64) (.pair (.int .i64) (.slice (.float .f32))))) ([]))])
            (K (.tuple [(.agg [(.dob 0 0)]), (.bool true)]) [(.dp 0 0 (.pair (.int .i64) (.pair (.int .i64) (.pair (.int .i64) (.slice (.float .f32))))) (iShV (t, 0, false)))]))
          (False))))
    (False) := by kernel_rfl
noncomputable def s_impl_ShapeOfBytes_vg : Sm := semV [.cell .str] [.agg [.deep tN], .cell (.imm .bool)] (fun x => match x with | (t, _) => decide (t.length ≤ 1048576)) fun x => match x with | (t, _) => ((rdV t, ()), okI t, ())
theorem ok_impl_ShapeOfBytes_vg : FnOkL Try.prog 5 s_impl_ShapeOfBytes_vg := fnOkO_give (fnOkO_runG (C := c_impl_ShapeOfBytes_vg) gp_impl_ShapeOfBytes_vg rfl mixed (.cons ok_impl_ValidShape (.cons ok_impl_shapeBytes .nil)) .nil (.cons ok_impl_reader_shape .nil) Try.func5 (by kernel_rfl)) rfl fun (x : ((Str) × Unit)) wf hg K h => by
  obtain ⟨t, ⟨⟩⟩ := x
  replace hg : (decide (t.length ≤ 1048576)) = true := hg
  replace h : K (tup (valRs [.agg [.deep tN], .cell (.imm .bool)] (((rdV t, ()), okI t, ())) 0)) (thRs [.agg [.deep tN], .cell (.imm .bool)] (((rdV t, ()), okI t, ()))) := h
  rw [w_impl_ShapeOfBytes_vg t K]
  have hp : posR (t, 0, false) = true := posR_iff.2 ⟨of_decide_eq_true hg, Int.le_refl _, Int.natCast_nonneg _⟩
  rw [hp, cond_true]
  unfold rdV okI at h
  cases e1 : (iShS (t, 0, false)).2.2 with
  | true => rw [e1] at h; exact h
  | false =>
    cases e2 : validS (iShV (t, 0, false)) with
    | false => rw [e1, e2] at h; exact h
    | true =>
      rw [valid_small e2]
      cases e3 : bytesEq (shapeS (iShV (t, 0, false))) t with
      | false => rw [e1, e2, e3] at h; exact h
      | true => rw [e1, e2, e3] at h; exact h
noncomputable def s_impl_ShapeOfBytes_vg_vv : Sm := semG [.cell .str] (fun x => match x with | (t, _) => decide (t.length ≤ 1048576)) fun x => tup (vecRs [.agg [.deep tN], .cell (.imm .bool)] (match x with | (t, _) => ((rdV t, ()), okI t, ())))
theorem ok_impl_ShapeOfBytes_vg_vv : FnOk Try.prog 5 s_impl_ShapeOfBytes_vg_vv := fnOk_of_give ok_impl_ShapeOfBytes_vg.1

theorem sumWN_small : ∀ {ns : List NodeD}, ns.all smallN = true → sumW wN ns ≤ 7 * ns.length
  | [], _ => Nat.le_refl _
  | x :: r, h => by
    simp only [List.all_cons, Bool.and_eq_true] at h
    have h1 := sumWN_small h.2
    have h2 := h.1
    unfold smallN at h2
    simp only [decide_eq_true_eq] at h2
    simp only [sumW, List.map_cons, List.sum_cons, List.length_cons] at *
    have : wN x = 3 + x.2.2.2.length := rfl
    omega
theorem rdV_small (t : Str) : sumW wN (rdV t) ≤ 112 := by
  unfold rdV
  cases h : okI t with
  | false => exact Nat.zero_le _
  | true =>
    unfold okI at h
    simp only [Bool.and_eq_true] at h
    have h1 := valid_small h.2.1
    unfold smallS at h1
    simp only [Bool.and_eq_true, decide_eq_true_eq] at h1
    have := sumWN_small h1.2
    simp only [cond_true]
    omega

/-! laws.FnExactShapeOfBytes -/
noncomputable def c_laws_FnExactShapeOfBytes : Ctx := mkC Try.prog tyT [(6, s_laws_eqShape), (8, s_laws_heldShape)] [] [(4, s_spec_ShapeOfBytes_vg), (5, s_impl_ShapeOfBytes_vg), (7, s_laws_markShape)] 66 (fun _ => none) 0
theorem w_laws_FnExactShapeOfBytes (t : Str) (K : V → Heap → Prop) : wpFn c_laws_FnExactShapeOfBytes Try.f3 (encAs [.cell .str] (t, ())) [] K =
  cond (decide ((↑(List.length t) : Int) > 1048576))
    (K (.bool true) [])
    (cond (decide (List.length t ≤ 1048576))
      (cond (decide (List.length t ≤ 1048576))
        (cond (rdV t == rdV t)
          (cond (okI t != okI t)
            (K (.bool false) [])
            (cond (decide (0 ≤ 1) && decide (1 + (↑(sumW wN (rdV t)) : Int) ≤ 8388608))
              (cond (decide (0 ≤ 1) && (decide (1 + (↑(sumW wN (markL mkN wN 1 (rdV t))) : Int) ≤ 8388608) && markL mkN wN 1 (rdV t) == markL mkN wN 1 (markL mkN wN 1 (rdV t))))
                (cond (1 + (↑(sumW wN (markL mkN wN 1 (rdV t))) : Int) != 1 + (↑(sumW wN (rdV t)) : Int))
                  (K (.bool false) [])
                  (cond (decide (List.length t ≤ 1048576))
                    (cond (rdV t == rdV t)
                      (cond (okI t != okI t)
                        (K (.bool false) [])
                        (cond (decide (0 ≤ 1) && (decide (1 + (↑(sumW wN (markL mkN wN 1 (rdV t))) : Int) ≤ 8388608) && markL mkN wN 1 (rdV t) == markL mkN wN 1 (markL mkN wN 1 (rdV t))))
                          (cond (1 + (↑(sumW wN (markL mkN wN 1 (rdV t))) : Int) != 1 + (↑(sumW wN (rdV t)) : Int))
                            (K (.bool false) [])
                            (K (.bool true) []))
                          (False)))
                      (False))
                    (False)))
                (False))
              (False)))
          (False))
        (False))
      (False)) := by kernel_rfl
noncomputable def s_laws_FnExactShapeOfBytes : Sm := semT [.cell .str] fun x => match x with | (t, _) => .bool true
theorem ok_laws_FnExactShapeOfBytes : FnOk Try.prog 3 s_laws_FnExactShapeOfBytes := fnOk_typed (fnOk_runC (C := c_laws_FnExactShapeOfBytes) rfl mixed (.cons ok_laws_eqShape (.cons ok_laws_heldShape .nil)) .nil (.cons ok_spec_ShapeOfBytes_vg (.cons ok_impl_ShapeOfBytes_vg (.cons ok_laws_markShape .nil))) Try.func3 (by kernel_rfl)) fun (x : ((Str) × Unit)) wf K h => by
  obtain ⟨t, ⟨⟩⟩ := x
  replace h : K (.bool true) [] := h
  rw [w_laws_FnExactShapeOfBytes t K]
  cases hn : decide ((t.length : Int) > 1048576) with
  | true => simp only [cond_true]; exact h
  | false =>
  have hn := of_decide_eq_false hn
  simp only [cond_false]
  have hl := rdV_small t
  generalize rdV t = R at *
  generalize okI t = B at *
  simp only [d_t (show t.length ≤ 1048576 by omega), markL_idem mkN_idem wN_mk, sumW_markL wN_mk, beq_self_eq_true, bne_self_eq_false, cond_true, cond_false,
    d_t (show (0 : Int) ≤ 1 by omega), d_t (show 1 + (sumW wN R : Int) ≤ 8388608 by omega), Bool.and_self, Bool.true_and]
  exact h

end Go.Proofs.Ytbbkhjeohfdcaaa
