/- Drawn regions with an allocation that waits for nothing. -/
import Derived.Test.YtfdalaakechldaaEvDraw
set_option linter.unusedVariables false
set_option linter.unusedSimpArgs false
namespace Go.Ev
theorem HR.adopt1 {H : Heap} {g : List G} {M : Mem} {w : World} (h : HR H g M w) {b : Nat} {cells : List V} {c : Array Value} {T : TypeId} {fz : Nat × Nat}
    (hc : w.heap[b]? = some (.cells c T fz)) (hv : VRs (g ++ [.box b]) M cells c.toList) (hcl : Clear c.size fz) (hM : M b = none) (hn : ¬ Own H g b) : HR (H ++ [.box cells]) (g ++ [.box b]) M w := by
  have hlen := h.len
  have hown : ∀ {j : Nat} {o : Ob} {x : G}, H[j]? = some o → g[j]? = some x → ¬ ownB o x b := fun p1 p2 p3 => hn ⟨_, _, _, p1, p2, p3⟩
  refine ⟨by simp [hlen], ?_, ?_, h.mem⟩
  · intro id o' x' h1 h2
    rw [getElem?_snoc] at h1 h2
    rw [← hlen] at h2
    split at h1
    · rename_i hid
      rw [if_pos hid] at h2
      exact (h.ob id o' x' h1 h2).mono (Ext.snoc g M _) fun _ _ => rfl
    · rename_i hid
      rw [if_neg hid] at h2
      split at h1
      · rename_i he
        rw [if_pos he] at h2
        cases h1; cases h2
        simp only [ObOk]
        exact ⟨c, T, fz, hc, hv, hcl, hM⟩
      · cases h1
  · intro id id' o1 o2 x1 x2 b' a1 a2 b1 b2 c1 c2
    rw [getElem?_snoc] at a1 a2 b1 b2
    rw [← hlen] at a2 b2
    by_cases p : id < H.length <;> by_cases q : id' < H.length
    · rw [if_pos p] at a1 a2; rw [if_pos q] at b1 b2
      exact h.apart id id' o1 o2 x1 x2 b' a1 a2 b1 b2 c1 c2
    · rw [if_pos p] at a1 a2; rw [if_neg q] at b1 b2
      split at b1
      · rename_i he; rw [if_pos he] at b2; cases b1; cases b2
        simp only [ownB] at c2
        subst c2
        exact absurd c1 (hown a1 a2)
      · cases b1
    · rw [if_neg p] at a1 a2; rw [if_pos q] at b1 b2
      split at a1
      · rename_i he; rw [if_pos he] at a2; cases a1; cases a2
        simp only [ownB] at c1
        subst c1
        exact absurd c2 (hown b1 b2)
      · cases a1
    · rw [if_neg p] at a1; rw [if_neg q] at b1
      split at a1
      · split at b1
        · omega
        · cases b1
      · cases a1
section
variable {P : Program} {C : Ctx} {w0 : World} {M0 : Mem} {own0 : Z}
theorem draw_float (L : LOk P C) (hc : CallsOk P C M0 own0) (hm : P.follows .mixedOrders = true) {id : Nat} {ops : Array Oper} {n : Nat} (hd : drawOkF C ops.toList (masksOf ops.toList []) n = true) {fr : Fr} {H : Heap} {K : Fr → Heap → Prop} {a : Act} {w : World}
    (h : evalOpsD C ops ((drawOrd C (ops.toList.take n) (masksOf ops.toList [])).filterMap fun i => ops[i]?) fr H fun fr1 H1 => bif farOk C (ops.toList.take n) (masksOf ops.toList []) fr1 then evalOps C ops (ops.toList.drop n) fr1 H1 K else False) (hg : Good C w0 M0 own0 fr H a w) {Q : Exit → Act → World → Prop}
    (hq : ∀ fr' H', K fr' H' → ∀ a' w', Good C w0 M0 own0 fr' H' a' w' → Q .normal a' w') : (Code.region id ops true).wp P Q a w := by
  refine wp_region_any hm ?_
  unfold drawOkF at hd
  simp only [Bool.and_eq_true] at hd
  obtain ⟨hn, hd⟩ := hd
  have hn := Nat.le_of_ble_eq_true hn
  simp only [Array.length_toList] at hn
  have hops : ∀ {i : Nat} {o : Oper}, ops[i]? = some o → ops.toList[i]? = some o := fun h => by simpa using h
  have hops' : ∀ {i : Nat} {o : Oper}, ops.toList[i]? = some o → ops[i]? = some o := fun h => by simpa using h
  have back : ∀ {i : Nat} {o : Oper}, ops[i]? = some o → ∀ e ∈ o.after, Region.binds .any e = true → e.on < i := by
    intro i o ho e he hb
    have := all_zipIdx hd (hops ho)
    simp only [Bool.and_eq_true] at this
    have h1 := this.1
    simp only [backOk, Array.all_eq_true_iff_forall_mem] at h1
    have h2 := h1 e he
    rw [hb] at h2
    simpa [Nat.blt_eq] using h2
  have hhead : ∀ {i : Nat} {o : Oper}, ops[i]? = some o → i < n → ¬ floatOk C ops.toList n i = true → headOk C (ops.toList.take n) (masksOf ops.toList []) o i = true := by
    intro i o ho hi hne
    have := all_zipIdx hd (hops ho)
    simp only [Bool.and_eq_true] at this
    have h1 := this.2
    have hb : Nat.blt i n = true := by rw [Nat.blt_eq]; exact hi
    simp only [Bool.not_eq_true] at hne
    simp only [hb, cond_true, hne, Bool.false_or] at h1
    exact h1
  have hmemt : ∀ {i : Nat} {o : Oper}, ops[i]? = some o → i < n → (ops.toList.take n)[i]? = some o := by
    intro i o ho hi
    rw [List.getElem?_take, if_pos hi]
    exact hops ho
  have hflo : ∀ q, floatOk C ops.toList n q = true → ∃ (oL : Oper) (t : TypeId) (d : Nat), ops[q]? = some oL ∧ oL.op = .alloc t ∧ bldOf C t = none ∧ (C.ti t).size ≠ 0 ∧ oL.guard = none ∧ oL.dst = some d ∧ Nat.blt d C.ntmps = true ∧ q < n ∧
      ∀ (j : Nat) (p : Oper), ops[j]? = some p → j < n → j ≠ q → p.dst ≠ some d ∧ (∀ j' want, p.guard = some (j', want) → j' ≠ q) ∧ ((∀ x ∈ p.op.operands.toList, x ≠ .tmp d) ∨ ((kindOf C p.op).eff = true ∧ q < j)) := by
    intro q hlate
    unfold floatOk at hlate
    split at hlate
    · rename_i o ho
      split at hlate
      · rename_i t ht
        simp only [Bool.and_eq_true] at hlate
        obtain ⟨q1, q2, q3, q5, q4⟩ := hlate
        split at q4
        · rename_i d hd'
          simp only [Bool.and_eq_true] at q4
          refine ⟨o, t, d, by simpa using ho, ht, by simpa using q1, (fun e => by rw [e] at q2; cases q2), by simpa using q3, hd', q4.1, by rw [Nat.blt_eq] at q5; exact q5, fun j p hp hj hne => ?_⟩
          have h1 := all_zipIdx q4.2 (hmemt hp hj)
          have hbq : Nat.beq j q = false := by
            cases e : Nat.beq j q with
            | false => rfl
            | true => exact absurd (beq_true e) hne
          simp only [hbq, Bool.false_or, Bool.and_eq_true, Bool.or_eq_true, List.all_eq_true, Nat.blt_eq] at h1
          obtain ⟨r1, r2, r3⟩ := h1
          refine ⟨fun e => by simp [e] at r1, fun j' want e e2 => ?_, r3.imp (fun r x hx e => ?_) fun r => r⟩
          · rw [e, e2] at r2
            simp at r2
          · have := r x hx
            rw [e] at this
            simp at this
        · cases q4
      · cases hlate
    · cases hlate
  have htail : ∀ {i : Nat} {o : Oper}, ops[i]? = some o → n ≤ i → ∀ j, j < i → ∃ e ∈ o.after, Region.binds .any e = true ∧ e.on = j := by
    intro i o ho hi j hj
    have := all_zipIdx hd (hops ho)
    simp only [Bool.and_eq_true] at this
    have h1 := this.2
    have hb : Nat.blt i n = false := by
      cases e : Nat.blt i n with
      | false => rfl
      | true => rw [Nat.blt_eq] at e; omega
    simp only [hb, cond_false, tailOk, List.all_eq_true] at h1
    exact edgeOn_sound (h1 j (by simpa using hj))
  have hlen : ops.toList.length = ops.size := by simp
  have hhl : (ops.toList.take n).length = n := by rw [List.length_take]; omega
  have htake : ∀ {i : Nat} {o : Oper}, (ops.toList.take n)[i]? = some o → i < n ∧ ops[i]? = some o := by
    intro i o ho
    rw [List.getElem?_take] at ho
    split at ho
    · rename_i hi; exact ⟨hi, by simpa using ho⟩
    · cases ho
  have htake' : ∀ {i : Nat} {o : Oper}, i < n → ops[i]? = some o → (ops.toList.take n)[i]? = some o := by
    intro i o hi ho
    rw [List.getElem?_take, if_pos hi]
    exact hops ho
  have hE : ∀ j, j < (ops.toList.take n).length → effAt C (ops.toList.take n) j = effO C ops j := by
    intro j hj
    rw [hhl] at hj
    have ho : ops[j]? = some ops[j] := Array.getElem?_eq_getElem (by omega)
    simp only [effAt, effO, htake' hj ho, ho]
  have hdist : ∀ {i j : Nat} {o o' : Oper} {d : Nat}, ops[i]? = some o → i < n → ops[j]? = some o' → j < n → o.dst = some d → o'.dst = some d → i = j := by
    intro i j o o' d ho hi ho' hj h1 h2
    by_cases eiq : floatOk C ops.toList n i = true
    · by_cases ejq : j = i
      · omega
      · exfalso
        obtain ⟨oL, tL, dL, hoL, _, _, _, _, hdL, _, _, hused⟩ := hflo i eiq
        rw [hoL] at ho
        cases ho
        rw [hdL] at h1
        cases h1
        exact (hused j o' ho' hj ejq).1 h2
    have := hhead ho hi eiq
    simp only [headOk, Bool.and_eq_true] at this
    have h3 := this.1.1.1
    rw [h1] at h3
    have := all_zipIdx h3 (htake' hj ho')
    simp only [h2, Bool.or_eq_true] at this
    rcases this with k | k
    · exact (beq_true k).symm
    · simp at k
  generalize hms : masksOf ops.toList [] = ms at *
  have hordn : ∀ i, i ∈ drawOrd C (ops.toList.take n) ms ↔ i < n := by
    intro i
    unfold drawOrd
    rw [hhl]
    simp only [List.mem_append, List.mem_filter, List.mem_range, Bool.not_eq_true']
    cases early C (ops.toList.take n) ms i <;> simp
  have hnodup : (drawOrd C (ops.toList.take n) ms).Nodup := by
    unfold drawOrd
    rw [List.nodup_append]
    refine ⟨List.nodup_range.filter _, List.nodup_range.filter _, ?_⟩
    intro x hx y hy e
    subst e
    simp only [List.mem_filter] at hx hy
    rw [hx.2] at hy
    simp at hy
  obtain ⟨U, Ψ, Hs, frn, hHs0, hrest, hat, hend1, hend2⟩ := runs_D hc.ang _ _ _ hnodup (fun i hi => by have := (hordn i).1 hi; omega) h
  rw [drawOrd_cnt hE, hhl] at hrest
  have hfar : farOk C (ops.toList.take n) ms frn = true := by
    cases e : farOk C (ops.toList.take n) ms frn with
    | true => rfl
    | false => simp only [e, cond_false] at hrest
  simp only [hfar, cond_true] at hrest
  -- the number of effects ahead of one
  have hpos : ∀ {i : Nat} {o : Oper}, i < n → ops[i]? = some o → ∃ l1 l2, drawOrd C (ops.toList.take n) ms = l1 ++ i :: l2 ∧
      cntE C ops l1 = (bif early C (ops.toList.take n) ms i then 0 else cntE C ops (List.range i)) ∧
      (∀ j, j < i → (early C (ops.toList.take n) ms i = true → early C (ops.toList.take n) ms j = true) → j ∈ l1) ∧ (∀ j ∈ l1, j < n) := by
    intro i o hi ho
    obtain ⟨l1, l2, p1, p2, p3⟩ := drawOrd_pos (ms := ms) hE (show i < (ops.toList.take n).length by omega)
    refine ⟨l1, l2, p1, ?_, ?_, fun j hj => (hordn j).1 (by rw [p1]; simp [hj])⟩
    · cases he : early C (ops.toList.take n) ms i with
      | true => exact (p2 he).1
      | false => exact (p3 he).1
    · intro j hj hej
      cases he : early C (ops.toList.take n) ms i with
      | true => exact ((p2 he).2 j).2 ⟨hej he, hj⟩
      | false =>
        refine ((p3 he).2 j).2 ?_
        cases he' : early C (ops.toList.take n) ms j with
        | true => exact .inl ⟨rfl, by omega⟩
        | false => exact .inr ⟨rfl, hj⟩
  have heff : ∀ {i : Nat} {o : Oper}, ops[i]? = some o → effO C ops i = (kindOf C o.op).eff := by
    intro i o ho; simp only [effO, ho]
  have hearly : ∀ {i : Nat}, i < n → effO C ops i = true → early C (ops.toList.take n) ms i = false := by
    intro i hi he
    simp only [early, hE i (by omega), he, Bool.not_true, Bool.false_and]
  have hearlyd0 : ∀ {i : Nat} {o : Oper}, i < n → ops[i]? = some o → ∀ e ∈ o.after, Region.binds .any e = true → early C (ops.toList.take n) ms i = true → early C (ops.toList.take n) ms e.on = true := by
    intro i o hin hoi e he hb' hei
    have hlt := back hoi e he hb'
    have hmh := mask_has (hops hoi) he hb' hlt
    rw [hms] at hmh
    simp only [early, Bool.and_eq_true, Bool.not_eq_true', List.all_eq_true, List.mem_range, Bool.and_eq_false_iff] at hei ⊢
    have h1 := hei.2 e.on (by omega)
    refine ⟨?_, fun k hk => ?_⟩
    · rcases h1 with h1 | h1
      · exact h1
      · rw [hmh.1] at h1; cases h1
    · rcases hei.2 k hk with h2 | h2
      · exact .inl h2
      · refine .inr ?_
        cases e2 : (ms.getD e.on 0).testBit k with
        | false => rfl
        | true => rw [hmh.2 k e2] at h2; cases h2
  -- an operand's value at the end is what it was
  have hfin : ∀ {i : Nat} {o : Oper} {l1 l2 : List Nat}, i < n → ops[i]? = some o → drawOrd C (ops.toList.take n) ms = l1 ++ i :: l2 →
      (∀ j, j < i → (early C (ops.toList.take n) ms i = true → early C (ops.toList.take n) ms j = true) → j ∈ l1) → (∀ j ∈ l1, j < n) → ∀ t, Operand.tmp t ∈ o.op.operands → frn.get t = Ψ i t := by
    intro i o l1 l2 hin hoi hsp hin1 hl1n t ht
    by_cases eiq : floatOk C ops.toList n i = true
    · exfalso
      obtain ⟨oL, tL, dL, hoL, hopL, _⟩ := hflo i eiq
      rw [hoL] at hoi
      cases hoi
      rw [hopL] at ht
      simp [Op.operands] at ht
    obtain ⟨_, _, hψ1, hψ2⟩ := hat l1 i l2 o hsp hoi
    by_cases hw : ∀ (j : Nat) (o' : Oper), j < n → ops[j]? = some o' → o'.dst ≠ some t
    · rw [hψ1 t fun j hj o' hoj => hw j o' (hl1n j hj) hoj, hend1 t fun j hj o' hoj => hw j o' ((hordn j).1 hj) hoj]
    · simp only [Classical.not_forall] at hw
      obtain ⟨j, o', hj, hoj, hd'⟩ := hw
      simp only [ne_eq, Classical.not_not] at hd'
      have hho := hhead hoi hin eiq
      simp only [headOk, Bool.and_eq_true] at hho
      have h3 := all_zipIdx hho.1.1.2 (htake' hj hoj)
      simp only [hd', Bool.or_eq_true, Bool.not_eq_true', Bool.and_eq_true] at h3
      rcases h3 with k | ⟨k1, k2⟩
      · rw [List.any_eq_false] at k
        exact absurd (by simp) (k (.tmp t) (by simpa using ht))
      · rw [Nat.blt_eq] at k1
        obtain ⟨e, he1, he2, he3⟩ := edgeOn_sound k2
        have hjl : j ∈ l1 := hin1 j k1 fun hei => by rw [← he3]; exact hearlyd0 hin hoi e he1 he2 hei
        rw [hψ2 j o' t hjl hoj hd' fun k hk hne o'' hok e' => hne (hdist hok ((hordn k).1 hk) hoj hj e' hd'),
          hend2 j o' t ((hordn j).2 hj) hoj hd' fun k hk hne o'' hok e' => hne (hdist hok ((hordn k).1 hk) hoj hj e' hd')]
  -- behind the head the order is told
  have tail : ∀ (f : Nat) (k : Nat) (listed : Array Bool) (fr : Fr) (H : Heap) (a : Act) (w : World), n ≤ k → k + f = ops.size → listed.size = ops.size → (∀ j, j < k → listed.getD j false = true) → (∀ j, k ≤ j → listed.getD j false = false) →
      evalOps C ops (ops.toList.drop k) fr H K → Good C w0 M0 own0 fr H a w → wpAny P .any ops Q f listed a w := by
    intro f
    induction f with
    | zero =>
      intro k listed fr H a w hk hkf hls h1 h2 he hg
      have hall : Region.ready .any ops listed = [] := by
        rw [List.eq_nil_iff_forall_not_mem]
        intro j hj
        rw [mem_ready] at hj
        obtain ⟨p1, o, ho, _⟩ := hj
        have hlt : j < ops.size := (Array.getElem?_eq_some_iff.1 ho).1
        have := h1 j (by omega)
        rw [getD_get (by omega) true false] at p1
        rw [p1] at this; cases this
      refine ⟨hall, ?_⟩
      rw [List.drop_of_length_le (by rw [hlen]; omega)] at he
      exact hq fr H he a w hg
    | succ f ih =>
      intro k listed fr H a w hk hkf hls h1 h2 he hg
      have hklt : k < ops.size := by omega
      have hko : ops[k]? = some ops[k] := Array.getElem?_eq_getElem hklt
      have hready : ∀ j ∈ Region.ready .any ops listed, j = k := by
        intro j hj
        rw [mem_ready] at hj
        obtain ⟨p1, o, ho, p2⟩ := hj
        have hlt : j < ops.size := (Array.getElem?_eq_some_iff.1 ho).1
        rcases Nat.lt_trichotomy j k with hjk | rfl | hjk
        · have := h1 j hjk
          rw [getD_get (by omega) true false] at p1
          rw [p1] at this; cases this
        · rfl
        · obtain ⟨e, he, hb, hon⟩ := htail ho (by omega) k hjk
          have := p2 e he hb
          rw [hon, h2 k (Nat.le_refl _)] at this
          cases this
      have hin : k ∈ Region.ready .any ops listed := by
        rw [mem_ready]
        refine ⟨by rw [getD_get (by omega) true false]; exact h2 k (Nat.le_refl _), _, hko, fun e he hb => h1 _ (back hko e he hb)⟩
      refine ⟨(fun hnil => by rw [hnil] at hin; cases hin), fun j hj => ?_⟩
      have := hready j hj
      subst this
      have hdrop : ops.toList.drop j = ops[j] :: ops.toList.drop (j + 1) := by
        rw [List.drop_eq_getElem_cons (by rw [hlen]; exact hklt)]
        simp
      rw [hdrop] at he
      have hl1 : ∀ i, i < j + 1 → (listed.setIfInBounds j true).getD i false = true := by
        intro i hi
        by_cases e : i = j
        · subst e; simp [show i < listed.size by omega]
        · rw [getD_set_ne false (fun e' => e e'.symm)]; exact h1 i (by omega)
      have hl2 : ∀ i, j + 1 ≤ i → (listed.setIfInBounds j true).getD i false = false := by
        intro i hi
        rw [getD_set_ne false (by omega)]; exact h2 i (by omega)
      have key : ∀ (Kn : Act → World → Prop), (∀ fr1 H1 a1 w1, evalOps C ops (ops.toList.drop (j + 1)) fr1 H1 K → Good C w0 M0 own0 fr1 H1 a1 w1 → Kn a1 w1) → wpOp P ops Q j Kn a w := by
        intro Kn hKn
        obtain ⟨s1, s2⟩ := evalOps_step (Q := Q) L hc he hg hKn
        unfold wpOp
        rw [hko]
        simp only
        cases hw : Region.wanted ops[j] (yielded ops a.tmps) with
        | true => rw [if_pos rfl]; exact .inl (s1 hw)
        | false => rw [if_neg (by simp)]; exact s2 hw
      exact key _ fun fr1 H1 a1 w1 k1 k2 => ih (j + 1) _ fr1 H1 a1 w1 (by omega) (by omega) (by simpa using hls) hl1 hl2 k1 k2

  -- the head, in whatever order
  have count : ∀ (n : Nat) (listed : Array Bool), (∀ j, j < n → listed.getD j false = true) → (∀ j, n ≤ j → listed.getD j false = false) → ∀ m, unl listed (n + m) = m := by
    intro n listed h1 h2 m
    induction m with
    | zero => exact unl_all n h1
    | succ m ih =>
      rw [← Nat.add_assoc]
      simp only [unl, ih, h2 (n + m) (by omega)]
      rfl
  have finish : ∀ (f : Nat) (listed : Array Bool) (a : Act) (w : World) (g : List G) (M : Mem) (m : Nat), n + f = ops.size → listed.size = ops.size → (∀ j, j < n → listed.getD j false = true) → (∀ j, n ≤ j → listed.getD j false = false) →
      m ≤ cntE C ops (List.range n) → (∀ j, j < n → effO C ops j = true → (listed.getD j false = true ↔ cntE C ops (List.range j) < m)) → HR (Hs m) g M w → Base w0 M0 own0 (Hs m) g M w → a.tmps.size = C.ntmps → a.defers = [] →
      (∀ (j : Nat) (o : Oper) (d : Nat), j < n → ops[j]? = some o → o.dst = some d → listed.getD j false = true → VR g M (U j) (a.tmps.getD d Go.undef)) →
      (∀ t, (∀ (j : Nat) (o : Oper), j < n → ops[j]? = some o → o.dst ≠ some t) → VR g M (fr.get t) (a.tmps.getD t Go.undef)) → wpAny P .any ops Q f listed a w := by
    intro f listed a w g M m hnf hls hall htl hmle hmiff hr hb hsz hdf hh ho
    have hmeq : m = cntE C ops (List.range n) := by
      rcases Nat.lt_or_ge m (cntE C ops (List.range n)) with hlt | hge
      · obtain ⟨j, h1, h2, h3⟩ := cnt_hit n hlt
        have := (hmiff j h1 h2).1 (hall j h1)
        omega
      · omega
    subst hmeq
    refine tail f n listed frn _ a w (Nat.le_refl _) hnf hls hall htl hrest ⟨g, M, ⟨fun t => ?_, hsz, hdf⟩, hr, hb⟩
    by_cases ht : ∀ (j : Nat) (o : Oper), j < n → ops[j]? = some o → o.dst ≠ some t
    · rw [hend1 t fun j hj o' hoj => ht j o' ((hordn j).1 hj) hoj]
      exact ho t ht
    · simp only [Classical.not_forall] at ht
      obtain ⟨j, o, hj, hoj, hd'⟩ := ht
      simp only [ne_eq, Classical.not_not] at hd'
      rw [hend2 j o t ((hordn j).2 hj) hoj hd' fun k hk hne o'' hok e => hne (hdist hok ((hordn k).1 hk) hoj hj e hd')]
      exact hh j o t hj hoj hd' (hall j hj)
  -- allocations have been done, and nothing else knows of them
  let Tr : World → Mem → Z → Prop := fun w1 M1 z1 => w0.heap.size ≤ w1.heap.size ∧ (∀ b, b < w0.heap.size → ¬ own0.own b → w1.heap[b]? = w0.heap[b]?) ∧ (∀ b, z1.own b → own0.own b ∨ w0.heap.size ≤ b) ∧ (∀ b cs, M0 b = some cs → M1 b = some cs) ∧
    (∀ b cs, M1 b = some cs → M0 b = some cs ∨ own0.own b ∨ w0.heap.size ≤ b) ∧ (w1.os = w0.os ∧ w1.tape = w0.tape ∧ w1.output = w0.output) ∧ ∀ id x, own0.gx id x → z1.gx id x
  have trB : ∀ {w1 : World} {M1 : Mem} {z1 : Z}, Tr w1 M1 z1 → ∀ {H : Heap} {g : List G} {M : Mem} {w : World}, Base w1 M1 z1 H g M w → Base w0 M0 own0 H g M w := by
    rintro w1 M1 z1 ⟨t1, t2, t3, t4, t5, ⟨t6, t7, t8⟩, t9⟩ H g M w hb
    refine ⟨Nat.le_trans t1 hb.size, fun b q1 q2 => ?_, fun b q => ?_, fun b cs q => hb.mle b cs (t4 b cs q), fun b cs q => ?_, hb.os.trans t6, hb.tape.trans t7, hb.output.trans t8, fun id x q => hb.gbox id x (t9 id x q)⟩
    · rw [hb.keep b (by omega) fun k => by
        rcases t3 b k with k | k
        · exact q2 k
        · omega]
      exact t2 b q1 q2
    · rcases hb.own b q with k | k
      · exact t3 b k
      · exact .inr (by omega)
    · rcases hb.mnew b cs q with k | k | k
      · exact t5 b cs k
      · rcases t3 b k with k | k
        · exact .inr (.inl k)
        · exact .inr (.inr k)
      · exact .inr (.inr (by omega))
  let PendQ : World → Mem → Z → Act → Nat → Nat → Prop := fun w1 M1 z1 a q b => ∃ (oL : Oper) (tL : TypeId) (dL : Nat), ops[q]? = some oL ∧ oL.op = .alloc tL ∧ oL.dst = some dL ∧ a.tmps.getD dL Go.undef = .pointer (some ⟨b, 0, none⟩) ∧ b < w1.heap.size ∧ w1.heap[b]? = some (.cells (C.ti tL).zero.cells tL (0, 0)) ∧ M1 b = none ∧ ¬ z1.own b ∧ w0.heap.size ≤ b
  let Pend : World → Mem → Z → Act → List Nat → Prop := fun w1 M1 z1 a pl => ∃ bf : Nat → Nat, (∀ q ∈ pl, PendQ w1 M1 z1 a q (bf q)) ∧ ∀ q ∈ pl, ∀ q' ∈ pl, bf q = bf q' → q = q'
  have heA : ∀ q, floatOk C ops.toList n q = true → effO C ops q = true := by
    intro q hq'
    obtain ⟨oL, tL, dL, hoL, hopL, _⟩ := hflo q hq'
    rw [heff hoL, hopL]
    rfl
  have hinj : ∀ {i j : Nat}, effO C ops i = true → effO C ops j = true → cntE C ops (List.range i) = cntE C ops (List.range j) → i = j := by
    intro i j hi hj e
    rcases Nat.lt_trichotomy i j with h' | h' | h'
    · have := cntE_range_lt C ops h' hi; omega
    · exact h'
    · have := cntE_range_lt C ops h' hj; omega
  have adopt : ∀ (q : Nat) (_ : floatOk C ops.toList n q = true) (b : Nat) (a : Act) (w : World) (g : List G) (M : Mem) (w1 : World) (M1 : Mem) (z1 : Z) (m : Nat), cntE C ops (List.range q) = m → HR (Hs m) g M w → Base w1 M1 z1 (Hs m) g M w → PendQ w1 M1 z1 a q b →
      ∃ g', HR (Hs (m + 1)) g' M w ∧ Base w1 M1 ⟨fun x => z1.own x ∨ x = b, z1.gx, z1.n, z1.lt, z1.fx⟩ (Hs (m + 1)) g' M w ∧ Ext g M g' M ∧ ∀ o d, ops[q]? = some o → o.dst = some d → VR g' M (U q) (a.tmps.getD d Go.undef) := by
    rintro q hfl b a w g M w1 M1 z1 m hp hr hb ⟨oL, tL, dL, ho', hop', hd'', hb1, hb2, hb3, hb4, hb5, hb6⟩
    obtain ⟨oL', tL', dL', hoL, hopL, hbL, hzL, hgL, hdL, hdlt, hqn, hused⟩ := hflo q hfl
    rw [hoL] at ho'
    cases ho'
    rw [hopL] at hop'
    cases hop'
    rw [hdL] at hd''
    cases hd''
    have hz : (!Nat.beq (C.ti tL).size 0) = true := by
      cases e : Nat.beq (C.ti tL).size 0 with
      | false => rfl
      | true => exact absurd (beq_true e) hzL
    have hApp : U q = .ptr (Hs m).length 0 ∧ Hs (m + 1) = Hs m ++ [.box (zeroCells (C.ti tL))] := by
      obtain ⟨l1, l2, hsp, hcnt, hin1, hl1n⟩ := hpos hqn hoL
      obtain ⟨hran, _⟩ := hat l1 q l2 oL hsp hoL
      rw [hcnt, hearly hqn (heA q hfl), cond_false, hp, heA q hfl, cond_true] at hran
      rcases hran with ⟨fr', _, hev, _⟩ | ⟨_, _, j, want, dg, hgd, _⟩
      · have := hev (fun v H' => v = U q ∧ H' = Hs (m + 1)) ⟨rfl, rfl⟩
        simp only [evalOpD, evalOp, hopL, hbL, hz, cond_true] at this
        exact ⟨this.1.symm, this.2.symm⟩
      · rw [hgL] at hgd; cases hgd
    have hbw : w.heap[b]? = some (.cells (C.ti tL).zero.cells tL (0, 0)) := (hb.keep b hb2 hb5).trans hb3
    have hbM : M b = none := by
      cases e : M b with
      | none => rfl
      | some cs =>
        rcases hb.mnew b cs e with k | k | k
        · rw [hb4] at k; cases k
        · exact absurd k hb5
        · omega
    have hbO : ¬ Own (Hs m) g b := fun k => by
      rcases hb.own b k with k | k
      · exact hb5 k
      · omega
    have hE := Ext.snoc g M (.box b)
    have hr2 : HR (Hs m ++ [.box (zeroCells (C.ti tL))]) (g ++ [.box b]) M w := hr.adopt1 hbw ((VRs_ofVal1 g M _).mono hE) (clear_zero _) hbM hbO
    have hbase2 : Base w1 M1 ⟨fun x => z1.own x ∨ x = b, z1.gx, z1.n, z1.lt, z1.fx⟩ (Hs m ++ [.box (zeroCells (C.ti tL))]) (g ++ [.box b]) M w := by
      refine ⟨hb.size, fun b' k1 k2 => hb.keep b' k1 fun k => k2 (.inl k), fun b' hb' => ?_, hb.mle, fun b' cs k => ?_, hb.os, hb.tape, hb.output, fun id x hx => ?_⟩
      · rcases own_snoc hr.len hb' with k | k
        · exact (hb.own b' k).imp .inl fun k => k
        · simp only [ownB] at k
          exact .inl (.inr (by first | exact k | exact k.symm))
      · rcases hb.mnew b' cs k with k | k | k
        · exact .inl k
        · exact .inr (.inl (.inl k))
        · exact .inr (.inr k)
      · have := hb.gbox id x hx
        rw [List.getElem?_append_left (lt_of_get this)]; exact this
    refine ⟨g ++ [.box b], by rw [hApp.2]; exact hr2, by rw [hApp.2]; exact hbase2, hE, fun o d e1 e2 => ?_⟩
    rw [hoL] at e1
    cases e1
    rw [hdL] at e2
    cases e2
    rw [hApp.1, hb1]
    exact .ptr _ 0 b (by rw [hr.len, List.getElem?_append_right (Nat.le_refl _), Nat.sub_self]; rfl)
  have headx : ∀ (f : Nat) (pl : List Nat) (w1 : World) (M1 : Mem) (z1 : Z) (_ : CallsOk P C M1 z1) (listed : Array Bool) (a : Act) (w : World), listed.size = ops.size → unl listed ops.size = f → (∀ j, n ≤ j → listed.getD j false = false) → (∀ q ∈ pl, floatOk C ops.toList n q = true ∧ listed.getD q false = true) →
      Tr w1 M1 z1 → Pend w1 M1 z1 a pl →
      (∀ (j : Nat) (o : Oper), ops[j]? = some o → listed.getD j false = true → ∀ e ∈ o.after, Region.binds .any e = true → listed.getD e.on false = true) →
      (∃ g M m, m ≤ cntE C ops (List.range n) ∧ (∀ q ∈ pl, m < cntE C ops (List.range q)) ∧ (∀ j, j < n → effO C ops j = true → j ∉ pl → (listed.getD j false = true ↔ cntE C ops (List.range j) < m)) ∧ HR (Hs m) g M w ∧ Base w1 M1 z1 (Hs m) g M w ∧ a.tmps.size = C.ntmps ∧ a.defers = [] ∧
        (∀ (j : Nat) (o : Oper) (d : Nat), j < n → ops[j]? = some o → o.dst = some d → listed.getD j false = true → j ∉ pl → VR g M (U j) (a.tmps.getD d Go.undef)) ∧
        (∀ t, (∀ (j : Nat) (o : Oper), j < n → ops[j]? = some o → o.dst ≠ some t) → VR g M (fr.get t) (a.tmps.getD t Go.undef))) → wpAny P .any ops Q f listed a w := by
    have noPend : ∀ (pl : List Nat) (listed : Array Bool) (m : Nat), (∀ j, j < n → listed.getD j false = true) → (∀ q ∈ pl, floatOk C ops.toList n q = true ∧ listed.getD q false = true) → (∀ q ∈ pl, m < cntE C ops (List.range q)) → (∀ j, j < n → effO C ops j = true → j ∉ pl → (listed.getD j false = true ↔ cntE C ops (List.range j) < m)) → pl = [] := by
      intro pl listed m hall hpl hmp hmiff
      cases pl with
      | nil => rfl
      | cons q pl =>
        exfalso
        have h1 := hmp q (by simp)
        obtain ⟨_, _, _, _, _, _, _, _, _, _, hqn, _⟩ := hflo q (hpl q (by simp)).1
        obtain ⟨j, k1, k2, k3⟩ := cnt_hit q h1
        have := (hmiff j (by omega) k2 fun hj => by have := hmp j hj; omega).1 (hall j (by omega))
        omega
    intro f
    induction f with
    | zero =>
      rintro pl w1 M1 z1 hc1 listed a w hls hun htl hpl hTr hpend hcl ⟨g, M, m, hmle, hmp, hmiff, hr, hb, hsz, hdf, hh, ho⟩
      have hall := unl_zero ops.size hun
      have hnn : n = ops.size := by
        rcases Nat.lt_or_ge n ops.size with h' | h'
        · have h1 := hall n h'
          rw [htl n (Nat.le_refl _)] at h1; cases h1
        · omega
      have hpf := noPend pl listed m (fun j hj => hall j (by omega)) hpl hmp hmiff
      subst hpf
      exact finish 0 listed a w g M m (by omega) hls (fun j hj => hall j (by omega)) htl hmle (fun j hj he => hmiff j hj he (by simp)) hr (trB hTr hb) hsz hdf (fun j o d hj hoj hd' hl => hh j o d hj hoj hd' hl (by simp)) ho
    | succ f ih =>
      -- on with the allocations, as ones that are known where their turn has come
      have resume : ∀ (k : Nat) (pl : List Nat) (w1 : World) (M1 : Mem) (z1 : Z) (_ : CallsOk P C M1 z1) (listed : Array Bool) (a : Act) (w : World) (g : List G) (M : Mem) (m : Nat), cntE C ops (List.range n) - m = k → listed.size = ops.size → unl listed ops.size = f → (∀ j, n ≤ j → listed.getD j false = false) → (∀ q ∈ pl, floatOk C ops.toList n q = true ∧ listed.getD q false = true) → Tr w1 M1 z1 → Pend w1 M1 z1 a pl →
          (∀ (j : Nat) (o : Oper), ops[j]? = some o → listed.getD j false = true → ∀ e ∈ o.after, Region.binds .any e = true → listed.getD e.on false = true) →
          m ≤ cntE C ops (List.range n) → (∀ q ∈ pl, m ≤ cntE C ops (List.range q)) → (∀ j, j < n → effO C ops j = true → j ∉ pl → (listed.getD j false = true ↔ cntE C ops (List.range j) < m)) → HR (Hs m) g M w → Base w1 M1 z1 (Hs m) g M w → a.tmps.size = C.ntmps → a.defers = [] →
          (∀ (j : Nat) (o : Oper) (d : Nat), j < n → ops[j]? = some o → o.dst = some d → listed.getD j false = true → j ∉ pl → VR g M (U j) (a.tmps.getD d Go.undef)) →
          (∀ t, (∀ (j : Nat) (o : Oper), j < n → ops[j]? = some o → o.dst ≠ some t) → VR g M (fr.get t) (a.tmps.getD t Go.undef)) → wpAny P .any ops Q f listed a w := by
        intro k
        induction k with
        | zero =>
          intro pl w1 M1 z1 hc1 listed a w g M m hk hls hun htl hpl hTr hpend hcl hmle hmp hmiff hr hb hsz hdf hh ho
          refine ih pl w1 M1 z1 hc1 listed a w hls hun htl hpl hTr hpend hcl ⟨g, M, m, hmle, fun q hq' => ?_, hmiff, hr, hb, hsz, hdf, hh, ho⟩
          exfalso
          obtain ⟨_, _, _, _, _, _, _, _, _, _, hqn, _⟩ := hflo q (hpl q hq').1
          have h1 := cntE_range_lt C ops hqn (heA q (hpl q hq').1)
          have := hmp q hq'
          omega
        | succ k ihk =>
          intro pl w1 M1 z1 hc1 listed a w g M m hk hls hun htl hpl hTr hpend hcl hmle hmp hmiff hr hb hsz hdf hh ho
          by_cases hex : ∃ q ∈ pl, cntE C ops (List.range q) = m
          · obtain ⟨q, hqp, hpq⟩ := hex
            obtain ⟨hfl, hlq⟩ := hpl q hqp
            obtain ⟨bf, hbf1, hbf2⟩ := hpend
            obtain ⟨g', r1, r2, r3, r4⟩ := adopt q hfl (bf q) a w g M w1 M1 z1 m hpq hr hb (hbf1 q hqp)
            obtain ⟨oL, tL, dL, hoL, hopL, hbL, hzL, hgL, hdL, hdlt, hqn, hused⟩ := hflo q hfl
            obtain ⟨_, _, _, _, _, _, _, _, _, _, _, hbq⟩ := hbf1 q hqp
            have hpn : cntE C ops (List.range q) < cntE C ops (List.range n) := cntE_range_lt C ops hqn (heA q hfl)
            have hmem : ∀ {x : Nat}, x ∈ pl.filter (fun x => !Nat.beq x q) ↔ x ∈ pl ∧ x ≠ q := by
              intro x
              rw [List.mem_filter]
              refine and_congr_right fun _ => ?_
              cases e : Nat.beq x q with
              | true => have := beq_true e; simp [this]
              | false =>
                have : x ≠ q := fun e' => by subst e'; rw [Nat.beq_refl] at e; cases e
                simp [this]
            obtain ⟨t1, t2, t3, t4, t5, t6, t9⟩ := hTr
            refine ihk (pl.filter fun x => !Nat.beq x q) w1 M1 ⟨fun x => z1.own x ∨ x = bf q, z1.gx, z1.n, z1.lt, z1.fx⟩ ⟨hc1.1, hc1.2.1, hc1.2.2⟩ listed a w g' M (m + 1) (by omega) hls hun htl (fun x hx => hpl x (hmem.1 hx).1) ⟨t1, t2, fun b k => ?_, t4, t5, t6, t9⟩ ⟨bf, fun x hx => ?_, fun x hx y hy => hbf2 x (hmem.1 hx).1 y (hmem.1 hy).1⟩ hcl (by omega) (fun x hx => ?_) (fun j hj he hjp => ?_) r1 r2 hsz hdf (fun j o d hj hoj hd' hl hjp => ?_) (fun t ht => (ho t ht).mono r3)
            · rcases k with k | k
              · exact t3 b k
              · exact .inr (by omega)
            · obtain ⟨hx1, hx2⟩ := hmem.1 hx
              obtain ⟨c1, c2, c3, c4, c5, c6, c7, c8, c9, c10, c11, c12⟩ := hbf1 x hx1
              exact ⟨c1, c2, c3, c4, c5, c6, c7, c8, c9, c10, (fun k => k.elim c11 fun k => hx2 (hbf2 x hx1 q hqp k)), c12⟩
            · obtain ⟨hx1, hx2⟩ := hmem.1 hx
              have h1 := hmp x hx1
              rcases Nat.lt_or_ge m (cntE C ops (List.range x)) with h2 | h2
              · omega
              · exact absurd (hinj (heA x (hpl x hx1).1) (heA q hfl) (by omega)) hx2
            · by_cases ejq : j = q
              · rw [ejq, hlq, hpq]
                simp
              · rw [hmiff j hj he fun hj' => hjp (hmem.2 ⟨hj', ejq⟩)]
                rcases Nat.lt_or_ge j q with hjq | hjq
                · have := cntE_range_lt C ops hjq he
                  omega
                · have := cntE_range_lt C ops (show q < j by omega) (heA q hfl)
                  omega
            · by_cases ejq : j = q
              · rw [ejq] at hoj ⊢
                exact r4 o d hoj hd'
              · exact (hh j o d hj hoj hd' hl fun hj' => hjp (hmem.2 ⟨hj', ejq⟩)).mono r3
          · refine ih pl w1 M1 z1 hc1 listed a w hls hun htl hpl hTr hpend hcl ⟨g, M, m, hmle, fun q hq' => ?_, hmiff, hr, hb, hsz, hdf, hh, ho⟩
            have h1 := hmp q hq'
            rcases Nat.lt_or_ge m (cntE C ops (List.range q)) with h2 | h2
            · exact h2
            · exact absurd ⟨q, hq', by omega⟩ hex
      rintro pl w1 M1 z1 hc1 listed a w hls hun htl hpl hTr hpend hcl ⟨g, M, m, hmle, hmp, hmiff, hr, hb, hsz, hdf, hh, ho⟩
      by_cases hall : ∀ j, j < n → listed.getD j false = true
      · have hpf := noPend pl listed m hall hpl hmp hmiff
        subst hpf
        have := count n listed hall htl (ops.size - n)
        rw [show n + (ops.size - n) = ops.size by omega] at this
        exact finish (f + 1) listed a w g M m (by omega) hls hall htl hmle (fun j hj he => hmiff j hj he (by simp)) hr (trB hTr hb) hsz hdf (fun j o d hj hoj hd' hl => hh j o d hj hoj hd' hl (by simp)) ho
      · -- the least one that is not listed may come up
        have hmin : ∃ j, j < n ∧ listed.getD j false = false ∧ ∀ i, i < j → listed.getD i false = true := by
          simp only [Classical.not_forall] at hall
          obtain ⟨j, hj, hlj⟩ := hall
          induction j using Nat.strongRecOn with
          | _ j ihj =>
            by_cases hless : ∀ i, i < j → listed.getD i false = true
            · exact ⟨j, hj, by simpa using hlj, hless⟩
            · simp only [Classical.not_forall] at hless
              obtain ⟨i, hi, hli⟩ := hless
              exact ihj i hi (by omega) hli
        obtain ⟨j0, hj0, hlj0, hless⟩ := hmin
        have hj0s : j0 < ops.size := by omega
        have hj0r : j0 ∈ Region.ready .any ops listed := by
          rw [mem_ready]
          have hko : ops[j0]? = some ops[j0] := Array.getElem?_eq_getElem hj0s
          refine ⟨by rw [getD_get (by omega) true false]; exact hlj0, _, hko, fun e he hbb => hless _ (back hko e he hbb)⟩
        refine ⟨(fun hnil => by rw [hnil] at hj0r; cases hj0r), fun i hi => ?_⟩
        rw [mem_ready] at hi
        obtain ⟨hi1, o, hoi, hi2⟩ := hi
        have his : i < ops.size := (Array.getElem?_eq_some_iff.1 hoi).1
        have hli : listed.getD i false = false := by rw [getD_get (by omega) false true]; exact hi1
        have hipl : i ∉ pl := fun h' => by rw [(hpl i h').2] at hli; cases hli
        by_cases hiL : floatOk C ops.toList n i = true
        · -- an allocation
          obtain ⟨oL, tL, dL, hoL, hopL, hbL, hzL, hgL, hdL, hdlt, hqn, hused⟩ := hflo i hiL
          have hmle2 : m ≤ cntE C ops (List.range i) := by
            rcases Nat.lt_or_ge (cntE C ops (List.range i)) m with h' | h'
            · have := (hmiff i hqn (heA i hiL) hipl).2 h'
              rw [hli] at this; cases this
            · exact h'
          have eo : o = oL := by rw [hoL] at hoi; exact (Option.some.inj hoi).symm
          subst eo
          unfold wpOp
          rw [hoi]
          simp only
          have hw : Region.wanted o (yielded ops a.tmps) = true := by simp [Region.wanted, hgL]
          rw [if_pos hw]
          left
          have F := L.get (t := tL) (.inr hzL)
          have hold : ∀ b, b < w.heap.size → (w.alloc (.cells (C.ti tL).zero.cells tL)).heap[b]? = w.heap[b]? := by
            intro b hb'
            show (w.heap.push _)[b]? = _
            rw [Array.getElem?_push, if_neg (by omega)]
          have Fm : Frame0 w (w.alloc (.cells (C.ti tL).zero.cells tL)) M M := ⟨by simp, hold, fun _ _ h => h, fun _ _ h => .inl h, rfl, rfl, rfl⟩
          have hmem : MemOk M (w.alloc (.cells (C.ti tL).zero.cells tL)) := by
            intro b cs hm'
            obtain ⟨c, T, fz, k1, k2⟩ := hr.mem b cs hm'
            exact ⟨c, T, fz, (hold b (lt_of_cells k1)).trans k1, k2⟩
          have hsz2 : (w.alloc (.cells (C.ti tL).zero.cells tL)).heap.size = w.heap.size + 1 := by simp
          have hown : ¬ Own (Hs m) g w.heap.size := by
            rintro ⟨id', o', x', q1, q2, q3⟩
            have := (Ev.own_lt (hr.ob id' o' x' q1 q2) q3).1
            omega
          have hMn : M w.heap.size = none := by
            cases hm' : M w.heap.size with
            | none => rfl
            | some cs' =>
              obtain ⟨c', T', fz', k1, k2⟩ := hr.mem _ _ hm'
              have := lt_of_cells k1
              omega
          have hb0 := trB hTr hb
          have hbs := hb0.size
          have hbs1 := hb.size
          obtain ⟨bf, hbf1, hbf2⟩ := hpend
          refine Oper.wp_value (val := .pointer (some ⟨w.heap.size, 0, none⟩)) (w' := w.alloc (.cells (C.ti tL).zero.cells tL)) (by simp [execOp, hopL, Instr.alloc, F.run_zeroValue, newVar, newRow]) ?_
          have hset : ∀ k, k ≠ i → (listed.setIfInBounds i true).getD k false = listed.getD k false := fun k hk => getD_set_ne false (fun e => hk e.symm)
          have hseti : (listed.setIfInBounds i true).getD i false = true := by simp [show i < listed.size by omega]
          have hput : ∀ t, t ≠ dL → (a.put o.dst (.pointer (some ⟨w.heap.size, 0, none⟩))).tmps.getD t Go.undef = a.tmps.getD t Go.undef := by
            intro t ht
            rw [hdL]
            simp only [Act.put]
            simp [Array.getD_eq_getD_getElem?, Array.getElem?_setIfInBounds, Ne.symm ht]
          have hputd : (a.put o.dst (.pointer (some ⟨w.heap.size, 0, none⟩))).tmps.getD dL Go.undef = .pointer (some ⟨w.heap.size, 0, none⟩) := by
            rw [hdL]
            simp only [Act.put]
            rw [Nat.blt_eq] at hdlt
            simp [Array.getD, hsz, hdlt]
          have hgx : ∀ id x, own0.gx id x → z1.gx id x := hTr.2.2.2.2.2.2
          refine resume _ (i :: pl) (w.alloc (.cells (C.ti tL).zero.cells tL)) M ⟨Own (Hs m) g, z1.gx, z1.n, z1.lt, z1.fx⟩ ⟨hc1.1.mono hb.mle, hc1.2.1, hc1.2.2⟩ _ _ _ g M m rfl (by simpa using hls) ?_ (fun j hj => by rw [hset j (by omega)]; exact htl j hj) (fun x hx => ?_)
            ⟨by omega, fun b k1 k2 => (hold b (by omega)).trans (hb0.keep b k1 k2), hb0.own, hb0.mle, hb0.mnew, ⟨hb0.os, hb0.tape, hb0.output⟩, hgx⟩ ⟨fun x => bif Nat.beq x i then w.heap.size else bf x, fun x hx => ?_, fun x hx y hy e => ?_⟩ ?_ hmle (fun x hx => ?_) (fun j hj he hjp => ?_) (hr.frame Fm hmem) ⟨Nat.le_refl _, fun _ _ _ => rfl, fun _ h' => .inl h', fun _ _ h' => h', fun _ _ h' => .inl h', rfl, rfl, rfl, hb.gbox⟩ ?_ ?_ ?_ ?_
          · have := unl_set (listed := listed) (i := i) (by omega) hli ops.size his
            omega
          · by_cases e : x = i
            · rw [e]; exact ⟨hiL, hseti⟩
            · rw [hset x e]
              rcases List.mem_cons.1 hx with h' | h'
              · exact absurd h' e
              · exact hpl x h'
          · by_cases e : x = i
            · simp only [e, Nat.beq_refl, cond_true]
              exact ⟨o, tL, dL, hoL, hopL, hdL, hputd, by omega, by show (w.heap.push _)[_]? = _; simp, hMn, hown, hbs⟩
            · have hbx : Nat.beq x i = false := by
                cases e' : Nat.beq x i with
                | false => rfl
                | true => exact absurd (beq_true e') e
              have hx' : x ∈ pl := by
                rcases List.mem_cons.1 hx with h' | h'
                · exact absurd h' e
                · exact h'
              simp only [hbx, cond_false]
              obtain ⟨c1, c2, c3, c4, c5, c6, c7, c8, c9, c10, c11, c12⟩ := hbf1 x hx'
              have hxn : x < n := by
                obtain ⟨_, _, _, _, _, _, _, _, _, _, hxn, _⟩ := hflo x (hpl x hx').1
                exact hxn
              refine ⟨c1, c2, c3, c4, c5, c6, by rw [hput c3 fun e' => (hused x c1 c4 hxn e).1 (e' ▸ c6)]; exact c7, by omega, ?_, ?_, fun k => ?_, c12⟩
              · rw [hold _ (by omega), hb.keep _ c8 c11]; exact c9
              · cases e' : M (bf x) with
                | none => rfl
                | some cs =>
                  rcases hb.mnew _ cs e' with k | k | k
                  · rw [c10] at k; cases k
                  · exact absurd k c11
                  · omega
              · rcases hb.own _ k with k | k
                · exact c11 k
                · omega
          · have hlt : ∀ x ∈ pl, bf x < w.heap.size := fun x hx => by
              obtain ⟨c1, c2, c3, c4, c5, c6, c7, c8, c9, c10, c11, c12⟩ := hbf1 x hx
              omega
            have hne : ∀ {x : Nat}, x ∈ i :: pl → x ≠ i → Nat.beq x i = false ∧ x ∈ pl := by
              intro x hx e
              refine ⟨?_, ?_⟩
              · cases e' : Nat.beq x i with
                | false => rfl
                | true => exact absurd (beq_true e') e
              · rcases List.mem_cons.1 hx with h' | h'
                · exact absurd h' e
                · exact h'
            by_cases ex : x = i <;> by_cases ey : y = i
            · rw [ex, ey]
            · obtain ⟨k1, k2⟩ := hne hy ey
              simp only [ex, Nat.beq_refl, k1, cond_true, cond_false] at e
              have := hlt y k2
              omega
            · obtain ⟨k1, k2⟩ := hne hx ex
              simp only [ey, Nat.beq_refl, k1, cond_true, cond_false] at e
              have := hlt x k2
              omega
            · obtain ⟨k1, k2⟩ := hne hx ex
              obtain ⟨k3, k4⟩ := hne hy ey
              simp only [k1, k3, cond_false] at e
              exact hbf2 x k2 y k4 e
          · intro j o' hoj hlj e he hb'
            have key : listed.getD e.on false = true → (listed.setIfInBounds i true).getD e.on false = true := fun q => by
              by_cases ee : e.on = i
              · rw [ee]; exact hseti
              · rw [hset _ ee]; exact q
            by_cases e' : j = i
            · subst e'
              rw [hoi] at hoj; cases hoj
              exact key (hi2 e he hb')
            · rw [hset j e'] at hlj
              exact key (hcl j o' hoj hlj e he hb')
          · rcases List.mem_cons.1 hx with h' | h'
            · rw [h']; exact hmle2
            · have := hmp x h'
              omega
          · rw [hset j fun e => hjp (by rw [e]; simp)]
            exact hmiff j hj he fun h' => hjp (List.mem_cons_of_mem _ h')
          · rw [hdL]; simp [Act.put, hsz]
          · rw [hdL]; exact hdf
          · intro j o' d' hj hoj hd' hlj hne
            have hji : j ≠ i := fun e => hne (by rw [e]; simp)
            rw [hset j hji] at hlj
            rw [hput d' (fun e => (hused j o' hoj hj hji).1 (e ▸ hd'))]
            exact hh j o' d' hj hoj hd' hlj fun h' => hne (List.mem_cons_of_mem _ h')
          · intro t hnw
            rw [hput t fun e => hnw i o hqn hoi (by rw [hdL, e])]
            exact ho t hnw
        have hin : i < n := by
          rcases Nat.lt_or_ge i n with h' | h'
          · exact h'
          · obtain ⟨e, he, hbb, hon⟩ := htail hoi (by omega) j0 (by omega)
            have := hi2 e he hbb
            rw [hon, hlj0] at this; cases this
        -- what is waited for is done
        have hmask : ∀ j, (ms.getD i 0).testBit j = true → listed.getD j false = true := by
          have := mask_done (l := ops.toList) (D := fun j => listed.getD j false = true) (fun k o' ho' e he hb' => back (hops' ho') e he hb') (fun k o' ho' hk e he hb' => hcl k o' (hops' ho') hk e he hb') i o (hops hoi) (fun e he hb' => hi2 e he hb')
          rw [hms] at this
          exact this
        have hmaskd : ∀ k, listed.getD k false = true → ∀ j, (ms.getD k 0).testBit j = true → listed.getD j false = true := by
          intro k hk j hj
          have hks : k < ops.size := by
            rcases Nat.lt_or_ge k ops.size with h' | h'
            · exact h'
            · rw [show listed.getD k false = false by simp [Array.getD, show ¬ k < listed.size by omega]] at hk; cases hk
          have hok : ops[k]? = some ops[k] := Array.getElem?_eq_getElem hks
          have := mask_done (l := ops.toList) (D := fun j => listed.getD j false = true) (fun k o' ho' e he hb' => back (hops' ho') e he hb') (fun k o' ho' hk e he hb' => hcl k o' (hops' ho') hk e he hb') k _ (hops hok) (fun e he hb' => hcl k _ hok hk e he hb')
          rw [hms] at this
          exact this j hj
        have hho := hhead hoi hin hiL
        simp only [headOk, Bool.and_eq_true] at hho
        obtain ⟨l1, l2, hsp, hcnt, hin1, hl1n⟩ := hpos hin hoi
        obtain ⟨hran, hdn, hψ1, hψ2⟩ := hat l1 i l2 o hsp hoi
        rw [hcnt] at hran
        -- early ones wait for early ones
        have hearlyd : ∀ e ∈ o.after, Region.binds .any e = true → early C (ops.toList.take n) ms i = true → early C (ops.toList.take n) ms e.on = true := hearlyd0 hin hoi
        -- a slot that has been written by one that is listed
        have hdone : ∀ (j : Nat) (o' : Oper) (t : Nat), j < i → ops[j]? = some o' → o'.dst = some t → edgeOn o j = true → j ∉ pl → VR g M (Ψ i t) (a.tmps.getD t Go.undef) := by
          intro j o' t hj hoj hdj he hjq
          obtain ⟨e, he1, he2, he3⟩ := edgeOn_sound he
          have hjl : j ∈ l1 := hin1 j hj fun hei => by rw [← he3]; exact hearlyd e he1 he2 hei
          rw [hψ2 j o' t hjl hoj hdj fun k hk hne o'' hok e' => hne (hdist hok ((hordn k).1 hk) hoj (by omega) e' hdj)]
          have := hi2 e he1 he2
          rw [he3] at this
          exact hh j o' t (by omega) hoj hdj this hjq
        have hvs0 := hho.2
        have hEmP : ∀ q ∈ pl, effO C ops i = true → i < q := by
          intro q hqp he
          have hfq := (hpl q hqp).1
          obtain ⟨_, _, _, _, _, _, _, _, _, _, hqn, _⟩ := hflo q hfq
          rcases Nat.lt_trichotomy i q with h' | h' | h'
          · exact h'
          · exact absurd (h' ▸ hfq) hiL
          · exfalso
            -- all effects ahead of it are done, the allocation's turn too
            have hmp' := hmp q hqp
            obtain ⟨j, p1, p2, p3⟩ := cnt_hit q hmp'
            have hoj : ops[j]? = some ops[j] := Array.getElem?_eq_getElem (by omega)
            have hv := all_zipIdx hvs0 (htake' (show j < n by omega) hoj)
            have p2' := p2
            rw [heff hoj] at p2
            rw [heff hoi] at he
            have hbj : Nat.blt j i = true := by rw [Nat.blt_eq]; omega
            have hbit : (ms.getD i 0).testBit j = true := by
              cases ek : kindOf C (ops[j]).op <;> rw [ek] at p2 hv <;> simp only [Kd.eff] at p2 <;> try (cases p2; done)
              all_goals
                cases ek2 : kindOf C o.op <;> rw [ek2] at he hv <;> simp only [Kd.eff] at he <;> try (cases he; done)
                all_goals
                  simpa [hbj] using hv
            have := (hmiff j (by omega) p2' fun hj' => by have := hmp j hj'; omega).1 (hmask j hbit)
            omega
        have hslot : ∀ t, Operand.tmp t ∈ o.op.operands → VR g M (Ψ i t) (a.tmps.getD t Go.undef) := by
          intro t ht
          by_cases hw : ∀ (j : Nat) (o' : Oper), j < n → ops[j]? = some o' → o'.dst ≠ some t
          · rw [hψ1 t fun j hj o' hoj => hw j o' (hl1n j hj) hoj]
            exact ho t hw
          · simp only [Classical.not_forall] at hw
            obtain ⟨j, o', hj, hoj, hd'⟩ := hw
            simp only [ne_eq, Classical.not_not] at hd'
            have h3 := all_zipIdx hho.1.1.2 (htake' hj hoj)
            simp only [hd', Bool.or_eq_true, Bool.not_eq_true', Bool.and_eq_true] at h3
            rcases h3 with k | ⟨k1, k2⟩
            · rw [List.any_eq_false] at k
              exact absurd (by simp) (k (.tmp t) (by simpa using ht))
            · refine hdone j o' t (by rw [Nat.blt_eq] at k1; exact k1) hoj hd' k2 fun hjp => ?_
              obtain ⟨oL, tL, dL, hoL, hopL, hbL, hzL, hgL, hdL, hdlt, hqn, hused⟩ := hflo j (hpl j hjp).1
              rw [hoL] at hoj
              cases hoj
              rw [hdL] at hd'
              cases hd'
              rcases (hused i o hoi hin fun e => hipl (e ▸ hjp)).2.2 with r | ⟨r1, r2⟩
              · exact r _ (by simpa using ht) rfl
              · have := hEmP j hjp (by rw [heff hoi]; exact r1)
                omega
        have hgslot : ∀ (j : Nat) (want : Bool) (dg : Nat), o.guard = some (j, want) → (ops[j]?).bind (·.dst) = some dg → VR g M (Ψ i dg) (a.tmps.getD dg Go.undef) := by
          intro j want dg hgd hdg
          have h4 := hho.1.2
          rw [hgd] at h4
          simp only [Bool.and_eq_true, Nat.blt_eq] at h4
          cases hoj : ops[j]? with
          | none => rw [hoj] at hdg; cases hdg
          | some o' =>
            rw [hoj] at hdg
            exact hdone j o' dg h4.1 hoj hdg h4.2 fun hjp => by
              obtain ⟨oL, tL, dL, hoL, hopL, hbL, hzL, hgL, hdL, hdlt, hqn, hused⟩ := hflo j (hpl j hjp).1
              exact (hused i o hoi hin fun e => hipl (e ▸ hjp)).2.1 j want hgd rfl
        -- how an effect stands to this one
        have hvs : ∀ (j : Nat) (o' : Oper), j < n → ops[j]? = some o' → (match kindOf C o'.op with
            | .blind => true
            | .reads => true
            | .alloc => match kindOf C o.op with
              | .blind => true
              | .reads => early C (ops.toList.take n) ms i || !Nat.blt j i || (ms.getD i 0).testBit j
              | _ => !Nat.blt j i || (ms.getD i 0).testBit j
            | .writes => match kindOf C o.op with
              | .blind => true
              | .reads => bif !early C (ops.toList.take n) ms i && Nat.blt j i then (ms.getD i 0).testBit j else (ms.getD j 0).testBit i || farOp C (ops.toList.take n) ms o i o'
              | _ => !Nat.blt j i || (ms.getD i 0).testBit j) = true := fun j o' hj hoj => all_zipIdx hho.2 (htake' hj hoj)
        have hblt : ∀ {j : Nat}, j < i → Nat.blt j i = true := fun h => by rw [Nat.blt_eq]; exact h
        have hEm : effO C ops i = true → cntE C ops (List.range i) = m := by
          intro he
          have h1 : ¬ cntE C ops (List.range i) < m := fun hlt => by
            have := (hmiff i hin he hipl).2 hlt
            rw [hli] at this; cases this
          rcases Nat.lt_or_ge m (cntE C ops (List.range i)) with h2 | h2
          · exfalso
            obtain ⟨j, p1, p2, p3⟩ := cnt_hit i h2
            have hoj : ops[j]? = some ops[j] := Array.getElem?_eq_getElem (by omega)
            have hv := hvs j _ (by omega) hoj
            rw [heff hoj] at p2
            rw [heff hoi] at he
            have hbit : (ms.getD i 0).testBit j = true := by
              cases ek : kindOf C (ops[j]).op <;> rw [ek] at p2 hv <;> simp only [Kd.eff] at p2 <;> try (cases p2; done)
              all_goals
                cases ek2 : kindOf C o.op <;> rw [ek2] at he hv <;> simp only [Kd.eff] at he <;> try (cases he; done)
                all_goals
                  simpa [hblt p1] using hv
            have := (hmiff j (by omega) (by rw [heff hoj]; exact p2) fun hjp => by have := hmp j hjp; omega).1 (hmask j hbit)
            omega
          · omega
        have hsteps : kindOf C o.op = .reads → (bif early C (ops.toList.take n) ms i then 0 else cntE C ops (List.range i)) ≤ m ∧ ∀ k, (bif early C (ops.toList.take n) ms i then 0 else cntE C ops (List.range i)) ≤ k → k < m →
            (∃ X, Hs (k + 1) = Hs k ++ X) ∨ (C.vw = false ∧ ∃ x av, loadOf o = some x ∧ farA av (frn.eval x) = true ∧ StayOf av (Hs k) (Hs (k + 1))) ∨ (C.vw = true ∧ ∃ x tt, readOf o = some x ∧ apartB tt (idOf (frn.eval x)) = true ∧ StayE tt (Hs k) (Hs (k + 1))) ∨ (C.vw = true ∧ readOf o = none ∧ ∃ as, vcallOf C o = some as ∧ immuts (as.map frn.eval) = true) := by
          intro hk
          have hcm : (bif early C (ops.toList.take n) ms i then 0 else cntE C ops (List.range i)) ≤ m := by
            cases he : early C (ops.toList.take n) ms i with
            | true => exact Nat.zero_le _
            | false =>
              simp only [cond_false]
              rcases Nat.lt_or_ge m (cntE C ops (List.range i)) with h2 | h2
              · exfalso
                obtain ⟨j, p1, p2, p3⟩ := cnt_hit i h2
                have hoj : ops[j]? = some ops[j] := Array.getElem?_eq_getElem (by omega)
                have hv := hvs j _ (by omega) hoj
                have p2' := p2
                rw [heff hoj] at p2
                have hbit : (ms.getD i 0).testBit j = true := by
                  rw [hk, he] at hv
                  cases ek : kindOf C (ops[j]).op <;> rw [ek] at p2 hv <;> simp only [Kd.eff] at p2 <;> try (cases p2; done)
                  all_goals simpa [hblt p1] using hv
                have := (hmiff j (by omega) p2' fun hjp => by have := hmp j hjp; omega).1 (hmask j hbit)
                omega
              · exact h2
          refine ⟨hcm, fun k hk1 hk2 => ?_⟩
          obtain ⟨j, p1, p2, p3⟩ := cnt_hit n (show k < cntE C ops (List.range n) by omega)
          have hoj : ops[j]? = some ops[j] := Array.getElem?_eq_getElem (by omega)
          have hlj : listed.getD j false = true := (hmiff j p1 p2 fun hjp => by have := hmp j hjp; omega).2 (by omega)
          have hv := hvs j _ p1 hoj
          have p2' := p2
          rw [heff hoj] at p2
          obtain ⟨k1, k2, ksp, kcnt, kin, kn⟩ := hpos p1 hoj
          obtain ⟨kran, _⟩ := hat k1 j k2 _ ksp hoj
          rw [kcnt, hearly p1 p2', cond_false, p3, p2', cond_true] at kran
          have hal : kindOf C (ops[j]).op = .alloc ∨ farOp C (ops.toList.take n) ms o i ops[j] = true ∧ (ms.getD j 0).testBit i = false := by
            cases ek : kindOf C (ops[j]).op with
            | blind => rw [ek] at p2; cases p2
            | reads => rw [ek] at p2; cases p2
            | alloc => exact .inl rfl
            | writes =>
              rw [ek, hk] at hv
              simp only at hv
              cases hc1 : (!early C (ops.toList.take n) ms i && Nat.blt j i) with
              | true =>
                exfalso
                simp only [Bool.and_eq_true, Bool.not_eq_true', Nat.blt_eq] at hc1
                rw [hc1.1] at hk1
                simp only [cond_false] at hk1
                have := cntE_range_lt C ops hc1.2 p2'
                omega
              | false =>
                rw [hc1, cond_false] at hv
                cases hb2 : (ms.getD j 0).testBit i with
                | true =>
                  exfalso
                  have := hmaskd j hlj i hb2
                  rw [hli] at this; cases this
                | false =>
                  rw [hb2, Bool.false_or] at hv
                  exact .inr ⟨hv, rfl⟩
          rcases hal with hal | ⟨hfo, hnb⟩
          · rcases kran with ⟨_, _, _, _, q, _⟩ | ⟨_, q, _⟩
            · exact .inl (q hal)
            · exact .inl ⟨[], by rw [q, List.append_nil]⟩
          · rcases kran with ⟨frj, hfrj, hevj, _⟩ | ⟨_, q, _⟩
            · cases hvw : C.vw with
              | true =>
                simp only [farOp, hvw, cond_true, Bool.and_eq_true, Bool.or_eq_true] at hfo
                obtain ⟨hei, hrv, haj⟩ := hfo
                obtain ⟨aj, haj⟩ := Option.isSome_iff_exists.1 haj
                simp only [farOk, hvw, cond_true] at hfar
                have h1 := all_zipIdx hfar (htake' hin hoi)
                cases hx : readOf o with
                | none =>
                  rw [hx] at hrv h1
                  obtain ⟨as, has⟩ := Option.isSome_iff_exists.1 (hrv.resolve_left (by simp))
                  simp only [has, hei, Bool.not_true, Bool.false_or] at h1
                  have h2 := all_zipIdx h1 (htake' p1 hoj)
                  simp only [vcIn, haj, hnb, Bool.false_or] at h2
                  exact .inr (.inr (.inr ⟨rfl, rfl, as, has, h2⟩))
                | some x =>
                simp only [hx, hei, Bool.not_true, Bool.false_or] at h1
                have h2 := all_zipIdx h1 (htake' p1 hoj)
                simp only [farIn, haj, hnb, Bool.false_or] at h2
                split at h2
                · rename_i tt htt
                  have hmap : aj.2.map frj.eval = aj.2.map frn.eval := List.map_congr_left fun y hy => by
                    cases y with
                    | tmp t =>
                      show Fr.get frj t = Fr.get frn t
                      rw [hfrj, hfin p1 hoj ksp kin kn t (touchOf_mem haj hy)]
                    | const v => rfl
                    | global m => rfl
                    | func m => rfl
                  exact .inr (.inr (.inl ⟨rfl, x, tt, rfl, h2, touch_stay hc.2.1 haj (fun _ => rfl) (by rw [hmap]; exact htt) hevj⟩))
                · cases h2
              | false =>
              simp only [farOp, hvw, cond_false, Bool.and_eq_true, Option.isSome_iff_exists] at hfo
              obtain ⟨hei, ⟨x, hx⟩, aj, haj⟩ := hfo
              simp only [farOk, hvw, cond_false] at hfar
              have h1 := all_zipIdx hfar (htake' hin hoi)
              simp only [hx, hei, Bool.not_true, Bool.false_or] at h1
              have h2 := all_zipIdx h1 (htake' p1 hoj)
              simp only [haj, hnb, Bool.false_or] at h2
              have hoa : ∀ t, aj = some (.tmp t) → Operand.tmp t ∈ (ops[j]).op.operands := by
                intro t et
                subst et
                unfold ownArg at haj
                split at haj
                · rename_i f args argTypes eop
                  split at haj
                  · split at haj
                    · rename_i a0 ha0
                      cases haj
                      rw [eop]
                      have := List.mem_of_getElem? (show args.toList[0]? = some (.tmp t) by rw [Array.getElem?_toList]; exact ha0)
                      simp only [Op.operands, Call.operands]
                      simpa using this
                    · cases haj
                  · cases haj
                · cases haj
                · cases haj
                · cases haj
              have hea : ∀ y, aj = some y → Fr.eval frj y = ownV frn aj := by
                rintro y rfl
                cases y with
                | tmp t =>
                  show Fr.get frj t = Fr.get frn t
                  rw [hfrj, hfin p1 hoj ksp kin kn t (hoa t rfl)]
                | const v => rfl
                | global m => rfl
                | func m => rfl
              exact .inr (.inl ⟨rfl, x, _, hx, h2, ownArg_stay hc.2.1 haj (fun _ => rfl) hea hevj⟩)
            · exact .inl ⟨[], by rw [q, List.append_nil]⟩
        have hnext : ∀ m' val g' M' w', m' = m + (bif effO C ops i then 1 else 0) → VR g' M' (U i) val → HR (Hs m') g' M' w' → Base w1 M1 z1 (Hs m') g' M' w' → Ext g M g' M' → wpAny P .any ops Q f (listed.setIfInBounds i true) (a.put o.dst val) w' := by
          intro m' val g' M' w' em p1 p2 p3 p4
          have hset : ∀ k, listed.getD k false = true → (listed.setIfInBounds i true).getD k false = true := by
            intro k hk
            have : i ≠ k := fun e => by rw [e, hk] at hli; cases hli
            rw [getD_set_ne false this]; exact hk
          have hseti : (listed.setIfInBounds i true).getD i false = true := by simp [show i < listed.size by omega]
          have f1 : unl (listed.setIfInBounds i true) ops.size = f := by
            have := unl_set (listed := listed) (i := i) (by omega) hli ops.size his
            omega
          have f2 : ∀ j, n ≤ j → (listed.setIfInBounds i true).getD j false = false := by
            intro j hj
            rw [getD_set_ne false (by omega)]; exact htl j hj
          have f3 : ∀ (j : Nat) (o : Oper), ops[j]? = some o → (listed.setIfInBounds i true).getD j false = true → ∀ e ∈ o.after, Region.binds .any e = true → (listed.setIfInBounds i true).getD e.on false = true := by
            intro j o' hoj hlj e he hb'
            by_cases e' : i = j
            · subst e'
              rw [hoi] at hoj; cases hoj
              exact hset _ (hi2 e he hb')
            · rw [getD_set_ne false e'] at hlj
              exact hset _ (hcl j o' hoj hlj e he hb')
          have f4 : m' ≤ cntE C ops (List.range n) := by
            rw [em]
            cases he : effO C ops i with
            | false => simpa using hmle
            | true =>
              have := cntE_range_lt C ops hin he
              rw [hEm he] at this
              simp only [cond_true]; omega
          have f5 : ∀ j, j < n → effO C ops j = true → j ∉ pl → ((listed.setIfInBounds i true).getD j false = true ↔ cntE C ops (List.range j) < m') := by
            intro j hj hej hjq
            by_cases e' : i = j
            · subst e'
              rw [hseti, em, hej, hEm hej]
              simp
            · rw [getD_set_ne false e', hmiff j hj hej hjq, em]
              cases he : effO C ops i with
              | false => simp
              | true =>
                simp only [cond_true]
                have hm1 := hEm he
                rcases Nat.lt_trichotomy i j with hij | hij | hij
                · have := cntE_range_lt C ops hij he
                  omega
                · exact absurd hij e'
                · have := cntE_range_lt C ops hij hej
                  omega
          have f6 : (a.put o.dst val).tmps.size = C.ntmps := by
            cases hdo : o.dst with
            | none => exact hsz
            | some d => simp [Act.put, hsz]
          have f7 : (a.put o.dst val).defers = [] := by
            cases hdo : o.dst with
            | none => exact hdf
            | some d => exact hdf
          have f8 : ∀ (j : Nat) (o' : Oper) (d : Nat), j < n → ops[j]? = some o' → o'.dst = some d → (listed.setIfInBounds i true).getD j false = true → j ∉ pl → VR g' M' (U j) ((a.put o.dst val).tmps.getD d Go.undef) := by
            intro j o' d' hj hoj hd' hlj hjq
            by_cases e : i = j
            · subst e
              rw [hoi] at hoj; cases hoj
              have hdn' := hdn d' hd'
              rw [hd']
              simp only [Act.put]
              rw [show (a.tmps.setIfInBounds d' val).getD d' Go.undef = val by simp [Array.getD, hsz, hdn']]
              exact p1
            · rw [getD_set_ne false e] at hlj
              have hput : (a.put o.dst val).tmps.getD d' Go.undef = a.tmps.getD d' Go.undef := by
                cases hdo : o.dst with
                | none => rfl
                | some d =>
                  have hne : d ≠ d' := fun e' => e (hdist hoi hin hoj hj hdo (e' ▸ hd'))
                  simp only [Act.put]
                  simp [Array.getD_eq_getD_getElem?, Array.getElem?_setIfInBounds, hne]
              rw [hput]
              exact (hh j o' d' hj hoj hd' hlj hjq).mono p4
          have f9 : ∀ t, (∀ (j : Nat) (o : Oper), j < n → ops[j]? = some o → o.dst ≠ some t) → VR g' M' (fr.get t) ((a.put o.dst val).tmps.getD t Go.undef) := by
            intro t ht
            have hput : (a.put o.dst val).tmps.getD t Go.undef = a.tmps.getD t Go.undef := by
              cases hdo : o.dst with
              | none => rfl
              | some d =>
                have hne : d ≠ t := fun e' => ht i o hin hoi (e' ▸ hdo)
                simp only [Act.put]
                simp [Array.getD_eq_getD_getElem?, Array.getElem?_setIfInBounds, hne]
            rw [hput]
            exact (ho t ht).mono p4
          obtain ⟨bf, hbf1, hbf2⟩ := hpend
          refine resume _ pl w1 M1 z1 hc1 _ _ w' g' M' m' rfl (by simpa using hls) f1 f2 (fun x hx => ⟨(hpl x hx).1, hset _ (hpl x hx).2⟩) hTr ⟨bf, fun x hx => ?_, hbf2⟩ f3 f4 (fun x hx => ?_) f5 p2 p3 f6 f7 f8 f9
          · obtain ⟨c1, c2, c3, c4, c5, c6, c7, c8⟩ := hbf1 x hx
            obtain ⟨oL, tL, dL, hoL, hopL, hbL, hzL, hgL, hdL, hdlt, hqn, hused⟩ := hflo x (hpl x hx).1
            rw [hoL] at c4
            cases c4
            rw [hdL] at c6
            cases c6
            refine ⟨c1, c2, c3, hoL, c5, hdL, ?_, c8⟩
            rw [← c7]
            cases hdo : o.dst with
            | none => rfl
            | some d =>
              have hne : d ≠ c3 := fun e' => (hused i o hoi hin fun e => hipl (e ▸ hx)).1 (e' ▸ hdo)
              simp only [Act.put]
              simp [Array.getD_eq_getD_getElem?, Array.getElem?_setIfInBounds, hne]
          · have := hmp x hx
            rw [em]
            cases effO C ops i <;> simp only [cond_true, cond_false] <;> omega
        unfold wpOp
        rw [hoi]
        simp only
        have hyield : ∀ (j : Nat) (want : Bool) (dg : Nat), o.guard = some (j, want) → (ops[j]?).bind (·.dst) = some dg → Region.wanted o (yielded ops a.tmps) = ((match a.tmps[dg]? with | some (.bool b) => some b | _ => none) == some want) := by
          intro j want dg hgd hdg
          simp only [Region.wanted, hgd, yielded, hdg, Option.bind_some]
          cases a.tmps[dg]? with
          | none => rfl
          | some x => cases x <;> rfl
        have hcE : effO C ops i = true → (bif early C (ops.toList.take n) ms i then 0 else cntE C ops (List.range i)) = m := by
          intro he
          rw [hearly hin he, cond_false]; exact hEm he
        rcases hran with ⟨fr', hfr', hev, hqt, hal, hgd⟩ | ⟨hu, hHe, j, want, dg, hgd, hdg, hskip⟩
        · have hw : Region.wanted o (yielded ops a.tmps) = true := by
            rcases hgd with hgd | ⟨j, want, dg, hgd, hdg, hφ⟩
            · simp [Region.wanted, hgd]
            · rw [hyield j want dg hgd hdg]
              have hv := hgslot j want dg hgd hdg
              rw [hφ] at hv
              generalize e : a.tmps.getD dg Go.undef = c at hv
              cases hv
              simp only [Array.getD_eq_getD_getElem?] at e
              cases e2 : a.tmps[dg]? with
              | none => rw [e2] at e; cases e
              | some x => rw [e2] at e; simp at e; rw [e]; simp
          rw [if_pos hw]
          left
          have hopd : ∀ x ∈ o.op.operands, VR g M (Fr.eval fr' x) (a.eval x) := by
            intro x hx
            cases x with
            | tmp t =>
              show VR g M (Fr.get fr' t) _
              rw [hfr' t]
              exact hslot t hx
            | const v => exact VR_ofVal g M v
            | global m => exact .undef _
            | func m => exact .fn m [] #[] .nil
          have hgo : evalOpD C o (Fr.eval fr') (Hs m) (fun v H' => v = U i ∧ H' = Hs (m + (bif effO C ops i then 1 else 0))) := by
            cases he : effO C ops i with
            | true =>
              rw [hcE he, he] at hev
              exact hev _ ⟨rfl, rfl⟩
            | false =>
              have hef := he
              rw [heff hoi] at hef
              obtain ⟨_, q2, q3⟩ := hqt hef
              simp only [cond_false, Nat.add_zero]
              cases ek : kindOf C o.op with
              | blind => exact q3 ek _ _ ⟨rfl, rfl⟩
              | reads =>
                obtain ⟨hcm, hst⟩ := hsteps ek
                generalize hcg : (bif early C (ops.toList.take n) ms i then 0 else cntE C ops (List.range i)) = c at *
                by_cases hvc : C.vw = true ∧ readOf o = none ∧ ∃ as, vcallOf C o = some as ∧ immuts (as.map frn.eval) = true
                · obtain ⟨_, _, as, has, him⟩ := hvc
                  have hmap : as.map (Fr.eval fr') = as.map frn.eval := List.map_congr_left fun y hy => by
                    cases y with
                    | tmp t =>
                      show Fr.get fr' t = Fr.get frn t
                      rw [hfr', hfin hin hoi hsp hin1 hl1n t (vcallOf_mem has hy)]
                    | const v => rfl
                    | global m => rfl
                    | func m => rfl
                  refine vcall_stay hc1.ang has (fun _ => rfl) (by rw [hmap]; exact him) (H := Hs c) ?_
                  exact hev _ ⟨rfl, by first | rfl | (rw [he]; rfl) | simp [he]⟩
                by_cases hvw : C.vw = true ∧ (readOf o).isSome = true
                · obtain ⟨hvw, hro⟩ := hvw
                  obtain ⟨x, hro⟩ := Option.isSome_iff_exists.1 hro
                  have hex : Fr.eval fr' x = frn.eval x := by
                    cases x with
                    | tmp t' =>
                      show Fr.get fr' t' = Fr.get frn t'
                      rw [hfr', hfin hin hoi hsp hin1 hl1n t' (readOf_mem hro)]
                    | const v => rfl
                    | global m => rfl
                    | func m => rfl
                  have all : ∀ d, c + d ≤ m → evalOpD C o (Fr.eval fr') (Hs (c + d)) (fun v h => v = U i ∧ h = Hs (c + d)) := by
                    intro d
                    induction d with
                    | zero => intro _; exact hev _ ⟨rfl, by first | rfl | (rw [he]; rfl) | simp [he]⟩
                    | succ d ihd =>
                      intro hd'
                      have h1 := ihd (by omega)
                      rcases hst (c + d) (Nat.le_add_right _ d) (by omega) with ⟨Y, hY⟩ | ⟨e, _⟩ | ⟨_, x', tt, e, ha, hstay⟩ | e
                      · rw [← Nat.add_assoc]
                        exact read_stay hro hvw (tt := none) rfl (by rw [hY]; exact .app _ _ _) h1
                      · rw [hvw] at e; cases e
                      · rw [hro] at e; cases e
                        rw [← Nat.add_assoc]
                        exact read_stay hro hvw (by rw [hex]; exact ha) hstay h1
                      · exact absurd e hvc
                  have h2 := all (m - c) (by omega)
                  rw [show c + (m - c) = m by omega] at h2
                  exact h2
                cases hlo : loadOf o with
                | none =>
                  have all : ∀ d, c + d ≤ m → ∃ X, Hs (c + d) = Hs c ++ X := by
                    intro d
                    induction d with
                    | zero => intro _; exact ⟨[], by rw [Nat.add_zero, List.append_nil]⟩
                    | succ d ihd =>
                      intro hd'
                      obtain ⟨X, hX⟩ := ihd (by omega)
                      rcases hst (c + d) (Nat.le_add_right _ d) (by omega) with ⟨Y, hY⟩ | ⟨_, x, id, e, _⟩ | ⟨e1, x, tt, e, _⟩ | e
                      · exact ⟨X ++ Y, by rw [← Nat.add_assoc, hY, hX, List.append_assoc]⟩
                      · rw [hlo] at e; cases e
                      · exact absurd ⟨e1, by rw [e]; rfl⟩ hvw
                      · exact absurd e hvc
                  obtain ⟨X, hX⟩ := all (m - c) (by omega)
                  rw [show c + (m - c) = m by omega] at hX
                  rw [hX]
                  exact q2 X _ ⟨rfl, rfl⟩
                | some x =>
                  obtain ⟨t, ht⟩ := loadOf_eq hlo
                  have ee : ∀ (H : Heap) (K : V → Heap → Prop), evalOpD C o (Fr.eval fr') H K = loadV C t (Fr.eval fr' x) H fun v => K v H := by
                    intro H K
                    unfold evalOpD evalOp
                    simp only [ht]
                  have hex : Fr.eval fr' x = frn.eval x := by
                    cases x with
                    | tmp t' =>
                      show Fr.get fr' t' = Fr.get frn t'
                      rw [hfr', hfin hin hoi hsp hin1 hl1n t' (by rw [ht]; simp [Op.operands])]
                    | const v => rfl
                    | global m => rfl
                    | func m => rfl
                  have all : ∀ d, c + d ≤ m → loadV C t (Fr.eval fr' x) (Hs (c + d)) (fun v => v = U i) := by
                    intro d
                    induction d with
                    | zero =>
                      intro _
                      have := hev (fun v _ => v = U i) rfl
                      rw [ee] at this
                      exact this
                    | succ d ihd =>
                      intro hd'
                      have h1 := ihd (by omega)
                      rcases hst (c + d) (Nat.le_add_right _ d) (by omega) with ⟨Y, hY⟩ | ⟨_, x', id, e, hfx, hstay⟩ | ⟨e1, x', tt, e, _⟩ | e
                      · rw [← Nat.add_assoc, hY]
                        exact loadV_ext h1
                      · rw [hlo] at e; cases e
                        rw [← Nat.add_assoc]
                        exact load_stay hstay (by rw [hex]; exact hfx) h1
                      · exact absurd ⟨e1, by rw [e]; rfl⟩ hvw
                      · exact absurd e hvc
                  have h2 := all (m - c) (by omega)
                  rw [show c + (m - c) = m by omega] at h2
                  rw [ee]
                  obtain ⟨v, h3, h4⟩ := loadV_ang t (Fr.eval fr' x) (Hs m) _ h2
                  subst h3
                  exact h4 _ ⟨rfl, rfl⟩
              | alloc => rw [ek] at hef; cases hef
              | writes => rw [ek] at hef; cases hef
          refine evalOp_sound L hc1 (evalOp_of_D hgo) hopd hr hb ?_
          rintro v H' ⟨rfl, rfl⟩ val g' M' w' p1 p2 p3 p4
          exact hnext _ val g' M' w' rfl p1 p2 p3 p4
        · have hw : Region.wanted o (yielded ops a.tmps) = false := by
            rw [hyield j want dg hgd hdg]
            have hv := hgslot j want dg hgd hdg
            rcases hskip with hφ | hφ
            · rw [hφ] at hv
              generalize e : a.tmps.getD dg Go.undef = c at hv
              cases hv
              simp only [Array.getD_eq_getD_getElem?] at e
              cases e2 : a.tmps[dg]? with
              | none => rw [e2] at e; cases e
              | some x => rw [e2] at e; simp at e; rw [e]; cases want <;> rfl
            · rw [hφ] at hv
              generalize e : a.tmps.getD dg Go.undef = c at hv
              cases hv
              simp only [Array.getD_eq_getD_getElem?] at e
              cases e2 : a.tmps[dg]? with
              | none => rfl
              | some x =>
                rw [e2] at e
                simp at e
                subst e
                rfl
          rw [if_neg (by rw [hw]; simp)]
          have hsame : Hs (m + (bif effO C ops i then 1 else 0)) = Hs m := by
            cases he : effO C ops i with
            | true => rw [hcE he, he] at hHe; exact hHe
            | false => rfl
          exact hnext _ Go.undef g M w rfl (by rw [hu]; exact .tuple [] #[] .nil) (by rw [hsame]; exact hr) (by rw [hsame]; exact hb) (Ext.refl g M)
  obtain ⟨g, M, hf, hr, hb⟩ := hg
  refine headx ops.size [] w0 M0 own0 hc _ a _ (by simp) (unl_replicate _) ?_ (fun x hx => by cases hx) ⟨Nat.le_refl _, (fun _ _ _ => rfl), (fun _ k => .inl k), (fun _ _ k => k), (fun _ _ k => .inl k), ⟨rfl, rfl, rfl⟩, (fun _ _ k => k)⟩ ⟨fun _ => 0, (fun x hx => by cases hx), (fun x hx => by cases hx)⟩ ?_ ⟨g, M, 0, Nat.zero_le _, (fun x hx => by cases hx), ?_, by rw [hHs0]; exact HR.same (w := w) (by rfl) hr, by rw [hHs0]; exact Base.same (w := w) (by rfl) (by rfl) (by rfl) (by rfl) hb, hf.size, hf.defers, ?_, fun t _ => hf.get t⟩
  · intro j hj
    by_cases h' : j < ops.size <;> simp [Array.getD_eq_getD_getElem?, h']
  · intro j o hoj hl
    exfalso
    by_cases h' : j < ops.size <;> simp [Array.getD_eq_getD_getElem?, h'] at hl
  · intro j hj he _
    constructor
    · intro hl
      exfalso
      by_cases h' : j < ops.size <;> simp [Array.getD_eq_getD_getElem?, h'] at hl
    · intro hl; omega
  · intro j o d hj hoj hd' hl
    exfalso
    by_cases h' : j < ops.size <;> simp [Array.getD_eq_getD_getElem?, h'] at hl
end
end Go.Ev
