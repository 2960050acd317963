/- A statement whose order Go leaves open: the order of the text serves for all. -/
import Derived.Test.YtfdalaakechldaaEvCode
import Derived.Test.YtfdalaakechldaaEvQuiet
set_option linter.unusedVariables false
set_option linter.unusedSimpArgs false
namespace Go.Ev

theorem all_zipIdx {α : Type} {p : α × Nat → Bool} {l : List α} (h : l.zipIdx.all p = true) {i : Nat} {o : α} (hi : l[i]? = some o) : p (o, i) = true := by
  rw [List.all_eq_true] at h
  apply h
  rw [List.mem_iff_getElem?]
  exact ⟨i, by rw [List.getElem?_zipIdx, hi]; simp⟩

theorem edgeOn_sound {o : Oper} {j : Nat} (h : edgeOn o j = true) : ∃ e ∈ o.after, Region.binds .any e = true ∧ e.on = j := by
  simp only [edgeOn, Array.any_eq_true'] at h
  obtain ⟨e, he, h⟩ := h
  simp only [Bool.and_eq_true] at h
  exact ⟨e, he, h.2, beq_true h.1⟩

/-! ### how many have not been listed -/
def unl (listed : Array Bool) : Nat → Nat
  | 0 => 0
  | n + 1 => unl listed n + (bif listed.getD n false then 0 else 1)

theorem unl_set_ge (listed : Array Bool) (i : Nat) : ∀ n, n ≤ i → unl (listed.setIfInBounds i true) n = unl listed n
  | 0, _ => rfl
  | n + 1, h => by
    simp only [unl]
    rw [unl_set_ge listed i n (by omega), getD_set_ne false (by omega)]
theorem unl_set {listed : Array Bool} {i : Nat} (hi : i < listed.size) (h0 : listed.getD i false = false) : ∀ n, i < n → unl (listed.setIfInBounds i true) n + 1 = unl listed n
  | 0, h => by omega
  | n + 1, h => by
    simp only [unl]
    by_cases e : i = n
    · subst e
      rw [unl_set_ge listed i i (Nat.le_refl _), h0]
      have : (listed.setIfInBounds i true).getD i false = true := by simp [hi]
      rw [this]
      rfl
    · have := unl_set hi h0 n (by omega)
      rw [getD_set_ne false e]
      omega
theorem unl_zero {listed : Array Bool} : ∀ n, unl listed n = 0 → ∀ j, j < n → listed.getD j false = true
  | 0, _, j, hj => by omega
  | n + 1, h, j, hj => by
    simp only [unl] at h
    by_cases e : j = n
    · subst e
      cases hl : listed.getD j false with
      | true => rfl
      | false => simp [hl] at h
    · exact unl_zero n (by omega) j (by omega)
theorem unl_all {listed : Array Bool} : ∀ n, (∀ j, j < n → listed.getD j false = true) → unl listed n = 0
  | 0, _ => rfl
  | n + 1, h => by
    simp only [unl]
    rw [unl_all n fun j hj => h j (by omega), h n (by omega)]
    rfl
theorem unl_replicate (n : Nat) : unl (Array.replicate n false) n = n := by
  have : ∀ m, unl (Array.replicate n false) m = m := by
    intro m
    induction m with
    | zero => rfl
    | succ m ih =>
      simp only [unl, ih]
      have : (Array.replicate n false).getD m false = false := by
        by_cases h : m < n <;> simp [Array.getD_eq_getD_getElem?, h]
      rw [this]
      rfl
  exact this n


/-! ### what an operation waits for, through others too -/
theorem maskEs_bit {acc : List Nat} : ∀ {es : List Edge} {j : Nat}, (maskEs acc es).testBit j = true → ∃ e ∈ es, Region.binds .any e = true ∧ (e.on = j ∨ (acc.getD e.on 0).testBit j = true)
  | [], j, h => by simp [maskEs] at h
  | e :: r, j, h => by
    simp only [maskEs] at h
    cases hb : Region.binds .any e with
    | false =>
      simp only [hb, cond_false] at h
      obtain ⟨e', h1, h2⟩ := maskEs_bit h
      exact ⟨e', by simp [h1], h2⟩
    | true =>
      simp only [hb, cond_true, Nat.testBit_or, Bool.or_eq_true] at h
      rcases h with (h | h) | h
      · exact ⟨e, by simp, hb, .inr h⟩
      · refine ⟨e, by simp, hb, .inl ?_⟩
        rw [Nat.one_shiftLeft, Nat.testBit_two_pow] at h
        simpa using h
      · obtain ⟨e', h1, h2⟩ := maskEs_bit h
        exact ⟨e', by simp [h1], h2⟩

theorem masksOf_get : ∀ (l : List Oper) (acc : List Nat), (∀ i, i < acc.length → (masksOf l acc)[i]? = acc[i]?) ∧
    ∀ (i : Nat) (o : Oper), l[i]? = some o → ∃ acc', (∀ k, k < acc.length + i → acc'[k]? = (masksOf l acc)[k]?) ∧ acc'.length = acc.length + i ∧ (masksOf l acc)[acc.length + i]? = some (maskEs acc' o.after.toList)
  | [], acc => ⟨fun _ _ => rfl, by simp⟩
  | o :: r, acc => by
    obtain ⟨h1, h2⟩ := masksOf_get r (acc ++ [maskEs acc o.after.toList])
    simp only [masksOf]
    refine ⟨fun i hi => ?_, fun i o' ho => ?_⟩
    · rw [h1 i (by simp; omega), List.getElem?_append_left hi]
    · cases i with
      | zero =>
        simp at ho
        subst ho
        refine ⟨acc, fun k hk => ?_, by simp, ?_⟩
        · rw [h1 k (by simp; omega), List.getElem?_append_left (by omega)]
        · rw [h1 _ (by simp)]
          simp
      | succ i =>
        obtain ⟨acc', k1, k2, k3⟩ := h2 i o' (by simpa using ho)
        simp only [List.length_append, List.length_cons, List.length_nil] at k1 k2 k3
        exact ⟨acc', fun k hk => k1 k (by omega), by omega, by rw [show acc.length + (i + 1) = acc.length + (0 + 1) + i by omega]; exact k3⟩

/-- Where all that an operation waits for is done, so is all that it waits for through others. -/
theorem mask_done {l : List Oper} {D : Nat → Prop} (hback : ∀ (i : Nat) (o : Oper), l[i]? = some o → ∀ e ∈ o.after, Region.binds .any e = true → e.on < i)
    (hcl : ∀ (i : Nat) (o : Oper), l[i]? = some o → D i → ∀ e ∈ o.after, Region.binds .any e = true → D e.on) :
    ∀ (i : Nat) (o : Oper), l[i]? = some o → (∀ e ∈ o.after, Region.binds .any e = true → D e.on) → ∀ j, ((masksOf l []).getD i 0).testBit j = true → D j := by
  intro i
  induction i using Nat.strongRecOn with
  | _ i ih =>
    intro o ho hd j hj
    obtain ⟨acc', k1, k2, k3⟩ := (masksOf_get l []).2 i o ho
    simp only [List.length_nil, Nat.zero_add] at k1 k2 k3
    rw [List.getD_eq_getElem?_getD, k3] at hj
    simp only [Option.getD_some] at hj
    obtain ⟨e, he, hb, hon⟩ := maskEs_bit hj
    have he' : e ∈ o.after := by simpa using he
    have hde := hd e he' hb
    rcases hon with rfl | hon
    · exact hde
    · have hlt := hback i o ho e he' hb
      have hli : i < l.length := by
        rcases Nat.lt_or_ge i l.length with h' | h'
        · exact h'
        · rw [List.getElem?_eq_none h'] at ho; cases ho
      have ho2 : l[e.on]? = some (l[e.on]'(by omega)) := List.getElem?_eq_getElem (by omega)
      refine ih e.on hlt _ ho2 (fun e2 h2 hb2 => hcl e.on _ ho2 hde e2 h2 hb2) j ?_
      rw [List.getD_eq_getElem?_getD, k1 e.on hlt, ← List.getD_eq_getElem?_getD] at hon
      exact hon


section
variable {P : Program} {C : Ctx} {w0 : World} {M0 : Mem} {own0 : Z}

def effO (C : Ctx) (ops : Array Oper) (i : Nat) : Bool := match ops[i]? with
  | some o => (kindOf C o.op).eff
  | none => false
def cntE (C : Ctx) (ops : Array Oper) : List Nat → Nat
  | [] => 0
  | i :: r => (bif effO C ops i then 1 else 0) + cntE C ops r

/-- What one operation came to: its value and the memory (nothing, where its guard says no). -/
def RanD (C : Ctx) (ops : Array Oper) (o : Oper) (φ : Nat → V) (u : V) (H H' : Heap) : Prop :=
  (∃ fr', (∀ t, Fr.get fr' t = φ t) ∧ (∀ K : V → Heap → Prop, K u H' → evalOpD C o (Fr.eval fr') H K) ∧
    ((kindOf C o.op).eff = false → H' = H ∧ (∀ (X : Heap) (K : V → Heap → Prop), K u (H ++ X) → evalOpD C o (Fr.eval fr') (H ++ X) K) ∧
      (kindOf C o.op = .blind → ∀ (H2 : Heap) (K : V → Heap → Prop), K u H2 → evalOpD C o (Fr.eval fr') H2 K)) ∧
    (kindOf C o.op = .alloc → ∃ X, H' = H ++ X) ∧
    (o.guard = none ∨ ∃ j want d, o.guard = some (j, want) ∧ (ops[j]?).bind (·.dst) = some d ∧ φ d = .bool want)) ∨
  (u = .tuple [] ∧ H' = H ∧ ∃ j want d, o.guard = some (j, want) ∧ (ops[j]?).bind (·.dst) = some d ∧ (φ d = .bool (!want) ∨ φ d = .tuple []))

theorem ranD_step (hc : CallAng C) {ops : Array Oper} {o : Oper} {l : List Oper} {fr : Fr} {H : Heap} {K : Fr → Heap → Prop} (h : evalOpsD C ops (o :: l) fr H K) :
    ∃ u H1 fr1, RanD C ops o fr.get u H H1 ∧ (∀ t, Fr.get fr1 t = match o.dst with | some d => bif Nat.beq d t then u else fr.get t | none => fr.get t) ∧ (∀ d, o.dst = some d → d < C.ntmps) ∧ evalOpsD C ops l fr1 H1 K := by
  have fin : ∀ (fr0 : Fr) (u : V) (H1 : Heap), (∀ t, fr0.get t = fr.get t) → RanD C ops o fr.get u H H1 → put C fr0 o.dst u (fun fr' => evalOpsD C ops l fr' H1 K) →
      ∃ u H1 fr1, RanD C ops o fr.get u H H1 ∧ (∀ t, Fr.get fr1 t = match o.dst with | some d => bif Nat.beq d t then u else fr.get t | none => fr.get t) ∧ (∀ d, o.dst = some d → d < C.ntmps) ∧ evalOpsD C ops l fr1 H1 K := by
    intro fr0 u H1 hfr hr hp
    cases hd : o.dst with
    | none =>
      rw [hd] at hp
      exact ⟨u, H1, fr0, hr, hfr, (fun d e => by cases e), hp⟩
    | some d =>
      rw [hd] at hp
      simp only [put] at hp
      cases hb : Nat.blt d C.ntmps with
      | false => simp only [hb, cond_false] at hp
      | true =>
        simp only [hb, cond_true] at hp
        refine ⟨u, H1, _, hr, fun t => ?_, (fun d' e => by cases e; rw [Nat.blt_eq] at hb; exact hb), hp⟩
        simp only [Fr.get, hfr]
  have exec : ∀ (fr0 : Fr), (∀ t, fr0.get t = fr.get t) → (o.guard = none ∨ ∃ j want d, o.guard = some (j, want) ∧ (ops[j]?).bind (·.dst) = some d ∧ fr.get d = .bool want) →
      evalOpD C o (Fr.eval fr0) H (fun v H' => put C fr0 o.dst v fun fr' => evalOpsD C ops l fr' H' K) →
      ∃ u H1 fr1, RanD C ops o fr.get u H H1 ∧ (∀ t, Fr.get fr1 t = match o.dst with | some d => bif Nat.beq d t then u else fr.get t | none => fr.get t) ∧ (∀ d, o.dst = some d → d < C.ntmps) ∧ evalOpsD C ops l fr1 H1 K := by
    intro fr0 hfr hgd he
    cases hk : (kindOf C o.op).eff with
    | false =>
      obtain ⟨v, h1, h2, h3⟩ := quiet_D hc o _ (fun _ => rfl) H _ hk he
      have h2' : ∀ K : V → Heap → Prop, K v H → evalOpD C o (Fr.eval fr0) H K := by
        intro K' h'
        have := h2 [] K' (by rw [List.append_nil]; exact h')
        rwa [List.append_nil] at this
      exact fin fr0 v H hfr (.inl ⟨fr0, hfr, h2', fun _ => ⟨rfl, h2, h3⟩, (fun e => by rw [e] at hk; cases hk), hgd⟩) h1
    | true =>
      obtain ⟨v, H1, h1, h2, h3⟩ := eff_D hc o _ (fun _ => rfl) H _ he
      exact fin fr0 v H1 hfr (.inl ⟨fr0, hfr, h2, (fun e => by rw [e] at hk; cases hk), h3, hgd⟩) h1
  have lit : ∀ {d b}, fr.get d = .bool b → ∀ t, Fr.get ((d, .bool b) :: fr) t = fr.get t := by
    intro d b hdb t
    simp only [Fr.get]
    cases e : Nat.beq d t with
    | true => rw [← beq_true e, hdb]; rfl
    | false => rfl
  simp only [evalOpsD] at h
  split at h
  · rename_i hgd
    exact exec fr (fun _ => rfl) (.inl hgd) h
  · rename_i j want hgd
    split at h
    · exact h.elim
    · rename_i dg hdg
      split at h
      · rename_i b hb
        cases want <;> cases b <;> simp only [cond_true, cond_false] at h
        · exact exec _ (lit hb) (.inr ⟨j, _, dg, hgd, hdg, hb⟩) h
        · exact fin _ _ H (lit hb) (.inr ⟨rfl, rfl, j, _, dg, hgd, hdg, .inl hb⟩) h
        · exact fin _ _ H (lit hb) (.inr ⟨rfl, rfl, j, _, dg, hgd, hdg, .inl hb⟩) h
        · exact exec _ (lit hb) (.inr ⟨j, _, dg, hgd, hdg, hb⟩) h
      · rename_i hb
        exact fin fr _ H (fun _ => rfl) (.inr ⟨rfl, rfl, j, want, dg, hgd, hdg, .inr hb⟩) h
      · exact h.elim

/-- The operations' values and memories, one behind the other. -/
theorem runs_D (hc : CallAng C) {ops : Array Oper} {K : Fr → Heap → Prop} : ∀ (ord : List Nat) (fr : Fr) (H : Heap), ord.Nodup → (∀ i ∈ ord, i < ops.size) → evalOpsD C ops (ord.filterMap fun i => ops[i]?) fr H K →
    ∃ (U : Nat → V) (Ψ : Nat → Nat → V) (Hs : Nat → Heap) (fr' : Fr), Hs 0 = H ∧ K fr' (Hs (cntE C ops ord)) ∧
      (∀ (l1 : List Nat) (i : Nat) (l2 : List Nat) (o : Oper), ord = l1 ++ i :: l2 → ops[i]? = some o →
        RanD C ops o (Ψ i) (U i) (Hs (cntE C ops l1)) (Hs (cntE C ops l1 + (bif effO C ops i then 1 else 0))) ∧ (∀ d, o.dst = some d → d < C.ntmps) ∧
        (∀ t, (∀ j ∈ l1, ∀ o', ops[j]? = some o' → o'.dst ≠ some t) → Ψ i t = fr.get t) ∧
        (∀ (j : Nat) (o' : Oper) (t : Nat), j ∈ l1 → ops[j]? = some o' → o'.dst = some t → (∀ k ∈ ord, k ≠ j → ∀ o'', ops[k]? = some o'' → o''.dst ≠ some t) → Ψ i t = U j)) ∧
      (∀ t, (∀ j ∈ ord, ∀ o', ops[j]? = some o' → o'.dst ≠ some t) → fr'.get t = fr.get t) ∧
      (∀ (j : Nat) (o' : Oper) (t : Nat), j ∈ ord → ops[j]? = some o' → o'.dst = some t → (∀ k ∈ ord, k ≠ j → ∀ o'', ops[k]? = some o'' → o''.dst ≠ some t) → fr'.get t = U j) := by
  intro ord
  induction ord with
  | nil => intro fr H _ _ h; exact ⟨fun _ => .undef, fun _ _ => .undef, fun _ => H, fr, rfl, h, by intro l1 i l2 o e; simp at e, fun _ _ => rfl, by simp⟩
  | cons i r ih =>
    intro fr H hnd hlt h
    have hi : i < ops.size := hlt i (by simp)
    have hoi : ops[i]? = some ops[i] := Array.getElem?_eq_getElem hi
    simp only [List.filterMap_cons, hoi] at h
    obtain ⟨u, H1, fr1, h1, h2, h3, h4⟩ := ranD_step hc h
    rw [List.nodup_cons] at hnd
    obtain ⟨U, Ψ, Hs, fr', k1, k2, k3, k4, k5⟩ := ih fr1 H1 hnd.2 (fun j hj => hlt j (by simp [hj])) h4
    have hne : ∀ j ∈ r, j ≠ i := fun j hj e => hnd.1 (e ▸ hj)
    have hquiet : effO C ops i = false → H1 = H := by
      intro he
      simp only [effO, hoi] at he
      rcases h1 with ⟨_, _, _, q, _⟩ | ⟨_, e, _⟩
      · exact (q he).1
      · exact e
    let Hs' : Nat → Heap := bif effO C ops i then (fun m => match m with | 0 => H | m + 1 => Hs m) else Hs
    have hHs0 : Hs' 0 = H := by
      simp only [Hs']
      cases he : effO C ops i with
      | true => rfl
      | false => simp only [cond_false]; rw [k1]; exact hquiet he
    have hHsS : ∀ m, Hs' ((bif effO C ops i then 1 else 0) + m) = Hs m := by
      intro m
      simp only [Hs']
      cases he : effO C ops i with
      | true => simp only [cond_true]; rw [Nat.add_comm]
      | false => simp only [cond_false]; rw [Nat.zero_add]
    have hcnt : ∀ l, cntE C ops (i :: l) = (bif effO C ops i then 1 else 0) + cntE C ops l := fun _ => rfl
    refine ⟨fun k => if k = i then u else U k, fun k => if k = i then fr.get else Ψ k, Hs', fr', hHs0, ?_, ?_, ?_, ?_⟩
    · rw [hcnt, hHsS]; exact k2
    · intro l1 k l2 o he ho
      cases l1 with
      | nil =>
        simp only [List.nil_append, List.cons.injEq] at he
        obtain ⟨rfl, rfl⟩ := he
        rw [hoi] at ho; cases ho
        have e0 : cntE C ops [] = 0 := rfl
        have e1 : Hs' (0 + (bif effO C ops i then 1 else 0)) = H1 := by
          have := hHsS 0
          rw [Nat.add_zero] at this
          rw [Nat.zero_add, this, k1]
        rw [e0, e1, hHs0]
        simp only [↓reduceIte]
        exact ⟨h1, h3, fun _ _ => trivial, fun j _ _ hj => by cases hj⟩
      | cons j0 l1 =>
        simp only [List.cons_append, List.cons.injEq] at he
        obtain ⟨rfl, rfl⟩ := he
        have hkr : k ∈ l1 ++ k :: l2 := by simp
        have hki := hne k hkr
        obtain ⟨q1, q2, q3, q4⟩ := k3 l1 k l2 o rfl ho
        simp only [if_neg hki]
        rw [hcnt, Nat.add_assoc, hHsS, hHsS]
        refine ⟨q1, q2, fun t ht => ?_, fun j o' t hj hoj hdj hu => ?_⟩
        · rw [q3 t fun j hj => ht j (by simp [hj]), h2 t]
          cases hd : (ops[i]).dst with
          | none => rfl
          | some d =>
            have hdt : d ≠ t := fun e => ht i (by simp) _ hoi (by rw [hd, e])
            show (bif Nat.beq d t then u else fr.get t) = fr.get t
            cases e : Nat.beq d t with
            | true => exact absurd (beq_true e) hdt
            | false => rfl
        · rcases List.mem_cons.1 hj with rfl | hj'
          · rw [if_pos rfl]
            rw [hoi] at hoj; cases hoj
            rw [q3 t fun k' hk' o'' ho'' => hu k' (by simp [hk']) (hne k' (by simp [hk'])) o'' ho'', h2 t, hdj]
            simp
          · have hji := hne j (by simp [hj'])
            rw [if_neg hji]
            exact q4 j o' t hj' hoj hdj fun k' hk' hn => hu k' (List.mem_cons_of_mem _ hk') hn
    · intro t ht
      rw [k4 t fun j hj => ht j (by simp [hj]), h2 t]
      cases hd : (ops[i]).dst with
      | none => rfl
      | some d =>
        have hdt : d ≠ t := fun e => ht i (by simp) _ hoi (by rw [hd, e])
        show (bif Nat.beq d t then u else fr.get t) = fr.get t
        cases e : Nat.beq d t with
        | true => exact absurd (beq_true e) hdt
        | false => rfl
    · intro j o' t hj hoj hdj hu
      rcases List.mem_cons.1 hj with rfl | hj'
      · simp only [↓reduceIte]
        rw [hoi] at hoj; cases hoj
        rw [k4 t fun k' hk' o'' ho'' => hu k' (by simp [hk']) (hne k' hk') o'' ho'', h2 t, hdj]
        simp
      · have hji := hne j hj'
        simp only [if_neg hji]
        exact k5 j o' t hj' hoj hdj fun k' hk' hn => hu k' (by simp [hk']) hn

/-! ### the order in which the head is evaluated -/
theorem range_split {i n : Nat} (h : i < n) : List.range n = List.range i ++ i :: (List.range' (i + 1) (n - i - 1)) := by
  have e : n = i + (1 + (n - i - 1)) := by omega
  rw [List.range_eq_range', List.range_eq_range', e, ← List.range'_append_1, ← List.range'_append_1]
  simp

theorem cntE_append (C : Ctx) (ops : Array Oper) : ∀ (a b : List Nat), cntE C ops (a ++ b) = cntE C ops a + cntE C ops b
  | [], b => by simp [cntE]
  | x :: a, b => by simp only [List.cons_append, cntE, cntE_append C ops a b]; omega
theorem cntE_filter (C : Ctx) (ops : Array Oper) {p : Nat → Bool} (h : ∀ j, effO C ops j = true → p j = true) : ∀ l : List Nat, cntE C ops (l.filter p) = cntE C ops l
  | [] => rfl
  | x :: l => by
    rw [List.filter_cons]
    cases hp : p x with
    | true => rw [if_pos rfl]; simp only [cntE, cntE_filter C ops h l]
    | false =>
      rw [if_neg (by simp)]
      have : effO C ops x = false := by
        cases e : effO C ops x with
        | false => rfl
        | true => rw [h x e] at hp; cases hp
      simp only [cntE, cntE_filter C ops h l, this, cond_false]
      omega
theorem cntE_none (C : Ctx) (ops : Array Oper) : ∀ l : List Nat, (∀ j ∈ l, effO C ops j = false) → cntE C ops l = 0
  | [], _ => rfl
  | x :: l, h => by simp only [cntE, cntE_none C ops l fun j hj => h j (by simp [hj]), h x (by simp), cond_false]
theorem cntE_range_mono (C : Ctx) (ops : Array Oper) {i j : Nat} (h : i ≤ j) : cntE C ops (List.range i) ≤ cntE C ops (List.range j) := by
  rcases Nat.eq_or_lt_of_le h with rfl | h
  · exact Nat.le_refl _
  · rw [range_split h, cntE_append]; omega
theorem cntE_range_lt (C : Ctx) (ops : Array Oper) {i j : Nat} (h : i < j) (he : effO C ops i = true) : cntE C ops (List.range i) < cntE C ops (List.range j) := by
  rw [range_split h, cntE_append]
  simp only [cntE, he, cond_true]
  omega

theorem drawOrd_pos {ops : Array Oper} {head : List Oper} {ms : List Nat} (hE : ∀ j, j < head.length → effAt C head j = effO C ops j) {i : Nat} (hi : i < head.length) :
    ∃ l1 l2, drawOrd C head ms = l1 ++ i :: l2 ∧
      (early C head ms i = true → cntE C ops l1 = 0 ∧ (∀ j, j ∈ l1 ↔ (early C head ms j = true ∧ j < i))) ∧
      (early C head ms i = false → cntE C ops l1 = cntE C ops (List.range i) ∧ (∀ j, j ∈ l1 ↔ ((early C head ms j = true ∧ j < head.length) ∨ (early C head ms j = false ∧ j < i)))) := by
  have hne : ∀ j, j < head.length → early C head ms j = true → effO C ops j = false := by
    intro j hj h
    simp only [early, Bool.and_eq_true, Bool.not_eq_true'] at h
    rw [← hE j hj]; exact h.1
  unfold drawOrd
  cases he : early C head ms i with
  | true =>
    refine ⟨(List.range i).filter (early C head ms), (List.range' (i + 1) (head.length - i - 1)).filter (early C head ms) ++ (List.range head.length).filter fun i => !early C head ms i, ?_, fun _ => ⟨?_, fun j => ?_⟩, fun e => by cases e⟩
    · conv => lhs; arg 1; rw [range_split hi, List.filter_append, List.filter_cons, if_pos he]
      simp
    · exact cntE_none C ops _ fun j hj => by
        simp only [List.mem_filter, List.mem_range] at hj
        exact hne j (by omega) hj.2
    · simp only [List.mem_filter, List.mem_range]
      exact ⟨fun h => ⟨h.2, h.1⟩, fun h => ⟨h.2, h.1⟩⟩
  | false =>
    refine ⟨(List.range head.length).filter (early C head ms) ++ (List.range i).filter (fun i => !early C head ms i), (List.range' (i + 1) (head.length - i - 1)).filter fun i => !early C head ms i, ?_, (fun e => by cases e), fun _ => ⟨?_, fun j => ?_⟩⟩
    · conv => lhs; arg 2; rw [range_split hi, List.filter_append, List.filter_cons, if_pos (by rw [he]; rfl)]
      simp
    · rw [cntE_append, cntE_none C ops ((List.range head.length).filter (early C head ms)) fun j hj => by
        simp only [List.mem_filter, List.mem_range] at hj
        exact hne j hj.1 hj.2, Nat.zero_add]
      have : ∀ l : List Nat, (∀ j ∈ l, j < head.length) → cntE C ops (l.filter fun i => !early C head ms i) = cntE C ops l := by
        intro l
        induction l with
        | nil => intro _; rfl
        | cons x l ih =>
          intro hl
          rw [List.filter_cons]
          cases hp : early C head ms x with
          | false => simp only [Bool.not_false, if_true, cntE, ih fun j hj => hl j (by simp [hj])]
          | true =>
            simp only [Bool.not_true, Bool.false_eq_true, if_false, cntE, ih fun j hj => hl j (by simp [hj]), hne x (hl x (by simp)) hp, cond_false]
            omega
      exact this _ fun j hj => by simp only [List.mem_range] at hj; omega
    · simp only [List.mem_append, List.mem_filter, List.mem_range, Bool.not_eq_true']
      constructor
      · rintro (h | h)
        · exact .inl ⟨h.2, h.1⟩
        · exact .inr ⟨h.2, h.1⟩
      · rintro (h | h)
        · exact .inl ⟨h.2, h.1⟩
        · exact .inr ⟨h.2, h.1⟩

theorem drawOrd_cnt {ops : Array Oper} {head : List Oper} {ms : List Nat} (hE : ∀ j, j < head.length → effAt C head j = effO C ops j) : cntE C ops (drawOrd C head ms) = cntE C ops (List.range head.length) := by
  have hne : ∀ j, j < head.length → early C head ms j = true → effO C ops j = false := by
    intro j hj h
    simp only [early, Bool.and_eq_true, Bool.not_eq_true'] at h
    rw [← hE j hj]; exact h.1
  unfold drawOrd
  rw [cntE_append, cntE_none C ops ((List.range head.length).filter (early C head ms)) fun j hj => by
        simp only [List.mem_filter, List.mem_range] at hj
        exact hne j hj.1 hj.2, Nat.zero_add]
  have : ∀ l : List Nat, (∀ j ∈ l, j < head.length) → cntE C ops (l.filter fun i => !early C head ms i) = cntE C ops l := by
    intro l
    induction l with
    | nil => intro _; rfl
    | cons x l ih =>
      intro hl
      rw [List.filter_cons]
      cases hp : early C head ms x with
      | false => simp only [Bool.not_false, if_true, cntE, ih fun j hj => hl j (by simp [hj])]
      | true =>
        simp only [Bool.not_true, Bool.false_eq_true, if_false, cntE, ih fun j hj => hl j (by simp [hj]), hne x (hl x (by simp)) hp, cond_false]
        omega
  exact this _ fun j hj => by simpa using hj

theorem cnt_hit {ops : Array Oper} {m : Nat} : ∀ n, m < cntE C ops (List.range n) → ∃ j, j < n ∧ effO C ops j = true ∧ cntE C ops (List.range j) = m
  | 0, h => by simp [cntE] at h
  | n + 1, h => by
    rw [List.range_succ, cntE_append] at h
    simp only [cntE] at h
    by_cases h' : m < cntE C ops (List.range n)
    · obtain ⟨j, h1, h2⟩ := cnt_hit n h'
      exact ⟨j, by omega, h2⟩
    · cases he : effO C ops n with
      | false => simp only [he, cond_false] at h; omega
      | true => simp only [he, cond_true] at h; exact ⟨n, by omega, he, by omega⟩

theorem maskEs_of {acc : List Nat} : ∀ {es : List Edge} {e : Edge}, e ∈ es → Region.binds .any e = true → (maskEs acc es).testBit e.on = true ∧ ∀ k, (acc.getD e.on 0).testBit k = true → (maskEs acc es).testBit k = true
  | x :: r, e, h, hb => by
    rcases List.mem_cons.1 h with rfl | h
    · simp only [maskEs, hb, cond_true, Nat.testBit_or, Bool.or_eq_true]
      refine ⟨.inl (.inr ?_), fun k hk => .inl (.inl hk)⟩
      rw [Nat.one_shiftLeft, Nat.testBit_two_pow]
      simp
    · obtain ⟨h1, h2⟩ := maskEs_of (acc := acc) h hb
      simp only [maskEs]
      cases Region.binds .any x with
      | false => exact ⟨h1, h2⟩
      | true => simp only [cond_true, Nat.testBit_or, Bool.or_eq_true]; exact ⟨.inr h1, fun k hk => .inr (h2 k hk)⟩

theorem mask_has {l : List Oper} {i : Nat} {o : Oper} {e : Edge} (ho : l[i]? = some o) (he : e ∈ o.after) (hb : Region.binds .any e = true) (hlt : e.on < i) :
    ((masksOf l []).getD i 0).testBit e.on = true ∧ ∀ k, ((masksOf l []).getD e.on 0).testBit k = true → ((masksOf l []).getD i 0).testBit k = true := by
  obtain ⟨acc', k1, k2, k3⟩ := (masksOf_get l []).2 i o ho
  simp only [List.length_nil, Nat.zero_add] at k1 k2 k3
  obtain ⟨h1, h2⟩ := maskEs_of (acc := acc') (es := o.after.toList) (by simpa using he) hb
  rw [List.getD_eq_getElem?_getD, k3]
  refine ⟨h1, fun k hk => h2 k ?_⟩
  rw [List.getD_eq_getElem?_getD, k1 e.on hlt, ← List.getD_eq_getElem?_getD]
  exact hk

theorem getD_get {l : Array Bool} {i : Nat} (h : i < l.size) (d d' : Bool) : l.getD i d = l.getD i d' := by simp [Array.getD, h]

/-- What is known of a call that writes one box. -/
theorem ownArg_stay (hc : CallsOk0 P C) {o : Oper} {a : Option Operand} (h : ownArg C o = some a) {ρ : Operand → V} (hρ : ∀ f, ρ (.func f) = .fn f []) {av : V} (ha : ∀ x, a = some x → ρ x = av) {H H' : Heap} {u : V} (hev : ∀ K : V → Heap → Prop, K u H' → evalOpD C o ρ H K) : StayOf av H H' := by
  obtain ⟨dst, op, type, pos, after, guard⟩ := o
  have he := hev (fun v h => v = u ∧ h = H') ⟨rfl, rfl⟩
  unfold ownArg at h
  simp only at h
  split at h
  · rename_i f args argTypes
    split at h
    · rename_i hp
      split at h
      · rename_i a0 ha0
        cases h
        have hl : ∃ r, args.toList = a0 :: r := by
          cases hl : args.toList with
          | nil => rw [← Array.getElem?_toList, hl] at ha0; simp at ha0
          | cons x r =>
            rw [← Array.getElem?_toList, hl] at ha0
            simp at ha0
            exact ⟨r, by rw [ha0]⟩
        obtain ⟨r, hl⟩ := hl
        simp only [evalOpD, evalOp, hρ, hl, List.map_cons, ha _ rfl, List.cons_append] at he
        have h2 := callV_local hc.loc hp hc.ang he
        obtain ⟨v, H1, h3, _⟩ := callV_ang hc.ang _ _ _ _ h2
        obtain ⟨⟨_, rfl⟩, h4⟩ := h3
        exact h4
      · cases h
    · cases h
  · rename_i args argTypes
    simp only [evalOpD, evalOp] at he
    split at he
    · split at he
      · rename_i t u' _
        cases hb : Nat.beq t u' with
        | true => simp only [hb, cond_true] at he; exact .of (appendV_stay he)
        | false => simp only [hb, cond_false] at he; exact .of (appendZ_stay he)
      · exact he.elim
    · exact he.elim
  · simp only [evalOpD, evalOp] at he
    exact .of (buildSliceV_stay he)
  · cases h
theorem loadOf_eq {o : Oper} {x : Operand} (h : loadOf o = some x) : ∃ t, o.op = .load t x := by
  unfold loadOf at h
  split at h
  · rename_i t y e; cases h; exact ⟨t, e⟩
  · cases h

theorem touchOf_mem {o : Oper} {a : Bool × List Operand} (h : touchOf C o = some a) {x : Operand} (hx : x ∈ a.2) : x ∈ o.op.operands := by
  obtain ⟨dst, op, type, pos, after, guard⟩ := o
  unfold touchOf at h
  simp only at h
  split at h
  · rename_i f args argTypes
    split at h
    · cases hes : C.es f with
      | false => rw [hes] at h; cases h
      | true =>
        rw [hes] at h
        simp only [cond_true] at h
        cases h
        simp only [Op.operands, Call.operands]
        simp only at hx
        simpa using Or.inr hx
    · cases h
  · rename_i t y lo hi mx
    cases h
    simp only [List.mem_singleton] at hx
    subst hx
    simp [Op.operands]
  · rename_i t y v
    cases h
    simp only [List.mem_singleton] at hx
    subst hx
    simp [Op.operands]
  · cases h
theorem readOf_mem {o : Oper} {x : Operand} (h : readOf o = some x) : x ∈ o.op.operands := by
  obtain ⟨dst, op, type, pos, after, guard⟩ := o
  unfold readOf at h
  simp only at h
  split at h
  · cases h; simp [Op.operands]
  · cases h; simp [Op.operands]
  · rename_i args tys
    have := List.mem_of_getElem? (show args.toList[0]? = some x by rw [Array.getElem?_toList]; exact h)
    simp only [Op.operands, Call.operands]
    simpa using this
  · cases h
theorem of_bif {b : Bool} {p : Prop} (h : bif b then p else False) : p := by cases b with | true => exact h | false => exact h.elim
theorem cond_mono {b : Bool} {p q : Prop} (h : bif b then p else False) (hpq : p → q) : bif b then q else False := by cases b with | true => exact hpq h | false => exact h
theorem loadV_mono {t : TypeId} {v : V} {H : Heap} {K K' : V → Prop} (h : loadV C t v H K) (hK : ∀ v, K v → K' v) : loadV C t v H K' := by
  obtain ⟨u, h1, h2⟩ := loadV_ang t v H K h
  exact h2 K' (hK u h1)
theorem indexAddrV_mono {t : TypeId} {v ix : V} {H : Heap} {K K' : V → Prop} (h : indexAddrV C t v ix H K) (hK : ∀ v, K v → K' v) : indexAddrV C t v ix H K' := by
  obtain ⟨u, h1, h2⟩ := indexAddrV_ang t v ix H K h
  exact h2 K' (hK u h1)
theorem lenV_mono {v : V} {H : Heap} {K K' : V → Prop} (h : lenV v H K) (hK : ∀ v, K v → K' v) : lenV v H K' := by
  obtain ⟨u, h1, h2⟩ := lenV_ang v H K h
  exact h2 K' (hK u h1)
/-- A cut changes the one thing that it cuts. -/
theorem sliceV_stayE {t : TypeId} {v : V} {lo hi : Option V} {H H' : Heap} {u : V} {tt : Option Nat} (ht : touchL true [v] = some tt) (h : sliceV C t v lo hi H (fun w h => w = u ∧ h = H')) : StayE tt H H' := by
  have hv : (∃ id ver, v = .obj id ver ∧ tt = some id) ∨ (immut v = true ∧ tt = none) := by
    unfold touchL at ht
    simp only [immuts, cond_true] at ht
    cases hi : immut v with
    | true =>
      refine .inr ⟨rfl, ?_⟩
      cases v <;> first | (simp [immut] at hi; done) | (simp only [hi, cond_true] at ht; cases ht; rfl)
    | false =>
      cases v <;> first | (simp only [hi, cond_false] at ht; cases ht; done) | (cases ht; done) | (cases ht; exact .inl ⟨_, _, rfl, rfl⟩)
  unfold sliceV at h
  split at h
  · exact h.elim
  · split at h
    · split at h
      · split at h
        · have := of_cond h
          rw [← this.2]; exact .refl _ _
        · exact h.elim
      · exact h.elim
    · split at h
      · rename_i id off
        rcases hv with ⟨_, _, e, _⟩ | ⟨e, _⟩
        · cases e
        · simp [immut] at e
      · exact h.elim
    · cases hb : (Nat.beq (C.ti _).size (C.ti t).ty.size && !Nat.beq (C.ti _).size 0) with
      | false => rw [hb] at h; simp only [cond_false] at h
      | true =>
        rw [hb] at h
        simp only [cond_true] at h
        split at h
        · split at h
          · split at h
            · have := of_cond h
              rw [← this.2]; exact .refl _ _
            · exact h.elim
          · exact h.elim
        · split at h
          · have := of_cond h
            rw [← this.2]; exact .refl _ _
          · exact h.elim
        · rename_i id ver
          have htt : tt = some id := by
            rcases hv with ⟨_, _, e, e2⟩ | ⟨e, _⟩
            · cases e; exact e2
            · simp [immut] at e
          subst htt
          split at h
          · split at h
            · have h := of_cond h
              split at h
              · generalize (C.mv && (Nat.beq _ 0 && Nat.ble C.base id)) = b at h
                cases b with
                | true =>
                  have := of_cond h
                  rw [← this.2]; exact .set _ _ _
                | false =>
                  have := of_cond h
                  rw [← this.2]; exact .set _ _ _
              · exact h.elim
            · exact h.elim
          · split at h
            · have h := of_cond h
              split at h
              · have := of_cond h
                rw [← this.2]; exact .refl _ _
              · exact h.elim
            · exact h.elim
          · exact h.elim
        · exact h.elim
    · exact h.elim

/-- What is known of an effect that changes one thing alone. -/
theorem storeV_stayE {t : TypeId} {x v : V} {H H' : Heap} {K : Heap → Prop} {tt : Option Nat} (ht : touchL false [x] = some tt) (h : storeV C t x v H K) (hK : ∀ h, K h → h = H') : StayE tt H H' := by
  unfold storeV at h
  split at h
  · exact h.elim
  · rename_i vs hvs
    have h := of_bif h
    split at h
    · rename_i id off
      simp only [touchL, immuts, cond_true, cond_false] at ht
      cases ht
      split at h
      · have h := of_bif h
        rw [← hK _ h]
        exact .set _ _ _
      · exact h.elim
    all_goals
      simp [touchL, immuts, immut] at ht
    all_goals exact h.elim
theorem touch_stay (hc : CallsOk0 P C) {o : Oper} {a : Bool × List Operand} (h : touchOf C o = some a) {ρ : Operand → V} (hρ : ∀ f, ρ (.func f) = .fn f []) {tt : Option Nat} (ht : touchL a.1 (a.2.map ρ) = some tt) {H H' : Heap} {u : V} (hev : ∀ K : V → Heap → Prop, K u H' → evalOpD C o ρ H K) : StayE tt H H' := by
  obtain ⟨dst, op, type, pos, after, guard⟩ := o
  have he := hev (fun v h => v = u ∧ h = H') ⟨rfl, rfl⟩
  unfold touchOf at h
  simp only at h
  split at h
  · rename_i f args argTypes
    split at h
    · rename_i hp
      cases hes : C.es f with
      | false => rw [hes] at h; cases h
      | true =>
        rw [hes] at h
        simp only [cond_true] at h
        cases h
        simp only at ht
        cases hl : args.toList with
        | nil => rw [hl] at ht; cases ht
        | cons a0 r =>
          rw [hl, List.map_cons] at ht
          simp only [evalOpD, evalOp, hρ, hl, List.map_cons, List.append_nil] at he
          have h2 := callV_localE hc.2.2.1 hp hes ht he
          obtain ⟨v, H1, h3, _⟩ := callV_ang hc.ang _ _ _ _ h2
          obtain ⟨⟨_, rfl⟩, h4⟩ := h3
          exact h4
    · cases h
  · rename_i t x lo hi mx
    cases h
    simp only [List.map_cons, List.map_nil] at ht
    simp only [evalOpD] at he
    have he := of_bif he
    cases mx with
    | none => simp only [evalOp] at he; exact sliceV_stayE ht he
    | some _ => simp only [evalOp] at he
  · rename_i t x v
    cases h
    simp only [List.map_cons, List.map_nil] at ht
    simp only [evalOpD, evalOp] at he
    exact storeV_stayE ht he fun h hh => hh.2
  · cases h

/-- A read of a thing that stays. -/
theorem read_stay {o : Oper} {x : Operand} (hr : readOf o = some x) (hvw : C.vw = true) {ρ : Operand → V} {tt : Option Nat} (ha : apartB tt (idOf (ρ x)) = true) {H H' : Heap} (hs : StayE tt H H') {u : V} (h : evalOpD C o ρ H (fun v h => v = u ∧ h = H)) : evalOpD C o ρ H' (fun v h => v = u ∧ h = H') := by
  have hk : ∀ id, idOf (ρ x) = some id → ∀ o, H[id]? = some o → H'[id]? = some o := fun id e o ho => hs id (fun e2 => by
    rw [e2, e] at ha
    simp only [apartB, Bool.not_eq_true'] at ha
    have : Nat.beq id id = true := by simp
    rw [this] at ha; cases ha) o ho
  obtain ⟨dst, op, type, pos, after, guard⟩ := o
  unfold readOf at hr
  simp only at hr
  split at hr
  · rename_i t y
    cases hr
    simp only [evalOpD, evalOp] at h ⊢
    refine loadV_mono (loadV_keep hk h) fun v hv => ⟨hv.1, by first | trivial | rfl⟩
  · rename_i t y ix
    cases hr
    simp only [evalOpD, evalOp] at h ⊢
    refine indexAddrV_mono (indexAddrV_keep hk h) fun v hv => ⟨hv.1, by first | trivial | rfl⟩
  · rename_i args tys
    simp only [evalOpD] at h ⊢
    have hm : C.mvl = false := by unfold Ctx.mvl; rw [hvw]; simp
    simp only [hm, Bool.not_false, Bool.true_or, cond_true, evalOp] at h ⊢
    split at h
    · rename_i z hz
      have : z = x := by
        rw [← Array.getElem?_toList, hz] at hr
        simpa using hr
      subst this
      split at h
      · split at h
        · exact lenV_mono (lenV_keep hk h) fun v hv => ⟨hv.1, by first | trivial | rfl⟩
        · split at h
          · exact ⟨h.1, by first | trivial | rfl⟩
          · exact h.elim
        · rename_i n _ _
          exact cond_mono h fun hv => ⟨hv.1, by first | trivial | rfl⟩
        · exact h.elim
      · exact h.elim
    · exact h.elim
  · cases hr


theorem vcall_stay (hc : CallAng C) {o : Oper} {as : List Operand} (h : vcallOf C o = some as) {ρ : Operand → V} (hρ : ∀ f, ρ (.func f) = .fn f []) (hi : immuts (as.map ρ) = true) {H H' : Heap} {u : V} (he : evalOpD C o ρ H (fun v h => v = u ∧ h = H)) : evalOpD C o ρ H' (fun v h => v = u ∧ h = H') := by
  obtain ⟨dst, op, type, pos, after, guard⟩ := o
  unfold vcallOf at h
  simp only at h
  split at h
  · rename_i f args argTypes
    split at h
    · rename_i hp
      cases h
      have hcf := hc f
      simp only [hp] at hcf
      simp only [evalOpD, evalOp, hρ, List.append_nil] at he ⊢
      unfold callV at he ⊢
      simp only [hp, hi, cond_true] at he ⊢
      obtain ⟨v, h1, h2⟩ := hcf _ _ he
      exact h2 _ ⟨h1.1, by first | trivial | rfl⟩
    · cases h
  · cases h
theorem vcallOf_mem {o : Oper} {as : List Operand} (h : vcallOf C o = some as) {x : Operand} (hx : x ∈ as) : x ∈ o.op.operands := by
  obtain ⟨dst, op, type, pos, after, guard⟩ := o
  unfold vcallOf at h
  simp only at h
  split at h
  · rename_i f args argTypes
    split at h
    · cases h
      simp only [Op.operands, Call.operands]
      simpa using Or.inr hx
    · cases h
  · cases h
theorem drawOkF_of {ops : List Oper} {ms : List Nat} {n : Nat} (h : drawOk C ops ms n = true) : drawOkF C ops ms n = true := by
  unfold drawOk at h
  unfold drawOkF
  simp only [Bool.and_eq_true, List.all_eq_true] at h ⊢
  refine ⟨h.1, fun p hp => ⟨(h.2 p hp).1, ?_⟩⟩
  have := (h.2 p hp).2
  revert this
  cases Nat.blt p.2 n with
  | false => exact id
  | true =>
    simp only [cond_true, Bool.or_eq_true]
    exact .inr
end
end Go.Ev
