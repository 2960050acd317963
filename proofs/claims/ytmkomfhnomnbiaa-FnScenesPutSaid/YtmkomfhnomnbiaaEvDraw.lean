/- A statement whose order Go leaves open: the order of the text serves for all. -/
import Derived.Test.YtmkomfhnomnbiaaEvCode
import Derived.Test.YtmkomfhnomnbiaaEvQuiet
set_option linter.unusedVariables false
set_option linter.unusedSimpArgs false
namespace Go.Ev

theorem all_zipIdx {α : Type} {p : α × Nat → Bool} {l : List α} (h : l.zipIdx.all p = true) {i : Nat} {o : α} (hi : l[i]? = some o) : p (o, i) = true := by
  rw [List.all_eq_true] at h
  apply h
  rw [List.mem_iff_getElem?]
  exact ⟨i, by rw [List.getElem?_zipIdx, hi]; simp⟩

theorem edgeOn_sound {o : Oper} {j : Nat} (h : edgeOn o j = true) : ∃ e ∈ o.after, Region.binds .any e = true ∧ e.on = j := by
  simp only [edgeOn, Array.any_eq_true'] at h
  obtain ⟨e, he, h⟩ := h
  simp only [Bool.and_eq_true] at h
  exact ⟨e, he, h.2, beq_true h.1⟩

/-! ### how many have not been listed -/
def unl (listed : Array Bool) : Nat → Nat
  | 0 => 0
  | n + 1 => unl listed n + (bif listed.getD n false then 0 else 1)

theorem unl_set_ge (listed : Array Bool) (i : Nat) : ∀ n, n ≤ i → unl (listed.setIfInBounds i true) n = unl listed n
  | 0, _ => rfl
  | n + 1, h => by
    simp only [unl]
    rw [unl_set_ge listed i n (by omega), getD_set_ne false (by omega)]
theorem unl_set {listed : Array Bool} {i : Nat} (hi : i < listed.size) (h0 : listed.getD i false = false) : ∀ n, i < n → unl (listed.setIfInBounds i true) n + 1 = unl listed n
  | 0, h => by omega
  | n + 1, h => by
    simp only [unl]
    by_cases e : i = n
    · subst e
      rw [unl_set_ge listed i i (Nat.le_refl _), h0]
      have : (listed.setIfInBounds i true).getD i false = true := by simp [hi]
      rw [this]
      rfl
    · have := unl_set hi h0 n (by omega)
      rw [getD_set_ne false e]
      omega
theorem unl_zero {listed : Array Bool} : ∀ n, unl listed n = 0 → ∀ j, j < n → listed.getD j false = true
  | 0, _, j, hj => by omega
  | n + 1, h, j, hj => by
    simp only [unl] at h
    by_cases e : j = n
    · subst e
      cases hl : listed.getD j false with
      | true => rfl
      | false => simp [hl] at h
    · exact unl_zero n (by omega) j (by omega)
theorem unl_all {listed : Array Bool} : ∀ n, (∀ j, j < n → listed.getD j false = true) → unl listed n = 0
  | 0, _ => rfl
  | n + 1, h => by
    simp only [unl]
    rw [unl_all n fun j hj => h j (by omega), h n (by omega)]
    rfl
theorem unl_replicate (n : Nat) : unl (Array.replicate n false) n = n := by
  have : ∀ m, unl (Array.replicate n false) m = m := by
    intro m
    induction m with
    | zero => rfl
    | succ m ih =>
      simp only [unl, ih]
      have : (Array.replicate n false).getD m false = false := by
        by_cases h : m < n <;> simp [Array.getD_eq_getD_getElem?, h]
      rw [this]
      rfl
  exact this n


/-! ### what an operation waits for, through others too -/
theorem maskEs_bit {acc : List Nat} : ∀ {es : List Edge} {j : Nat}, (maskEs acc es).testBit j = true → ∃ e ∈ es, Region.binds .any e = true ∧ (e.on = j ∨ (acc.getD e.on 0).testBit j = true)
  | [], j, h => by simp [maskEs] at h
  | e :: r, j, h => by
    simp only [maskEs] at h
    cases hb : Region.binds .any e with
    | false =>
      simp only [hb, cond_false] at h
      obtain ⟨e', h1, h2⟩ := maskEs_bit h
      exact ⟨e', by simp [h1], h2⟩
    | true =>
      simp only [hb, cond_true, Nat.testBit_or, Bool.or_eq_true] at h
      rcases h with (h | h) | h
      · exact ⟨e, by simp, hb, .inr h⟩
      · refine ⟨e, by simp, hb, .inl ?_⟩
        rw [Nat.one_shiftLeft, Nat.testBit_two_pow] at h
        simpa using h
      · obtain ⟨e', h1, h2⟩ := maskEs_bit h
        exact ⟨e', by simp [h1], h2⟩

theorem masksOf_get : ∀ (l : List Oper) (acc : List Nat), (∀ i, i < acc.length → (masksOf l acc)[i]? = acc[i]?) ∧
    ∀ (i : Nat) (o : Oper), l[i]? = some o → ∃ acc', (∀ k, k < acc.length + i → acc'[k]? = (masksOf l acc)[k]?) ∧ acc'.length = acc.length + i ∧ (masksOf l acc)[acc.length + i]? = some (maskEs acc' o.after.toList)
  | [], acc => ⟨fun _ _ => rfl, by simp⟩
  | o :: r, acc => by
    obtain ⟨h1, h2⟩ := masksOf_get r (acc ++ [maskEs acc o.after.toList])
    simp only [masksOf]
    refine ⟨fun i hi => ?_, fun i o' ho => ?_⟩
    · rw [h1 i (by simp; omega), List.getElem?_append_left hi]
    · cases i with
      | zero =>
        simp at ho
        subst ho
        refine ⟨acc, fun k hk => ?_, by simp, ?_⟩
        · rw [h1 k (by simp; omega), List.getElem?_append_left (by omega)]
        · rw [h1 _ (by simp)]
          simp
      | succ i =>
        obtain ⟨acc', k1, k2, k3⟩ := h2 i o' (by simpa using ho)
        simp only [List.length_append, List.length_cons, List.length_nil] at k1 k2 k3
        exact ⟨acc', fun k hk => k1 k (by omega), by omega, by rw [show acc.length + (i + 1) = acc.length + (0 + 1) + i by omega]; exact k3⟩

/-- Where all that an operation waits for is done, so is all that it waits for through others. -/
theorem mask_done {l : List Oper} {D : Nat → Prop} (hback : ∀ (i : Nat) (o : Oper), l[i]? = some o → ∀ e ∈ o.after, Region.binds .any e = true → e.on < i)
    (hcl : ∀ (i : Nat) (o : Oper), l[i]? = some o → D i → ∀ e ∈ o.after, Region.binds .any e = true → D e.on) :
    ∀ (i : Nat) (o : Oper), l[i]? = some o → (∀ e ∈ o.after, Region.binds .any e = true → D e.on) → ∀ j, ((masksOf l []).getD i 0).testBit j = true → D j := by
  intro i
  induction i using Nat.strongRecOn with
  | _ i ih =>
    intro o ho hd j hj
    obtain ⟨acc', k1, k2, k3⟩ := (masksOf_get l []).2 i o ho
    simp only [List.length_nil, Nat.zero_add] at k1 k2 k3
    rw [List.getD_eq_getElem?_getD, k3] at hj
    simp only [Option.getD_some] at hj
    obtain ⟨e, he, hb, hon⟩ := maskEs_bit hj
    have he' : e ∈ o.after := by simpa using he
    have hde := hd e he' hb
    rcases hon with rfl | hon
    · exact hde
    · have hlt := hback i o ho e he' hb
      have hli : i < l.length := by
        rcases Nat.lt_or_ge i l.length with h' | h'
        · exact h'
        · rw [List.getElem?_eq_none h'] at ho; cases ho
      have ho2 : l[e.on]? = some (l[e.on]'(by omega)) := List.getElem?_eq_getElem (by omega)
      refine ih e.on hlt _ ho2 (fun e2 h2 hb2 => hcl e.on _ ho2 hde e2 h2 hb2) j ?_
      rw [List.getD_eq_getElem?_getD, k1 e.on hlt, ← List.getD_eq_getElem?_getD] at hon
      exact hon


section
variable {P : Program} {C : Ctx} {w0 : World} {M0 : Mem} {own0 : Z}

def effO (C : Ctx) (ops : Array Oper) (i : Nat) : Bool := match ops[i]? with
  | some o => (kindOf C o.op).eff
  | none => false
def cntE (C : Ctx) (ops : Array Oper) : List Nat → Nat
  | [] => 0
  | i :: r => (bif effO C ops i then 1 else 0) + cntE C ops r

/-- What one operation came to: its value and the memory (nothing, where its guard says no). -/
def RanD (C : Ctx) (ops : Array Oper) (o : Oper) (φ : Nat → V) (u : V) (H H' : Heap) : Prop :=
  (∃ fr', (∀ t, Fr.get fr' t = φ t) ∧ (∀ K : V → Heap → Prop, K u H' → evalOpD C o (Fr.eval fr') H K) ∧
    ((kindOf C o.op).eff = false → H' = H ∧ (∀ (X : Heap) (K : V → Heap → Prop), K u (H ++ X) → evalOpD C o (Fr.eval fr') (H ++ X) K) ∧
      (kindOf C o.op = .blind → ∀ (H2 : Heap) (K : V → Heap → Prop), K u H2 → evalOpD C o (Fr.eval fr') H2 K)) ∧
    (kindOf C o.op = .alloc → ∃ X, H' = H ++ X) ∧
    (o.guard = none ∨ ∃ j want d, o.guard = some (j, want) ∧ (ops[j]?).bind (·.dst) = some d ∧ φ d = .bool want)) ∨
  (u = .tuple [] ∧ H' = H ∧ ∃ j want d, o.guard = some (j, want) ∧ (ops[j]?).bind (·.dst) = some d ∧ (φ d = .bool (!want) ∨ φ d = .tuple []))

theorem ranD_step (hc : CallAng C) {ops : Array Oper} {o : Oper} {l : List Oper} {fr : Fr} {H : Heap} {K : Fr → Heap → Prop} (h : evalOpsD C ops (o :: l) fr H K) :
    ∃ u H1 fr1, RanD C ops o fr.get u H H1 ∧ (∀ t, Fr.get fr1 t = match o.dst with | some d => bif Nat.beq d t then u else fr.get t | none => fr.get t) ∧ (∀ d, o.dst = some d → d < C.ntmps) ∧ evalOpsD C ops l fr1 H1 K := by
  have fin : ∀ (fr0 : Fr) (u : V) (H1 : Heap), (∀ t, fr0.get t = fr.get t) → RanD C ops o fr.get u H H1 → put C fr0 o.dst u (fun fr' => evalOpsD C ops l fr' H1 K) →
      ∃ u H1 fr1, RanD C ops o fr.get u H H1 ∧ (∀ t, Fr.get fr1 t = match o.dst with | some d => bif Nat.beq d t then u else fr.get t | none => fr.get t) ∧ (∀ d, o.dst = some d → d < C.ntmps) ∧ evalOpsD C ops l fr1 H1 K := by
    intro fr0 u H1 hfr hr hp
    cases hd : o.dst with
    | none =>
      rw [hd] at hp
      exact ⟨u, H1, fr0, hr, hfr, (fun d e => by cases e), hp⟩
    | some d =>
      rw [hd] at hp
      simp only [put] at hp
      cases hb : Nat.blt d C.ntmps with
      | false => simp only [hb, cond_false] at hp
      | true =>
        simp only [hb, cond_true] at hp
        refine ⟨u, H1, _, hr, fun t => ?_, (fun d' e => by cases e; rw [Nat.blt_eq] at hb; exact hb), hp⟩
        simp only [Fr.get, hfr]
  have exec : ∀ (fr0 : Fr), (∀ t, fr0.get t = fr.get t) → (o.guard = none ∨ ∃ j want d, o.guard = some (j, want) ∧ (ops[j]?).bind (·.dst) = some d ∧ fr.get d = .bool want) →
      evalOpD C o (Fr.eval fr0) H (fun v H' => put C fr0 o.dst v fun fr' => evalOpsD C ops l fr' H' K) →
      ∃ u H1 fr1, RanD C ops o fr.get u H H1 ∧ (∀ t, Fr.get fr1 t = match o.dst with | some d => bif Nat.beq d t then u else fr.get t | none => fr.get t) ∧ (∀ d, o.dst = some d → d < C.ntmps) ∧ evalOpsD C ops l fr1 H1 K := by
    intro fr0 hfr hgd he
    cases hk : (kindOf C o.op).eff with
    | false =>
      obtain ⟨v, h1, h2, h3⟩ := quiet_D hc o _ (fun _ => rfl) H _ hk he
      have h2' : ∀ K : V → Heap → Prop, K v H → evalOpD C o (Fr.eval fr0) H K := by
        intro K' h'
        have := h2 [] K' (by rw [List.append_nil]; exact h')
        rwa [List.append_nil] at this
      exact fin fr0 v H hfr (.inl ⟨fr0, hfr, h2', fun _ => ⟨rfl, h2, h3⟩, (fun e => by rw [e] at hk; cases hk), hgd⟩) h1
    | true =>
      obtain ⟨v, H1, h1, h2, h3⟩ := eff_D hc o _ (fun _ => rfl) H _ he
      exact fin fr0 v H1 hfr (.inl ⟨fr0, hfr, h2, (fun e => by rw [e] at hk; cases hk), h3, hgd⟩) h1
  have lit : ∀ {d b}, fr.get d = .bool b → ∀ t, Fr.get ((d, .bool b) :: fr) t = fr.get t := by
    intro d b hdb t
    simp only [Fr.get]
    cases e : Nat.beq d t with
    | true => rw [← beq_true e, hdb]; rfl
    | false => rfl
  simp only [evalOpsD] at h
  split at h
  · rename_i hgd
    exact exec fr (fun _ => rfl) (.inl hgd) h
  · rename_i j want hgd
    split at h
    · exact h.elim
    · rename_i dg hdg
      split at h
      · rename_i b hb
        cases want <;> cases b <;> simp only [cond_true, cond_false] at h
        · exact exec _ (lit hb) (.inr ⟨j, _, dg, hgd, hdg, hb⟩) h
        · exact fin _ _ H (lit hb) (.inr ⟨rfl, rfl, j, _, dg, hgd, hdg, .inl hb⟩) h
        · exact fin _ _ H (lit hb) (.inr ⟨rfl, rfl, j, _, dg, hgd, hdg, .inl hb⟩) h
        · exact exec _ (lit hb) (.inr ⟨j, _, dg, hgd, hdg, hb⟩) h
      · rename_i hb
        exact fin fr _ H (fun _ => rfl) (.inr ⟨rfl, rfl, j, want, dg, hgd, hdg, .inr hb⟩) h
      · exact h.elim

/-- The operations' values and memories, one behind the other. -/
theorem runs_D (hc : CallAng C) {ops : Array Oper} {K : Fr → Heap → Prop} : ∀ (ord : List Nat) (fr : Fr) (H : Heap), ord.Nodup → (∀ i ∈ ord, i < ops.size) → evalOpsD C ops (ord.filterMap fun i => ops[i]?) fr H K →
    ∃ (U : Nat → V) (Ψ : Nat → Nat → V) (Hs : Nat → Heap) (fr' : Fr), Hs 0 = H ∧ K fr' (Hs (cntE C ops ord)) ∧
      (∀ (l1 : List Nat) (i : Nat) (l2 : List Nat) (o : Oper), ord = l1 ++ i :: l2 → ops[i]? = some o →
        RanD C ops o (Ψ i) (U i) (Hs (cntE C ops l1)) (Hs (cntE C ops l1 + (bif effO C ops i then 1 else 0))) ∧ (∀ d, o.dst = some d → d < C.ntmps) ∧
        (∀ t, (∀ j ∈ l1, ∀ o', ops[j]? = some o' → o'.dst ≠ some t) → Ψ i t = fr.get t) ∧
        (∀ (j : Nat) (o' : Oper) (t : Nat), j ∈ l1 → ops[j]? = some o' → o'.dst = some t → (∀ k ∈ ord, k ≠ j → ∀ o'', ops[k]? = some o'' → o''.dst ≠ some t) → Ψ i t = U j)) ∧
      (∀ t, (∀ j ∈ ord, ∀ o', ops[j]? = some o' → o'.dst ≠ some t) → fr'.get t = fr.get t) ∧
      (∀ (j : Nat) (o' : Oper) (t : Nat), j ∈ ord → ops[j]? = some o' → o'.dst = some t → (∀ k ∈ ord, k ≠ j → ∀ o'', ops[k]? = some o'' → o''.dst ≠ some t) → fr'.get t = U j) := by
  intro ord
  induction ord with
  | nil => intro fr H _ _ h; exact ⟨fun _ => .undef, fun _ _ => .undef, fun _ => H, fr, rfl, h, by intro l1 i l2 o e; simp at e, fun _ _ => rfl, by simp⟩
  | cons i r ih =>
    intro fr H hnd hlt h
    have hi : i < ops.size := hlt i (by simp)
    have hoi : ops[i]? = some ops[i] := Array.getElem?_eq_getElem hi
    simp only [List.filterMap_cons, hoi] at h
    obtain ⟨u, H1, fr1, h1, h2, h3, h4⟩ := ranD_step hc h
    rw [List.nodup_cons] at hnd
    obtain ⟨U, Ψ, Hs, fr', k1, k2, k3, k4, k5⟩ := ih fr1 H1 hnd.2 (fun j hj => hlt j (by simp [hj])) h4
    have hne : ∀ j ∈ r, j ≠ i := fun j hj e => hnd.1 (e ▸ hj)
    have hquiet : effO C ops i = false → H1 = H := by
      intro he
      simp only [effO, hoi] at he
      rcases h1 with ⟨_, _, _, q, _⟩ | ⟨_, e, _⟩
      · exact (q he).1
      · exact e
    let Hs' : Nat → Heap := bif effO C ops i then (fun m => match m with | 0 => H | m + 1 => Hs m) else Hs
    have hHs0 : Hs' 0 = H := by
      simp only [Hs']
      cases he : effO C ops i with
      | true => rfl
      | false => simp only [cond_false]; rw [k1]; exact hquiet he
    have hHsS : ∀ m, Hs' ((bif effO C ops i then 1 else 0) + m) = Hs m := by
      intro m
      simp only [Hs']
      cases he : effO C ops i with
      | true => simp only [cond_true]; rw [Nat.add_comm]
      | false => simp only [cond_false]; rw [Nat.zero_add]
    have hcnt : ∀ l, cntE C ops (i :: l) = (bif effO C ops i then 1 else 0) + cntE C ops l := fun _ => rfl
    refine ⟨fun k => if k = i then u else U k, fun k => if k = i then fr.get else Ψ k, Hs', fr', hHs0, ?_, ?_, ?_, ?_⟩
    · rw [hcnt, hHsS]; exact k2
    · intro l1 k l2 o he ho
      cases l1 with
      | nil =>
        simp only [List.nil_append, List.cons.injEq] at he
        obtain ⟨rfl, rfl⟩ := he
        rw [hoi] at ho; cases ho
        have e0 : cntE C ops [] = 0 := rfl
        have e1 : Hs' (0 + (bif effO C ops i then 1 else 0)) = H1 := by
          have := hHsS 0
          rw [Nat.add_zero] at this
          rw [Nat.zero_add, this, k1]
        rw [e0, e1, hHs0]
        simp only [↓reduceIte]
        exact ⟨h1, h3, fun _ _ => trivial, fun j _ _ hj => by cases hj⟩
      | cons j0 l1 =>
        simp only [List.cons_append, List.cons.injEq] at he
        obtain ⟨rfl, rfl⟩ := he
        have hkr : k ∈ l1 ++ k :: l2 := by simp
        have hki := hne k hkr
        obtain ⟨q1, q2, q3, q4⟩ := k3 l1 k l2 o rfl ho
        simp only [if_neg hki]
        rw [hcnt, Nat.add_assoc, hHsS, hHsS]
        refine ⟨q1, q2, fun t ht => ?_, fun j o' t hj hoj hdj hu => ?_⟩
        · rw [q3 t fun j hj => ht j (by simp [hj]), h2 t]
          cases hd : (ops[i]).dst with
          | none => rfl
          | some d =>
            have hdt : d ≠ t := fun e => ht i (by simp) _ hoi (by rw [hd, e])
            show (bif Nat.beq d t then u else fr.get t) = fr.get t
            cases e : Nat.beq d t with
            | true => exact absurd (beq_true e) hdt
            | false => rfl
        · rcases List.mem_cons.1 hj with rfl | hj'
          · rw [if_pos rfl]
            rw [hoi] at hoj; cases hoj
            rw [q3 t fun k' hk' o'' ho'' => hu k' (by simp [hk']) (hne k' (by simp [hk'])) o'' ho'', h2 t, hdj]
            simp
          · have hji := hne j (by simp [hj'])
            rw [if_neg hji]
            exact q4 j o' t hj' hoj hdj fun k' hk' hn => hu k' (List.mem_cons_of_mem _ hk') hn
    · intro t ht
      rw [k4 t fun j hj => ht j (by simp [hj]), h2 t]
      cases hd : (ops[i]).dst with
      | none => rfl
      | some d =>
        have hdt : d ≠ t := fun e => ht i (by simp) _ hoi (by rw [hd, e])
        show (bif Nat.beq d t then u else fr.get t) = fr.get t
        cases e : Nat.beq d t with
        | true => exact absurd (beq_true e) hdt
        | false => rfl
    · intro j o' t hj hoj hdj hu
      rcases List.mem_cons.1 hj with rfl | hj'
      · simp only [↓reduceIte]
        rw [hoi] at hoj; cases hoj
        rw [k4 t fun k' hk' o'' ho'' => hu k' (by simp [hk']) (hne k' hk') o'' ho'', h2 t, hdj]
        simp
      · have hji := hne j hj'
        simp only [if_neg hji]
        exact k5 j o' t hj' hoj hdj fun k' hk' hn => hu k' (by simp [hk']) hn

/-! ### the order in which the head is evaluated -/
theorem range_split {i n : Nat} (h : i < n) : List.range n = List.range i ++ i :: (List.range' (i + 1) (n - i - 1)) := by
  have e : n = i + (1 + (n - i - 1)) := by omega
  rw [List.range_eq_range', List.range_eq_range', e, ← List.range'_append_1, ← List.range'_append_1]
  simp

theorem cntE_append (C : Ctx) (ops : Array Oper) : ∀ (a b : List Nat), cntE C ops (a ++ b) = cntE C ops a + cntE C ops b
  | [], b => by simp [cntE]
  | x :: a, b => by simp only [List.cons_append, cntE, cntE_append C ops a b]; omega
theorem cntE_filter (C : Ctx) (ops : Array Oper) {p : Nat → Bool} (h : ∀ j, effO C ops j = true → p j = true) : ∀ l : List Nat, cntE C ops (l.filter p) = cntE C ops l
  | [] => rfl
  | x :: l => by
    rw [List.filter_cons]
    cases hp : p x with
    | true => rw [if_pos rfl]; simp only [cntE, cntE_filter C ops h l]
    | false =>
      rw [if_neg (by simp)]
      have : effO C ops x = false := by
        cases e : effO C ops x with
        | false => rfl
        | true => rw [h x e] at hp; cases hp
      simp only [cntE, cntE_filter C ops h l, this, cond_false]
      omega
theorem cntE_none (C : Ctx) (ops : Array Oper) : ∀ l : List Nat, (∀ j ∈ l, effO C ops j = false) → cntE C ops l = 0
  | [], _ => rfl
  | x :: l, h => by simp only [cntE, cntE_none C ops l fun j hj => h j (by simp [hj]), h x (by simp), cond_false]
theorem cntE_range_mono (C : Ctx) (ops : Array Oper) {i j : Nat} (h : i ≤ j) : cntE C ops (List.range i) ≤ cntE C ops (List.range j) := by
  rcases Nat.eq_or_lt_of_le h with rfl | h
  · exact Nat.le_refl _
  · rw [range_split h, cntE_append]; omega
theorem cntE_range_lt (C : Ctx) (ops : Array Oper) {i j : Nat} (h : i < j) (he : effO C ops i = true) : cntE C ops (List.range i) < cntE C ops (List.range j) := by
  rw [range_split h, cntE_append]
  simp only [cntE, he, cond_true]
  omega

theorem drawOrd_pos {ops : Array Oper} {head : List Oper} {ms : List Nat} (hE : ∀ j, j < head.length → effAt C head j = effO C ops j) {i : Nat} (hi : i < head.length) :
    ∃ l1 l2, drawOrd C head ms = l1 ++ i :: l2 ∧
      (early C head ms i = true → cntE C ops l1 = 0 ∧ (∀ j, j ∈ l1 ↔ (early C head ms j = true ∧ j < i))) ∧
      (early C head ms i = false → cntE C ops l1 = cntE C ops (List.range i) ∧ (∀ j, j ∈ l1 ↔ ((early C head ms j = true ∧ j < head.length) ∨ (early C head ms j = false ∧ j < i)))) := by
  have hne : ∀ j, j < head.length → early C head ms j = true → effO C ops j = false := by
    intro j hj h
    simp only [early, Bool.and_eq_true, Bool.not_eq_true'] at h
    rw [← hE j hj]; exact h.1
  unfold drawOrd
  cases he : early C head ms i with
  | true =>
    refine ⟨(List.range i).filter (early C head ms), (List.range' (i + 1) (head.length - i - 1)).filter (early C head ms) ++ (List.range head.length).filter fun i => !early C head ms i, ?_, fun _ => ⟨?_, fun j => ?_⟩, fun e => by cases e⟩
    · conv => lhs; arg 1; rw [range_split hi, List.filter_append, List.filter_cons, if_pos he]
      simp
    · exact cntE_none C ops _ fun j hj => by
        simp only [List.mem_filter, List.mem_range] at hj
        exact hne j (by omega) hj.2
    · simp only [List.mem_filter, List.mem_range]
      exact ⟨fun h => ⟨h.2, h.1⟩, fun h => ⟨h.2, h.1⟩⟩
  | false =>
    refine ⟨(List.range head.length).filter (early C head ms) ++ (List.range i).filter (fun i => !early C head ms i), (List.range' (i + 1) (head.length - i - 1)).filter fun i => !early C head ms i, ?_, (fun e => by cases e), fun _ => ⟨?_, fun j => ?_⟩⟩
    · conv => lhs; arg 2; rw [range_split hi, List.filter_append, List.filter_cons, if_pos (by rw [he]; rfl)]
      simp
    · rw [cntE_append, cntE_none C ops ((List.range head.length).filter (early C head ms)) fun j hj => by
        simp only [List.mem_filter, List.mem_range] at hj
        exact hne j hj.1 hj.2, Nat.zero_add]
      have : ∀ l : List Nat, (∀ j ∈ l, j < head.length) → cntE C ops (l.filter fun i => !early C head ms i) = cntE C ops l := by
        intro l
        induction l with
        | nil => intro _; rfl
        | cons x l ih =>
          intro hl
          rw [List.filter_cons]
          cases hp : early C head ms x with
          | false => simp only [Bool.not_false, if_true, cntE, ih fun j hj => hl j (by simp [hj])]
          | true =>
            simp only [Bool.not_true, Bool.false_eq_true, if_false, cntE, ih fun j hj => hl j (by simp [hj]), hne x (hl x (by simp)) hp, cond_false]
            omega
      exact this _ fun j hj => by simp only [List.mem_range] at hj; omega
    · simp only [List.mem_append, List.mem_filter, List.mem_range, Bool.not_eq_true']
      constructor
      · rintro (h | h)
        · exact .inl ⟨h.2, h.1⟩
        · exact .inr ⟨h.2, h.1⟩
      · rintro (h | h)
        · exact .inl ⟨h.2, h.1⟩
        · exact .inr ⟨h.2, h.1⟩

theorem drawOrd_cnt {ops : Array Oper} {head : List Oper} {ms : List Nat} (hE : ∀ j, j < head.length → effAt C head j = effO C ops j) : cntE C ops (drawOrd C head ms) = cntE C ops (List.range head.length) := by
  have hne : ∀ j, j < head.length → early C head ms j = true → effO C ops j = false := by
    intro j hj h
    simp only [early, Bool.and_eq_true, Bool.not_eq_true'] at h
    rw [← hE j hj]; exact h.1
  unfold drawOrd
  rw [cntE_append, cntE_none C ops ((List.range head.length).filter (early C head ms)) fun j hj => by
        simp only [List.mem_filter, List.mem_range] at hj
        exact hne j hj.1 hj.2, Nat.zero_add]
  have : ∀ l : List Nat, (∀ j ∈ l, j < head.length) → cntE C ops (l.filter fun i => !early C head ms i) = cntE C ops l := by
    intro l
    induction l with
    | nil => intro _; rfl
    | cons x l ih =>
      intro hl
      rw [List.filter_cons]
      cases hp : early C head ms x with
      | false => simp only [Bool.not_false, if_true, cntE, ih fun j hj => hl j (by simp [hj])]
      | true =>
        simp only [Bool.not_true, Bool.false_eq_true, if_false, cntE, ih fun j hj => hl j (by simp [hj]), hne x (hl x (by simp)) hp, cond_false]
        omega
  exact this _ fun j hj => by simpa using hj

theorem cnt_hit {ops : Array Oper} {m : Nat} : ∀ n, m < cntE C ops (List.range n) → ∃ j, j < n ∧ effO C ops j = true ∧ cntE C ops (List.range j) = m
  | 0, h => by simp [cntE] at h
  | n + 1, h => by
    rw [List.range_succ, cntE_append] at h
    simp only [cntE] at h
    by_cases h' : m < cntE C ops (List.range n)
    · obtain ⟨j, h1, h2⟩ := cnt_hit n h'
      exact ⟨j, by omega, h2⟩
    · cases he : effO C ops n with
      | false => simp only [he, cond_false] at h; omega
      | true => simp only [he, cond_true] at h; exact ⟨n, by omega, he, by omega⟩

theorem maskEs_of {acc : List Nat} : ∀ {es : List Edge} {e : Edge}, e ∈ es → Region.binds .any e = true → (maskEs acc es).testBit e.on = true ∧ ∀ k, (acc.getD e.on 0).testBit k = true → (maskEs acc es).testBit k = true
  | x :: r, e, h, hb => by
    rcases List.mem_cons.1 h with rfl | h
    · simp only [maskEs, hb, cond_true, Nat.testBit_or, Bool.or_eq_true]
      refine ⟨.inl (.inr ?_), fun k hk => .inl (.inl hk)⟩
      rw [Nat.one_shiftLeft, Nat.testBit_two_pow]
      simp
    · obtain ⟨h1, h2⟩ := maskEs_of (acc := acc) h hb
      simp only [maskEs]
      cases Region.binds .any x with
      | false => exact ⟨h1, h2⟩
      | true => simp only [cond_true, Nat.testBit_or, Bool.or_eq_true]; exact ⟨.inr h1, fun k hk => .inr (h2 k hk)⟩

theorem mask_has {l : List Oper} {i : Nat} {o : Oper} {e : Edge} (ho : l[i]? = some o) (he : e ∈ o.after) (hb : Region.binds .any e = true) (hlt : e.on < i) :
    ((masksOf l []).getD i 0).testBit e.on = true ∧ ∀ k, ((masksOf l []).getD e.on 0).testBit k = true → ((masksOf l []).getD i 0).testBit k = true := by
  obtain ⟨acc', k1, k2, k3⟩ := (masksOf_get l []).2 i o ho
  simp only [List.length_nil, Nat.zero_add] at k1 k2 k3
  obtain ⟨h1, h2⟩ := maskEs_of (acc := acc') (es := o.after.toList) (by simpa using he) hb
  rw [List.getD_eq_getElem?_getD, k3]
  refine ⟨h1, fun k hk => h2 k ?_⟩
  rw [List.getD_eq_getElem?_getD, k1 e.on hlt, ← List.getD_eq_getElem?_getD]
  exact hk

theorem getD_get {l : Array Bool} {i : Nat} (h : i < l.size) (d d' : Bool) : l.getD i d = l.getD i d' := by simp [Array.getD, h]

/-- What is known of a call that writes one box. -/
theorem ownArg_stay (hc : CallsOk0 P C) {o : Oper} {a : Option Operand} (h : ownArg C o = some a) {ρ : Operand → V} (hρ : ∀ f, ρ (.func f) = .fn f []) {av : V} (ha : ∀ x, a = some x → ρ x = av) {H H' : Heap} {u : V} (hev : ∀ K : V → Heap → Prop, K u H' → evalOpD C o ρ H K) : StayOf av H H' := by
  obtain ⟨dst, op, type, pos, after, guard⟩ := o
  have he := hev (fun v h => v = u ∧ h = H') ⟨rfl, rfl⟩
  unfold ownArg at h
  simp only at h
  split at h
  · rename_i f args argTypes
    split at h
    · rename_i hp
      split at h
      · rename_i a0 ha0
        cases h
        have hl : ∃ r, args.toList = a0 :: r := by
          cases hl : args.toList with
          | nil => rw [← Array.getElem?_toList, hl] at ha0; simp at ha0
          | cons x r =>
            rw [← Array.getElem?_toList, hl] at ha0
            simp at ha0
            exact ⟨r, by rw [ha0]⟩
        obtain ⟨r, hl⟩ := hl
        simp only [evalOpD, evalOp, hρ, hl, List.map_cons, ha _ rfl, List.cons_append] at he
        have h2 := callV_local hc.loc hp hc.ang he
        obtain ⟨v, H1, h3, _⟩ := callV_ang hc.ang _ _ _ _ h2
        obtain ⟨⟨_, rfl⟩, h4⟩ := h3
        exact h4
      · cases h
    · cases h
  · rename_i args argTypes
    simp only [evalOpD, evalOp] at he
    split at he
    · split at he
      · rename_i t u' _
        cases hb : Nat.beq t u' with
        | true => simp only [hb, cond_true] at he; exact .of (appendV_stay he)
        | false => simp only [hb, cond_false] at he; exact .of (appendZ_stay he)
      · exact he.elim
    · exact he.elim
  · simp only [evalOpD, evalOp] at he
    exact .of (buildSliceV_stay he)
  · cases h
theorem loadOf_eq {o : Oper} {x : Operand} (h : loadOf o = some x) : ∃ t, o.op = .load t x := by
  unfold loadOf at h
  split at h
  · rename_i t y e; cases h; exact ⟨t, e⟩
  · cases h

theorem touchOf_mem {o : Oper} {a : Bool × List Operand} (h : touchOf C o = some a) {x : Operand} (hx : x ∈ a.2) : x ∈ o.op.operands := by
  obtain ⟨dst, op, type, pos, after, guard⟩ := o
  unfold touchOf at h
  simp only at h
  split at h
  · rename_i f args argTypes
    split at h
    · cases hes : C.es f with
      | false => rw [hes] at h; cases h
      | true =>
        rw [hes] at h
        simp only [cond_true] at h
        cases h
        simp only [Op.operands, Call.operands]
        simp only at hx
        simpa using Or.inr hx
    · cases h
  · rename_i t y lo hi mx
    cases h
    simp only [List.mem_singleton] at hx
    subst hx
    simp [Op.operands]
  · cases h
theorem readOf_mem {o : Oper} {x : Operand} (h : readOf o = some x) : x ∈ o.op.operands := by
  obtain ⟨dst, op, type, pos, after, guard⟩ := o
  unfold readOf at h
  simp only at h
  split at h
  · cases h; simp [Op.operands]
  · cases h; simp [Op.operands]
  · rename_i args tys
    have := List.mem_of_getElem? (show args.toList[0]? = some x by rw [Array.getElem?_toList]; exact h)
    simp only [Op.operands, Call.operands]
    simpa using this
  · cases h
theorem of_bif {b : Bool} {p : Prop} (h : bif b then p else False) : p := by cases b with | true => exact h | false => exact h.elim
theorem cond_mono {b : Bool} {p q : Prop} (h : bif b then p else False) (hpq : p → q) : bif b then q else False := by cases b with | true => exact hpq h | false => exact h
theorem loadV_mono {t : TypeId} {v : V} {H : Heap} {K K' : V → Prop} (h : loadV C t v H K) (hK : ∀ v, K v → K' v) : loadV C t v H K' := by
  obtain ⟨u, h1, h2⟩ := loadV_ang t v H K h
  exact h2 K' (hK u h1)
theorem indexAddrV_mono {t : TypeId} {v ix : V} {H : Heap} {K K' : V → Prop} (h : indexAddrV C t v ix H K) (hK : ∀ v, K v → K' v) : indexAddrV C t v ix H K' := by
  obtain ⟨u, h1, h2⟩ := indexAddrV_ang t v ix H K h
  exact h2 K' (hK u h1)
theorem lenV_mono {v : V} {H : Heap} {K K' : V → Prop} (h : lenV v H K) (hK : ∀ v, K v → K' v) : lenV v H K' := by
  obtain ⟨u, h1, h2⟩ := lenV_ang v H K h
  exact h2 K' (hK u h1)
/-- A cut changes the one thing that it cuts. -/
theorem sliceV_stayE {t : TypeId} {v : V} {lo hi : Option V} {H H' : Heap} {u : V} {tt : Option Nat} (ht : touchL true [v] = some tt) (h : sliceV C t v lo hi H (fun w h => w = u ∧ h = H')) : StayE tt H H' := by
  have hv : (∃ id ver, v = .obj id ver ∧ tt = some id) ∨ (immut v = true ∧ tt = none) := by
    unfold touchL at ht
    simp only [immuts, cond_true] at ht
    cases hi : immut v with
    | true =>
      refine .inr ⟨rfl, ?_⟩
      cases v <;> first | (simp [immut] at hi; done) | (simp only [hi, cond_true] at ht; cases ht; rfl)
    | false =>
      cases v <;> first | (simp only [hi, cond_false] at ht; cases ht; done) | (cases ht; done) | (cases ht; exact .inl ⟨_, _, rfl, rfl⟩)
  unfold sliceV at h
  split at h
  · exact h.elim
  · split at h
    · split at h
      · split at h
        · have := of_cond h
          rw [← this.2]; exact .refl _ _
        · exact h.elim
      · exact h.elim
    · split at h
      · rename_i id off
        rcases hv with ⟨_, _, e, _⟩ | ⟨e, _⟩
        · cases e
        · simp [immut] at e
      · exact h.elim
    · cases hb : (Nat.beq (C.ti _).size (C.ti t).ty.size && !Nat.beq (C.ti _).size 0) with
      | false => rw [hb] at h; simp only [cond_false] at h
      | true =>
        rw [hb] at h
        simp only [cond_true] at h
        split at h
        · split at h
          · split at h
            · have := of_cond h
              rw [← this.2]; exact .refl _ _
            · exact h.elim
          · exact h.elim
        · split at h
          · have := of_cond h
            rw [← this.2]; exact .refl _ _
          · exact h.elim
        · rename_i id ver
          have htt : tt = some id := by
            rcases hv with ⟨_, _, e, e2⟩ | ⟨e, _⟩
            · cases e; exact e2
            · simp [immut] at e
          subst htt
          split at h
          · split at h
            · have h := of_cond h
              split at h
              · generalize (C.mv && (Nat.beq _ 0 && Nat.ble C.base id)) = b at h
                cases b with
                | true =>
                  have := of_cond h
                  rw [← this.2]; exact .set _ _ _
                | false =>
                  have := of_cond h
                  rw [← this.2]; exact .set _ _ _
              · exact h.elim
            · exact h.elim
          · split at h
            · have h := of_cond h
              split at h
              · have := of_cond h
                rw [← this.2]; exact .refl _ _
              · exact h.elim
            · exact h.elim
          · exact h.elim
        · exact h.elim
    · exact h.elim

/-- What is known of an effect that changes one thing alone. -/
theorem touch_stay (hc : CallsOk0 P C) {o : Oper} {a : Bool × List Operand} (h : touchOf C o = some a) {ρ : Operand → V} (hρ : ∀ f, ρ (.func f) = .fn f []) {tt : Option Nat} (ht : touchL a.1 (a.2.map ρ) = some tt) {H H' : Heap} {u : V} (hev : ∀ K : V → Heap → Prop, K u H' → evalOpD C o ρ H K) : StayE tt H H' := by
  obtain ⟨dst, op, type, pos, after, guard⟩ := o
  have he := hev (fun v h => v = u ∧ h = H') ⟨rfl, rfl⟩
  unfold touchOf at h
  simp only at h
  split at h
  · rename_i f args argTypes
    split at h
    · rename_i hp
      cases hes : C.es f with
      | false => rw [hes] at h; cases h
      | true =>
        rw [hes] at h
        simp only [cond_true] at h
        cases h
        simp only at ht
        cases hl : args.toList with
        | nil => rw [hl] at ht; cases ht
        | cons a0 r =>
          rw [hl, List.map_cons] at ht
          simp only [evalOpD, evalOp, hρ, hl, List.map_cons, List.append_nil] at he
          have h2 := callV_localE hc.2.2.1 hp hes ht he
          obtain ⟨v, H1, h3, _⟩ := callV_ang hc.ang _ _ _ _ h2
          obtain ⟨⟨_, rfl⟩, h4⟩ := h3
          exact h4
    · cases h
  · rename_i t x lo hi mx
    cases h
    simp only [List.map_cons, List.map_nil] at ht
    simp only [evalOpD] at he
    have he := of_bif he
    cases mx with
    | none => simp only [evalOp] at he; exact sliceV_stayE ht he
    | some _ => simp only [evalOp] at he
  · cases h

/-- A read of a thing that stays. -/
theorem read_stay {o : Oper} {x : Operand} (hr : readOf o = some x) (hvw : C.vw = true) {ρ : Operand → V} {tt : Option Nat} (ha : apartB tt (idOf (ρ x)) = true) {H H' : Heap} (hs : StayE tt H H') {u : V} (h : evalOpD C o ρ H (fun v h => v = u ∧ h = H)) : evalOpD C o ρ H' (fun v h => v = u ∧ h = H') := by
  have hk : ∀ id, idOf (ρ x) = some id → ∀ o, H[id]? = some o → H'[id]? = some o := fun id e o ho => hs id (fun e2 => by
    rw [e2, e] at ha
    simp only [apartB, Bool.not_eq_true'] at ha
    have : Nat.beq id id = true := by simp
    rw [this] at ha; cases ha) o ho
  obtain ⟨dst, op, type, pos, after, guard⟩ := o
  unfold readOf at hr
  simp only at hr
  split at hr
  · rename_i t y
    cases hr
    simp only [evalOpD, evalOp] at h ⊢
    refine loadV_mono (loadV_keep hk h) fun v hv => ⟨hv.1, by first | trivial | rfl⟩
  · rename_i t y ix
    cases hr
    simp only [evalOpD, evalOp] at h ⊢
    refine indexAddrV_mono (indexAddrV_keep hk h) fun v hv => ⟨hv.1, by first | trivial | rfl⟩
  · rename_i args tys
    simp only [evalOpD] at h ⊢
    have hm : C.mvl = false := by unfold Ctx.mvl; rw [hvw]; simp
    simp only [hm, Bool.not_false, Bool.true_or, cond_true, evalOp] at h ⊢
    split at h
    · rename_i z hz
      have : z = x := by
        rw [← Array.getElem?_toList, hz] at hr
        simpa using hr
      subst this
      split at h
      · split at h
        · exact lenV_mono (lenV_keep hk h) fun v hv => ⟨hv.1, by first | trivial | rfl⟩
        · split at h
          · exact ⟨h.1, by first | trivial | rfl⟩
          · exact h.elim
        · rename_i n _ _
          exact cond_mono h fun hv => ⟨hv.1, by first | trivial | rfl⟩
        · exact h.elim
      · exact h.elim
    · exact h.elim
  · cases hr

/-- A region that draws its order. -/
theorem draw_sound (L : LOk P C) (hc : CallsOk P C M0 own0) (hm : P.follows .mixedOrders = true) {id : Nat} {ops : Array Oper} {n : Nat} (hd : drawOk C ops.toList (masksOf ops.toList []) n = true) {fr : Fr} {H : Heap} {K : Fr → Heap → Prop} {a : Act} {w : World}
    (h : evalOpsD C ops ((drawOrd C (ops.toList.take n) (masksOf ops.toList [])).filterMap fun i => ops[i]?) fr H fun fr1 H1 => bif farOk C (ops.toList.take n) (masksOf ops.toList []) fr1 then evalOps C ops (ops.toList.drop n) fr1 H1 K else False) (hg : Good C w0 M0 own0 fr H a w) {Q : Exit → Act → World → Prop}
    (hq : ∀ fr' H', K fr' H' → ∀ a' w', Good C w0 M0 own0 fr' H' a' w' → Q .normal a' w') : (Code.region id ops true).wp P Q a w := by
  refine wp_region_any hm ?_
  simp only [drawOk, Bool.and_eq_true] at hd
  obtain ⟨hn, hd⟩ := hd
  have hn := Nat.le_of_ble_eq_true hn
  simp only [Array.length_toList] at hn
  have hops : ∀ {i : Nat} {o : Oper}, ops[i]? = some o → ops.toList[i]? = some o := fun h => by simpa using h
  have hops' : ∀ {i : Nat} {o : Oper}, ops.toList[i]? = some o → ops[i]? = some o := fun h => by simpa using h
  have back : ∀ {i : Nat} {o : Oper}, ops[i]? = some o → ∀ e ∈ o.after, Region.binds .any e = true → e.on < i := by
    intro i o ho e he hb
    have := all_zipIdx hd (hops ho)
    simp only [Bool.and_eq_true] at this
    have h1 := this.1
    simp only [backOk, Array.all_eq_true_iff_forall_mem] at h1
    have h2 := h1 e he
    rw [hb] at h2
    simpa [Nat.blt_eq] using h2
  have hhead : ∀ {i : Nat} {o : Oper}, ops[i]? = some o → i < n → headOk C (ops.toList.take n) (masksOf ops.toList []) o i = true := by
    intro i o ho hi
    have := all_zipIdx hd (hops ho)
    simp only [Bool.and_eq_true] at this
    have h1 := this.2
    have hb : Nat.blt i n = true := by rw [Nat.blt_eq]; exact hi
    simp only [hb, cond_true] at h1
    exact h1
  have htail : ∀ {i : Nat} {o : Oper}, ops[i]? = some o → n ≤ i → ∀ j, j < i → ∃ e ∈ o.after, Region.binds .any e = true ∧ e.on = j := by
    intro i o ho hi j hj
    have := all_zipIdx hd (hops ho)
    simp only [Bool.and_eq_true] at this
    have h1 := this.2
    have hb : Nat.blt i n = false := by
      cases e : Nat.blt i n with
      | false => rfl
      | true => rw [Nat.blt_eq] at e; omega
    simp only [hb, cond_false, tailOk, List.all_eq_true] at h1
    exact edgeOn_sound (h1 j (by simpa using hj))
  have hlen : ops.toList.length = ops.size := by simp
  have hhl : (ops.toList.take n).length = n := by rw [List.length_take]; omega
  have htake : ∀ {i : Nat} {o : Oper}, (ops.toList.take n)[i]? = some o → i < n ∧ ops[i]? = some o := by
    intro i o ho
    rw [List.getElem?_take] at ho
    split at ho
    · rename_i hi; exact ⟨hi, by simpa using ho⟩
    · cases ho
  have htake' : ∀ {i : Nat} {o : Oper}, i < n → ops[i]? = some o → (ops.toList.take n)[i]? = some o := by
    intro i o hi ho
    rw [List.getElem?_take, if_pos hi]
    exact hops ho
  have hE : ∀ j, j < (ops.toList.take n).length → effAt C (ops.toList.take n) j = effO C ops j := by
    intro j hj
    rw [hhl] at hj
    have ho : ops[j]? = some ops[j] := Array.getElem?_eq_getElem (by omega)
    simp only [effAt, effO, htake' hj ho, ho]
  have hdist : ∀ {i j : Nat} {o o' : Oper} {d : Nat}, ops[i]? = some o → i < n → ops[j]? = some o' → j < n → o.dst = some d → o'.dst = some d → i = j := by
    intro i j o o' d ho hi ho' hj h1 h2
    have := hhead ho hi
    simp only [headOk, Bool.and_eq_true] at this
    have h3 := this.1.1.1
    rw [h1] at h3
    have := all_zipIdx h3 (htake' hj ho')
    simp only [h2, Bool.or_eq_true] at this
    rcases this with k | k
    · exact (beq_true k).symm
    · simp at k
  generalize hms : masksOf ops.toList [] = ms at *
  have hordn : ∀ i, i ∈ drawOrd C (ops.toList.take n) ms ↔ i < n := by
    intro i
    unfold drawOrd
    rw [hhl]
    simp only [List.mem_append, List.mem_filter, List.mem_range, Bool.not_eq_true']
    cases early C (ops.toList.take n) ms i <;> simp
  have hnodup : (drawOrd C (ops.toList.take n) ms).Nodup := by
    unfold drawOrd
    rw [List.nodup_append]
    refine ⟨List.nodup_range.filter _, List.nodup_range.filter _, ?_⟩
    intro x hx y hy e
    subst e
    simp only [List.mem_filter] at hx hy
    rw [hx.2] at hy
    simp at hy
  obtain ⟨U, Ψ, Hs, frn, hHs0, hrest, hat, hend1, hend2⟩ := runs_D hc.ang _ _ _ hnodup (fun i hi => by have := (hordn i).1 hi; omega) h
  rw [drawOrd_cnt hE, hhl] at hrest
  have hfar : farOk C (ops.toList.take n) ms frn = true := by
    cases e : farOk C (ops.toList.take n) ms frn with
    | true => rfl
    | false => simp only [e, cond_false] at hrest
  simp only [hfar, cond_true] at hrest
  -- the number of effects ahead of one
  have hpos : ∀ {i : Nat} {o : Oper}, i < n → ops[i]? = some o → ∃ l1 l2, drawOrd C (ops.toList.take n) ms = l1 ++ i :: l2 ∧
      cntE C ops l1 = (bif early C (ops.toList.take n) ms i then 0 else cntE C ops (List.range i)) ∧
      (∀ j, j < i → (early C (ops.toList.take n) ms i = true → early C (ops.toList.take n) ms j = true) → j ∈ l1) ∧ (∀ j ∈ l1, j < n) := by
    intro i o hi ho
    obtain ⟨l1, l2, p1, p2, p3⟩ := drawOrd_pos (ms := ms) hE (show i < (ops.toList.take n).length by omega)
    refine ⟨l1, l2, p1, ?_, ?_, fun j hj => (hordn j).1 (by rw [p1]; simp [hj])⟩
    · cases he : early C (ops.toList.take n) ms i with
      | true => exact (p2 he).1
      | false => exact (p3 he).1
    · intro j hj hej
      cases he : early C (ops.toList.take n) ms i with
      | true => exact ((p2 he).2 j).2 ⟨hej he, hj⟩
      | false =>
        refine ((p3 he).2 j).2 ?_
        cases he' : early C (ops.toList.take n) ms j with
        | true => exact .inl ⟨rfl, by omega⟩
        | false => exact .inr ⟨rfl, hj⟩
  have heff : ∀ {i : Nat} {o : Oper}, ops[i]? = some o → effO C ops i = (kindOf C o.op).eff := by
    intro i o ho; simp only [effO, ho]
  have hearly : ∀ {i : Nat}, i < n → effO C ops i = true → early C (ops.toList.take n) ms i = false := by
    intro i hi he
    simp only [early, hE i (by omega), he, Bool.not_true, Bool.false_and]
  have hearlyd0 : ∀ {i : Nat} {o : Oper}, i < n → ops[i]? = some o → ∀ e ∈ o.after, Region.binds .any e = true → early C (ops.toList.take n) ms i = true → early C (ops.toList.take n) ms e.on = true := by
    intro i o hin hoi e he hb' hei
    have hlt := back hoi e he hb'
    have hmh := mask_has (hops hoi) he hb' hlt
    rw [hms] at hmh
    simp only [early, Bool.and_eq_true, Bool.not_eq_true', List.all_eq_true, List.mem_range, Bool.and_eq_false_iff] at hei ⊢
    have h1 := hei.2 e.on (by omega)
    refine ⟨?_, fun k hk => ?_⟩
    · rcases h1 with h1 | h1
      · exact h1
      · rw [hmh.1] at h1; cases h1
    · rcases hei.2 k hk with h2 | h2
      · exact .inl h2
      · refine .inr ?_
        cases e2 : (ms.getD e.on 0).testBit k with
        | false => rfl
        | true => rw [hmh.2 k e2] at h2; cases h2
  -- an operand's value at the end is what it was
  have hfin : ∀ {i : Nat} {o : Oper} {l1 l2 : List Nat}, i < n → ops[i]? = some o → drawOrd C (ops.toList.take n) ms = l1 ++ i :: l2 →
      (∀ j, j < i → (early C (ops.toList.take n) ms i = true → early C (ops.toList.take n) ms j = true) → j ∈ l1) → (∀ j ∈ l1, j < n) → ∀ t, Operand.tmp t ∈ o.op.operands → frn.get t = Ψ i t := by
    intro i o l1 l2 hin hoi hsp hin1 hl1n t ht
    obtain ⟨_, _, hψ1, hψ2⟩ := hat l1 i l2 o hsp hoi
    by_cases hw : ∀ (j : Nat) (o' : Oper), j < n → ops[j]? = some o' → o'.dst ≠ some t
    · rw [hψ1 t fun j hj o' hoj => hw j o' (hl1n j hj) hoj, hend1 t fun j hj o' hoj => hw j o' ((hordn j).1 hj) hoj]
    · simp only [Classical.not_forall] at hw
      obtain ⟨j, o', hj, hoj, hd'⟩ := hw
      simp only [ne_eq, Classical.not_not] at hd'
      have hho := hhead hoi hin
      simp only [headOk, Bool.and_eq_true] at hho
      have h3 := all_zipIdx hho.1.1.2 (htake' hj hoj)
      simp only [hd', Bool.or_eq_true, Bool.not_eq_true', Bool.and_eq_true] at h3
      rcases h3 with k | ⟨k1, k2⟩
      · rw [List.any_eq_false] at k
        exact absurd (by simp) (k (.tmp t) (by simpa using ht))
      · rw [Nat.blt_eq] at k1
        obtain ⟨e, he1, he2, he3⟩ := edgeOn_sound k2
        have hjl : j ∈ l1 := hin1 j k1 fun hei => by rw [← he3]; exact hearlyd0 hin hoi e he1 he2 hei
        rw [hψ2 j o' t hjl hoj hd' fun k hk hne o'' hok e' => hne (hdist hok ((hordn k).1 hk) hoj hj e' hd'),
          hend2 j o' t ((hordn j).2 hj) hoj hd' fun k hk hne o'' hok e' => hne (hdist hok ((hordn k).1 hk) hoj hj e' hd')]
  -- behind the head the order is told
  have tail : ∀ (f : Nat) (k : Nat) (listed : Array Bool) (fr : Fr) (H : Heap) (a : Act) (w : World), n ≤ k → k + f = ops.size → listed.size = ops.size → (∀ j, j < k → listed.getD j false = true) → (∀ j, k ≤ j → listed.getD j false = false) →
      evalOps C ops (ops.toList.drop k) fr H K → Good C w0 M0 own0 fr H a w → wpAny P .any ops Q f listed a w := by
    intro f
    induction f with
    | zero =>
      intro k listed fr H a w hk hkf hls h1 h2 he hg
      have hall : Region.ready .any ops listed = [] := by
        rw [List.eq_nil_iff_forall_not_mem]
        intro j hj
        rw [mem_ready] at hj
        obtain ⟨p1, o, ho, _⟩ := hj
        have hlt : j < ops.size := (Array.getElem?_eq_some_iff.1 ho).1
        have := h1 j (by omega)
        rw [getD_get (by omega) true false] at p1
        rw [p1] at this; cases this
      refine ⟨hall, ?_⟩
      rw [List.drop_of_length_le (by rw [hlen]; omega)] at he
      exact hq fr H he a w hg
    | succ f ih =>
      intro k listed fr H a w hk hkf hls h1 h2 he hg
      have hklt : k < ops.size := by omega
      have hko : ops[k]? = some ops[k] := Array.getElem?_eq_getElem hklt
      have hready : ∀ j ∈ Region.ready .any ops listed, j = k := by
        intro j hj
        rw [mem_ready] at hj
        obtain ⟨p1, o, ho, p2⟩ := hj
        have hlt : j < ops.size := (Array.getElem?_eq_some_iff.1 ho).1
        rcases Nat.lt_trichotomy j k with hjk | rfl | hjk
        · have := h1 j hjk
          rw [getD_get (by omega) true false] at p1
          rw [p1] at this; cases this
        · rfl
        · obtain ⟨e, he, hb, hon⟩ := htail ho (by omega) k hjk
          have := p2 e he hb
          rw [hon, h2 k (Nat.le_refl _)] at this
          cases this
      have hin : k ∈ Region.ready .any ops listed := by
        rw [mem_ready]
        refine ⟨by rw [getD_get (by omega) true false]; exact h2 k (Nat.le_refl _), _, hko, fun e he hb => h1 _ (back hko e he hb)⟩
      refine ⟨(fun hnil => by rw [hnil] at hin; cases hin), fun j hj => ?_⟩
      have := hready j hj
      subst this
      have hdrop : ops.toList.drop j = ops[j] :: ops.toList.drop (j + 1) := by
        rw [List.drop_eq_getElem_cons (by rw [hlen]; exact hklt)]
        simp
      rw [hdrop] at he
      have hl1 : ∀ i, i < j + 1 → (listed.setIfInBounds j true).getD i false = true := by
        intro i hi
        by_cases e : i = j
        · subst e; simp [show i < listed.size by omega]
        · rw [getD_set_ne false (fun e' => e e'.symm)]; exact h1 i (by omega)
      have hl2 : ∀ i, j + 1 ≤ i → (listed.setIfInBounds j true).getD i false = false := by
        intro i hi
        rw [getD_set_ne false (by omega)]; exact h2 i (by omega)
      have key : ∀ (Kn : Act → World → Prop), (∀ fr1 H1 a1 w1, evalOps C ops (ops.toList.drop (j + 1)) fr1 H1 K → Good C w0 M0 own0 fr1 H1 a1 w1 → Kn a1 w1) → wpOp P ops Q j Kn a w := by
        intro Kn hKn
        obtain ⟨s1, s2⟩ := evalOps_step (Q := Q) L hc he hg hKn
        unfold wpOp
        rw [hko]
        simp only
        cases hw : Region.wanted ops[j] (yielded ops a.tmps) with
        | true => rw [if_pos rfl]; exact .inl (s1 hw)
        | false => rw [if_neg (by simp)]; exact s2 hw
      exact key _ fun fr1 H1 a1 w1 k1 k2 => ih (j + 1) _ fr1 H1 a1 w1 (by omega) (by omega) (by simpa using hls) hl1 hl2 k1 k2

  -- the head, in whatever order
  have count : ∀ (listed : Array Bool), (∀ j, j < n → listed.getD j false = true) → (∀ j, n ≤ j → listed.getD j false = false) → ∀ m, unl listed (n + m) = m := by
    intro listed h1 h2 m
    induction m with
    | zero => exact unl_all n h1
    | succ m ih =>
      rw [← Nat.add_assoc]
      simp only [unl, ih, h2 (n + m) (by omega)]
      rfl
  have finish : ∀ (f : Nat) (listed : Array Bool) (a : Act) (w : World) (g : List G) (M : Mem) (m : Nat), n + f = ops.size → listed.size = ops.size → (∀ j, j < n → listed.getD j false = true) → (∀ j, n ≤ j → listed.getD j false = false) →
      m ≤ cntE C ops (List.range n) → (∀ j, j < n → effO C ops j = true → (listed.getD j false = true ↔ cntE C ops (List.range j) < m)) → HR (Hs m) g M w → Base w0 M0 own0 (Hs m) g M w → a.tmps.size = C.ntmps → a.defers = [] →
      (∀ (j : Nat) (o : Oper) (d : Nat), j < n → ops[j]? = some o → o.dst = some d → listed.getD j false = true → VR g M (U j) (a.tmps.getD d Go.undef)) →
      (∀ t, (∀ (j : Nat) (o : Oper), j < n → ops[j]? = some o → o.dst ≠ some t) → VR g M (fr.get t) (a.tmps.getD t Go.undef)) → wpAny P .any ops Q f listed a w := by
    intro f listed a w g M m hnf hls hall htl hmle hmiff hr hb hsz hdf hh ho
    have hmeq : m = cntE C ops (List.range n) := by
      rcases Nat.lt_or_ge m (cntE C ops (List.range n)) with hlt | hge
      · obtain ⟨j, h1, h2, h3⟩ := cnt_hit n hlt
        have := (hmiff j h1 h2).1 (hall j h1)
        omega
      · omega
    subst hmeq
    refine tail f n listed frn _ a w (Nat.le_refl _) hnf hls hall htl hrest ⟨g, M, ⟨fun t => ?_, hsz, hdf⟩, hr, hb⟩
    by_cases ht : ∀ (j : Nat) (o : Oper), j < n → ops[j]? = some o → o.dst ≠ some t
    · rw [hend1 t fun j hj o' hoj => ht j o' ((hordn j).1 hj) hoj]
      exact ho t ht
    · simp only [Classical.not_forall] at ht
      obtain ⟨j, o, hj, hoj, hd'⟩ := ht
      simp only [ne_eq, Classical.not_not] at hd'
      rw [hend2 j o t ((hordn j).2 hj) hoj hd' fun k hk hne o'' hok e => hne (hdist hok ((hordn k).1 hk) hoj hj e hd')]
      exact hh j o t hj hoj hd' (hall j hj)
  have headx : ∀ (f : Nat) (listed : Array Bool) (a : Act) (w : World), listed.size = ops.size → unl listed ops.size = f → (∀ j, n ≤ j → listed.getD j false = false) →
      (∀ (j : Nat) (o : Oper), ops[j]? = some o → listed.getD j false = true → ∀ e ∈ o.after, Region.binds .any e = true → listed.getD e.on false = true) →
      (∃ g M m, m ≤ cntE C ops (List.range n) ∧ (∀ j, j < n → effO C ops j = true → (listed.getD j false = true ↔ cntE C ops (List.range j) < m)) ∧ HR (Hs m) g M w ∧ Base w0 M0 own0 (Hs m) g M w ∧ a.tmps.size = C.ntmps ∧ a.defers = [] ∧
        (∀ (j : Nat) (o : Oper) (d : Nat), j < n → ops[j]? = some o → o.dst = some d → listed.getD j false = true → VR g M (U j) (a.tmps.getD d Go.undef)) ∧
        (∀ t, (∀ (j : Nat) (o : Oper), j < n → ops[j]? = some o → o.dst ≠ some t) → VR g M (fr.get t) (a.tmps.getD t Go.undef))) → wpAny P .any ops Q f listed a w := by
    intro f
    induction f with
    | zero =>
      rintro listed a w hls hun htl hcl ⟨g, M, m, hmle, hmiff, hr, hb, hsz, hdf, hh, ho⟩
      have hall := unl_zero ops.size hun
      have hnn : n = ops.size := by
        rcases Nat.lt_or_ge n ops.size with h' | h'
        · have h1 := hall n h'
          rw [htl n (Nat.le_refl _)] at h1; cases h1
        · omega
      exact finish 0 listed a w g M m (by omega) hls (fun j hj => hall j (by omega)) htl hmle hmiff hr hb hsz hdf hh ho
    | succ f ih =>
      rintro listed a w hls hun htl hcl ⟨g, M, m, hmle, hmiff, hr, hb, hsz, hdf, hh, ho⟩
      by_cases hall : ∀ j, j < n → listed.getD j false = true
      · have := count listed hall htl (ops.size - n)
        rw [show n + (ops.size - n) = ops.size by omega] at this
        exact finish (f + 1) listed a w g M m (by omega) hls hall htl hmle hmiff hr hb hsz hdf hh ho
      · -- the least one that is not listed may come up
        have hmin : ∃ j, j < n ∧ listed.getD j false = false ∧ ∀ i, i < j → listed.getD i false = true := by
          simp only [Classical.not_forall] at hall
          obtain ⟨j, hj, hlj⟩ := hall
          induction j using Nat.strongRecOn with
          | _ j ihj =>
            by_cases hless : ∀ i, i < j → listed.getD i false = true
            · exact ⟨j, hj, by simpa using hlj, hless⟩
            · simp only [Classical.not_forall] at hless
              obtain ⟨i, hi, hli⟩ := hless
              exact ihj i hi (by omega) hli
        obtain ⟨j0, hj0, hlj0, hless⟩ := hmin
        have hj0s : j0 < ops.size := by omega
        have hj0r : j0 ∈ Region.ready .any ops listed := by
          rw [mem_ready]
          have hko : ops[j0]? = some ops[j0] := Array.getElem?_eq_getElem hj0s
          refine ⟨by rw [getD_get (by omega) true false]; exact hlj0, _, hko, fun e he hbb => hless _ (back hko e he hbb)⟩
        refine ⟨(fun hnil => by rw [hnil] at hj0r; cases hj0r), fun i hi => ?_⟩
        rw [mem_ready] at hi
        obtain ⟨hi1, o, hoi, hi2⟩ := hi
        have his : i < ops.size := (Array.getElem?_eq_some_iff.1 hoi).1
        have hin : i < n := by
          rcases Nat.lt_or_ge i n with h' | h'
          · exact h'
          · obtain ⟨e, he, hbb, hon⟩ := htail hoi h' j0 (by omega)
            have := hi2 e he hbb
            rw [hon, hlj0] at this; cases this
        have hli : listed.getD i false = false := by rw [getD_get (by omega) false true]; exact hi1
        -- what is waited for is done
        have hmask : ∀ j, (ms.getD i 0).testBit j = true → listed.getD j false = true := by
          have := mask_done (l := ops.toList) (D := fun j => listed.getD j false = true) (fun k o' ho' e he hb' => back (hops' ho') e he hb') (fun k o' ho' hk e he hb' => hcl k o' (hops' ho') hk e he hb') i o (hops hoi) (fun e he hb' => hi2 e he hb')
          rw [hms] at this
          exact this
        have hmaskd : ∀ k, listed.getD k false = true → ∀ j, (ms.getD k 0).testBit j = true → listed.getD j false = true := by
          intro k hk j hj
          have hks : k < ops.size := by
            rcases Nat.lt_or_ge k ops.size with h' | h'
            · exact h'
            · rw [show listed.getD k false = false by simp [Array.getD, show ¬ k < listed.size by omega]] at hk; cases hk
          have hok : ops[k]? = some ops[k] := Array.getElem?_eq_getElem hks
          have := mask_done (l := ops.toList) (D := fun j => listed.getD j false = true) (fun k o' ho' e he hb' => back (hops' ho') e he hb') (fun k o' ho' hk e he hb' => hcl k o' (hops' ho') hk e he hb') k _ (hops hok) (fun e he hb' => hcl k _ hok hk e he hb')
          rw [hms] at this
          exact this j hj
        have hho := hhead hoi hin
        simp only [headOk, Bool.and_eq_true] at hho
        obtain ⟨l1, l2, hsp, hcnt, hin1, hl1n⟩ := hpos hin hoi
        obtain ⟨hran, hdn, hψ1, hψ2⟩ := hat l1 i l2 o hsp hoi
        rw [hcnt] at hran
        -- early ones wait for early ones
        have hearlyd : ∀ e ∈ o.after, Region.binds .any e = true → early C (ops.toList.take n) ms i = true → early C (ops.toList.take n) ms e.on = true := hearlyd0 hin hoi
        -- a slot that has been written by one that is listed
        have hdone : ∀ (j : Nat) (o' : Oper) (t : Nat), j < i → ops[j]? = some o' → o'.dst = some t → edgeOn o j = true → VR g M (Ψ i t) (a.tmps.getD t Go.undef) := by
          intro j o' t hj hoj hdj he
          obtain ⟨e, he1, he2, he3⟩ := edgeOn_sound he
          have hjl : j ∈ l1 := hin1 j hj fun hei => by rw [← he3]; exact hearlyd e he1 he2 hei
          rw [hψ2 j o' t hjl hoj hdj fun k hk hne o'' hok e' => hne (hdist hok ((hordn k).1 hk) hoj (by omega) e' hdj)]
          have := hi2 e he1 he2
          rw [he3] at this
          exact hh j o' t (by omega) hoj hdj this
        have hslot : ∀ t, Operand.tmp t ∈ o.op.operands → VR g M (Ψ i t) (a.tmps.getD t Go.undef) := by
          intro t ht
          by_cases hw : ∀ (j : Nat) (o' : Oper), j < n → ops[j]? = some o' → o'.dst ≠ some t
          · rw [hψ1 t fun j hj o' hoj => hw j o' (hl1n j hj) hoj]
            exact ho t hw
          · simp only [Classical.not_forall] at hw
            obtain ⟨j, o', hj, hoj, hd'⟩ := hw
            simp only [ne_eq, Classical.not_not] at hd'
            have h3 := all_zipIdx hho.1.1.2 (htake' hj hoj)
            simp only [hd', Bool.or_eq_true, Bool.not_eq_true', Bool.and_eq_true] at h3
            rcases h3 with k | ⟨k1, k2⟩
            · rw [List.any_eq_false] at k
              exact absurd (by simp) (k (.tmp t) (by simpa using ht))
            · exact hdone j o' t (by rw [Nat.blt_eq] at k1; exact k1) hoj hd' k2
        have hgslot : ∀ (j : Nat) (want : Bool) (dg : Nat), o.guard = some (j, want) → (ops[j]?).bind (·.dst) = some dg → VR g M (Ψ i dg) (a.tmps.getD dg Go.undef) := by
          intro j want dg hgd hdg
          have h4 := hho.1.2
          rw [hgd] at h4
          simp only [Bool.and_eq_true, Nat.blt_eq] at h4
          cases hoj : ops[j]? with
          | none => rw [hoj] at hdg; cases hdg
          | some o' =>
            rw [hoj] at hdg
            exact hdone j o' dg h4.1 hoj hdg h4.2
        -- how an effect stands to this one
        have hvs : ∀ (j : Nat) (o' : Oper), j < n → ops[j]? = some o' → (match kindOf C o'.op with
            | .blind => true
            | .reads => true
            | .alloc => match kindOf C o.op with
              | .blind => true
              | .reads => early C (ops.toList.take n) ms i || !Nat.blt j i || (ms.getD i 0).testBit j
              | _ => !Nat.blt j i || (ms.getD i 0).testBit j
            | .writes => match kindOf C o.op with
              | .blind => true
              | .reads => bif !early C (ops.toList.take n) ms i && Nat.blt j i then (ms.getD i 0).testBit j else (ms.getD j 0).testBit i || farOp C (ops.toList.take n) ms o i o'
              | _ => !Nat.blt j i || (ms.getD i 0).testBit j) = true := fun j o' hj hoj => all_zipIdx hho.2 (htake' hj hoj)
        have hblt : ∀ {j : Nat}, j < i → Nat.blt j i = true := fun h => by rw [Nat.blt_eq]; exact h
        have hEm : effO C ops i = true → cntE C ops (List.range i) = m := by
          intro he
          have h1 : ¬ cntE C ops (List.range i) < m := fun hlt => by
            have := (hmiff i hin he).2 hlt
            rw [hli] at this; cases this
          rcases Nat.lt_or_ge m (cntE C ops (List.range i)) with h2 | h2
          · exfalso
            obtain ⟨j, p1, p2, p3⟩ := cnt_hit i h2
            have hoj : ops[j]? = some ops[j] := Array.getElem?_eq_getElem (by omega)
            have hv := hvs j _ (by omega) hoj
            rw [heff hoj] at p2
            rw [heff hoi] at he
            have hbit : (ms.getD i 0).testBit j = true := by
              cases ek : kindOf C (ops[j]).op <;> rw [ek] at p2 hv <;> simp only [Kd.eff] at p2 <;> try (cases p2; done)
              all_goals
                cases ek2 : kindOf C o.op <;> rw [ek2] at he hv <;> simp only [Kd.eff] at he <;> try (cases he; done)
                all_goals
                  simpa [hblt p1] using hv
            have := (hmiff j (by omega) (by rw [heff hoj]; exact p2)).1 (hmask j hbit)
            omega
          · omega
        have hsteps : kindOf C o.op = .reads → (bif early C (ops.toList.take n) ms i then 0 else cntE C ops (List.range i)) ≤ m ∧ ∀ k, (bif early C (ops.toList.take n) ms i then 0 else cntE C ops (List.range i)) ≤ k → k < m →
            (∃ X, Hs (k + 1) = Hs k ++ X) ∨ (C.vw = false ∧ ∃ x av, loadOf o = some x ∧ farA av (frn.eval x) = true ∧ StayOf av (Hs k) (Hs (k + 1))) ∨ (C.vw = true ∧ ∃ x tt, readOf o = some x ∧ apartB tt (idOf (frn.eval x)) = true ∧ StayE tt (Hs k) (Hs (k + 1))) := by
          intro hk
          have hcm : (bif early C (ops.toList.take n) ms i then 0 else cntE C ops (List.range i)) ≤ m := by
            cases he : early C (ops.toList.take n) ms i with
            | true => exact Nat.zero_le _
            | false =>
              simp only [cond_false]
              rcases Nat.lt_or_ge m (cntE C ops (List.range i)) with h2 | h2
              · exfalso
                obtain ⟨j, p1, p2, p3⟩ := cnt_hit i h2
                have hoj : ops[j]? = some ops[j] := Array.getElem?_eq_getElem (by omega)
                have hv := hvs j _ (by omega) hoj
                have p2' := p2
                rw [heff hoj] at p2
                have hbit : (ms.getD i 0).testBit j = true := by
                  rw [hk, he] at hv
                  cases ek : kindOf C (ops[j]).op <;> rw [ek] at p2 hv <;> simp only [Kd.eff] at p2 <;> try (cases p2; done)
                  all_goals simpa [hblt p1] using hv
                have := (hmiff j (by omega) p2').1 (hmask j hbit)
                omega
              · exact h2
          refine ⟨hcm, fun k hk1 hk2 => ?_⟩
          obtain ⟨j, p1, p2, p3⟩ := cnt_hit n (show k < cntE C ops (List.range n) by omega)
          have hoj : ops[j]? = some ops[j] := Array.getElem?_eq_getElem (by omega)
          have hlj : listed.getD j false = true := (hmiff j p1 p2).2 (by omega)
          have hv := hvs j _ p1 hoj
          have p2' := p2
          rw [heff hoj] at p2
          obtain ⟨k1, k2, ksp, kcnt, kin, kn⟩ := hpos p1 hoj
          obtain ⟨kran, _⟩ := hat k1 j k2 _ ksp hoj
          rw [kcnt, hearly p1 p2', cond_false, p3, p2', cond_true] at kran
          have hal : kindOf C (ops[j]).op = .alloc ∨ farOp C (ops.toList.take n) ms o i ops[j] = true ∧ (ms.getD j 0).testBit i = false := by
            cases ek : kindOf C (ops[j]).op with
            | blind => rw [ek] at p2; cases p2
            | reads => rw [ek] at p2; cases p2
            | alloc => exact .inl rfl
            | writes =>
              rw [ek, hk] at hv
              simp only at hv
              cases hc1 : (!early C (ops.toList.take n) ms i && Nat.blt j i) with
              | true =>
                exfalso
                simp only [Bool.and_eq_true, Bool.not_eq_true', Nat.blt_eq] at hc1
                rw [hc1.1] at hk1
                simp only [cond_false] at hk1
                have := cntE_range_lt C ops hc1.2 p2'
                omega
              | false =>
                rw [hc1, cond_false] at hv
                cases hb2 : (ms.getD j 0).testBit i with
                | true =>
                  exfalso
                  have := hmaskd j hlj i hb2
                  rw [hli] at this; cases this
                | false =>
                  rw [hb2, Bool.false_or] at hv
                  exact .inr ⟨hv, rfl⟩
          rcases hal with hal | ⟨hfo, hnb⟩
          · rcases kran with ⟨_, _, _, _, q, _⟩ | ⟨_, q, _⟩
            · exact .inl (q hal)
            · exact .inl ⟨[], by rw [q, List.append_nil]⟩
          · rcases kran with ⟨frj, hfrj, hevj, _⟩ | ⟨_, q, _⟩
            · cases hvw : C.vw with
              | true =>
                simp only [farOp, hvw, cond_true, Bool.and_eq_true, Option.isSome_iff_exists] at hfo
                obtain ⟨hei, ⟨x, hx⟩, aj, haj⟩ := hfo
                simp only [farOk, hvw, cond_true] at hfar
                have h1 := all_zipIdx hfar (htake' hin hoi)
                simp only [hx, hei, Bool.not_true, Bool.false_or] at h1
                have h2 := all_zipIdx h1 (htake' p1 hoj)
                simp only [farIn, haj, hnb, Bool.false_or] at h2
                split at h2
                · rename_i tt htt
                  have hmap : aj.2.map frj.eval = aj.2.map frn.eval := List.map_congr_left fun y hy => by
                    cases y with
                    | tmp t =>
                      show Fr.get frj t = Fr.get frn t
                      rw [hfrj, hfin p1 hoj ksp kin kn t (touchOf_mem haj hy)]
                    | const v => rfl
                    | global m => rfl
                    | func m => rfl
                  exact .inr (.inr ⟨rfl, x, tt, hx, h2, touch_stay hc.2.1 haj (fun _ => rfl) (by rw [hmap]; exact htt) hevj⟩)
                · cases h2
              | false =>
              simp only [farOp, hvw, cond_false, Bool.and_eq_true, Option.isSome_iff_exists] at hfo
              obtain ⟨hei, ⟨x, hx⟩, aj, haj⟩ := hfo
              simp only [farOk, hvw, cond_false] at hfar
              have h1 := all_zipIdx hfar (htake' hin hoi)
              simp only [hx, hei, Bool.not_true, Bool.false_or] at h1
              have h2 := all_zipIdx h1 (htake' p1 hoj)
              simp only [haj, hnb, Bool.false_or] at h2
              have hoa : ∀ t, aj = some (.tmp t) → Operand.tmp t ∈ (ops[j]).op.operands := by
                intro t et
                subst et
                unfold ownArg at haj
                split at haj
                · rename_i f args argTypes eop
                  split at haj
                  · split at haj
                    · rename_i a0 ha0
                      cases haj
                      rw [eop]
                      have := List.mem_of_getElem? (show args.toList[0]? = some (.tmp t) by rw [Array.getElem?_toList]; exact ha0)
                      simp only [Op.operands, Call.operands]
                      simpa using this
                    · cases haj
                  · cases haj
                · cases haj
                · cases haj
                · cases haj
              have hea : ∀ y, aj = some y → Fr.eval frj y = ownV frn aj := by
                rintro y rfl
                cases y with
                | tmp t =>
                  show Fr.get frj t = Fr.get frn t
                  rw [hfrj, hfin p1 hoj ksp kin kn t (hoa t rfl)]
                | const v => rfl
                | global m => rfl
                | func m => rfl
              exact .inr (.inl ⟨rfl, x, _, hx, h2, ownArg_stay hc.2.1 haj (fun _ => rfl) hea hevj⟩)
            · exact .inl ⟨[], by rw [q, List.append_nil]⟩
        have hnext : ∀ m' val g' M' w', m' = m + (bif effO C ops i then 1 else 0) → VR g' M' (U i) val → HR (Hs m') g' M' w' → Base w0 M0 own0 (Hs m') g' M' w' → Ext g M g' M' → wpAny P .any ops Q f (listed.setIfInBounds i true) (a.put o.dst val) w' := by
          intro m' val g' M' w' em p1 p2 p3 p4
          have hset : ∀ k, listed.getD k false = true → (listed.setIfInBounds i true).getD k false = true := by
            intro k hk
            have : i ≠ k := fun e => by rw [e, hk] at hli; cases hli
            rw [getD_set_ne false this]; exact hk
          have hseti : (listed.setIfInBounds i true).getD i false = true := by simp [show i < listed.size by omega]
          refine ih _ _ w' (by simpa using hls) ?_ ?_ ?_ ⟨g', M', m', ?_, ?_, p2, p3, ?_, ?_, ?_, ?_⟩
          · have := unl_set (listed := listed) (i := i) (by omega) hli ops.size his
            omega
          · intro j hj
            rw [getD_set_ne false (by omega)]; exact htl j hj
          · intro j o' hoj hlj e he hb'
            by_cases e' : i = j
            · subst e'
              rw [hoi] at hoj; cases hoj
              exact hset _ (hi2 e he hb')
            · rw [getD_set_ne false e'] at hlj
              exact hset _ (hcl j o' hoj hlj e he hb')
          · rw [em]
            cases he : effO C ops i with
            | false => simpa using hmle
            | true =>
              have := cntE_range_lt C ops hin he
              rw [hEm he] at this
              simp only [cond_true]; omega
          · intro j hj hej
            by_cases e' : i = j
            · subst e'
              rw [hseti, em, hej, hEm hej]
              simp
            · rw [getD_set_ne false e', hmiff j hj hej, em]
              cases he : effO C ops i with
              | false => simp
              | true =>
                simp only [cond_true]
                have hm1 := hEm he
                rcases Nat.lt_trichotomy i j with hij | hij | hij
                · have := cntE_range_lt C ops hij he
                  omega
                · exact absurd hij e'
                · have := cntE_range_lt C ops hij hej
                  omega
          · cases hdo : o.dst with
            | none => exact hsz
            | some d => simp [Act.put, hsz]
          · cases hdo : o.dst with
            | none => exact hdf
            | some d => exact hdf
          · intro j o' d' hj hoj hd' hlj
            by_cases e : i = j
            · subst e
              rw [hoi] at hoj; cases hoj
              have hdn' := hdn d' hd'
              rw [hd']
              simp only [Act.put]
              rw [show (a.tmps.setIfInBounds d' val).getD d' Go.undef = val by simp [Array.getD, hsz, hdn']]
              exact p1
            · rw [getD_set_ne false e] at hlj
              have hput : (a.put o.dst val).tmps.getD d' Go.undef = a.tmps.getD d' Go.undef := by
                cases hdo : o.dst with
                | none => rfl
                | some d =>
                  have hne : d ≠ d' := fun e' => e (hdist hoi hin hoj hj hdo (e' ▸ hd'))
                  simp only [Act.put]
                  simp [Array.getD_eq_getD_getElem?, Array.getElem?_setIfInBounds, hne]
              rw [hput]
              exact (hh j o' d' hj hoj hd' hlj).mono p4
          · intro t ht
            have hput : (a.put o.dst val).tmps.getD t Go.undef = a.tmps.getD t Go.undef := by
              cases hdo : o.dst with
              | none => rfl
              | some d =>
                have hne : d ≠ t := fun e' => ht i o hin hoi (e' ▸ hdo)
                simp only [Act.put]
                simp [Array.getD_eq_getD_getElem?, Array.getElem?_setIfInBounds, hne]
            rw [hput]
            exact (ho t ht).mono p4
        unfold wpOp
        rw [hoi]
        simp only
        have hyield : ∀ (j : Nat) (want : Bool) (dg : Nat), o.guard = some (j, want) → (ops[j]?).bind (·.dst) = some dg → Region.wanted o (yielded ops a.tmps) = ((match a.tmps[dg]? with | some (.bool b) => some b | _ => none) == some want) := by
          intro j want dg hgd hdg
          simp only [Region.wanted, hgd, yielded, hdg, Option.bind_some]
          cases a.tmps[dg]? with
          | none => rfl
          | some x => cases x <;> rfl
        have hcE : effO C ops i = true → (bif early C (ops.toList.take n) ms i then 0 else cntE C ops (List.range i)) = m := by
          intro he
          rw [hearly hin he, cond_false]; exact hEm he
        rcases hran with ⟨fr', hfr', hev, hqt, hal, hgd⟩ | ⟨hu, hHe, j, want, dg, hgd, hdg, hskip⟩
        · have hw : Region.wanted o (yielded ops a.tmps) = true := by
            rcases hgd with hgd | ⟨j, want, dg, hgd, hdg, hφ⟩
            · simp [Region.wanted, hgd]
            · rw [hyield j want dg hgd hdg]
              have hv := hgslot j want dg hgd hdg
              rw [hφ] at hv
              generalize e : a.tmps.getD dg Go.undef = c at hv
              cases hv
              simp only [Array.getD_eq_getD_getElem?] at e
              cases e2 : a.tmps[dg]? with
              | none => rw [e2] at e; cases e
              | some x => rw [e2] at e; simp at e; rw [e]; simp
          rw [if_pos hw]
          left
          have hopd : ∀ x ∈ o.op.operands, VR g M (Fr.eval fr' x) (a.eval x) := by
            intro x hx
            cases x with
            | tmp t =>
              show VR g M (Fr.get fr' t) _
              rw [hfr' t]
              exact hslot t hx
            | const v => exact VR_ofVal g M v
            | global m => exact .undef _
            | func m => exact .fn m [] #[] .nil
          have hgo : evalOpD C o (Fr.eval fr') (Hs m) (fun v H' => v = U i ∧ H' = Hs (m + (bif effO C ops i then 1 else 0))) := by
            cases he : effO C ops i with
            | true =>
              rw [hcE he, he] at hev
              exact hev _ ⟨rfl, rfl⟩
            | false =>
              have hef := he
              rw [heff hoi] at hef
              obtain ⟨_, q2, q3⟩ := hqt hef
              simp only [cond_false, Nat.add_zero]
              cases ek : kindOf C o.op with
              | blind => exact q3 ek _ _ ⟨rfl, rfl⟩
              | reads =>
                obtain ⟨hcm, hst⟩ := hsteps ek
                generalize hcg : (bif early C (ops.toList.take n) ms i then 0 else cntE C ops (List.range i)) = c at *
                by_cases hvw : C.vw = true ∧ (readOf o).isSome = true
                · obtain ⟨hvw, hro⟩ := hvw
                  obtain ⟨x, hro⟩ := Option.isSome_iff_exists.1 hro
                  have hex : Fr.eval fr' x = frn.eval x := by
                    cases x with
                    | tmp t' =>
                      show Fr.get fr' t' = Fr.get frn t'
                      rw [hfr', hfin hin hoi hsp hin1 hl1n t' (readOf_mem hro)]
                    | const v => rfl
                    | global m => rfl
                    | func m => rfl
                  have all : ∀ d, c + d ≤ m → evalOpD C o (Fr.eval fr') (Hs (c + d)) (fun v h => v = U i ∧ h = Hs (c + d)) := by
                    intro d
                    induction d with
                    | zero => intro _; exact hev _ ⟨rfl, by first | rfl | (rw [he]; rfl) | simp [he]⟩
                    | succ d ihd =>
                      intro hd'
                      have h1 := ihd (by omega)
                      rcases hst (c + d) (Nat.le_add_right _ d) (by omega) with ⟨Y, hY⟩ | ⟨e, _⟩ | ⟨_, x', tt, e, ha, hstay⟩
                      · rw [← Nat.add_assoc]
                        exact read_stay hro hvw (tt := none) rfl (by rw [hY]; exact .app _ _ _) h1
                      · rw [hvw] at e; cases e
                      · rw [hro] at e; cases e
                        rw [← Nat.add_assoc]
                        exact read_stay hro hvw (by rw [hex]; exact ha) hstay h1
                  have h2 := all (m - c) (by omega)
                  rw [show c + (m - c) = m by omega] at h2
                  exact h2
                cases hlo : loadOf o with
                | none =>
                  have all : ∀ d, c + d ≤ m → ∃ X, Hs (c + d) = Hs c ++ X := by
                    intro d
                    induction d with
                    | zero => intro _; exact ⟨[], by rw [Nat.add_zero, List.append_nil]⟩
                    | succ d ihd =>
                      intro hd'
                      obtain ⟨X, hX⟩ := ihd (by omega)
                      rcases hst (c + d) (Nat.le_add_right _ d) (by omega) with ⟨Y, hY⟩ | ⟨_, x, id, e, _⟩ | ⟨e1, x, tt, e, _⟩
                      · exact ⟨X ++ Y, by rw [← Nat.add_assoc, hY, hX, List.append_assoc]⟩
                      · rw [hlo] at e; cases e
                      · exact absurd ⟨e1, by rw [e]; rfl⟩ hvw
                  obtain ⟨X, hX⟩ := all (m - c) (by omega)
                  rw [show c + (m - c) = m by omega] at hX
                  rw [hX]
                  exact q2 X _ ⟨rfl, rfl⟩
                | some x =>
                  obtain ⟨t, ht⟩ := loadOf_eq hlo
                  have ee : ∀ (H : Heap) (K : V → Heap → Prop), evalOpD C o (Fr.eval fr') H K = loadV C t (Fr.eval fr' x) H fun v => K v H := by
                    intro H K
                    unfold evalOpD evalOp
                    simp only [ht]
                  have hex : Fr.eval fr' x = frn.eval x := by
                    cases x with
                    | tmp t' =>
                      show Fr.get fr' t' = Fr.get frn t'
                      rw [hfr', hfin hin hoi hsp hin1 hl1n t' (by rw [ht]; simp [Op.operands])]
                    | const v => rfl
                    | global m => rfl
                    | func m => rfl
                  have all : ∀ d, c + d ≤ m → loadV C t (Fr.eval fr' x) (Hs (c + d)) (fun v => v = U i) := by
                    intro d
                    induction d with
                    | zero =>
                      intro _
                      have := hev (fun v _ => v = U i) rfl
                      rw [ee] at this
                      exact this
                    | succ d ihd =>
                      intro hd'
                      have h1 := ihd (by omega)
                      rcases hst (c + d) (Nat.le_add_right _ d) (by omega) with ⟨Y, hY⟩ | ⟨_, x', id, e, hfx, hstay⟩ | ⟨e1, x', tt, e, _⟩
                      · rw [← Nat.add_assoc, hY]
                        exact loadV_ext h1
                      · rw [hlo] at e; cases e
                        rw [← Nat.add_assoc]
                        exact load_stay hstay (by rw [hex]; exact hfx) h1
                      · exact absurd ⟨e1, by rw [e]; rfl⟩ hvw
                  have h2 := all (m - c) (by omega)
                  rw [show c + (m - c) = m by omega] at h2
                  rw [ee]
                  obtain ⟨v, h3, h4⟩ := loadV_ang t (Fr.eval fr' x) (Hs m) _ h2
                  subst h3
                  exact h4 _ ⟨rfl, rfl⟩
              | alloc => rw [ek] at hef; cases hef
              | writes => rw [ek] at hef; cases hef
          refine evalOp_sound L hc (evalOp_of_D hgo) hopd hr hb ?_
          rintro v H' ⟨rfl, rfl⟩ val g' M' w' p1 p2 p3 p4
          exact hnext _ val g' M' w' rfl p1 p2 p3 p4
        · have hw : Region.wanted o (yielded ops a.tmps) = false := by
            rw [hyield j want dg hgd hdg]
            have hv := hgslot j want dg hgd hdg
            rcases hskip with hφ | hφ
            · rw [hφ] at hv
              generalize e : a.tmps.getD dg Go.undef = c at hv
              cases hv
              simp only [Array.getD_eq_getD_getElem?] at e
              cases e2 : a.tmps[dg]? with
              | none => rw [e2] at e; cases e
              | some x => rw [e2] at e; simp at e; rw [e]; cases want <;> rfl
            · rw [hφ] at hv
              generalize e : a.tmps.getD dg Go.undef = c at hv
              cases hv
              simp only [Array.getD_eq_getD_getElem?] at e
              cases e2 : a.tmps[dg]? with
              | none => rfl
              | some x =>
                rw [e2] at e
                simp at e
                subst e
                rfl
          rw [if_neg (by rw [hw]; simp)]
          have hsame : Hs (m + (bif effO C ops i then 1 else 0)) = Hs m := by
            cases he : effO C ops i with
            | true => rw [hcE he, he] at hHe; exact hHe
            | false => rfl
          exact hnext _ Go.undef g M w rfl (by rw [hu]; exact .tuple [] #[] .nil) (by rw [hsame]; exact hr) (by rw [hsame]; exact hb) (Ext.refl g M)
  obtain ⟨g, M, hf, hr, hb⟩ := hg
  refine headx ops.size _ a _ (by simp) (unl_replicate _) ?_ ?_ ⟨g, M, 0, Nat.zero_le _, ?_, by rw [hHs0]; exact HR.same (w := w) (by rfl) hr, by rw [hHs0]; exact Base.same (w := w) (by rfl) (by rfl) (by rfl) (by rfl) hb, hf.size, hf.defers, ?_, fun t _ => hf.get t⟩
  · intro j hj
    by_cases h' : j < ops.size <;> simp [Array.getD_eq_getD_getElem?, h']
  · intro j o hoj hl
    exfalso
    by_cases h' : j < ops.size <;> simp [Array.getD_eq_getD_getElem?, h'] at hl
  · intro j hj he
    constructor
    · intro hl
      exfalso
      by_cases h' : j < ops.size <;> simp [Array.getD_eq_getD_getElem?, h'] at hl
    · intro hl; omega
  · intro j o d hj hoj hd' hl
    exfalso
    by_cases h' : j < ops.size <;> simp [Array.getD_eq_getD_getElem?, h'] at hl
end
end Go.Ev
