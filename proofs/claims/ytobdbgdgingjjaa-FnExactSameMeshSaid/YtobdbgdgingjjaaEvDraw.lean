/- A statement whose order Go leaves open: the order of the text serves for all. -/
import Derived.Test.YtobdbgdgingjjaaEvCode
set_option linter.unusedVariables false
set_option linter.unusedSimpArgs false
namespace Go.Ev

theorem all_zipIdx {α : Type} {p : α × Nat → Bool} {l : List α} (h : l.zipIdx.all p = true) {i : Nat} {o : α} (hi : l[i]? = some o) : p (o, i) = true := by
  rw [List.all_eq_true] at h
  apply h
  rw [List.mem_iff_getElem?]
  exact ⟨i, by rw [List.getElem?_zipIdx, hi]; simp⟩

theorem edgeOn_sound {o : Oper} {j : Nat} (h : edgeOn o j = true) : ∃ e ∈ o.after, Region.binds .any e = true ∧ e.on = j := by
  simp only [edgeOn, Array.any_eq_true'] at h
  obtain ⟨e, he, h⟩ := h
  simp only [Bool.and_eq_true] at h
  exact ⟨e, he, h.2, beq_true h.1⟩

/-! ### how many have not been listed -/
def unl (listed : Array Bool) : Nat → Nat
  | 0 => 0
  | n + 1 => unl listed n + (bif listed.getD n false then 0 else 1)

theorem unl_set_ge (listed : Array Bool) (i : Nat) : ∀ n, n ≤ i → unl (listed.setIfInBounds i true) n = unl listed n
  | 0, _ => rfl
  | n + 1, h => by
    simp only [unl]
    rw [unl_set_ge listed i n (by omega), getD_set_ne false (by omega)]
theorem unl_set {listed : Array Bool} {i : Nat} (hi : i < listed.size) (h0 : listed.getD i false = false) : ∀ n, i < n → unl (listed.setIfInBounds i true) n + 1 = unl listed n
  | 0, h => by omega
  | n + 1, h => by
    simp only [unl]
    by_cases e : i = n
    · subst e
      rw [unl_set_ge listed i i (Nat.le_refl _), h0]
      have : (listed.setIfInBounds i true).getD i false = true := by simp [hi]
      rw [this]
      rfl
    · have := unl_set hi h0 n (by omega)
      rw [getD_set_ne false e]
      omega
theorem unl_zero {listed : Array Bool} : ∀ n, unl listed n = 0 → ∀ j, j < n → listed.getD j false = true
  | 0, _, j, hj => by omega
  | n + 1, h, j, hj => by
    simp only [unl] at h
    by_cases e : j = n
    · subst e
      cases hl : listed.getD j false with
      | true => rfl
      | false => simp [hl] at h
    · exact unl_zero n (by omega) j (by omega)
theorem unl_all {listed : Array Bool} : ∀ n, (∀ j, j < n → listed.getD j false = true) → unl listed n = 0
  | 0, _ => rfl
  | n + 1, h => by
    simp only [unl]
    rw [unl_all n fun j hj => h j (by omega), h n (by omega)]
    rfl
theorem unl_replicate (n : Nat) : unl (Array.replicate n false) n = n := by
  have : ∀ m, unl (Array.replicate n false) m = m := by
    intro m
    induction m with
    | zero => rfl
    | succ m ih =>
      simp only [unl, ih]
      have : (Array.replicate n false).getD m false = false := by
        by_cases h : m < n <;> simp [Array.getD_eq_getD_getElem?, h]
      rw [this]
      rfl
  exact this n

section
variable {P : Program} {C : Ctx} {w0 : World} {M0 : Mem} {own0 : Z}

/-- What one operation of the head came to: its value (nothing, where its guard says no). -/
def Ran (C : Ctx) (ops : Array Oper) (H : Heap) (o : Oper) (φ : Nat → V) (u : V) : Prop :=
  (∃ fr', (∀ t, Fr.get fr' t = φ t) ∧ (∀ K : V → Heap → Prop, K u H → evalOp C o (Fr.eval fr') H K) ∧
    (o.guard = none ∨ ∃ j want d, o.guard = some (j, want) ∧ (ops[j]?).bind (·.dst) = some d ∧ φ d = .bool want)) ∨
  (u = .tuple [] ∧ ∃ j want d, o.guard = some (j, want) ∧ (ops[j]?).bind (·.dst) = some d ∧ (φ d = .bool (!want) ∨ φ d = .tuple []))

/-- The head's values, one behind the other. -/
inductive HRun (C : Ctx) (ops : Array Oper) (H : Heap) : List Oper → (Nat → V) → List V → (Nat → V) → Prop
  | nil (φ : Nat → V) : HRun C ops H [] φ [] φ
  | cons {o : Oper} {l : List Oper} {φ : Nat → V} {u : V} {us : List V} {φ' : Nat → V} {d : Nat} : o.dst = some d → d < C.ntmps → Ran C ops H o φ u →
      HRun C ops H l (fun t => bif Nat.beq d t then u else φ t) us φ' → HRun C ops H (o :: l) φ (u :: us) φ'

theorem head_runs (hc : CallAng C) {ops : Array Oper} {H : Heap} : ∀ (l r : List Oper) (fr : Fr) (K : Fr → Heap → Prop), (∀ o ∈ l, isQuiet C o.op = true ∧ ∃ d, o.dst = some d) → evalOps C ops (l ++ r) fr H K →
    ∃ us φ fr', HRun C ops H l fr.get us φ ∧ (∀ t, Fr.get fr' t = φ t) ∧ evalOps C ops r fr' H K := by
  intro l
  induction l with
  | nil => intro r fr K _ h; exact ⟨[], fr.get, fr, .nil _, fun _ => rfl, h⟩
  | cons o l ih =>
    intro r fr K hq h
    obtain ⟨hq1, d, hd⟩ := hq o (by simp)
    have hq2 : ∀ o ∈ l, isQuiet C o.op = true ∧ ∃ d, o.dst = some d := fun o ho => hq o (by simp [ho])
    have step : ∀ (fr1 : Fr) (u : V), (∀ t, fr1.get t = fr.get t) → Ran C ops H o fr.get u → put C fr1 o.dst u (fun fr' => evalOps C ops (l ++ r) fr' H K) →
        ∃ us φ fr', HRun C ops H (o :: l) fr.get us φ ∧ (∀ t, Fr.get fr' t = φ t) ∧ evalOps C ops r fr' H K := by
      intro fr1 u hfr hr hp
      rw [hd] at hp
      simp only [put] at hp
      cases hb : Nat.blt d C.ntmps with
      | false => simp only [hb, cond_false] at hp
      | true =>
        simp only [hb, cond_true] at hp
        obtain ⟨us, φ, fr', h1, h2, h3⟩ := ih r _ K hq2 hp
        refine ⟨u :: us, φ, fr', .cons hd (by rw [Nat.blt_eq] at hb; exact hb) hr ?_, h2, h3⟩
        have : (Fr.get ((d, u) :: fr1)) = fun t => bif Nat.beq d t then u else fr.get t := by
          funext t
          simp only [Fr.get, hfr]
        rw [← this]
        exact h1
    have exec : ∀ (fr1 : Fr), (∀ t, fr1.get t = fr.get t) → (o.guard = none ∨ ∃ j want d, o.guard = some (j, want) ∧ (ops[j]?).bind (·.dst) = some d ∧ fr.get d = .bool want) →
        evalOp C o (Fr.eval fr1) H (fun v H' => put C fr1 o.dst v fun fr' => evalOps C ops (l ++ r) fr' H' K) →
        ∃ us φ fr', HRun C ops H (o :: l) fr.get us φ ∧ (∀ t, Fr.get fr' t = φ t) ∧ evalOps C ops r fr' H K := by
      intro fr1 hfr hgd he
      obtain ⟨v, H', h1, h2, h3⟩ := evalOp_ang hc o _ (fun _ => rfl) H _ he
      have := h2 hq1
      subst this
      exact step fr1 v hfr (.inl ⟨fr1, hfr, h3, hgd⟩) h1
    have lit : ∀ {d b}, fr.get d = .bool b → ∀ t, Fr.get ((d, .bool b) :: fr) t = fr.get t := by
      intro d b hdb t
      simp only [Fr.get]
      cases e : Nat.beq d t with
      | true => rw [← beq_true e, hdb]; rfl
      | false => rfl
    simp only [List.cons_append, evalOps] at h
    split at h
    · rename_i hgd
      exact exec fr (fun _ => rfl) (.inl hgd) h
    · rename_i j want hgd
      split at h
      · exact h.elim
      · rename_i dg hdg
        split at h
        · rename_i b hb
          cases want <;> cases b <;> simp only [cond_true, cond_false] at h
          · exact exec _ (lit hb) (.inr ⟨j, _, dg, hgd, hdg, hb⟩) h
          · exact step _ _ (lit hb) (.inr ⟨rfl, j, _, dg, hgd, hdg, .inl hb⟩) h
          · exact step _ _ (lit hb) (.inr ⟨rfl, j, _, dg, hgd, hdg, .inl hb⟩) h
          · exact exec _ (lit hb) (.inr ⟨j, _, dg, hgd, hdg, hb⟩) h
        · rename_i hb
          exact step fr _ (fun _ => rfl) (.inr ⟨rfl, j, want, dg, hgd, hdg, .inr hb⟩) h
        · exact h.elim

/-- The slots as they stand ahead of the head's i-th operation, and behind all. -/
theorem HRun.at_ {ops : Array Oper} {H : Heap} : ∀ {l : List Oper} {φ : Nat → V} {us : List V} {φ' : Nat → V}, HRun C ops H l φ us φ' →
    us.length = l.length ∧ (∀ (i : Nat) (o : Oper), l[i]? = some o → ∃ u ψ, us[i]? = some u ∧ Ran C ops H o ψ u ∧ (∀ d, o.dst = some d → d < C.ntmps) ∧
      (∀ t, (∀ (j : Nat) (o' : Oper), j < i → l[j]? = some o' → o'.dst ≠ some t) → ψ t = φ t) ∧
      (∀ (j : Nat) (o' : Oper) (u' : V) (t : Nat), j < i → l[j]? = some o' → o'.dst = some t → us[j]? = some u' → (∀ (k : Nat) (o'' : Oper), j < k → k < i → l[k]? = some o'' → o''.dst ≠ some t) → ψ t = u')) ∧
    (∀ t, (∀ (j : Nat) (o' : Oper), l[j]? = some o' → o'.dst ≠ some t) → φ' t = φ t) ∧
    (∀ (j : Nat) (o' : Oper) (u' : V) (t : Nat), l[j]? = some o' → o'.dst = some t → us[j]? = some u' → (∀ (k : Nat) (o'' : Oper), j < k → l[k]? = some o'' → o''.dst ≠ some t) → φ' t = u') := by
  intro l φ us φ' h
  induction h with
  | nil φ => exact ⟨rfl, by simp, by simp, by simp⟩
  | cons hd hdn hr hl ih =>
    rename_i o l φ u us φ' d
    obtain ⟨i1, i2, i3, i4⟩ := ih
    refine ⟨by simp [i1], ?_, ?_, ?_⟩
    · intro i o1 ho
      cases i with
      | zero =>
        simp at ho; subst ho
        exact ⟨u, φ, rfl, hr, (fun d' h' => by rw [hd] at h'; cases h'; exact hdn), fun _ _ => rfl, fun j _ _ _ hj => by omega⟩
      | succ i =>
        obtain ⟨u1, ψ, k1, k2, k0, k3, k4⟩ := i2 i o1 (by simpa using ho)
        refine ⟨u1, ψ, by simpa using k1, k2, k0, ?_, ?_⟩
        · intro t ht
          rw [k3 t fun j o' hj hl' => ht (j + 1) o' (by omega) (by simpa using hl')]
          have : d ≠ t := fun e => ht 0 o (by omega) (by simp) (e ▸ hd)
          cases e : Nat.beq d t with
          | true => exact absurd (beq_true e) this
          | false => simp [e]
        · intro j o' u' t hj hl' hdt hu hno
          cases j with
          | zero =>
            simp at hl' hu; subst hl'; subst hu
            rw [hd] at hdt; cases hdt
            rw [k3 d fun j o' hj' hl' => hno (j + 1) o' (by omega) (by omega) (by simpa using hl')]
            simp
          | succ j =>
            exact k4 j o' u' t (by omega) (by simpa using hl') hdt (by simpa using hu) fun k o'' hk1 hk2 hl'' => hno (k + 1) o'' (by omega) (by omega) (by simpa using hl'')
    · intro t ht
      rw [i3 t fun j o' hl' => ht (j + 1) o' (by simpa using hl')]
      have : d ≠ t := fun e => ht 0 o (by simp) (e ▸ hd)
      cases e : Nat.beq d t with
      | true => exact absurd (beq_true e) this
      | false => simp [e]
    · intro j o' u' t hl' hdt hu hno
      cases j with
      | zero =>
        simp at hl' hu; subst hl'; subst hu
        rw [hd] at hdt; cases hdt
        rw [i3 d fun j o' hl' => hno (j + 1) o' (by omega) (by simpa using hl')]
        simp
      | succ j =>
        exact i4 j o' u' t (by simpa using hl') hdt (by simpa using hu) fun k o'' hk hl'' => hno (k + 1) o'' (by omega) (by simpa using hl'')

theorem getD_get {l : Array Bool} {i : Nat} (h : i < l.size) (d d' : Bool) : l.getD i d = l.getD i d' := by simp [Array.getD, h]

/-- A region that draws its order. -/
theorem draw_sound (L : LOk P C) (hc : CallsOk P C) (hm : P.follows .mixedOrders = true) {id : Nat} {ops : Array Oper} {n : Nat} (hd : drawOk C ops.toList n = true) {fr : Fr} {H : Heap} {K : Fr → Heap → Prop} {a : Act} {w : World}
    (h : evalOps C ops ops.toList fr H K) (hg : Good C w0 M0 own0 fr H a w) {Q : Exit → Act → World → Prop}
    (hq : ∀ fr' H', K fr' H' → ∀ a' w', Good C w0 M0 own0 fr' H' a' w' → Q .normal a' w') : (Code.region id ops true).wp P Q a w := by
  refine wp_region_any hm ?_
  simp only [drawOk, Bool.and_eq_true] at hd
  obtain ⟨hn, hd⟩ := hd
  have hn := Nat.le_of_ble_eq_true hn
  simp only [Array.length_toList] at hn
  have hops : ∀ {i : Nat} {o : Oper}, ops[i]? = some o → ops.toList[i]? = some o := fun h => by simpa using h
  have back : ∀ {i : Nat} {o : Oper}, ops[i]? = some o → ∀ e ∈ o.after, Region.binds .any e = true → e.on < i := by
    intro i o ho e he hb
    have := all_zipIdx hd (hops ho)
    simp only [Bool.and_eq_true] at this
    have h1 := this.1
    simp only [backOk, Array.all_eq_true_iff_forall_mem] at h1
    have h2 := h1 e he
    rw [hb] at h2
    simpa [Nat.blt_eq] using h2
  have hhead : ∀ {i : Nat} {o : Oper}, ops[i]? = some o → i < n → headOk C (ops.toList.take n) o i = true := by
    intro i o ho hi
    have := all_zipIdx hd (hops ho)
    simp only [Bool.and_eq_true] at this
    have h1 := this.2
    have hb : Nat.blt i n = true := by rw [Nat.blt_eq]; exact hi
    simp only [hb, cond_true] at h1
    exact h1
  have htail : ∀ {i : Nat} {o : Oper}, ops[i]? = some o → n ≤ i → ∀ j, j < i → ∃ e ∈ o.after, Region.binds .any e = true ∧ e.on = j := by
    intro i o ho hi j hj
    have := all_zipIdx hd (hops ho)
    simp only [Bool.and_eq_true] at this
    have h1 := this.2
    have hb : Nat.blt i n = false := by
      cases e : Nat.blt i n with
      | false => rfl
      | true => rw [Nat.blt_eq] at e; omega
    simp only [hb, cond_false, tailOk, List.all_eq_true] at h1
    exact edgeOn_sound (h1 j (by simpa using hj))
  have hlen : ops.toList.length = ops.size := by simp
  have htake : ∀ {i : Nat} {o : Oper}, (ops.toList.take n)[i]? = some o → i < n ∧ ops[i]? = some o := by
    intro i o ho
    rw [List.getElem?_take] at ho
    split at ho
    · rename_i hi; exact ⟨hi, by simpa using ho⟩
    · cases ho
  have htake' : ∀ {i : Nat} {o : Oper}, i < n → ops[i]? = some o → (ops.toList.take n)[i]? = some o := by
    intro i o hi ho
    rw [List.getElem?_take, if_pos hi]
    exact hops ho
  have hquiet : ∀ o ∈ ops.toList.take n, isQuiet C o.op = true ∧ ∃ d, o.dst = some d := by
    intro o ho
    rw [List.mem_iff_getElem?] at ho
    obtain ⟨i, ho⟩ := ho
    obtain ⟨hi, ho'⟩ := htake ho
    have := hhead ho' hi
    simp only [headOk, Bool.and_eq_true] at this
    refine ⟨this.1.1.1, ?_⟩
    have h2 := this.1.1.2
    cases e : o.dst with
    | none => rw [e] at h2; cases h2
    | some d => exact ⟨d, rfl⟩
  have hdist : ∀ {i j : Nat} {o o' : Oper} {d : Nat}, ops[i]? = some o → i < n → ops[j]? = some o' → j < n → o.dst = some d → o'.dst = some d → i = j := by
    intro i j o o' d ho hi ho' hj h1 h2
    have := hhead ho hi
    simp only [headOk, Bool.and_eq_true] at this
    have h3 := this.1.1.2
    rw [h1] at h3
    have := all_zipIdx h3 (htake' hj ho')
    simp only [h2, Bool.or_eq_true] at this
    rcases this with k | k
    · exact (beq_true k).symm
    · simp at k
  have hsplit : ops.toList = ops.toList.take n ++ ops.toList.drop n := (List.take_append_drop n _).symm
  rw [hsplit] at h
  obtain ⟨us, φ, frn, hrun, hfrn, hrest⟩ := head_runs hc.ang _ _ _ _ hquiet h
  obtain ⟨hul, hat, hend1, hend2⟩ := hrun.at_
  have hul' : us.length = n := by rw [hul, List.length_take]; omega
  -- behind the head the order is told
  have tail : ∀ (f : Nat) (k : Nat) (listed : Array Bool) (fr : Fr) (H : Heap) (a : Act) (w : World), n ≤ k → k + f = ops.size → listed.size = ops.size → (∀ j, j < k → listed.getD j false = true) → (∀ j, k ≤ j → listed.getD j false = false) →
      evalOps C ops (ops.toList.drop k) fr H K → Good C w0 M0 own0 fr H a w → wpAny P .any ops Q f listed a w := by
    intro f
    induction f with
    | zero =>
      intro k listed fr H a w hk hkf hls h1 h2 he hg
      have hall : Region.ready .any ops listed = [] := by
        rw [List.eq_nil_iff_forall_not_mem]
        intro j hj
        rw [mem_ready] at hj
        obtain ⟨p1, o, ho, _⟩ := hj
        have hlt : j < ops.size := (Array.getElem?_eq_some_iff.1 ho).1
        have := h1 j (by omega)
        rw [getD_get (by omega) true false] at p1
        rw [p1] at this; cases this
      refine ⟨hall, ?_⟩
      rw [List.drop_of_length_le (by rw [hlen]; omega)] at he
      exact hq fr H he a w hg
    | succ f ih =>
      intro k listed fr H a w hk hkf hls h1 h2 he hg
      have hklt : k < ops.size := by omega
      have hko : ops[k]? = some ops[k] := Array.getElem?_eq_getElem hklt
      have hready : ∀ j ∈ Region.ready .any ops listed, j = k := by
        intro j hj
        rw [mem_ready] at hj
        obtain ⟨p1, o, ho, p2⟩ := hj
        have hlt : j < ops.size := (Array.getElem?_eq_some_iff.1 ho).1
        rcases Nat.lt_trichotomy j k with hjk | rfl | hjk
        · have := h1 j hjk
          rw [getD_get (by omega) true false] at p1
          rw [p1] at this; cases this
        · rfl
        · obtain ⟨e, he, hb, hon⟩ := htail ho (by omega) k hjk
          have := p2 e he hb
          rw [hon, h2 k (Nat.le_refl _)] at this
          cases this
      have hin : k ∈ Region.ready .any ops listed := by
        rw [mem_ready]
        refine ⟨by rw [getD_get (by omega) true false]; exact h2 k (Nat.le_refl _), _, hko, fun e he hb => h1 _ (back hko e he hb)⟩
      refine ⟨(fun hnil => by rw [hnil] at hin; cases hin), fun j hj => ?_⟩
      have := hready j hj
      subst this
      have hdrop : ops.toList.drop j = ops[j] :: ops.toList.drop (j + 1) := by
        rw [List.drop_eq_getElem_cons (by rw [hlen]; exact hklt)]
        simp
      rw [hdrop] at he
      have hl1 : ∀ i, i < j + 1 → (listed.setIfInBounds j true).getD i false = true := by
        intro i hi
        by_cases e : i = j
        · subst e; simp [show i < listed.size by omega]
        · rw [getD_set_ne false (fun e' => e e'.symm)]; exact h1 i (by omega)
      have hl2 : ∀ i, j + 1 ≤ i → (listed.setIfInBounds j true).getD i false = false := by
        intro i hi
        rw [getD_set_ne false (by omega)]; exact h2 i (by omega)
      have key : ∀ (Kn : Act → World → Prop), (∀ fr1 H1 a1 w1, evalOps C ops (ops.toList.drop (j + 1)) fr1 H1 K → Good C w0 M0 own0 fr1 H1 a1 w1 → Kn a1 w1) → wpOp P ops Q j Kn a w := by
        intro Kn hKn
        obtain ⟨s1, s2⟩ := evalOps_step (Q := Q) L hc he hg hKn
        unfold wpOp
        rw [hko]
        simp only
        cases hw : Region.wanted ops[j] (yielded ops a.tmps) with
        | true => rw [if_pos rfl]; exact .inl (s1 hw)
        | false => rw [if_neg (by simp)]; exact s2 hw
      exact key _ fun fr1 H1 a1 w1 k1 k2 => ih (j + 1) _ fr1 H1 a1 w1 (by omega) (by omega) (by simpa using hls) hl1 hl2 k1 k2
  -- the head, in whatever order
  have count : ∀ (listed : Array Bool), (∀ j, j < n → listed.getD j false = true) → (∀ j, n ≤ j → listed.getD j false = false) → ∀ m, unl listed (n + m) = m := by
    intro listed h1 h2 m
    induction m with
    | zero => exact unl_all n h1
    | succ m ih =>
      rw [← Nat.add_assoc]
      simp only [unl, ih, h2 (n + m) (by omega)]
      rfl
  have head : ∀ (f : Nat) (listed : Array Bool) (a : Act) (w : World), listed.size = ops.size → unl listed ops.size = f → (∀ j, n ≤ j → listed.getD j false = false) →
      (∃ g M, HR H g M w ∧ Base w0 M0 own0 H g M w ∧ a.tmps.size = C.ntmps ∧ a.defers = [] ∧
        (∀ (j : Nat) (o : Oper) (d : Nat) (u : V), j < n → ops[j]? = some o → o.dst = some d → us[j]? = some u → listed.getD j false = true → VR g M u (a.tmps.getD d Go.undef)) ∧
        (∀ t, (∀ (j : Nat) (o : Oper), j < n → ops[j]? = some o → o.dst ≠ some t) → VR g M (fr.get t) (a.tmps.getD t Go.undef))) → wpAny P .any ops Q f listed a w := by
    intro f
    induction f with
    | zero =>
      rintro listed a w hls hun htl ⟨g, M, hr, hb, hsz, hdf, hh, ho⟩
      have hall := unl_zero ops.size hun
      have hnn : n = ops.size := by
        rcases Nat.lt_or_ge n ops.size with h' | h'
        · have h1 := hall n h'
          rw [htl n (Nat.le_refl _)] at h1; cases h1
        · omega
      refine tail 0 n listed frn H a w (Nat.le_refl _) (by omega) hls (fun j hj => hall j (by omega)) htl hrest ⟨g, M, ⟨fun t => ?_, hsz, hdf⟩, hr, hb⟩
      rw [hfrn t]
      by_cases ht : ∀ (j : Nat) (o : Oper), j < n → ops[j]? = some o → o.dst ≠ some t
      · rw [hend1 t fun j o' hj => (htake hj).elim fun a1 a2 => ht j o' a1 a2]
        exact ho t ht
      · simp only [Classical.not_forall] at ht
        obtain ⟨j, o, hj, hoj, hd'⟩ := ht
        simp only [ne_eq, Classical.not_not] at hd'
        have hju : us[j]? = some us[j] := List.getElem?_eq_getElem (by omega)
        rw [hend2 j o us[j] t (htake' hj hoj) hd' hju fun k o'' hk hk' => (htake hk').elim fun a1 a2 e => by
          have := hdist hoj hj a2 a1 hd' e
          omega]
        exact hh j o t _ hj hoj hd' hju (hall j (by omega))
    | succ f ih =>
      rintro listed a w hls hun htl ⟨g, M, hr, hb, hsz, hdf, hh, ho⟩
      by_cases hall : ∀ j, j < n → listed.getD j false = true
      · have := count listed hall htl (ops.size - n)
        rw [show n + (ops.size - n) = ops.size by omega] at this
        refine tail (f + 1) n listed frn H a w (Nat.le_refl _) (by omega) hls hall htl hrest ⟨g, M, ⟨fun t => ?_, hsz, hdf⟩, hr, hb⟩
        rw [hfrn t]
        by_cases ht : ∀ (j : Nat) (o : Oper), j < n → ops[j]? = some o → o.dst ≠ some t
        · rw [hend1 t fun j o' hj => (htake hj).elim fun a1 a2 => ht j o' a1 a2]
          exact ho t ht
        · simp only [Classical.not_forall] at ht
          obtain ⟨j, o, hj, hoj, hd'⟩ := ht
          simp only [ne_eq, Classical.not_not] at hd'
          have hju : us[j]? = some us[j] := List.getElem?_eq_getElem (by omega)
          rw [hend2 j o us[j] t (htake' hj hoj) hd' hju fun k o'' hk hk' => (htake hk').elim fun a1 a2 e => by
            have := hdist hoj hj a2 a1 hd' e
            omega]
          exact hh j o t _ hj hoj hd' hju (hall j hj)
      · -- the least one that is not listed may come up
        have hmin : ∃ j, j < n ∧ listed.getD j false = false ∧ ∀ i, i < j → listed.getD i false = true := by
          simp only [Classical.not_forall] at hall
          obtain ⟨j, hj, hlj⟩ := hall
          induction j using Nat.strongRecOn with
          | _ j ihj =>
            by_cases hless : ∀ i, i < j → listed.getD i false = true
            · exact ⟨j, hj, by simpa using hlj, hless⟩
            · simp only [Classical.not_forall] at hless
              obtain ⟨i, hi, hli⟩ := hless
              exact ihj i hi (by omega) hli
        obtain ⟨j0, hj0, hlj0, hless⟩ := hmin
        have hj0s : j0 < ops.size := by omega
        have hj0r : j0 ∈ Region.ready .any ops listed := by
          rw [mem_ready]
          have hko : ops[j0]? = some ops[j0] := Array.getElem?_eq_getElem hj0s
          refine ⟨by rw [getD_get (by omega) true false]; exact hlj0, _, hko, fun e he hbb => hless _ (back hko e he hbb)⟩
        refine ⟨(fun hnil => by rw [hnil] at hj0r; cases hj0r), fun i hi => ?_⟩
        rw [mem_ready] at hi
        obtain ⟨hi1, o, hoi, hi2⟩ := hi
        have his : i < ops.size := (Array.getElem?_eq_some_iff.1 hoi).1
        have hin : i < n := by
          rcases Nat.lt_or_ge i n with h' | h'
          · exact h'
          · obtain ⟨e, he, hbb, hon⟩ := htail hoi h' j0 (by omega)
            have := hi2 e he hbb
            rw [hon, hlj0] at this; cases this
        have hli : listed.getD i false = false := by rw [getD_get (by omega) false true]; exact hi1
        obtain ⟨u, ψ, hu, hran, hdn, hψ1, hψ2⟩ := hat i o (htake' hin hoi)
        have hho := hhead hoi hin
        simp only [headOk, Bool.and_eq_true] at hho
        obtain ⟨d, hdo⟩ := (hquiet o (List.mem_of_getElem? (htake' hin hoi))).2
        have hdn' := hdn d hdo
        -- a slot that has been written by one that is listed
        have hdone : ∀ (j : Nat) (o' : Oper) (t : Nat), j < i → ops[j]? = some o' → o'.dst = some t → edgeOn o j = true → VR g M (ψ t) (a.tmps.getD t Go.undef) := by
          intro j o' t hj hoj hdj he
          have hju : us[j]? = some us[j] := List.getElem?_eq_getElem (by omega)
          rw [hψ2 j o' us[j] t hj (htake' (by omega) hoj) hdj hju fun k o'' hk1 hk2 hk' e => by
            have := hdist hoj (by omega) (htake hk').2 (htake hk').1 hdj e
            omega]
          obtain ⟨e, he1, he2, he3⟩ := edgeOn_sound he
          have := hi2 e he1 he2
          rw [he3] at this
          exact hh j o' t _ (by omega) hoj hdj hju this
        have hslot : ∀ t, Operand.tmp t ∈ o.op.operands → VR g M (ψ t) (a.tmps.getD t Go.undef) := by
          intro t ht
          by_cases hw : ∀ (j : Nat) (o' : Oper), j < n → ops[j]? = some o' → o'.dst ≠ some t
          · rw [hψ1 t fun j o' hj hl' => (htake hl').elim fun a1 a2 => hw j o' a1 a2]
            exact ho t hw
          · simp only [Classical.not_forall] at hw
            obtain ⟨j, o', hj, hoj, hd'⟩ := hw
            simp only [ne_eq, Classical.not_not] at hd'
            have h3 := all_zipIdx hho.1.2 (htake' hj hoj)
            simp only [hd', Bool.or_eq_true, Bool.not_eq_true', Bool.and_eq_true] at h3
            rcases h3 with k | ⟨k1, k2⟩
            · rw [List.any_eq_false] at k
              exact absurd (by simp) (k (.tmp t) (by simpa using ht))
            · exact hdone j o' t (by rw [Nat.blt_eq] at k1; exact k1) hoj hd' k2
        have hgslot : ∀ (j : Nat) (want : Bool) (dg : Nat), o.guard = some (j, want) → (ops[j]?).bind (·.dst) = some dg → VR g M (ψ dg) (a.tmps.getD dg Go.undef) := by
          intro j want dg hgd hdg
          have h4 := hho.2
          rw [hgd] at h4
          simp only [Bool.and_eq_true, Nat.blt_eq] at h4
          cases hoj : ops[j]? with
          | none => rw [hoj] at hdg; cases hdg
          | some o' =>
            rw [hoj] at hdg
            exact hdone j o' dg h4.1 hoj hdg h4.2
        have hnext : ∀ val g' M' w', VR g' M' u val → HR H g' M' w' → Base w0 M0 own0 H g' M' w' → Ext g M g' M' → wpAny P .any ops Q f (listed.setIfInBounds i true) (a.put o.dst val) w' := by
          intro val g' M' w' p1 p2 p3 p4
          have hput : ∀ t, t ≠ d → (a.put o.dst val).tmps.getD t Go.undef = a.tmps.getD t Go.undef := by
            intro t ht
            rw [hdo]
            simp only [Act.put]
            simp [Array.getD_eq_getD_getElem?, Array.getElem?_setIfInBounds, Ne.symm ht]
          refine ih _ _ w' (by simpa using hls) ?_ ?_ ⟨g', M', p2, p3, ?_, ?_, ?_, ?_⟩
          · have := unl_set (listed := listed) (i := i) (by omega) hli ops.size his
            omega
          · intro j hj
            rw [getD_set_ne false (by omega)]; exact htl j hj
          · rw [hdo]; simp [Act.put, hsz]
          · rw [hdo]; exact hdf
          · intro j o' d' u' hj hoj hd' hu' hlj
            by_cases e : i = j
            · subst e
              rw [hoi] at hoj; cases hoj
              rw [hdo] at hd'; cases hd'
              rw [hu] at hu'; cases hu'
              rw [hdo]
              simp only [Act.put]
              rw [show (a.tmps.setIfInBounds d val).getD d Go.undef = val by simp [Array.getD, hsz, hdn']]
              exact p1
            · rw [getD_set_ne false e] at hlj
              rw [hput d' fun e' => e (hdist hoi hin hoj hj hdo (e' ▸ hd'))]
              exact (hh j o' d' u' hj hoj hd' hu' hlj).mono p4
          · intro t ht
            rw [hput t fun e' => ht i o hin hoi (e' ▸ hdo)]
            exact (ho t ht).mono p4
        unfold wpOp
        rw [hoi]
        simp only
        have hyield : ∀ (j : Nat) (want : Bool) (dg : Nat), o.guard = some (j, want) → (ops[j]?).bind (·.dst) = some dg → Region.wanted o (yielded ops a.tmps) = ((match a.tmps[dg]? with | some (.bool b) => some b | _ => none) == some want) := by
          intro j want dg hgd hdg
          simp only [Region.wanted, hgd, yielded, hdg, Option.bind_some]
          cases a.tmps[dg]? with
          | none => rfl
          | some x => cases x <;> rfl
        rcases hran with ⟨fr', hfr', hev, hgd⟩ | ⟨rfl, j, want, dg, hgd, hdg, hskip⟩
        · have hw : Region.wanted o (yielded ops a.tmps) = true := by
            rcases hgd with hgd | ⟨j, want, dg, hgd, hdg, hφ⟩
            · simp [Region.wanted, hgd]
            · rw [hyield j want dg hgd hdg]
              have hv := hgslot j want dg hgd hdg
              rw [hφ] at hv
              generalize e : a.tmps.getD dg Go.undef = c at hv
              cases hv
              simp only [Array.getD_eq_getD_getElem?] at e
              cases e2 : a.tmps[dg]? with
              | none => rw [e2] at e; cases e
              | some x => rw [e2] at e; simp at e; rw [e]; simp
          rw [if_pos hw]
          left
          refine evalOp_sound L hc (hev (fun v H' => v = u ∧ H' = H) ⟨rfl, rfl⟩) ?_ hr hb ?_
          · intro x hx
            cases x with
            | tmp t =>
              show VR g M (Fr.get fr' t) _
              rw [hfr' t]
              exact hslot t hx
            | const v => exact VR_ofVal g M v
            | global m => exact .undef _
            | func m => exact .fn m [] #[] .nil
          · rintro v H' ⟨rfl, rfl⟩ val g' M' w' p1 p2 p3 p4
            exact hnext val g' M' w' p1 p2 p3 p4
        · have hw : Region.wanted o (yielded ops a.tmps) = false := by
            rw [hyield j want dg hgd hdg]
            have hv := hgslot j want dg hgd hdg
            rcases hskip with hφ | hφ
            · rw [hφ] at hv
              generalize e : a.tmps.getD dg Go.undef = c at hv
              cases hv
              simp only [Array.getD_eq_getD_getElem?] at e
              cases e2 : a.tmps[dg]? with
              | none => rw [e2] at e; cases e
              | some x => rw [e2] at e; simp at e; rw [e]; cases want <;> rfl
            · rw [hφ] at hv
              generalize e : a.tmps.getD dg Go.undef = c at hv
              cases hv
              simp only [Array.getD_eq_getD_getElem?] at e
              cases e2 : a.tmps[dg]? with
              | none => rfl
              | some x =>
                rw [e2] at e
                simp at e
                subst e
                rfl
          rw [if_neg (by rw [hw]; simp)]
          exact hnext Go.undef g M w (.tuple [] #[] .nil) hr hb (Ext.refl g M)
  obtain ⟨g, M, hf, hr, hb⟩ := hg
  refine head ops.size _ a _ (by simp) (unl_replicate _) ?_ ⟨g, M, HR.same (w := w) (by rfl) hr, Base.same (w := w) (by rfl) (by rfl) (by rfl) (by rfl) hb, hf.size, hf.defers, ?_, fun t _ => hf.get t⟩
  · intro j hj
    by_cases h' : j < ops.size <;> simp [Array.getD_eq_getD_getElem?, h']
  · intro j o d u hj hoj hd' hu' hl
    exfalso
    by_cases h' : j < ops.size <;> simp [Array.getD_eq_getD_getElem?, h'] at hl
end
end Go.Ev
