/- Code: rows of operations, branches, blocks, loops. -/
import Derived.Test.YtfdalaakechldaaEvOp
set_option linter.unusedVariables false
set_option linter.unusedSimpArgs false
namespace Go.Ev

structure FR (C : Ctx) (g : List G) (M : Mem) (fr : Fr) (a : Act) : Prop where
  get : ∀ t, VR g M (fr.get t) (a.tmps.getD t Go.undef)
  size : a.tmps.size = C.ntmps
  defers : a.defers = []

def Good (C : Ctx) (w0 : World) (M0 : Mem) (own0 : Z) (fr : Fr) (H : Heap) (a : Act) (w : World) : Prop :=
  ∃ g M, FR C g M fr a ∧ HR H g M w ∧ Base w0 M0 own0 H g M w

section
variable {P : Program} {C : Ctx} {g : List G} {M : Mem} {fr : Fr} {a : Act} {w : World} {H : Heap}

theorem FR.eval (h : FR C g M fr a) (x : Operand) : VR g M (fr.eval x) (a.eval x) := by
  cases x with
  | tmp t => exact h.get t
  | const v => exact VR_ofVal g M v
  | global n => exact .undef _
  | func f => exact .fn f [] #[] .nil

theorem FR.mono {g' : List G} {M' : Mem} (E : Ext g M g' M') (h : FR C g M fr a) : FR C g' M' fr a := ⟨fun t => (h.get t).mono E, h.size, h.defers⟩

theorem FR.cons (h : FR C g M fr a) {d : Nat} {v : V} (hv : VR g M v (a.tmps.getD d Go.undef)) : FR C g M ((d, v) :: fr) a := by
  refine ⟨fun t => ?_, h.size, h.defers⟩
  simp only [Fr.get]
  cases e : Nat.beq d t with
  | true => rw [← beq_true e]; exact hv
  | false => exact h.get t

theorem FR.put {g' : List G} {M' : Mem} (h : FR C g M fr a) (E : Ext g M g' M') {d : Nat} (hd : d < C.ntmps) {v : V} {val : Value} (hv : VR g' M' v val) : FR C g' M' ((d, v) :: fr) (a.put (some d) val) := by
  have hs := h.size
  refine ⟨fun t => ?_, by simp [Act.put, hs], h.defers⟩
  simp only [Fr.get]
  cases e : Nat.beq d t with
  | true =>
    have := beq_true e
    subst this
    simp only [cond_true, Act.put]
    rw [show (a.tmps.setIfInBounds d val).getD d Go.undef = val by simp [Array.getD, hs, hd]]
    exact hv
  | false =>
    have hne := beq_false e
    simp only [cond_false, Act.put]
    rw [show (a.tmps.setIfInBounds d val).getD t Go.undef = a.tmps.getD t Go.undef by simp [Array.getD_eq_getD_getElem?, Array.getElem?_setIfInBounds, hne]]
    exact (h.get t).mono E

theorem put_sound {g' : List G} {M' : Mem} (h : FR C g M fr a) (E : Ext g M g' M') {d : Option Nat} {v : V} {val : Value} (hv : VR g' M' v val) {K : Fr → Prop} (hk : put C fr d v K) :
    ∃ fr', K fr' ∧ FR C g' M' fr' (a.put d val) := by
  cases d with
  | none => exact ⟨fr, hk, h.mono E⟩
  | some d =>
    simp only [put] at hk
    cases e : Nat.blt d C.ntmps with
    | false => simp only [e, cond_false] at hk
    | true =>
      simp only [e, cond_true] at hk
      exact ⟨_, hk, h.put E (by rw [Nat.blt_eq] at e; exact e) hv⟩

theorem slot_bool (h : FR C g M fr a) {d : Nat} {b : Bool} (hd : fr.get d = .bool b) : a.tmps[d]? = some (.bool b) := by
  have hv := h.get d
  rw [hd] at hv
  generalize e : a.tmps.getD d Go.undef = c at hv
  cases hv
  simp only [Array.getD_eq_getD_getElem?] at e
  cases e2 : a.tmps[d]? with
  | none => rw [e2] at e; cases e
  | some x => rw [e2] at e; simp at e; rw [e]
theorem slot_skip (h : FR C g M fr a) {d : Nat} (hd : fr.get d = .tuple []) : ∀ b, a.tmps[d]? ≠ some (.bool b) := by
  have hv := h.get d
  rw [hd] at hv
  generalize e : a.tmps.getD d Go.undef = c at hv
  cases hv
  intro b hb
  simp only [Array.getD_eq_getD_getElem?, hb] at e
  cases e

theorem wpList_do {ops : Array Oper} {Q : Exit → Act → World → Prop} {o : Oper} {rest : List Oper} (hw : Region.wanted o (yielded ops a.tmps) = true) (h : o.wp P a w (wpList P ops Q rest) Q) : wpList P ops Q (o :: rest) a w := by
  unfold wpList
  rw [if_pos hw]
  exact .inl h
theorem wpList_pass {ops : Array Oper} {Q : Exit → Act → World → Prop} {o : Oper} {rest : List Oper} (hw : Region.wanted o (yielded ops a.tmps) = false) (h : wpList P ops Q rest (a.put o.dst Go.undef) w) : wpList P ops Q (o :: rest) a w := by
  unfold wpList
  rw [if_neg (by rw [hw]; simp)]
  exact h
end

section
variable {P : Program} {C : Ctx} {w0 : World} {M0 : Mem} {own0 : Z}

theorem evalOps_step (L : LOk P C) (hc : CallsOk P C M0 own0) {ops : Array Oper} {Q : Exit → Act → World → Prop} {Kn : Act → World → Prop} {o : Oper} {rest : List Oper} {fr : Fr} {H : Heap} {K : Fr → Heap → Prop} {a : Act} {w : World}
    (h : evalOps C ops (o :: rest) fr H K) (hg : Good C w0 M0 own0 fr H a w) (hk : ∀ fr' H' a' w', evalOps C ops rest fr' H' K → Good C w0 M0 own0 fr' H' a' w' → Kn a' w') :
    (Region.wanted o (yielded ops a.tmps) = true → o.wp P a w Kn Q) ∧ (Region.wanted o (yielded ops a.tmps) = false → Kn (a.put o.dst Go.undef) w) := by
  have run : ∀ fr1, evalOp C o (Fr.eval fr1) H (fun v H' => put C fr1 o.dst v fun fr' => evalOps C ops rest fr' H' K) → Good C w0 M0 own0 fr1 H a w → o.wp P a w Kn Q := by
    rintro fr1 h1 ⟨g, M, hf, hr, hb⟩
    refine evalOp_sound L hc h1 (fun x _ => hf.eval x) hr hb ?_
    intro v H' hk' val g' M' w' p1 p2 p3 p4
    obtain ⟨fr', k1, k2⟩ := put_sound hf p4 p1 hk'
    exact hk fr' H' _ w' k1 ⟨g', M', k2, p2, p3⟩
  have skip : ∀ fr1, put C fr1 o.dst (.tuple []) (fun fr' => evalOps C ops rest fr' H K) → Good C w0 M0 own0 fr1 H a w → Kn (a.put o.dst Go.undef) w := by
    rintro fr1 h1 ⟨g, M, hf, hr, hb⟩
    obtain ⟨fr', k1, k2⟩ := put_sound (val := Go.undef) hf (Ext.refl g M) (.tuple [] #[] .nil) h1
    exact hk fr' H _ w k1 ⟨g, M, k2, hr, hb⟩
  simp only [evalOps] at h
  split at h
  · rename_i hgd
    have hw : Region.wanted o (yielded ops a.tmps) = true := by simp [Region.wanted, hgd]
    exact ⟨fun _ => run fr h hg, (fun e => by rw [hw] at e; cases e)⟩
  · rename_i j want hgd
    split at h
    · exact h.elim
    · rename_i d hd
      have hy : ∀ r, a.tmps[d]? = r → yielded ops a.tmps j = (match r with | some (.bool b) => some b | _ => none) := by
        intro r hr
        simp only [yielded, hd, Option.bind_some, hr]
        cases r with
        | none => rfl
        | some x => cases x <;> rfl
      split at h
      · rename_i b hb
        have hs : a.tmps[d]? = some (.bool b) := by
          obtain ⟨g, M, hf, _, _⟩ := hg
          exact slot_bool hf hb
        have hw : Region.wanted o (yielded ops a.tmps) = (b == want) := by
          simp only [Region.wanted, hgd, hy _ hs]
          cases b <;> cases want <;> rfl
        have hgb : ∀ b', b' = b → Good C w0 M0 own0 ((d, .bool b') :: fr) H a w := by
          rintro _ rfl
          obtain ⟨g, M, hf, hr, hbb⟩ := hg
          refine ⟨g, M, hf.cons ?_, hr, hbb⟩
          simp only [Array.getD_eq_getD_getElem?, hs]
          exact .bool _
        rw [hw]
        cases want <;> cases b <;> simp only [cond_true, cond_false] at h
        · exact ⟨fun _ => run _ h (hgb _ rfl), (fun e => by cases e)⟩
        · exact ⟨(fun e => by cases e), fun _ => skip _ h (hgb _ rfl)⟩
        · exact ⟨(fun e => by cases e), fun _ => skip _ h (hgb _ rfl)⟩
        · exact ⟨fun _ => run _ h (hgb _ rfl), (fun e => by cases e)⟩
      · rename_i hb
        have hs : ∀ b, a.tmps[d]? ≠ some (.bool b) := by
          obtain ⟨g, M, hf, _, _⟩ := hg
          exact slot_skip hf hb
        have hw : Region.wanted o (yielded ops a.tmps) = false := by
          simp only [Region.wanted, hgd, hy _ rfl]
          cases e : a.tmps[d]? with
          | none => rfl
          | some x =>
            cases x <;> first | rfl | exact absurd e (hs _)
        exact ⟨(fun e => by rw [hw] at e; cases e), fun _ => skip fr h hg⟩
      · exact h.elim

theorem evalOps_sound (L : LOk P C) (hc : CallsOk P C M0 own0) (ops : Array Oper) {Q : Exit → Act → World → Prop} : ∀ (l : List Oper) (fr : Fr) (H : Heap) (K : Fr → Heap → Prop) (a : Act) (w : World), evalOps C ops l fr H K →
    Good C w0 M0 own0 fr H a w → (∀ fr' H', K fr' H' → ∀ a' w', Good C w0 M0 own0 fr' H' a' w' → Q .normal a' w') → wpList P ops Q l a w := by
  intro l
  induction l with
  | nil =>
    intro fr H K a w h hg hq
    exact hq fr H h a w hg
  | cons o rest ih =>
    intro fr H K a w h hg hq
    obtain ⟨h1, h2⟩ := evalOps_step (Q := Q) (Kn := wpList P ops Q rest) L hc h hg fun fr' H' a' w' k1 k2 => ih fr' H' K a' w' k1 k2 hq
    cases hw : Region.wanted o (yielded ops a.tmps) with
    | true => exact wpList_do hw (h1 hw)
    | false => exact wpList_pass hw (h2 hw)

/-! ### loops -/
theorem wp_loop_n {c : Code} {Q : Exit → Act → World → Prop} (R : Nat → Act → World → Prop)
    (round : ∀ n a w, R n a w → c.wp P (Exit.then (fun a' w' => ∃ m, m < n ∧ R m a' w') Q) a w) {n : Nat} {a : Act} {w : World} (h₀ : R n a w) : (Code.loop c).wp P Q a w := by
  intro b k cs
  have key : ∀ n a w, R n a w → ∃ e a' w', Q e a' w' ∧ Arrives P (lone (b.at a (.code c :: .inLoop c :: k)) cs w) b k cs e a' w' := by
    intro n
    induction n using Nat.strongRecOn with
    | _ n ih =>
      intro a w hI
      obtain ⟨e, a₁, w₁, hq, harr⟩ := round n a w hI b (.inLoop c :: k) cs
      cases e with
      | normal =>
        obtain ⟨m, hlt, hI₁⟩ := hq
        obtain ⟨e₂, a₂, w₂, hq₂, harr₂⟩ := ih m hlt a₁ w₁ hI₁
        exact ⟨e₂, a₂, w₂, hq₂, .of_steps (Steps.trans harr (.one step_inLoop)) harr₂⟩
      | exit id => exact ⟨_, a₁, w₁, hq, .pass (x := .inLoop c) rfl (fun _ _ => .inl (by simp)) harr⟩
      | goto l => exact ⟨_, a₁, w₁, hq, .pass (x := .inLoop c) rfl (fun _ _ => .inl (by simp)) harr⟩
      | ret => exact ⟨_, a₁, w₁, hq, .pass (x := .inLoop c) rfl (fun _ _ => .inl (by simp)) harr⟩
      | panic ch => exact ⟨_, a₁, w₁, hq, .pass (x := .inLoop c) rfl (fun _ _ => .inl (by simp)) harr⟩
      | outgrown => exact ⟨_, a₁, w₁, hq, .pass (x := .inLoop c) rfl (fun _ _ => .inl (by simp)) harr⟩
  obtain ⟨e, a', w', hq, harr⟩ := key n a w h₀
  exact ⟨e, a', w', hq, .of_steps (.one step_loop) harr⟩

/-! ### a loop's head -/
def G.again : G → G
  | .box b => .box b
  | .sl h _ sz => .sl h 0 sz
  | .bld b buf => .bld b buf
  | .dp h _ _ sz bs ih => .dp h 0 0 sz bs ih
def gAt (g : List G) (id : Nat) : G := match g[id]? with | some x => x.again | none => .box 0
def gNorm (L : List Nat) (g : List G) : List G := L.map (gAt g)

theorem posOf_get : ∀ {L : List Nat} {id j : Nat}, posOf L id = some j → L[j]? = some id
  | [], _, _, h => by simp [posOf] at h
  | x :: r, id, j, h => by
    simp only [posOf] at h
    cases e : Nat.beq x id with
    | true => simp only [e, cond_true] at h; cases h; rw [beq_true e]; rfl
    | false =>
      simp only [e, cond_false] at h
      split at h
      · rename_i k hk
        cases h
        simpa using posOf_get hk
      · cases h
theorem posOf_mem : ∀ {L : List Nat} {id : Nat}, posOf L id = none → id ∉ L
  | [], _, _ => by simp
  | x :: r, id, h => by
    simp only [posOf] at h
    cases e : Nat.beq x id with
    | true => simp only [e, cond_true] at h; cases h
    | false =>
      simp only [e, cond_false] at h
      split at h
      · cases h
      · rename_i hk
        have := posOf_mem hk
        have hne : ¬ x = id := fun e' => by subst e'; simp at e
        simp only [List.mem_cons, not_or]
        exact ⟨fun e' => hne e'.symm, this⟩
/-- What holds of the list of things that are kept. -/
structure KOk (keep n : Nat) (L : List Nat) : Prop where
  lt : ∀ id ∈ L, id < n
  nd : L.Nodup
  pre : ∀ id, id < keep → id < n → L[id]? = some id
theorem idsOf_get : ∀ (H : Heap) (i j : Nat), (idsOf i H)[j]? = if j < H.length then some (i + j) else none
  | [], i, j => by simp [idsOf]
  | o :: r, i, 0 => by simp [idsOf]
  | o :: r, i, j + 1 => by
    simp only [idsOf, List.getElem?_cons_succ, List.length_cons, idsOf_get r (i + 1) j]
    by_cases h : j < r.length
    · rw [if_pos h, if_pos (by omega)]; congr 1; omega
    · rw [if_neg h, if_neg (by omega)]
theorem idsOf_ok (H : Heap) (keep : Nat) : KOk keep H.length (idsOf 0 (H.take keep)) := by
  refine ⟨fun id hid => ?_, ?_, fun id h1 h2 => ?_⟩
  · obtain ⟨j, hj⟩ := List.mem_iff_getElem?.1 hid
    rw [idsOf_get] at hj
    split at hj
    · rename_i h
      rw [List.length_take] at h
      cases hj
      omega
    · cases hj
  · rw [List.nodup_iff_pairwise_ne, List.pairwise_iff_getElem]
    intro i j hi hj hij e
    have h1 := idsOf_get (H.take keep) 0 i
    have h2 := idsOf_get (H.take keep) 0 j
    rw [List.getElem?_eq_getElem hi] at h1
    rw [List.getElem?_eq_getElem hj] at h2
    split at h1
    · split at h2
      · simp only [Option.some.injEq] at h1 h2
        omega
      · cases h2
    · cases h1
  · rw [idsOf_get, if_pos (by rw [List.length_take]; omega), Nat.zero_add]
theorem nodup_pos {L : List Nat} (h : L.Nodup) {i j x : Nat} (h1 : L[i]? = some x) (h2 : L[j]? = some x) : i = j := by
  rw [List.nodup_iff_pairwise_ne, List.pairwise_iff_getElem] at h
  obtain ⟨l1, e1⟩ := List.getElem?_eq_some_iff.1 h1
  obtain ⟨l2, e2⟩ := List.getElem?_eq_some_iff.1 h2
  rcases Nat.lt_trichotomy i j with hlt | rfl | hlt
  · exact absurd (e1.trans e2.symm) (h i j l1 l2 hlt)
  · rfl
  · exact absurd (e2.trans e1.symm) (h j i l2 l1 hlt)
theorem addId_ok {keep n : Nat} {L : List Nat} (h : KOk keep n L) (id : Nat) : KOk keep n (addId n L id) := by
  unfold addId
  cases e : posOf L id with
  | some _ => exact h
  | none =>
    simp only
    cases hb : Nat.blt id n with
    | false => exact h
    | true =>
      rw [Nat.blt_eq] at hb
      have hm := posOf_mem e
      refine ⟨fun x hx => ?_, ?_, fun x h1 h2 => ?_⟩
      · simp only [cond_true, List.mem_append, List.mem_singleton] at hx
        rcases hx with hx | rfl
        · exact h.lt x hx
        · exact hb
      · simp only [cond_true]
        rw [List.nodup_append]
        refine ⟨h.nd, by simp, ?_⟩
        intro x hx y hy
        simp only [List.mem_singleton] at hy
        subst hy
        intro e'
        subst e'
        exact hm hx
      · have := h.pre x h1 h2
        simp only [cond_true]
        rw [List.getElem?_append_left (List.getElem?_eq_some_iff.1 this).1]
        exact this
theorem addV_ok {keep n : Nat} {L : List Nat} (h : KOk keep n L) (v : V) : KOk keep n (addV n L v) := by
  unfold addV
  split <;> first | exact addId_ok h _ | exact h
theorem foldl_addV_ok {keep n : Nat} : ∀ (us : List V) {L : List Nat}, KOk keep n L → KOk keep n (us.foldl (addV n) L)
  | [], _, h => h
  | u :: us, _, h => foldl_addV_ok us (addV_ok h u)
theorem followed_ok {keep n : Nat} {H : Heap} : ∀ (ids : List Nat) {L : List Nat}, KOk keep n L → KOk keep n (followed n H ids L)
  | [], _, h => h
  | id :: r, L, h => by
    unfold followed
    split
    · exact followed_ok r (foldl_addV_ok _ h)
    · exact followed_ok r h
theorem gathered_ok {keep n : Nat} {fr : Fr} : ∀ (sl : List Nat) {L : List Nat}, KOk keep n L → KOk keep n (gathered n fr sl L)
  | [], _, h => h
  | s :: r, L, h => by
    refine gathered_ok r ?_
    unfold addV
    split <;> first | exact addId_ok h _ | exact h
theorem keptL_ok (a : Ann) (fr : Fr) (H : Heap) : KOk a.keep H.length (keptL a fr H) := by
  unfold keptL
  cases a.gather with
  | false => exact idsOf_ok H a.keep
  | true => exact followed_ok _ (gathered_ok a.slots (idsOf_ok H a.keep))

theorem gNorm_get {g : List G} {L : List Nat} {id j : Nat} {x : G} (hid : posOf L id = some j) (h : g[id]? = some x) : (gNorm L g)[j]? = some x.again := by
  simp only [gNorm, List.getElem?_map, posOf_get hid, Option.map_some, gAt, h]

theorem scrub_sound {g : List G} {M : Mem} {H : Heap} {w : World} (hr : HR H g M w) (L : List Nat) {v : V} {c : Value} (hv : VR g M v c) : VR (gNorm L g) M (scrub H L v) c := by
  have other : ∀ u, u = v → VR (gNorm L g) M (bif immut u then u else .undef) c := by
    rintro u rfl
    cases hi : immut u with
    | true => exact hv.imm hi
    | false => exact .undef _
  cases v <;> simp only [scrub] <;> try exact other _ rfl
  case ptr id off =>
    cases e : posOf L id with
    | none => exact .undef _
    | some j =>
      cases hv with
      | ptr _ _ b h => exact .ptr j off b (gNorm_get e h)
  case bptr id =>
    cases e : posOf L id with
    | none => exact .undef _
    | some j =>
      cases hv with
      | bptr _ b buf h => exact .bptr j b buf (gNorm_get e h)
  case obj id ver =>
    cases e : posOf L id with
    | none => exact .undef _
    | some j =>
      cases hv with
      | obj _ _ ver' sz h _ h1 h2 h3 h4 =>
        simp only
        split
        · rename_i ver2 t xs hid
          have ho := hr.ob id _ _ hid h1
          simp only [ObOk] at ho
          cases hb : Nat.beq ver ver2 with
          | false => exact .undef _
          | true =>
            simp only [cond_true]
            refine .obj j 0 0 sz h c (gNorm_get e h1) (Nat.le_refl _) (fun _ => h3 ?_) h4
            rw [ho.1]; exact beq_true hb
        · rename_i ver2 t xs hid
          have ho := hr.ob id _ _ hid h1
          simp only [ObOk] at ho
          cases hb : Nat.beq ver ver2 with
          | false => exact .undef _
          | true =>
            simp only [cond_true]
            refine .obj j 0 0 sz h c (gNorm_get e h1) (Nat.le_refl _) (fun _ => h3 ?_) h4
            rw [ho.1]; exact beq_true hb
        · exact .undef _
  case dob id ver =>
    cases e : posOf L id with
    | none => exact .undef _
    | some j =>
      cases hv with
      | dob _ _ ver' iv sz bs ih h _ h1 h2 h3 h4 =>
        simp only
        split
        · rename_i ver2 iv2 t xs hid
          have ho := hr.ob id _ _ hid h1
          simp only [ObOk] at ho
          cases hb : Nat.beq ver ver2 with
          | false => exact .undef _
          | true =>
            simp only [cond_true]
            refine .dob j 0 0 0 sz bs ih h c (gNorm_get e h1) (Nat.le_refl _) (fun _ => h3 ?_) h4
            rw [ho.1.1]; exact beq_true hb
        · exact .undef _

theorem get_map (f : Nat → V) : ∀ (l : List Nat) (t : Nat), Fr.get (l.map fun s => (s, f s)) t = f t ∨ Fr.get (l.map fun s => (s, f s)) t = .undef
  | [], t => .inr rfl
  | s :: l, t => by
    simp only [List.map_cons, Fr.get]
    cases e : Nat.beq s t with
    | true => rw [beq_true e]; exact .inl rfl
    | false => exact get_map f l t

theorem normH_get {L : List Nat} {H : Heap} {j : Nat} {o : Ob} (hL : ∀ id ∈ L, id < H.length) (h : (normHL L H)[j]? = some o) : ∃ id, L[j]? = some id ∧ ∃ o', H[id]? = some o' ∧ o = scrubOb H L o' := by
  simp only [normHL, List.getElem?_map, Option.map_eq_some_iff] at h
  obtain ⟨id, h1, h2⟩ := h
  have hlt := hL id (List.mem_of_getElem? h1)
  refine ⟨id, h1, H[id], List.getElem?_eq_getElem hlt, ?_⟩
  rw [← h2]
  simp only [obAt, List.getElem?_eq_getElem hlt]

theorem gNorm_get' {g : List G} {L : List Nat} {j id : Nat} {x : G} (hid : L[j]? = some id) (hlt : id < g.length) (h : (gNorm L g)[j]? = some x) : ∃ x', g[id]? = some x' ∧ x = x'.again := by
  simp only [gNorm, List.getElem?_map, hid, Option.map_some, Option.some.injEq] at h
  refine ⟨g[id], List.getElem?_eq_getElem hlt, ?_⟩
  rw [← h]
  simp only [gAt, List.getElem?_eq_getElem hlt]

theorem ownB_scrub {H : Heap} {L : List Nat} {o : Ob} {x : G} : ownB (scrubOb H L o) x.again = ownB o x := by
  cases o <;> cases x <;> first | rfl | skip
  rename_i h ver sz
  cases h <;> first | rfl | (rename_i ad _ _; cases ad <;> rfl)

theorem VRs_scrub {g : List G} {M : Mem} {H : Heap} {w : World} (hr : HR H g M w) (L : List Nat) : ∀ {vs : List V} {cs : List Value}, VRs g M vs cs → VRs (gNorm L g) M (vs.map (scrub H L)) cs
  | _, _, .nil => .nil
  | _, _, .cons h t => .cons (scrub_sound hr L h) (VRs_scrub hr L t)

theorem norm_hr {keep : Nat} {L : List Nat} {H : Heap} {g : List G} {M : Mem} {w : World} (hk : KOk keep H.length L) (hz : own0.n ≤ keep) (hr : HR H g M w) (hb : Base w0 M0 own0 H g M w) :
    HR (normHL L H) (gNorm L g) M w ∧ Base w0 M0 own0 (normHL L H) (gNorm L g) M w := by
  have hlen := hr.len
  refine ⟨⟨?_, ?_, ?_, hr.mem⟩, ⟨hb.size, hb.keep, ?_, hb.mle, hb.mnew, hb.os, hb.tape, hb.output, fun id b hid => ?_⟩⟩
  · simp [normHL, gNorm]
  · intro j o x h1 h2
    obtain ⟨id, hid, o', k1, rfl⟩ := normH_get hk.lt h1
    obtain ⟨x', k2, rfl⟩ := gNorm_get' hid (by rw [← hlen]; exact hk.lt id (List.mem_of_getElem? hid)) h2
    have ho := hr.ob id o' x' k1 k2
    cases o' <;> cases x' <;> simp only [ObOk, scrubOb, G.again] at ho ⊢ <;> try exact ho
    · obtain ⟨c, T, fz, p1, p2, p3, p4⟩ := ho
      exact ⟨c, T, fz, p1, VRs_scrub hr _ p2, p3, p4⟩
    · obtain ⟨p1, p2, p3, p4⟩ := ho
      refine ⟨trivial, p2, p3, p4.imp (fun e => e) ?_⟩
      rintro ⟨b, cap, c, T, fz, rfl, k2, k3, k4, k5, k6, k7⟩
      exact ⟨b, cap, c, T, fz, rfl, k2, k3, k4, fun i x hx => (k5 i x hx).imm (immuts_enc _ x), k6, k7⟩
    · exact ⟨trivial, ho.2.1, ho.2.2.imm rfl⟩
    · exact ⟨⟨trivial, trivial, ho.1.2.2⟩, ho.2⟩
  · intro j j' o o' x x' b h1 h2 h3 h4 h5 h6
    obtain ⟨id, i1, p, k1, rfl⟩ := normH_get hk.lt h1
    obtain ⟨q, k2, rfl⟩ := gNorm_get' i1 (by rw [← hlen]; exact hk.lt id (List.mem_of_getElem? i1)) h2
    obtain ⟨id', i2, p', k3, rfl⟩ := normH_get hk.lt h3
    obtain ⟨q', k4, rfl⟩ := gNorm_get' i2 (by rw [← hlen]; exact hk.lt id' (List.mem_of_getElem? i2)) h4
    rw [ownB_scrub] at h5 h6
    have e := hr.apart id id' p p' q q' b k1 k2 k3 k4 h5 h6
    subst e
    exact nodup_pos hk.nd i1 i2
  · rintro b ⟨j, o, x, h1, h2, h3⟩
    obtain ⟨id, i1, p, k1, rfl⟩ := normH_get hk.lt h1
    obtain ⟨q, k2, rfl⟩ := gNorm_get' i1 (by rw [← hlen]; exact hk.lt id (List.mem_of_getElem? i1)) h2
    rw [ownB_scrub] at h3
    exact hb.own b ⟨id, p, q, k1, k2, h3⟩
  · have hx := hb.gbox id b hid
    have hag : b.again = b := by
      have := own0.fx id b hid
      cases b with
      | box _ => rfl
      | bld _ _ => rfl
      | sl h ver sz => simp only [G.fixed] at this; rw [beq_true this]; rfl
      | dp h ver iv sz bs ih => simp only [G.fixed, Bool.and_eq_true] at this; rw [beq_true this.1, beq_true this.2]; rfl
    have hl : id < H.length := by rw [hlen]; exact (List.getElem?_eq_some_iff.1 hx).1
    have := hk.pre id (Nat.lt_of_lt_of_le (own0.lt id b hid) hz) hl
    simp only [gNorm, List.getElem?_map, this, Option.map_some, gAt, hx, hag]
theorem norm_good {a : Ann} {fr : Fr} {H : Heap} {ac : Act} {w : World} (hz : own0.n ≤ a.keep) (h : Good C w0 M0 own0 fr H ac w) : Good C w0 M0 own0 (normFr a fr H) (normH a fr H) ac w := by
  obtain ⟨g, M, hf, hr, hb⟩ := h
  have hk := keptL_ok a fr H
  unfold normFr normH
  generalize keptL a fr H = L at hk ⊢
  obtain ⟨h1, h2⟩ := norm_hr hk hz hr hb
  refine ⟨gNorm L g, M, ⟨fun t => ?_, hf.size, hf.defers⟩, h1, h2⟩
  rcases get_map (fun s => scrub H L (fr.get s)) a.slots t with e | e
  · rw [normFrL, e]; exact scrub_sound hr _ (hf.get t)
  · rw [normFrL, e]; exact .undef _
end
end Go.Ev
