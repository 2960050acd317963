/- Code: rows of operations, branches, blocks, loops. -/
import Derived.Test.YthleanlnjnlnmaaEvOp
set_option linter.unusedVariables false
set_option linter.unusedSimpArgs false
namespace Go.Ev

structure FR (C : Ctx) (g : List G) (M : Mem) (fr : Fr) (a : Act) : Prop where
  get : ∀ t, VR g M (fr.get t) (a.tmps.getD t Go.undef)
  size : a.tmps.size = C.ntmps
  defers : a.defers = []

def Good (C : Ctx) (w0 : World) (M0 : Mem) (own0 : Z) (fr : Fr) (H : Heap) (a : Act) (w : World) : Prop :=
  ∃ g M, FR C g M fr a ∧ HR H g M w ∧ Base w0 M0 own0 H g M w

section
variable {P : Program} {C : Ctx} {g : List G} {M : Mem} {fr : Fr} {a : Act} {w : World} {H : Heap}

theorem FR.eval (h : FR C g M fr a) (x : Operand) : VR g M (fr.eval x) (a.eval x) := by
  cases x with
  | tmp t => exact h.get t
  | const v => exact VR_ofVal g M v
  | global n => exact .undef _
  | func f => exact .fn f [] #[] .nil

theorem FR.mono {g' : List G} {M' : Mem} (E : Ext g M g' M') (h : FR C g M fr a) : FR C g' M' fr a := ⟨fun t => (h.get t).mono E, h.size, h.defers⟩

theorem FR.cons (h : FR C g M fr a) {d : Nat} {v : V} (hv : VR g M v (a.tmps.getD d Go.undef)) : FR C g M ((d, v) :: fr) a := by
  refine ⟨fun t => ?_, h.size, h.defers⟩
  simp only [Fr.get]
  cases e : Nat.beq d t with
  | true => rw [← beq_true e]; exact hv
  | false => exact h.get t

theorem FR.put {g' : List G} {M' : Mem} (h : FR C g M fr a) (E : Ext g M g' M') {d : Nat} (hd : d < C.ntmps) {v : V} {val : Value} (hv : VR g' M' v val) : FR C g' M' ((d, v) :: fr) (a.put (some d) val) := by
  have hs := h.size
  refine ⟨fun t => ?_, by simp [Act.put, hs], h.defers⟩
  simp only [Fr.get]
  cases e : Nat.beq d t with
  | true =>
    have := beq_true e
    subst this
    simp only [cond_true, Act.put]
    rw [show (a.tmps.setIfInBounds d val).getD d Go.undef = val by simp [Array.getD, hs, hd]]
    exact hv
  | false =>
    have hne := beq_false e
    simp only [cond_false, Act.put]
    rw [show (a.tmps.setIfInBounds d val).getD t Go.undef = a.tmps.getD t Go.undef by simp [Array.getD_eq_getD_getElem?, Array.getElem?_setIfInBounds, hne]]
    exact (h.get t).mono E

theorem put_sound {g' : List G} {M' : Mem} (h : FR C g M fr a) (E : Ext g M g' M') {d : Option Nat} {v : V} {val : Value} (hv : VR g' M' v val) {K : Fr → Prop} (hk : put C fr d v K) :
    ∃ fr', K fr' ∧ FR C g' M' fr' (a.put d val) := by
  cases d with
  | none => exact ⟨fr, hk, h.mono E⟩
  | some d =>
    simp only [put] at hk
    cases e : Nat.blt d C.ntmps with
    | false => simp only [e, cond_false] at hk
    | true =>
      simp only [e, cond_true] at hk
      exact ⟨_, hk, h.put E (by rw [Nat.blt_eq] at e; exact e) hv⟩

theorem slot_bool (h : FR C g M fr a) {d : Nat} {b : Bool} (hd : fr.get d = .bool b) : a.tmps[d]? = some (.bool b) := by
  have hv := h.get d
  rw [hd] at hv
  generalize e : a.tmps.getD d Go.undef = c at hv
  cases hv
  simp only [Array.getD_eq_getD_getElem?] at e
  cases e2 : a.tmps[d]? with
  | none => rw [e2] at e; cases e
  | some x => rw [e2] at e; simp at e; rw [e]
theorem slot_skip (h : FR C g M fr a) {d : Nat} (hd : fr.get d = .tuple []) : ∀ b, a.tmps[d]? ≠ some (.bool b) := by
  have hv := h.get d
  rw [hd] at hv
  generalize e : a.tmps.getD d Go.undef = c at hv
  cases hv
  intro b hb
  simp only [Array.getD_eq_getD_getElem?, hb] at e
  cases e

theorem wpList_do {ops : Array Oper} {Q : Exit → Act → World → Prop} {o : Oper} {rest : List Oper} (hw : Region.wanted o (yielded ops a.tmps) = true) (h : o.wp P a w (wpList P ops Q rest) Q) : wpList P ops Q (o :: rest) a w := by
  unfold wpList
  rw [if_pos hw]
  exact .inl h
theorem wpList_pass {ops : Array Oper} {Q : Exit → Act → World → Prop} {o : Oper} {rest : List Oper} (hw : Region.wanted o (yielded ops a.tmps) = false) (h : wpList P ops Q rest (a.put o.dst Go.undef) w) : wpList P ops Q (o :: rest) a w := by
  unfold wpList
  rw [if_neg (by rw [hw]; simp)]
  exact h
end

section
variable {P : Program} {C : Ctx} {w0 : World} {M0 : Mem} {own0 : Z}

theorem evalOps_step (L : LOk P C) (hc : CallsOk P C M0) {ops : Array Oper} {Q : Exit → Act → World → Prop} {Kn : Act → World → Prop} {o : Oper} {rest : List Oper} {fr : Fr} {H : Heap} {K : Fr → Heap → Prop} {a : Act} {w : World}
    (h : evalOps C ops (o :: rest) fr H K) (hg : Good C w0 M0 own0 fr H a w) (hk : ∀ fr' H' a' w', evalOps C ops rest fr' H' K → Good C w0 M0 own0 fr' H' a' w' → Kn a' w') :
    (Region.wanted o (yielded ops a.tmps) = true → o.wp P a w Kn Q) ∧ (Region.wanted o (yielded ops a.tmps) = false → Kn (a.put o.dst Go.undef) w) := by
  have run : ∀ fr1, evalOp C o (Fr.eval fr1) H (fun v H' => put C fr1 o.dst v fun fr' => evalOps C ops rest fr' H' K) → Good C w0 M0 own0 fr1 H a w → o.wp P a w Kn Q := by
    rintro fr1 h1 ⟨g, M, hf, hr, hb⟩
    refine evalOp_sound L hc h1 (fun x _ => hf.eval x) hr hb ?_
    intro v H' hk' val g' M' w' p1 p2 p3 p4
    obtain ⟨fr', k1, k2⟩ := put_sound hf p4 p1 hk'
    exact hk fr' H' _ w' k1 ⟨g', M', k2, p2, p3⟩
  have skip : ∀ fr1, put C fr1 o.dst (.tuple []) (fun fr' => evalOps C ops rest fr' H K) → Good C w0 M0 own0 fr1 H a w → Kn (a.put o.dst Go.undef) w := by
    rintro fr1 h1 ⟨g, M, hf, hr, hb⟩
    obtain ⟨fr', k1, k2⟩ := put_sound (val := Go.undef) hf (Ext.refl g M) (.tuple [] #[] .nil) h1
    exact hk fr' H _ w k1 ⟨g, M, k2, hr, hb⟩
  simp only [evalOps] at h
  split at h
  · rename_i hgd
    have hw : Region.wanted o (yielded ops a.tmps) = true := by simp [Region.wanted, hgd]
    exact ⟨fun _ => run fr h hg, (fun e => by rw [hw] at e; cases e)⟩
  · rename_i j want hgd
    split at h
    · exact h.elim
    · rename_i d hd
      have hy : ∀ r, a.tmps[d]? = r → yielded ops a.tmps j = (match r with | some (.bool b) => some b | _ => none) := by
        intro r hr
        simp only [yielded, hd, Option.bind_some, hr]
        cases r with
        | none => rfl
        | some x => cases x <;> rfl
      split at h
      · rename_i b hb
        have hs : a.tmps[d]? = some (.bool b) := by
          obtain ⟨g, M, hf, _, _⟩ := hg
          exact slot_bool hf hb
        have hw : Region.wanted o (yielded ops a.tmps) = (b == want) := by
          simp only [Region.wanted, hgd, hy _ hs]
          cases b <;> cases want <;> rfl
        have hgb : ∀ b', b' = b → Good C w0 M0 own0 ((d, .bool b') :: fr) H a w := by
          rintro _ rfl
          obtain ⟨g, M, hf, hr, hbb⟩ := hg
          refine ⟨g, M, hf.cons ?_, hr, hbb⟩
          simp only [Array.getD_eq_getD_getElem?, hs]
          exact .bool _
        rw [hw]
        cases want <;> cases b <;> simp only [cond_true, cond_false] at h
        · exact ⟨fun _ => run _ h (hgb _ rfl), (fun e => by cases e)⟩
        · exact ⟨(fun e => by cases e), fun _ => skip _ h (hgb _ rfl)⟩
        · exact ⟨(fun e => by cases e), fun _ => skip _ h (hgb _ rfl)⟩
        · exact ⟨fun _ => run _ h (hgb _ rfl), (fun e => by cases e)⟩
      · rename_i hb
        have hs : ∀ b, a.tmps[d]? ≠ some (.bool b) := by
          obtain ⟨g, M, hf, _, _⟩ := hg
          exact slot_skip hf hb
        have hw : Region.wanted o (yielded ops a.tmps) = false := by
          simp only [Region.wanted, hgd, hy _ rfl]
          cases e : a.tmps[d]? with
          | none => rfl
          | some x =>
            cases x <;> first | rfl | exact absurd e (hs _)
        exact ⟨(fun e => by rw [hw] at e; cases e), fun _ => skip fr h hg⟩
      · exact h.elim

theorem evalOps_sound (L : LOk P C) (hc : CallsOk P C M0) (ops : Array Oper) {Q : Exit → Act → World → Prop} : ∀ (l : List Oper) (fr : Fr) (H : Heap) (K : Fr → Heap → Prop) (a : Act) (w : World), evalOps C ops l fr H K →
    Good C w0 M0 own0 fr H a w → (∀ fr' H', K fr' H' → ∀ a' w', Good C w0 M0 own0 fr' H' a' w' → Q .normal a' w') → wpList P ops Q l a w := by
  intro l
  induction l with
  | nil =>
    intro fr H K a w h hg hq
    exact hq fr H h a w hg
  | cons o rest ih =>
    intro fr H K a w h hg hq
    obtain ⟨h1, h2⟩ := evalOps_step (Q := Q) (Kn := wpList P ops Q rest) L hc h hg fun fr' H' a' w' k1 k2 => ih fr' H' K a' w' k1 k2 hq
    cases hw : Region.wanted o (yielded ops a.tmps) with
    | true => exact wpList_do hw (h1 hw)
    | false => exact wpList_pass hw (h2 hw)

/-! ### loops -/
theorem wp_loop_n {c : Code} {Q : Exit → Act → World → Prop} (R : Nat → Act → World → Prop)
    (round : ∀ n a w, R n a w → c.wp P (Exit.then (fun a' w' => ∃ m, m < n ∧ R m a' w') Q) a w) {n : Nat} {a : Act} {w : World} (h₀ : R n a w) : (Code.loop c).wp P Q a w := by
  intro b k cs
  have key : ∀ n a w, R n a w → ∃ e a' w', Q e a' w' ∧ Arrives P (lone (b.at a (.code c :: .inLoop c :: k)) cs w) b k cs e a' w' := by
    intro n
    induction n using Nat.strongRecOn with
    | _ n ih =>
      intro a w hI
      obtain ⟨e, a₁, w₁, hq, harr⟩ := round n a w hI b (.inLoop c :: k) cs
      cases e with
      | normal =>
        obtain ⟨m, hlt, hI₁⟩ := hq
        obtain ⟨e₂, a₂, w₂, hq₂, harr₂⟩ := ih m hlt a₁ w₁ hI₁
        exact ⟨e₂, a₂, w₂, hq₂, .of_steps (Steps.trans harr (.one step_inLoop)) harr₂⟩
      | exit id => exact ⟨_, a₁, w₁, hq, .pass (x := .inLoop c) rfl (fun _ _ => .inl (by simp)) harr⟩
      | goto l => exact ⟨_, a₁, w₁, hq, .pass (x := .inLoop c) rfl (fun _ _ => .inl (by simp)) harr⟩
      | ret => exact ⟨_, a₁, w₁, hq, .pass (x := .inLoop c) rfl (fun _ _ => .inl (by simp)) harr⟩
      | panic ch => exact ⟨_, a₁, w₁, hq, .pass (x := .inLoop c) rfl (fun _ _ => .inl (by simp)) harr⟩
      | outgrown => exact ⟨_, a₁, w₁, hq, .pass (x := .inLoop c) rfl (fun _ _ => .inl (by simp)) harr⟩
  obtain ⟨e, a', w', hq, harr⟩ := key n a w h₀
  exact ⟨e, a', w', hq, .of_steps (.one step_loop) harr⟩

/-! ### a loop's head -/
def G.again : G → G
  | .box b => .box b
  | .sl h _ sz => .sl h 0 sz
  | .bld b buf => .bld b buf
def gNorm (m : Nat) (g : List G) : List G := (g.take m).map G.again

theorem gNorm_get {g : List G} {m id : Nat} {x : G} (hid : id < m) (h : g[id]? = some x) : (gNorm m g)[id]? = some x.again := by
  simp [gNorm, List.getElem?_map, List.getElem?_take, hid, h]

theorem scrub_sound {g : List G} {M : Mem} {H : Heap} {w : World} (hr : HR H g M w) (m : Nat) {v : V} {c : Value} (hv : VR g M v c) : VR (gNorm m g) M (scrub H m v) c := by
  have other : ∀ u, u = v → VR (gNorm m g) M (bif immut u then u else .undef) c := by
    rintro u rfl
    cases hi : immut u with
    | true => exact hv.imm hi
    | false => exact .undef _
  cases v <;> simp only [scrub] <;> try exact other _ rfl
  case ptr id off =>
    cases e : Nat.blt id m with
    | false => exact .undef _
    | true =>
      rw [Nat.blt_eq] at e
      cases hv with
      | ptr _ _ b h => exact .ptr id off b (gNorm_get e h)
  case bptr id =>
    cases e : Nat.blt id m with
    | false => exact .undef _
    | true =>
      rw [Nat.blt_eq] at e
      cases hv with
      | bptr _ b buf h => exact .bptr id b buf (gNorm_get e h)
  case obj id ver =>
    cases e : Nat.blt id m with
    | false => exact .undef _
    | true =>
      rw [Nat.blt_eq] at e
      cases hv with
      | obj _ _ ver' sz h _ h1 h2 h3 h4 =>
        simp only [cond_true]
        split
        · rename_i ver2 t xs hid
          have ho := hr.ob id _ _ hid h1
          simp only [ObOk] at ho
          cases hb : Nat.beq ver ver2 with
          | false => exact .undef _
          | true =>
            simp only [cond_true]
            refine .obj id 0 0 sz h c (gNorm_get e h1) (Nat.le_refl _) (fun _ => h3 ?_) h4
            rw [ho.1]; exact beq_true hb
        · rename_i ver2 t xs hid
          have ho := hr.ob id _ _ hid h1
          simp only [ObOk] at ho
          cases hb : Nat.beq ver ver2 with
          | false => exact .undef _
          | true =>
            simp only [cond_true]
            refine .obj id 0 0 sz h c (gNorm_get e h1) (Nat.le_refl _) (fun _ => h3 ?_) h4
            rw [ho.1]; exact beq_true hb
        · exact .undef _

theorem get_map (f : Nat → V) : ∀ (l : List Nat) (t : Nat), Fr.get (l.map fun s => (s, f s)) t = f t ∨ Fr.get (l.map fun s => (s, f s)) t = .undef
  | [], t => .inr rfl
  | s :: l, t => by
    simp only [List.map_cons, Fr.get]
    cases e : Nat.beq s t with
    | true => rw [beq_true e]; exact .inl rfl
    | false => exact get_map f l t

theorem normH_get {a : Ann} {H : Heap} {id : Nat} {o : Ob} (h : (normH a H)[id]? = some o) : id < a.keep ∧ ∃ o', H[id]? = some o' ∧ o = scrubOb H a.keep o' := by
  simp only [normH, List.getElem?_map, List.getElem?_take] at h
  split at h
  · rename_i hid
    cases e : H[id]? with
    | none => simp [e] at h
    | some o' => simp [e] at h; exact ⟨hid, o', rfl, h.symm⟩
  · simp at h

theorem gNorm_get' {g : List G} {m id : Nat} {x : G} (h : (gNorm m g)[id]? = some x) : ∃ x', g[id]? = some x' ∧ x = x'.again := by
  simp only [gNorm, List.getElem?_map, List.getElem?_take] at h
  split at h
  · cases e : g[id]? with
    | none => simp [e] at h
    | some x' => simp [e] at h; exact ⟨x', rfl, h.symm⟩
  · simp at h

theorem ownB_scrub {H : Heap} {m : Nat} {o : Ob} {x : G} : ownB (scrubOb H m o) x.again = ownB o x := by
  cases o <;> cases x <;> first | rfl | skip
  rename_i h ver sz
  cases h <;> first | rfl | (rename_i ad _ _; cases ad <;> rfl)

theorem VRs_scrub {g : List G} {M : Mem} {H : Heap} {w : World} (hr : HR H g M w) (m : Nat) : ∀ {vs : List V} {cs : List Value}, VRs g M vs cs → VRs (gNorm m g) M (vs.map (scrub H m)) cs
  | _, _, .nil => .nil
  | _, _, .cons h t => .cons (scrub_sound hr m h) (VRs_scrub hr m t)

theorem norm_good {a : Ann} {fr : Fr} {H : Heap} {ac : Act} {w : World} (hz : own0.n ≤ a.keep) (h : Good C w0 M0 own0 fr H ac w) : Good C w0 M0 own0 (normFr a fr H) (normH a H) ac w := by
  obtain ⟨g, M, hf, hr, hb⟩ := h
  refine ⟨gNorm a.keep g, M, ⟨fun t => ?_, hf.size, hf.defers⟩, ⟨?_, ?_, ?_, hr.mem⟩, ⟨hb.size, hb.keep, ?_, hb.mle, hb.mnew, hb.os, hb.tape, hb.output, fun id b hid => gNorm_get (Nat.lt_of_lt_of_le (own0.lt id b hid) hz) (hb.gbox id b hid)⟩⟩
  · rcases get_map (fun s => scrub H a.keep (fr.get s)) a.slots t with e | e
    · rw [normFr, e]; exact scrub_sound hr _ (hf.get t)
    · rw [normFr, e]; exact .undef _
  · simp [normH, gNorm, hr.len]
  · intro id o x h1 h2
    obtain ⟨hid, o', k1, rfl⟩ := normH_get h1
    obtain ⟨x', k2, rfl⟩ := gNorm_get' h2
    have ho := hr.ob id o' x' k1 k2
    cases o' <;> cases x' <;> simp only [ObOk, scrubOb, G.again] at ho ⊢ <;> try exact ho
    · obtain ⟨c, T, fz, p1, p2, p3, p4⟩ := ho
      exact ⟨c, T, fz, p1, VRs_scrub hr _ p2, p3, p4⟩
    · obtain ⟨p1, p2, p3, p4⟩ := ho
      refine ⟨trivial, p2, p3, p4.imp (fun e => e) ?_⟩
      rintro ⟨b, cap, c, T, fz, rfl, k2, k3, k4, k5, k6, k7⟩
      exact ⟨b, cap, c, T, fz, rfl, k2, k3, k4, fun i x hx => (k5 i x hx).imm (immuts_enc _ x), k6, k7⟩
    · exact ⟨trivial, ho.2.1, ho.2.2.imm rfl⟩
  · intro id id' o o' x x' b h1 h2 h3 h4 h5 h6
    obtain ⟨_, p, k1, rfl⟩ := normH_get h1
    obtain ⟨q, k2, rfl⟩ := gNorm_get' h2
    obtain ⟨_, p', k3, rfl⟩ := normH_get h3
    obtain ⟨q', k4, rfl⟩ := gNorm_get' h4
    rw [ownB_scrub] at h5 h6
    exact hr.apart id id' p p' q q' b k1 k2 k3 k4 h5 h6
  · rintro b ⟨id, o, x, h1, h2, h3⟩
    obtain ⟨_, p, k1, rfl⟩ := normH_get h1
    obtain ⟨q, k2, rfl⟩ := gNorm_get' h2
    rw [ownB_scrub] at h3
    exact hb.own b ⟨id, p, q, k1, k2, h3⟩
end
end Go.Ev
