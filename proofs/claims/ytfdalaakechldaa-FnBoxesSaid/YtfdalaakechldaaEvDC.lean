/- Values that own their slices, and the slices of these. -/
import Derived.Test.YtfdalaakechldaaEvRel
set_option linter.unusedVariables false
set_option linter.unusedSimpArgs false
namespace Go.Ev

theorem DC_len {w : World} : ∀ (t : Ty) {x : t.den} {cs : List Value} {bs : List Nat}, DC w t x cs bs → cs.length = t.size := by
  intro t
  induction t with
  | slice e ih => rintro xs cs bs ⟨v, rfl, _⟩; rfl
  | pair a b iha ihb =>
    rintro x cs bs ⟨b1, b2, _, h1, h2⟩
    have := iha h1
    have := ihb h2
    simp only [List.length_take, List.length_drop] at *
    simp only [Ty.size]
    omega
  | int k => rintro x cs bs ⟨_, h⟩; have := h.length; rw [enc_length] at this; exact this.symm
  | float k => rintro x cs bs ⟨_, h⟩; have := h.length; rw [enc_length] at this; exact this.symm
  | bool => rintro x cs bs ⟨_, h⟩; have := h.length; rw [enc_length] at this; exact this.symm
  | str => rintro x cs bs ⟨_, h⟩; have := h.length; rw [enc_length] at this; exact this.symm
  | unit => rintro x cs bs ⟨_, h⟩; have := h.length; rw [enc_length] at this; exact this.symm

theorem DC_lt {w : World} : ∀ (t : Ty) {x : t.den} {cs : List Value} {bs : List Nat}, DC w t x cs bs → ∀ b ∈ bs, ∃ c T fz, w.heap[b]? = some (.cells c T fz) ∧ Clear c.size fz := by
  intro t
  induction t with
  | slice e ih =>
    rintro xs cs bs ⟨v, rfl, _, _, ⟨_, _, rfl⟩ | ⟨b, cap, c, T, fz, bss, rfl, h1, h2, h3, h4, rfl, h5, h6⟩⟩ b' hb'
    · cases hb'
    · rcases List.mem_cons.1 hb' with rfl | hb'
      · exact ⟨c, T, fz, h1, h4.1⟩
      · obtain ⟨bi, hbi, hb'⟩ := List.mem_flatten.1 hb'
        obtain ⟨i, hi⟩ := List.mem_iff_getElem?.1 hbi
        have hl : i < xs.length := by rw [← h5]; exact (List.getElem?_eq_some_iff.1 hi).1
        exact ih (h6 i xs[i] bi (List.getElem?_eq_getElem hl) hi) b' hb'
  | pair a b iha ihb =>
    rintro x cs bs ⟨b1, b2, rfl, h1, h2⟩ b' hb'
    rcases List.mem_append.1 hb' with hb' | hb'
    · exact iha h1 b' hb'
    · exact ihb h2 b' hb'
  | int k => rintro x cs bs ⟨rfl, h⟩ b' hb'; cases hb'
  | float k => rintro x cs bs ⟨rfl, h⟩ b' hb'; cases hb'
  | bool => rintro x cs bs ⟨rfl, h⟩ b' hb'; cases hb'
  | str => rintro x cs bs ⟨rfl, h⟩ b' hb'; cases hb'
  | unit => rintro x cs bs ⟨rfl, h⟩ b' hb'; cases hb'

theorem DC_frame {w w' : World} : ∀ (t : Ty) {x : t.den} {cs : List Value} {bs : List Nat}, (∀ b ∈ bs, w'.heap[b]? = w.heap[b]?) → DC w t x cs bs → DC w' t x cs bs := by
  intro t
  induction t with
  | slice e ih =>
    rintro xs cs bs hf ⟨v, rfl, hl, hs, ⟨h1, h2, rfl⟩ | ⟨b, cap, c, T, fz, bss, rfl, h1, h2, h3, h4, rfl, h5, h6⟩⟩
    · exact ⟨v, rfl, hl, hs, .inl ⟨h1, h2, rfl⟩⟩
    · refine ⟨_, rfl, hl, hs, .inr ⟨b, cap, c, T, fz, bss, rfl, by rw [hf b (by simp)]; exact h1, h2, h3, h4, rfl, h5, fun i x bi hx hbi => ?_⟩⟩
      exact ih (fun b' hb' => hf b' (by simp only [List.mem_cons, List.mem_flatten]; exact .inr ⟨bi, List.mem_of_getElem? hbi, hb'⟩)) (h6 i x bi hx hbi)
  | pair a b iha ihb =>
    rintro x cs bs hf ⟨b1, b2, rfl, h1, h2⟩
    exact ⟨b1, b2, rfl, iha (fun b' hb' => hf b' (by simp [hb'])) h1, ihb (fun b' hb' => hf b' (by simp [hb'])) h2⟩
  | int k => rintro x cs bs hf h; exact h
  | float k => rintro x cs bs hf h; exact h
  | bool => rintro x cs bs hf h; exact h
  | str => rintro x cs bs hf h; exact h
  | unit => rintro x cs bs hf h; exact h

theorem noM_le {M : Mem} : ∀ b cs, noM b = some cs → M b = some cs := fun _ _ h => by cases h
theorem VRs.ofNo {g : List G} {M : Mem} {vs : List V} {cs : List Value} (h : VRs [] noM vs cs) : VRs g M vs cs := h.mono ⟨fun _ _ hx => by simp at hx, noM_le⟩

/-- As data that nobody writes. -/
theorem DC_vec {w : World} {Mv : Mem} : ∀ (t : Ty) {x : t.den} {cs : List Value} {bs : List Nat}, (∀ b ∈ bs, ∀ c T fz, w.heap[b]? = some (.cells c T fz) → Mv b = some c.toList) → DC w t x cs bs → VRs [] Mv (enc t x) cs := by
  intro t
  induction t with
  | slice e ih =>
    rintro xs cs bs hf ⟨v, rfl, hl, hs, ⟨rfl, rfl, rfl⟩ | ⟨b, cap, c, T, fz, bss, rfl, h1, h2, h3, h4, rfl, h5, h6⟩⟩
    · exact .cons (.vecnil e none 0) .nil
    · refine .cons (.vec e xs b 0 _ cap c.toList (hf b (by simp) c T fz h1) ⟨rfl, hl⟩ h2 fun i x hx => ?_) .nil
      have hi : i < bss.length := by rw [h5]; exact (List.getElem?_eq_some_iff.1 hx).1
      rw [Nat.zero_add]
      exact ih (fun b' hb' c T fz hc => hf b' (by simp only [List.mem_cons, List.mem_flatten]; exact .inr ⟨_, List.getElem_mem hi, hb'⟩) c T fz hc) (h6 i x _ hx (List.getElem?_eq_getElem hi))
  | pair a b iha ihb =>
    rintro x cs bs hf ⟨b1, b2, rfl, h1, h2⟩
    have := (iha (fun b' hb' => hf b' (by simp [hb'])) h1).append (ihb (fun b' hb' => hf b' (by simp [hb'])) h2)
    rwa [List.take_append_drop] at this
  | int k => rintro x cs bs hf ⟨_, h⟩; exact h.ofNo
  | float k => rintro x cs bs hf ⟨_, h⟩; exact h.ofNo
  | bool => rintro x cs bs hf ⟨_, h⟩; exact h.ofNo
  | str => rintro x cs bs hf ⟨_, h⟩; exact h.ofNo
  | unit => rintro x cs bs hf ⟨_, h⟩; exact h.ofNo

theorem flats_append : ∀ (a b : List V), flats (a ++ b) = (flats a && flats b)
  | [], b => by simp [flats]
  | v :: a, b => by simp [flats, flats_append a b, Bool.and_assoc]
theorem flats_enc : ∀ (t : Ty) (x : t.den), flatTy t = true → flats (enc t x) = true
  | .int _, _, _ => rfl
  | .float _, _, _ => rfl
  | .bool, _, _ => rfl
  | .str, _, _ => rfl
  | .slice _, _, h => by cases h
  | .pair a b, x, h => by
    simp only [flatTy, Bool.and_eq_true] at h
    simp only [enc, flats_append, flats_enc a x.1 h.1, flats_enc b x.2 h.2, Bool.and_self]
  | .unit, _, _ => rfl

theorem DC_of_flat {w : World} {g : List G} {M : Mem} : ∀ (t : Ty) {x : t.den} {cs : List Value}, flatTy t = true → VRs g M (enc t x) cs → DC w t x cs [] := by
  intro t
  induction t with
  | slice e ih => intro x cs hf; cases hf
  | pair a b iha ihb =>
    intro x cs hf h
    simp only [flatTy, Bool.and_eq_true] at hf
    simp only [enc] at h
    obtain ⟨h1, h2⟩ := h.split
    rw [enc_length] at h1 h2
    exact ⟨[], [], rfl, iha hf.1 h1, ihb hf.2 h2⟩
  | int k => intro x cs hf h; exact ⟨rfl, h.flat rfl⟩
  | float k => intro x cs hf h; exact ⟨rfl, h.flat rfl⟩
  | bool => intro x cs hf h; exact ⟨rfl, h.flat rfl⟩
  | str => intro x cs hf h; exact ⟨rfl, h.flat rfl⟩
  | unit => intro x cs hf h; exact ⟨rfl, h.flat rfl⟩
theorem DC_flat {w : World} {g : List G} {M : Mem} : ∀ (t : Ty) {x : t.den} {cs : List Value} {bs : List Nat}, flatTy t = true → DC w t x cs bs → bs = [] ∧ VRs g M (enc t x) cs := by
  intro t
  induction t with
  | slice e ih => intro x cs bs hf; cases hf
  | pair a b iha ihb =>
    rintro x cs bs hf ⟨b1, b2, rfl, h1, h2⟩
    simp only [flatTy, Bool.and_eq_true] at hf
    obtain ⟨rfl, k1⟩ := iha hf.1 h1
    obtain ⟨rfl, k2⟩ := ihb hf.2 h2
    have := k1.append k2
    rw [List.take_append_drop] at this
    exact ⟨rfl, this⟩
  | int k => rintro x cs bs hf ⟨rfl, h⟩; exact ⟨rfl, h.ofNo⟩
  | float k => rintro x cs bs hf ⟨rfl, h⟩; exact ⟨rfl, h.ofNo⟩
  | bool => rintro x cs bs hf ⟨rfl, h⟩; exact ⟨rfl, h.ofNo⟩
  | str => rintro x cs bs hf ⟨rfl, h⟩; exact ⟨rfl, h.ofNo⟩
  | unit => rintro x cs bs hf ⟨rfl, h⟩; exact ⟨rfl, h.ofNo⟩

/-- A slice in a value, and what may be put in its stead. -/
theorem DC_sub {w : World} : ∀ (t : Ty) {x : t.den} {cs : List Value} {bs : List Nat} {o : Nat} {e : Ty} {ys : List e.den}, DC w t x cs bs → subAt t x o = some ⟨e, ys⟩ →
    ∃ b1 b2 v bs', bs = b1 ++ bs' ++ b2 ∧ cs[o]? = some v ∧ spos t o = true ∧ DC w (.slice e) ys [v] bs' ∧
      ∀ (w' : World) (ys' : List e.den), (∀ b ∈ b1 ++ b2, w'.heap[b]? = w.heap[b]?) → DC w' (.slice e) ys' [v] bs' → DC w' t (putAt t x o e ys') cs bs := by
  intro t
  induction t with
  | slice e0 ih =>
    intro xs cs bs o e ys h hs
    simp only [subAt] at hs
    cases ho : Nat.beq o 0 with
    | false => rw [ho] at hs; cases hs
    | true =>
      rw [ho] at hs
      cases hs
      have := Nat.eq_of_beq_eq_true ho
      subst this
      obtain ⟨v, rfl, h'⟩ := h
      refine ⟨[], [], v, bs, by simp, rfl, rfl, ⟨v, rfl, h'⟩, fun w' ys' _ hd => ?_⟩
      simp only [putAt, dif_pos]
      exact hd
  | pair a b iha ihb =>
    rintro x cs bs o e ys ⟨c1, c2, rfl, h1, h2⟩ hs
    have hl1 := DC_len a h1
    simp only [subAt] at hs
    cases ho : Nat.blt o a.size with
    | true =>
      rw [ho] at hs
      simp only [cond_true] at hs
      obtain ⟨b1, b2, v, bs', rfl, k1, k2, k3, k4⟩ := iha h1 hs
      rw [Nat.blt_eq] at ho
      refine ⟨b1, b2 ++ c2, v, bs', by simp, ?_, ?_, k3, fun w' ys' hf hd => ?_⟩
      · rw [List.getElem?_take] at k1
        rw [if_pos ho] at k1
        exact k1
      · simp only [spos, show Nat.blt o a.size = true by rw [Nat.blt_eq]; exact ho, cond_true]; exact k2
      · simp only [putAt, show Nat.blt o a.size = true by rw [Nat.blt_eq]; exact ho, cond_true]
        exact ⟨_, _, rfl, k4 w' ys' (fun b' hb' => hf b' (by simp at hb' ⊢; rcases hb' with h | h <;> simp [h])) hd, DC_frame b (fun b' hb' => hf b' (by simp [hb'])) h2⟩
    | false =>
      rw [ho] at hs
      simp only [cond_false] at hs
      have hge : a.size ≤ o := by
        rcases Nat.lt_or_ge o a.size with k | k
        · rw [show Nat.blt o a.size = true by rw [Nat.blt_eq]; exact k] at ho; cases ho
        · exact k
      obtain ⟨b1, b2, v, bs', rfl, k1, k2, k3, k4⟩ := ihb h2 hs
      refine ⟨c1 ++ b1, b2, v, bs', by simp, ?_, ?_, k3, fun w' ys' hf hd => ?_⟩
      · rw [List.getElem?_drop, show a.size + (o - a.size) = o by omega] at k1
        exact k1
      · simp only [spos, ho, cond_false]; exact k2
      · simp only [putAt, ho, cond_false]
        exact ⟨_, _, by simp, DC_frame a (fun b' hb' => hf b' (by simp [hb'])) h1, k4 w' ys' (fun b' hb' => hf b' (by simp at hb' ⊢; rcases hb' with h | h <;> simp [h])) hd⟩
  | int k => intro x cs bs o e ys h hs; cases hs
  | float k => intro x cs bs o e ys h hs; cases hs
  | bool => intro x cs bs o e ys h hs; cases hs
  | str => intro x cs bs o e ys h hs; cases hs
  | unit => intro x cs bs o e ys h hs; cases hs

/-- The cells as they are read: the slices by their places. -/
theorem encD_sound {w : World} {g : List G} {M : Mem} {mk : Nat → V} : ∀ (t : Ty) {x : t.den} {cs : List Value} {bs : List Nat} (o : Nat), DC w t x cs bs → (∀ k v, cs[k]? = some v → spos t k = true → VR g M (mk (o + k)) v) →
    VRs g M (encD mk t x o) cs := by
  intro t
  induction t with
  | slice e ih =>
    rintro xs cs bs o ⟨v, rfl, _⟩ hm
    exact .cons (hm 0 v rfl rfl) .nil
  | pair a b iha ihb =>
    rintro x cs bs o ⟨b1, b2, rfl, h1, h2⟩ hm
    have hl1 := DC_len a h1
    have q1 := iha o h1 fun k v hk hs => by
      have hlt : k < a.size := by rw [← hl1]; exact (List.getElem?_eq_some_iff.1 hk).1
      rw [List.getElem?_take, if_pos hlt] at hk
      exact hm k v hk (by simp only [spos, show Nat.blt k a.size = true by rw [Nat.blt_eq]; exact hlt, cond_true]; exact hs)
    have q2 := ihb (o + a.size) h2 fun k v hk hs => by
      rw [List.getElem?_drop] at hk
      have := hm (a.size + k) v hk (by
        have hn : Nat.blt (a.size + k) a.size = false := by
          cases e : Nat.blt (a.size + k) a.size with
          | false => rfl
          | true => rw [Nat.blt_eq] at e; omega
        simp only [spos, hn, cond_false, Nat.add_sub_cancel_left]; exact hs)
      rwa [← Nat.add_assoc] at this
    have := q1.append q2
    rwa [List.take_append_drop] at this
  | int k => rintro x cs bs o ⟨_, h⟩ hm; exact h.ofNo
  | float k => rintro x cs bs o ⟨_, h⟩ hm; exact h.ofNo
  | bool => rintro x cs bs o ⟨_, h⟩ hm; exact h.ofNo
  | str => rintro x cs bs o ⟨_, h⟩ hm; exact h.ofNo
  | unit => rintro x cs bs o ⟨_, h⟩ hm; exact h.ofNo

theorem dec_flat {w : World} {g : List G} {M : Mem} {t : Ty} (hf : flatTy t = true) {vs : List V} {x : t.den} {r : List V} (hd : dec t vs = some (x, r)) {cs : List Value} (hv : VRs g M vs cs) : DC w t x (cs.take t.size) [] ∧ VRs g M r (cs.drop t.size) := by
  obtain ⟨h1, h2⟩ := dec_sound t hd hv
  exact ⟨DC_of_flat t hf h1, h2⟩

/-- The same cells, of another element. -/
def ren (id iv i : Nat) : V → V
  | .inn _ _ _ o => .inn id iv i o
  | v => v
theorem dec_ren {id iv i : Nat} : ∀ (t : Ty) {vs r : List V} {x : t.den}, dec t vs = some (x, r) → dec t (vs.map (ren id iv i)) = some (x, r.map (ren id iv i)) := by
  intro t
  induction t with
  | pair a b iha ihb =>
    intro vs r x h
    simp only [dec] at h ⊢
    split at h
    · rename_i y r1 e1
      split at h
      · rename_i z r2 e2
        cases h
        rw [iha e1]
        simp only
        rw [ihb e2]
      · cases h
    · cases h
  | unit => intro vs r x h; simp only [dec] at h ⊢; cases h; rfl
  | _ =>
    intro vs r x h
    cases vs with
    | nil => simp only [dec, reduceCtorEq] at h
    | cons v vs =>
      cases v <;> simp only [dec, reduceCtorEq] at h <;> first
        | (split at h
           · rename_i h1; cases h1; cases h; simp only [List.map_cons, ren, dec, dif_pos, if_pos]
           · cases h)
        | (cases h; simp only [List.map_cons, ren, dec])
theorem decD_ren {id iv i : Nat} : ∀ (t : Ty) {vs r : List V} {x x' : t.den} (o : Nat), decD id iv 0 t x o vs = some (x', r) → decD id iv i t x o (vs.map (ren id iv i)) = some (x', r.map (ren id iv i)) := by
  intro t
  induction t with
  | slice e ih =>
    intro vs r x x' o h
    cases vs with
    | nil => simp only [decD] at h; cases h
    | cons v vs =>
      simp only [decD] at h
      cases hs : sameInn id iv 0 o v with
      | false => rw [hs] at h; cases h
      | true =>
        rw [hs] at h
        cases h
        cases v <;> simp only [sameInn] at hs <;> try (cases hs; done)
        simp only [Bool.and_eq_true] at hs
        simp only [List.map_cons, ren, decD, sameInn, Nat.beq_refl, hs.2.2.2, Bool.and_self, cond_true]
  | pair a b iha ihb =>
    intro vs r x x' o h
    simp only [decD] at h ⊢
    split at h
    · rename_i y r1 e1
      split at h
      · rename_i z r2 e2
        cases h
        rw [iha o e1]
        simp only
        rw [ihb (o + a.size) e2]
      · cases h
    · cases h
  | _ => intro vs r x x' o h; simp only [decD] at h ⊢; exact dec_ren _ h
theorem map_setAt (f : V → V) : ∀ (vs cs : List V) (i : Nat), (setAt cs i vs).map f = setAt (cs.map f) i (vs.map f)
  | [], _, _ => rfl
  | v :: vs, cs, i => by simp only [setAt, List.map_cons]; rw [map_setAt f vs, List.map_set]
theorem map_noInn {id iv i : Nat} : ∀ {vs : List V}, vs.all noInn = true → vs.map (ren id iv i) = vs
  | [], _ => rfl
  | v :: vs, h => by
    simp only [List.all_cons, Bool.and_eq_true] at h
    rw [List.map_cons, map_noInn h.2]
    cases v <;> simp only [noInn] at h <;> first | rfl | exact absurd h.1 (by decide)
theorem encD_ren {id iv i : Nat} : ∀ (t : Ty) (x : t.den) (o : Nat), (encD (fun o => .inn id iv 0 o) t x o).map (ren id iv i) = encD (fun o => .inn id iv i o) t x o := by
  intro t
  induction t with
  | pair a b iha ihb => intro x o; simp only [encD, List.map_append, iha, ihb]
  | _ => intro x o; simp [encD, ren, enc]
theorem decD_ren0 {id iv : Nat} (i : Nat) {t : Ty} {x x' : t.den} {vs : List V} {off : Nat} (hni : vs.all noInn = true) (h : decD id iv 0 t x 0 (setAt (encD (fun o => .inn id iv 0 o) t x 0) off vs) = some (x', [])) :
    decD id iv i t x 0 (setAt (encD (fun o => .inn id iv i o) t x 0) off vs) = some (x', []) := by
  have := decD_ren (i := i) t 0 h
  rwa [map_setAt, encD_ren, map_noInn hni] at this

/-- Cells that are written, where the slices stay. -/
theorem decD_sound {w : World} {g : List G} {M : Mem} {id iv i : Nat} {ih : Nat → Value} {sz : Nat} (hin : ∀ o v, VR g M (.inn id iv i o) v → v = ih (i * sz + o)) : ∀ (t : Ty) {x x' : t.den} {cs0 cs : List Value} {bs : List Nat} (o : Nat) {vs r : List V}, DC w t x cs0 bs →
    (∀ k v, cs0[k]? = some v → spos t k = true → v = ih (i * sz + (o + k))) → decD id iv i t x o vs = some (x', r) → VRs g M vs cs →
    DC w t x' (cs.take t.size) bs ∧ VRs g M r (cs.drop t.size) ∧ ∀ k v, (cs.take t.size)[k]? = some v → spos t k = true → v = ih (i * sz + (o + k)) := by
  intro t
  induction t with
  | slice e ihe =>
    intro xs x' cs0 cs bs o vs r h h0 hd hv
    cases vs with
    | nil => simp only [decD] at hd; cases hd
    | cons v vs =>
      simp only [decD] at hd
      cases hs : sameInn id iv i o v with
      | false => rw [hs] at hd; cases hd
      | true =>
        rw [hs] at hd
        cases hd
        cases hv with
        | cons a b =>
          rename_i c cs
          cases v <;> simp only [sameInn] at hs <;> try (cases hs; done)
          simp only [Bool.and_eq_true] at hs
          obtain ⟨e1, e2, e3, e4⟩ := hs
          have := Nat.eq_of_beq_eq_true e1; have := Nat.eq_of_beq_eq_true e2; have := Nat.eq_of_beq_eq_true e3; have := Nat.eq_of_beq_eq_true e4
          subst_vars
          have hc := hin _ _ a
          obtain ⟨v0, rfl, h'⟩ := h
          have := h0 0 v0 rfl rfl
          rw [Nat.add_zero, ← hc] at this
          subst this
          refine ⟨?_, by simpa [Ty.size] using b, ?_⟩
          · simp only [Ty.size, List.take_succ_cons, List.take_zero]
            exact ⟨_, rfl, h'⟩
          · intro k v hk hs
            simp only [spos] at hs
            have := Nat.eq_of_beq_eq_true hs
            subst this
            simp [Ty.size] at hk
            rw [← hk, Nat.add_zero]
            exact hc
  | pair a b iha ihb =>
    rintro x x' cs0 cs bs o vs r ⟨b1, b2, rfl, h1, h2⟩ h0 hd hv
    have hl1 := DC_len a h1
    simp only [decD] at hd
    split at hd
    · rename_i y r1 e1
      split at hd
      · rename_i z r2 e2
        cases hd
        obtain ⟨p1, p2, p3⟩ := iha o h1 (fun k v hk hs => by
          have hlt : k < a.size := by rw [← hl1]; exact (List.getElem?_eq_some_iff.1 hk).1
          rw [List.getElem?_take, if_pos hlt] at hk
          exact h0 k v hk (by simp only [spos, show Nat.blt k a.size = true by rw [Nat.blt_eq]; exact hlt, cond_true]; exact hs)) e1 hv
        obtain ⟨q1, q2, q3⟩ := ihb (o + a.size) h2 (fun k v hk hs => by
          rw [List.getElem?_drop] at hk
          have := h0 (a.size + k) v hk (by
            have hn : Nat.blt (a.size + k) a.size = false := by
              cases e : Nat.blt (a.size + k) a.size with
              | false => rfl
              | true => rw [Nat.blt_eq] at e; omega
            simp only [spos, hn, cond_false, Nat.add_sub_cancel_left]; exact hs)
          rwa [← Nat.add_assoc o] at this) e2 p2
        refine ⟨⟨b1, b2, rfl, ?_, ?_⟩, ?_, ?_⟩
        · simp only [Ty.size]
          rw [List.take_take, Nat.min_eq_left (by omega)]
          exact p1
        · simp only [Ty.size]
          rw [List.drop_take, Nat.add_sub_cancel_left]
          exact q1
        · simp only [Ty.size]
          rw [← List.drop_drop]
          exact q2
        · intro k v hk hs
          simp only [Ty.size] at hk
          simp only [spos] at hs
          rw [List.getElem?_take] at hk
          split at hk
          · rename_i hlt
            cases ho : Nat.blt k a.size with
            | true =>
              rw [ho] at hs
              rw [Nat.blt_eq] at ho
              exact p3 k v (by rw [List.getElem?_take, if_pos ho]; exact hk) hs
            | false =>
              rw [ho] at hs
              have hge : a.size ≤ k := by
                rcases Nat.lt_or_ge k a.size with h | h
                · rw [show Nat.blt k a.size = true by rw [Nat.blt_eq]; exact h] at ho; cases ho
                · exact h
              have := q3 (k - a.size) v (by
                rw [List.getElem?_take, if_pos (by omega), List.getElem?_drop, show a.size + (k - a.size) = k by omega]; exact hk) hs
              rwa [show o + a.size + (k - a.size) = o + k by omega] at this
          · cases hk
      · cases hd
    · cases hd
  | int k => rintro x x' cs0 cs bs o vs r ⟨rfl, _⟩ h0 hd hv; obtain ⟨h1, h2⟩ := dec_flat (w := w) rfl hd hv; exact ⟨h1, h2, fun _ _ _ hs => by cases hs⟩
  | float k => rintro x x' cs0 cs bs o vs r ⟨rfl, _⟩ h0 hd hv; obtain ⟨h1, h2⟩ := dec_flat (w := w) rfl hd hv; exact ⟨h1, h2, fun _ _ _ hs => by cases hs⟩
  | bool => rintro x x' cs0 cs bs o vs r ⟨rfl, _⟩ h0 hd hv; obtain ⟨h1, h2⟩ := dec_flat (w := w) rfl hd hv; exact ⟨h1, h2, fun _ _ _ hs => by cases hs⟩
  | str => rintro x x' cs0 cs bs o vs r ⟨rfl, _⟩ h0 hd hv; obtain ⟨h1, h2⟩ := dec_flat (w := w) rfl hd hv; exact ⟨h1, h2, fun _ _ _ hs => by cases hs⟩
  | unit => rintro x x' cs0 cs bs o vs r ⟨rfl, _⟩ h0 hd hv; obtain ⟨h1, h2⟩ := dec_flat (w := w) rfl hd hv; exact ⟨h1, h2, fun _ _ _ hs => by cases hs⟩

theorem flatten_nils (n : Nat) : (List.replicate n ([] : List Nat)).flatten = [] := by
  induction n with
  | zero => rfl
  | succ n ih => simp [List.replicate_succ, ih]
/-- An owned slice of plain elements owns its block alone. -/
theorem DC_of_sl {w : World} {g : List G} {M : Mem} {e : Ty} {ver ver' sz : Nat} {xs : List e.den} {h : Value} (hf : flatTy e = true) (ho : ObOk g M w (.sl ver e xs) (.sl h ver' sz)) :
    ∃ bs, DC w (.slice e) xs [h] bs ∧ bs.Nodup ∧ ∀ b ∈ bs, ownB (.sl ver e xs) (.sl h ver' sz) b := by
  simp only [ObOk] at ho
  obtain ⟨_, _, ⟨hsz, hlen⟩, ho⟩ := ho
  rcases ho with ⟨rfl, rfl⟩ | ⟨b, cap, c, T, fz, rfl, k2, k3, k4, k5, k6, k7⟩
  · exact ⟨[], ⟨_, rfl, hlen, hsz, .inl ⟨rfl, rfl, rfl⟩⟩, .nil, by simp⟩
  · refine ⟨[b], ⟨_, rfl, hlen, hsz, .inr ⟨b, cap, c, T, fz, List.replicate xs.length [], rfl, k2, k3, k4, k6, by rw [flatten_nils], by simp, fun i x bi hx hbi => ?_⟩⟩, by simp, ?_⟩
    · have : bi = [] := by
        rw [List.getElem?_replicate] at hbi
        split at hbi
        · cases hbi; rfl
        · cases hbi
      subst this
      exact DC_of_flat e hf (k5 i x hx)
    · intro b' hb'
      simp only [List.mem_singleton] at hb'
      subst hb'
      rfl

def OwnIn (H : Heap) (g : List G) (L : List Nat) (b : Nat) : Prop := ∃ j ∈ L, ∃ o y, H[j]? = some o ∧ g[j]? = some y ∧ ownB o y b

/-- Cells with slices of one's own. -/
theorem decOw_sound {H : Heap} {g : List G} {M : Mem} {w : World} (hr : HR H g M w) : ∀ (t : Ty) {vs r : List V} {x : t.den} {L : List Nat} {cs : List Value}, decOw H t vs = some (x, L, r) → VRs g M vs cs → L.Nodup →
    ∃ bs, DC w t x (cs.take t.size) bs ∧ VRs g M r (cs.drop t.size) ∧ bs.Nodup ∧ ∀ b ∈ bs, OwnIn H g L b := by
  intro t
  have plain : ∀ (t : Ty), flatTy t = true → ∀ {vs r : List V} {x : t.den} {cs : List Value}, dec t vs = some (x, r) → VRs g M vs cs →
      ∃ bs, DC w t x (cs.take t.size) bs ∧ VRs g M r (cs.drop t.size) ∧ bs.Nodup ∧ ∀ b ∈ bs, OwnIn H g [] b := by
    intro t hf vs r x cs hd hv
    obtain ⟨h1, h2⟩ := dec_flat (w := w) hf hd hv
    exact ⟨[], h1, h2, .nil, by simp⟩
  induction t with
  | slice e ih =>
    intro vs r x L cs hd hv hL
    cases vs with
    | nil => simp only [decOw] at hd; cases hd
    | cons v vs =>
      cases hv with
      | cons a b =>
      rename_i c cs
      have one : ∀ {xs : List e.den} {bs : List Nat}, DC w (.slice e) xs [c] bs → DC w (.slice e) xs ((c :: cs).take (Ty.slice e).size) bs := fun h => by simpa [Ty.size] using h
      have two : VRs g M vs ((c :: cs).drop (Ty.slice e).size) := by simpa [Ty.size] using b
      simp only [decOw] at hd
      split at hd
      · cases hs : Nat.blt 0 e.size with
        | false => rw [hs] at hd; cases hd
        | true =>
          rw [hs] at hd
          cases hd
          cases a
          rw [Nat.blt_eq] at hs
          exact ⟨[], one ⟨_, rfl, Nat.zero_le _, hs, .inl ⟨rfl, rfl, rfl⟩⟩, two, .nil, by simp⟩
      · rename_i j ver
        split at hd
        · rename_i ver' t' ys hj
          cases hb : (Nat.beq ver ver' && flatTy e) with
          | false => rw [hb] at hd; cases hd
          | true =>
            rw [hb] at hd
            simp only [cond_true] at hd
            simp only [Bool.and_eq_true] at hb
            split at hd
            · rename_i e'
              subst e'
              cases hd
              cases a with
              | obj _ _ ver2 sz h _ h1 h2 h3 h4 =>
                have ho := hr.ob j _ _ hj h1
                have hv : ver2 = ver' := by simp only [ObOk] at ho; exact ho.1
                have hval := h3 (by rw [hv]; exact Nat.eq_of_beq_eq_true hb.1)
                subst hval
                obtain ⟨bs, q1, q2, q3⟩ := DC_of_sl hb.2 ho
                exact ⟨bs, one q1, two, q2, fun b hb' => ⟨j, by simp, _, _, hj, h1, q3 b hb'⟩⟩
            · cases hd
        · cases hd
      · rename_i j ver
        split at hd
        · rename_i ver' iv t' ys hj
          cases hb : Nat.beq ver ver' with
          | false => rw [hb] at hd; cases hd
          | true =>
            rw [hb] at hd
            simp only [cond_true] at hd
            split at hd
            · rename_i e'
              subst e'
              cases hd
              cases a with
              | dob _ _ ver2 iv2 sz bs ih' h _ h1 h2 h3 h4 =>
                have ho := hr.ob j _ _ hj h1
                simp only [ObOk] at ho
                have hval := h3 (by rw [ho.1.1]; exact Nat.eq_of_beq_eq_true hb)
                subst hval
                exact ⟨bs, one ho.2.1, two, ho.2.2.1, fun b hb' => ⟨j, by simp, _, _, hj, h1, hb'⟩⟩
            · cases hd
        · cases hd
      · cases hd
  | pair a b iha ihb =>
    intro vs r x L cs hd hv hL
    simp only [decOw] at hd
    split at hd
    · rename_i y L1 r1 e1
      split at hd
      · rename_i z L2 r2 e2
        cases hd
        rw [List.nodup_append] at hL
        obtain ⟨n1, n2, n3⟩ := hL
        obtain ⟨b1, p1, p2, p3, p4⟩ := iha e1 hv n1
        obtain ⟨b2, q1, q2, q3, q4⟩ := ihb e2 p2 n2
        refine ⟨b1 ++ b2, ⟨b1, b2, rfl, ?_, ?_⟩, ?_, ?_, ?_⟩
        · simp only [Ty.size]
          rw [List.take_take, Nat.min_eq_left (by omega)]
          exact p1
        · simp only [Ty.size]
          rw [List.drop_take, Nat.add_sub_cancel_left]
          exact q1
        · simp only [Ty.size]
          rw [← List.drop_drop]
          exact q2
        · rw [List.nodup_append]
          refine ⟨p3, q3, ?_⟩
          rintro b' hb1 _ hb2 rfl
          obtain ⟨j1, k1, o1, y1, m1, m2, m3⟩ := p4 b' hb1
          obtain ⟨j2, k2, o2, y2, m4, m5, m6⟩ := q4 b' hb2
          have := hr.apart j1 j2 o1 o2 y1 y2 b' m1 m2 m4 m5 m3 m6
          exact n3 j1 k1 j2 k2 this
        · intro b' hb'
          rcases List.mem_append.1 hb' with hb' | hb'
          · obtain ⟨j, k, m⟩ := p4 b' hb'
            exact ⟨j, by simp [k], m⟩
          · obtain ⟨j, k, m⟩ := q4 b' hb'
            exact ⟨j, by simp [k], m⟩
      · cases hd
    · cases hd
  | int k =>
    intro vs r x L cs hd hv hL
    simp only [decOw] at hd
    split at hd
    · rename_i y r1 e1; cases hd; exact plain _ rfl e1 hv
    · cases hd
  | float k =>
    intro vs r x L cs hd hv hL
    simp only [decOw] at hd
    split at hd
    · rename_i y r1 e1; cases hd; exact plain _ rfl e1 hv
    · cases hd
  | bool =>
    intro vs r x L cs hd hv hL
    simp only [decOw] at hd
    split at hd
    · rename_i y r1 e1; cases hd; exact plain _ rfl e1 hv
    · cases hd
  | str =>
    intro vs r x L cs hd hv hL
    simp only [decOw] at hd
    split at hd
    · rename_i y r1 e1; cases hd; exact plain _ rfl e1 hv
    · cases hd
  | unit =>
    intro vs r x L cs hd hv hL
    simp only [decOw] at hd
    split at hd
    · rename_i y r1 e1; cases hd; exact plain _ rfl e1 hv
    · cases hd

/-- Elements with slices of one's own. -/
theorem decOwN_sound {H : Heap} {g : List G} {M : Mem} {w : World} (hr : HR H g M w) (t : Ty) : ∀ (n : Nat) {vs : List V} {xs : List t.den} {L : List Nat} {cs : List Value}, decOwN H t n vs = some (xs, L) → VRs g M vs cs → L.Nodup →
    ∃ bss : List (List Nat), xs.length = n ∧ bss.length = n ∧ cs.length = n * t.size ∧ bss.flatten.Nodup ∧ (∀ b ∈ bss.flatten, OwnIn H g L b) ∧
      ∀ i x bi, xs[i]? = some x → bss[i]? = some bi → DC w t x ((cs.drop (i * t.size)).take t.size) bi
  | 0, [], xs, L, cs, hd, hv, hL => by
    simp only [decOwN] at hd
    cases hd
    cases hv
    exact ⟨[], rfl, rfl, by simp, by simp, by simp, by intro i x bi hx; simp at hx⟩
  | 0, _ :: _, xs, L, cs, hd, hv, hL => by simp only [decOwN] at hd; cases hd
  | n + 1, vs, xs, L, cs, hd, hv, hL => by
    simp only [decOwN] at hd
    split at hd
    · rename_i x L1 r e1
      split at hd
      · rename_i ys L2 e2
        cases hd
        rw [List.nodup_append] at hL
        obtain ⟨n1, n2, n3⟩ := hL
        obtain ⟨b1, p1, p2, p3, p4⟩ := decOw_sound hr t e1 hv n1
        obtain ⟨bss, q1, q2, q3, q4, q5, q6⟩ := decOwN_sound hr t n e2 p2 n2
        have hl := DC_len t p1
        rw [List.length_take] at hl
        rw [List.length_drop] at q3
        refine ⟨b1 :: bss, by simp [q1], by simp [q2], by rw [Nat.succ_mul]; omega, ?_, ?_, ?_⟩
        · rw [List.flatten_cons, List.nodup_append]
          refine ⟨p3, q4, ?_⟩
          rintro b' hb1 _ hb2 rfl
          obtain ⟨j1, k1, o1, y1, m1, m2, m3⟩ := p4 b' hb1
          obtain ⟨j2, k2, o2, y2, m4, m5, m6⟩ := q5 b' hb2
          have := hr.apart j1 j2 o1 o2 y1 y2 b' m1 m2 m4 m5 m3 m6
          exact n3 j1 k1 j2 k2 this
        · intro b' hb'
          rw [List.flatten_cons] at hb'
          rcases List.mem_append.1 hb' with hb' | hb'
          · obtain ⟨j, k, m⟩ := p4 b' hb'
            exact ⟨j, by simp [k], m⟩
          · obtain ⟨j, k, m⟩ := q5 b' hb'
            exact ⟨j, by simp [k], m⟩
        · intro i y bi hy hbi
          cases i with
          | zero =>
            simp at hy hbi
            subst hy; subst hbi
            simpa using p1
          | succ i =>
            have := q6 i y bi (by simpa using hy) (by simpa using hbi)
            rw [List.drop_drop] at this
            rw [Nat.succ_mul, Nat.add_comm (i * t.size)]
            exact this
      · cases hd
    · cases hd

theorem kill_len (H : Heap) : ∀ L, (kill H L).length = H.length
  | [] => rfl
  | j :: L => by simp only [kill, List.length_set, kill_len H L]
theorem kill_get {H : Heap} : ∀ {L : List Nat} {i : Nat} {o : Ob}, (kill H L)[i]? = some o → (i ∈ L ∧ o = .dead) ∨ (i ∉ L ∧ H[i]? = some o)
  | [], i, o, h => .inr ⟨by simp, h⟩
  | j :: L, i, o, h => by
    simp only [kill] at h
    by_cases e : j = i
    · subst e
      have hl : j < (kill H L).length := by
        rcases Nat.lt_or_ge j (kill H L).length with k | k
        · exact k
        · rw [List.getElem?_eq_none (by simpa using k)] at h; cases h
      rw [List.getElem?_set_self hl] at h
      cases h
      exact .inl ⟨by simp, rfl⟩
    · rw [List.getElem?_set_ne e] at h
      rcases kill_get h with ⟨h1, h2⟩ | ⟨h1, h2⟩
      · exact .inl ⟨by simp [h1], h2⟩
      · exact .inr ⟨fun hm => (List.mem_cons.1 hm).elim (fun k => e k.symm) h1, h2⟩
theorem nodupB_ok : ∀ {L : List Nat}, nodupB L = true → L.Nodup
  | [], _ => .nil
  | x :: r, h => by
    simp only [nodupB, Bool.and_eq_true, List.all_eq_true, Bool.not_eq_true'] at h
    refine List.nodup_cons.2 ⟨fun hx => ?_, nodupB_ok h.2⟩
    have := h.1 x hx
    rw [Nat.beq_refl] at this
    cases this

theorem DC_head {w : World} {t : Ty} {xs : List t.den} {b n cap : Nat} {bs : List Nat} (h : DC w (.slice t) xs [.slice (some ⟨b, 0, none⟩) n cap] bs) : b ∈ bs := by
  obtain ⟨v, hv, _, _, ⟨e, _⟩ | ⟨b', cap', c, T, fz, bss, e, _, _, _, _, rfl, _⟩⟩ := h
  · cases hv; cases e
  · cases hv; cases e; simp
theorem dp_frame {g g' : List G} {M M' : Mem} {w w' : World} {ver iv ver' iv' sz : Nat} {t : Ty} {xs : List t.den} {h : Value} {bs : List Nat} {ih : Nat → Value} (ho : ObOk g M w (.dp ver iv t xs) (.dp h ver' iv' sz bs ih))
    (hb : ∀ b ∈ bs, w'.heap[b]? = w.heap[b]? ∧ M' b = none) : ObOk g' M' w' (.dp ver iv t xs) (.dp h ver' iv' sz bs ih) := by
  simp only [ObOk] at ho ⊢
  obtain ⟨h1, h2, h3, h4, h5⟩ := ho
  refine ⟨h1, DC_frame _ (fun b hm => (hb b hm).1) h2, h3, fun b hm => (hb b hm).2, ?_⟩
  intro b n cap c T fz e hc
  subst e
  rw [(hb b (DC_head h2)).1] at hc
  exact h5 b n cap c T fz rfl hc
theorem dp_lt {g : List G} {M : Mem} {w : World} {ver iv ver' iv' sz : Nat} {t : Ty} {xs : List t.den} {h : Value} {bs : List Nat} {ih : Nat → Value} (ho : ObOk g M w (.dp ver iv t xs) (.dp h ver' iv' sz bs ih)) {b : Nat} (hb : b ∈ bs) : b < w.heap.size ∧ M b = none := by
  simp only [ObOk] at ho
  obtain ⟨h1, h2, h3, h4, h5⟩ := ho
  obtain ⟨c, T, fz, hc, _⟩ := DC_lt _ h2 b hb
  refine ⟨?_, h4 b hb⟩
  rcases Nat.lt_or_ge b w.heap.size with h' | h'
  · exact h'
  · rw [Array.getElem?_eq_none h'] at hc; cases hc

theorem DC_spos {w : World} : ∀ (t : Ty) {x : t.den} {cs : List Value} {bs : List Nat} {k : Nat} {v : Value}, DC w t x cs bs → cs[k]? = some v → spos t k = true → v.oneCell' = true := by
  intro t
  induction t with
  | slice e ih =>
    rintro xs cs bs k v ⟨v0, rfl, _, _, h⟩ hk hs
    simp only [spos] at hs
    have := Nat.eq_of_beq_eq_true hs
    subst this
    cases hk
    rcases h with ⟨rfl, _⟩ | ⟨b, cap, c, T, fz, bss, rfl, _⟩ <;> rfl
  | pair a b iha ihb =>
    rintro x cs bs k v ⟨b1, b2, _, h1, h2⟩ hk hs
    simp only [spos] at hs
    cases ho : Nat.blt k a.size with
    | true =>
      rw [ho] at hs
      rw [Nat.blt_eq] at ho
      exact iha h1 (by rw [List.getElem?_take, if_pos ho]; exact hk) hs
    | false =>
      rw [ho] at hs
      have hge : a.size ≤ k := by
        rcases Nat.lt_or_ge k a.size with h | h
        · rw [show Nat.blt k a.size = true by rw [Nat.blt_eq]; exact h] at ho; cases ho
        · exact h
      exact ihb h2 (by rw [List.getElem?_drop, show a.size + (k - a.size) = k by omega]; exact hk) hs
  | int k => intro x cs bs k v h hk hs; cases hs
  | float k => intro x cs bs k v h hk hs; cases hs
  | bool => intro x cs bs k v h hk hs; cases hs
  | str => intro x cs bs k v h hk hs; cases hs
  | unit => intro x cs bs k v h hk hs; cases hs

/-- What is known of an element of a slice that owns its slices. -/
theorem dp_elem {g : List G} {M : Mem} {w : World} {ver iv ver' iv' sz id : Nat} {t : Ty} {xs : List t.den} {h : Value} {bs : List Nat} {ih : Nat → Value} (hg : g[id]? = some (.dp h ver' iv' sz bs ih)) (ho : ObOk g M w (.dp ver iv t xs) (.dp h ver' iv' sz bs ih))
    {b n cap : Nat} (hh : h = .slice (some ⟨b, 0, none⟩) n cap) :
    ∃ c T fz, ∃ bss : List (List Nat), w.heap[b]? = some (.cells c T fz) ∧ n = xs.length ∧ xs.length ≤ cap ∧ cap * t.size ≤ c.size ∧ ClearT t c.size fz ∧ bs = b :: bss.flatten ∧ bss.length = xs.length ∧
      (∀ i x bi, xs[i]? = some x → bss[i]? = some bi → DC w t x ((c.toList.drop (i * t.size)).take t.size) bi) ∧
      (∀ i x, xs[i]? = some x → ∀ k v, ((c.toList.drop (i * t.size)).take t.size)[k]? = some v → spos t k = true → v = ih (i * t.size + k)) ∧
      ∀ i x, xs[i]? = some x → VRs g M (encD (fun o => .inn id iv i o) t x 0) ((c.toList.drop (i * t.size)).take t.size) := by
  simp only [ObOk] at ho
  obtain ⟨⟨rfl, rfl, rfl⟩, hdc, hnd, hm, hih⟩ := ho
  obtain ⟨v, hv, hlen, hsz, ⟨e, _⟩ | ⟨b', cap', c, T, fz, bss, e, k1, k2, k3, k4, k5, k6, k7⟩⟩ := hdc
  · cases hv; rw [hh] at e; cases e
  · cases hv
    rw [hh] at e
    cases e
    have hihs : ∀ i x, xs[i]? = some x → ∀ k v, ((c.toList.drop (i * t.size)).take t.size)[k]? = some v → spos t k = true → v = ih (i * t.size + k) := by
      intro i x hx k v hk hs
      have hi : i < xs.length := (List.getElem?_eq_some_iff.1 hx).1
      rw [List.getElem?_take] at hk
      split at hk
      · rename_i hlt
        rw [List.getElem?_drop] at hk
        have := hih b _ cap c T fz hh k1 i k hi hlt hs
        rw [hk] at this
        cases this
        rfl
      · cases hk
    refine ⟨c, T, fz, bss, k1, rfl, k2, k3, k4, k5, k6, k7, hihs, fun i x hx => ?_⟩
    have hi : i < bss.length := by rw [k6]; exact (List.getElem?_eq_some_iff.1 hx).1
    have hd := k7 i x _ hx (List.getElem?_eq_getElem hi)
    refine encD_sound t 0 hd fun k v hk hs => ?_
    rw [Nat.zero_add]
    exact .inn id iv' iv' ver' i k t.size bs ih h v hg (Nat.le_refl _) (fun _ => hihs i x hx k v hk hs) (DC_spos t hd hk hs)

theorem nodup_flatten_set {bss : List (List Nat)} {i : Nat} {bi : List Nat} (h : bss.flatten.Nodup) (hb : bi.Nodup) (hd : ∀ b ∈ bi, b ∉ bss.flatten) : (bss.set i bi).flatten.Nodup := by
  rw [List.set_eq_take_append_cons_drop]
  split
  · rename_i hi
    have he : bss = bss.take i ++ bss[i] :: bss.drop (i + 1) := by rw [← List.drop_eq_getElem_cons hi, List.take_append_drop]
    have h1 : ∀ b, b ∈ (bss.take i).flatten → b ∈ bss.flatten := fun b hb => by
      rw [he]; simp only [List.flatten_append, List.mem_append]; exact .inl hb
    have h2 : ∀ b, b ∈ (bss.drop (i + 1)).flatten → b ∈ bss.flatten := fun b hb => by
      rw [he]; simp only [List.flatten_append, List.flatten_cons, List.mem_append]; exact .inr (.inr hb)
    rw [he] at h
    simp only [List.flatten_append, List.flatten_cons] at h ⊢
    rw [List.nodup_append, List.nodup_append] at h ⊢
    refine ⟨h.1, ⟨hb, h.2.1.2.1, ?_⟩, ?_⟩
    · rintro x hx _ hy rfl
      exact hd x hx (h2 x hy)
    · rintro x hx _ hy rfl
      rcases List.mem_append.1 hy with hy | hy
      · exact hd x hy (h1 x hx)
      · exact h.2.2 x hx x (List.mem_append.2 (.inr hy)) rfl
  · exact h
theorem mem_flatten_set {bss : List (List Nat)} {i : Nat} {bi : List Nat} {b : Nat} (h : b ∈ (bss.set i bi).flatten) : b ∈ bss.flatten ∨ b ∈ bi := by
  obtain ⟨l, hl, hb⟩ := List.mem_flatten.1 h
  rcases List.mem_or_eq_of_mem_set hl with hl | rfl
  · exact .inl (List.mem_flatten.2 ⟨l, hl, hb⟩)
  · exact .inr hb

/-- Elements that own their slices. -/
def DCs (w : World) (t : Ty) (xs : List t.den) (cs : List Value) (bss : List (List Nat)) : Prop := bss.length = xs.length ∧ xs.length * t.size ≤ cs.length ∧ ∀ i x bi, xs[i]? = some x → bss[i]? = some bi → DC w t x ((cs.drop (i * t.size)).take t.size) bi
theorem DCs.take {w : World} {t : Ty} {xs : List t.den} {cs : List Value} {bss : List (List Nat)} (h : DCs w t xs cs bss) : DCs w t xs (cs.take (xs.length * t.size)) bss := by
  refine ⟨h.1, by rw [List.length_take]; have := h.2.1; omega, fun i x bi hx hb => ?_⟩
  have := h.2.2 i x bi hx hb
  have hi : i < xs.length := (List.getElem?_eq_some_iff.1 hx).1
  rw [List.drop_take, List.take_take, Nat.min_eq_left]
  · exact this
  · have := Nat.mul_le_mul_right t.size (show i + 1 ≤ xs.length by omega)
    rw [Nat.succ_mul] at this
    omega
theorem DCs.append {w : World} {t : Ty} {xs ys : List t.den} {cs ds : List Value} {bss bss' : List (List Nat)} (h : DCs w t xs cs bss) (hl : cs.length = xs.length * t.size) (h' : DCs w t ys ds bss') : DCs w t (xs ++ ys) (cs ++ ds) (bss ++ bss') := by
  refine ⟨by simp [h.1, h'.1], by rw [List.length_append, List.length_append, Nat.add_mul]; have := h'.2.1; omega, fun i x bi hx hb => ?_⟩
  by_cases hi : i < xs.length
  · rw [List.getElem?_append_left hi] at hx
    rw [List.getElem?_append_left (by rw [h.1]; exact hi)] at hb
    have := h.2.2 i x bi hx hb
    have hm := Nat.mul_le_mul_right t.size (show i + 1 ≤ xs.length by omega)
    rw [Nat.succ_mul] at hm
    rw [List.drop_append_of_le_length (by omega), List.take_append_of_le_length (by rw [List.length_drop]; omega)]
    exact this
  · rw [List.getElem?_append_right (by omega)] at hx
    rw [List.getElem?_append_right (by rw [h.1]; omega), h.1] at hb
    have := h'.2.2 _ x bi hx hb
    have hm := Nat.mul_le_mul_right t.size (show xs.length ≤ i by omega)
    rw [List.drop_append, List.drop_eq_nil_of_le (by omega), List.nil_append]
    rw [show i * t.size - cs.length = (i - xs.length) * t.size by rw [hl, Nat.sub_mul]]
    exact this
theorem DCs.more {w : World} {t : Ty} {xs : List t.den} {cs ds : List Value} {bss : List (List Nat)} (h : DCs w t xs cs bss) : DCs w t xs (cs ++ ds) bss := by
  refine ⟨h.1, by rw [List.length_append]; have := h.2.1; omega, fun i x bi hx hb => ?_⟩
  have := h.2.2 i x bi hx hb
  have hi : i < xs.length := (List.getElem?_eq_some_iff.1 hx).1
  have hm := Nat.mul_le_mul_right t.size (show i + 1 ≤ xs.length by omega)
  rw [Nat.succ_mul] at hm
  have := h.2.1
  rw [List.drop_append_of_le_length (by omega), List.take_append_of_le_length (by rw [List.length_drop]; omega)]
  assumption
theorem DCs.frame {w w' : World} {t : Ty} {xs : List t.den} {cs : List Value} {bss : List (List Nat)} (h : DCs w t xs cs bss) (hf : ∀ b ∈ bss.flatten, w'.heap[b]? = w.heap[b]?) : DCs w' t xs cs bss :=
  ⟨h.1, h.2.1, fun i x bi hx hb => DC_frame t (fun b hm => hf b (List.mem_flatten.2 ⟨bi, List.mem_of_getElem? hb, hm⟩)) (h.2.2 i x bi hx hb)⟩
theorem DC_one {w : World} : ∀ (t : Ty) {x : t.den} {cs : List Value} {bs : List Nat}, DC w t x cs bs → ∀ c ∈ cs, c.oneCell' = true := by
  have enc1 : ∀ (t : Ty) (x : t.den) {cs : List Value}, (∀ k, t ≠ .slice k) → (∀ a b, t ≠ .pair a b) → VRs [] noM (enc t x) cs → ∀ c ∈ cs, c.oneCell' = true := by
    intro t x cs h1 h2 hv c hc
    cases t with
    | slice k => exact absurd rfl (h1 k)
    | pair a b => exact absurd rfl (h2 a b)
    | int k => cases hv with | cons a b => cases b; cases a; simp at hc; subst hc; rfl
    | float k => cases hv with | cons a b => cases b; cases a; simp at hc; subst hc; rfl
    | bool => cases hv with | cons a b => cases b; cases a; simp at hc; subst hc; rfl
    | str => cases hv with | cons a b => cases b; cases a; simp at hc; subst hc; rfl
    | unit => cases hv; cases hc
  intro t
  induction t with
  | slice e ih =>
    rintro xs cs bs ⟨v, rfl, _, _, h⟩ c hc
    simp at hc
    subst hc
    rcases h with ⟨rfl, _⟩ | ⟨b, cap, c, T, fz, bss, rfl, _⟩ <;> rfl
  | pair a b iha ihb =>
    rintro x cs bs ⟨b1, b2, _, h1, h2⟩ c hc
    rw [← List.take_append_drop a.size cs] at hc
    rcases List.mem_append.1 hc with hc | hc
    · exact iha h1 c hc
    · exact ihb h2 c hc
  | int k => rintro x cs bs ⟨_, h⟩; exact enc1 (.int k) x (by simp) (by simp) h
  | float k => rintro x cs bs ⟨_, h⟩; exact enc1 (.float k) x (by simp) (by simp) h
  | bool => rintro x cs bs ⟨_, h⟩; exact enc1 .bool x (by simp) (by simp) h
  | str => rintro x cs bs ⟨_, h⟩; exact enc1 .str x (by simp) (by simp) h
  | unit => rintro x cs bs ⟨_, h⟩; exact enc1 .unit x (by simp) (by simp) h
theorem DCs.one {w : World} {t : Ty} {xs : List t.den} {cs : List Value} {bss : List (List Nat)} (h : DCs w t xs cs bss) (hp : 0 < t.size) (hl : cs.length = xs.length * t.size) : ∀ c ∈ cs, c.oneCell' = true := by
  intro c hc
  obtain ⟨j, hj⟩ := List.mem_iff_getElem?.1 hc
  have hjl := (List.getElem?_eq_some_iff.1 hj).1
  have hi : j / t.size < xs.length := by rw [Nat.div_lt_iff_lt_mul hp]; omega
  have h1 := h.2.2 (j / t.size) _ _ (List.getElem?_eq_getElem hi) (List.getElem?_eq_getElem (by rw [h.1]; exact hi))
  refine DC_one t h1 c ?_
  refine List.mem_iff_getElem?.2 ⟨j % t.size, ?_⟩
  rw [List.getElem?_take, if_pos (Nat.mod_lt _ hp), List.getElem?_drop]
  have : j / t.size * t.size + j % t.size = j := by rw [Nat.mul_comm]; exact Nat.div_add_mod j t.size
  rw [this]; exact hj

/-- A slice that owns its slices, as it was made. -/
theorem dp_mk {g : List G} {M : Mem} {w : World} {ver iv : Nat} {t : Ty} {xs : List t.den} {b cap : Nat} {c : Array Value} {T : TypeId} {fz : Nat × Nat} {bss : List (List Nat)} (h1 : w.heap[b]? = some (.cells c T fz)) (h2 : DCs w t xs c.toList bss) (h3 : xs.length ≤ cap) (h4 : cap * t.size ≤ c.size)
    (h5 : ClearT t c.size fz) (h6 : 0 < t.size) (h7 : xs.length ≤ 9223372036854775807) (h8 : bss.flatten.Nodup) (h9 : b ∉ bss.flatten) (h10 : M b = none) (h11 : ∀ b' ∈ bss.flatten, M b' = none) :
    ObOk g M w (.dp ver iv t xs) (.dp (.slice (some ⟨b, 0, none⟩) xs.length cap) ver iv t.size (b :: bss.flatten) (fun k => (c.toList[k]?).getD Go.undef)) := by
  simp only [ObOk]
  refine ⟨⟨trivial, trivial, trivial⟩, ⟨_, rfl, h7, h6, .inr ⟨b, cap, c, T, fz, bss, rfl, h1, h3, h4, h5, rfl, h2.1, h2.2.2⟩⟩, List.nodup_cons.2 ⟨h9, h8⟩, ?_, ?_⟩
  · intro b' hb'
    rcases List.mem_cons.1 hb' with rfl | hb'
    · exact h10
    · exact h11 b' hb'
  · intro b' n' cap' c' T' fz' e' hc' i o' hi ho' hs'
    cases e'
    rw [h1] at hc'
    cases hc'
    have hlt : i * t.size + o' < c.toList.length := by
      have : (i + 1) * t.size ≤ cap * t.size := Nat.mul_le_mul_right _ (by omega)
      rw [Nat.succ_mul] at this
      simp
      omega
    rw [List.getElem?_eq_getElem hlt]
    rfl
end Go.Ev
