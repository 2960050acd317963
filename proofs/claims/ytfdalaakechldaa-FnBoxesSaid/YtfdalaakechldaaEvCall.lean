/- Calls; and each operation as a whole. -/
import Derived.Test.YtfdalaakechldaaEvMem2
import Derived.Test.YtfdalaakechldaaEvLc
import Derived.Test.YtfdalaakechldaaEvAng
set_option linter.unusedVariables false
set_option linter.unusedSimpArgs false
namespace Go.Ev

/-- A call of a function, with a body or without. -/
def CallsX (P : Program) (f : FuncId) (args : Array Value) (w : World) (R : Value → World → Prop) : Prop :=
  (∃ v w', (callFunc f args).run P w = .ok (.value v) w' ∧ R v w') ∨
  ((callFunc f args).run P w = .ok (.enter f args) w ∧ Calls P f args w (fun e w' => ∃ v, e = .returned v ∧ R v w'))

theorem CallsX.mono {P : Program} {f : FuncId} {args : Array Value} {w : World} {R R' : Value → World → Prop} (h : CallsX P f args w R) (hr : ∀ v w', R v w' → R' v w') : CallsX P f args w R' := by
  rcases h with ⟨v, w', h1, h2⟩ | ⟨h1, h2⟩
  · exact .inl ⟨v, w', h1, hr _ _ h2⟩
  · exact .inr ⟨h1, h2.mono fun e w' ⟨v, e1, e2⟩ => ⟨v, e1, hr _ _ e2⟩⟩

/-- Nothing that was there is touched. -/
structure Frame0 (w w' : World) (M M' : Mem) : Prop where
  size : w.heap.size ≤ w'.heap.size
  keep : ∀ b, b < w.heap.size → w'.heap[b]? = w.heap[b]?
  mle : ∀ b cs, M b = some cs → M' b = some cs
  mnew : ∀ b cs, M' b = some cs → M b = some cs ∨ w.heap.size ≤ b
  os : w'.os = w.os
  tape : w'.tape = w.tape
  output : w'.output = w.output

/-- Does the program look for texts in texts? -/
def usesIndex (P : Program) : Bool := P.funcs.toList.any fun f => f.name == "internal/stringslite.Index"
/-- Tables of Go's library that nobody writes. -/
def GamOk (P : Program) (M : Mem) : Prop :=
  (∀ k, P.globalNamed "internal/strconv.uint64pow10" = some k → M k = some ((List.range 20).map fun i => Value.int .u64 ((10 ^ i : Nat) : Int))) ∧
  (∀ k, usesIndex P = true → P.globalNamed "internal/bytealg.MaxLen" = some k → ∃ m, M k = some [.int .i64 m])
theorem GamOk.mono {P : Program} {M M' : Mem} (h : GamOk P M) (hle : ∀ b cs, M b = some cs → M' b = some cs) : GamOk P M' :=
  ⟨fun k hk => hle _ _ (h.1 k hk), fun k hu hk => by obtain ⟨m, hm⟩ := h.2 k hu hk; exact ⟨m, hle _ _ hm⟩⟩

/-- What a function does, as the evaluator takes it. -/
def FnOk (P : Program) (k : FuncId) (sem : List V → Heap → (V → Heap → Prop) → Prop) : Prop :=
  ∀ args K, sem args [] K → ∃ v, K v [] ∧ (∀ K' : V → Heap → Prop, K' v [] → sem args [] K') ∧
    ∀ (w : World) (M : Mem) (cargs : List Value), VRs [] M args cargs → MemOk M w → GamOk P M →
      CallsX P k cargs.toArray w fun val w' => ∃ M', VR [] M' v val ∧ MemOk M' w' ∧ Frame0 w w' M M'

/-- What a function does that writes what its caller owns. -/
def FnOkO (P : Program) (k : FuncId) (sem : List V → Heap → (V → Heap → Prop) → Prop) : Prop :=
  ∀ args H K, sem args H K → ∃ v H', K v H' ∧ (∀ K' : V → Heap → Prop, K' v H' → sem args H K') ∧
    ∀ (w : World) (g : List G) (M : Mem) (cargs : List Value), VRs g M args cargs → HR H g M w → GamOk P M →
      CallsX P k cargs.toArray w fun val w' => ∃ g' M', VR g' M' v val ∧ HR H' g' M' w' ∧ Ext g M g' M' ∧ Base w M (Z.of H g) H' g' M' w'

def FnOkL (P : Program) (k : FuncId) (sem : List V → Heap → (V → Heap → Prop) → Prop) : Prop := FnOkO P k sem ∧ LocalS sem

def CallsOk1 (P : Program) (C : Ctx) : Prop := ∀ k, match C.pass k with
  | .own => FnOkL P k (C.call k)
  | _ => FnOk P k (C.call k)
/-- Which contracts change one thing alone. -/
def EsOk (C : Ctx) : Prop := ∀ f, C.pass f = .own → C.es f = true → LocalE (C.call f)
def CallsOk0 (P : Program) (C : Ctx) : Prop := CallsOk1 P C ∧ CallsOk1 P C.drawn ∧ EsOk C ∧ EsOk C.drawn
theorem CallsOk0.drawn {P : Program} {C : Ctx} (h : CallsOk0 P C) : CallsOk0 P C.drawn := ⟨h.2.1, h.2.1, h.2.2.2, h.2.2.2⟩
def CallsOk (P : Program) (C : Ctx) (M0 : Mem) (own0 : Z) : Prop := GamOk P M0 ∧ CallsOk0 P C ∧ own0.n ≤ C.base

theorem CallsOk.drawn {P : Program} {C : Ctx} {M0 : Mem} {own0 : Z} (h : CallsOk P C M0 own0) : CallsOk P C.drawn M0 own0 := ⟨h.1, h.2.1.drawn, h.2.2⟩
theorem CallsOk0.ang {P : Program} {C : Ctx} (h : CallsOk0 P C) : CallAng C := fun f => by
  have hf := h.1 f
  cases hp : C.pass f with
  | own =>
    simp only [hp] at hf
    exact fun args H K hk => by
      obtain ⟨v, H', h1, h2, _⟩ := hf.1 args H K hk
      exact ⟨v, H', h1, h2⟩
  | view =>
    simp only [hp] at hf
    exact fun args K hk => by
      obtain ⟨v, h1, h2, _⟩ := hf args K hk
      exact ⟨v, h1, h2⟩
  | freeze =>
    simp only [hp] at hf
    exact fun args K hk => by
      obtain ⟨v, h1, h2, _⟩ := hf args K hk
      exact ⟨v, h1, h2⟩

theorem callV_local {C : Ctx} (hl : ∀ f, C.pass f = .own → LocalS (C.call f)) {f : FuncId} (hp : C.pass f = .own) {v : V} {r : List V} {H : Heap} {K : V → Heap → Prop} (ha : CallAng C)
    (h : callV C f (v :: r) H K) : callV C f (v :: r) H (fun u h => K u h ∧ StayOf v H h) := by
  unfold callV at h ⊢
  rw [hp] at h ⊢
  simp only at h ⊢
  split at h
  · rename_i id off r0 hvr
    cases hvr
    split at h
    · rename_i H1 r' hf
      have h2 := hl f hp _ r' H1 K h
      have hang := ha f
      rw [hp] at hang
      obtain ⟨v, H', h1, h3⟩ := hang _ _ _ h2
      exact h3 _ ⟨h1.1, .trans (freezes2_boxes hf) h1.2⟩
    · rename_i hf
      exact hl f hp _ r H K h
  · exact hl f hp v r H K h
theorem callV_localE {C : Ctx} (hl : ∀ f, C.pass f = .own → C.es f = true → LocalE (C.call f)) {f : FuncId} (hp : C.pass f = .own) (he : C.es f = true) {v : V} {r : List V} {H : Heap} {K : V → Heap → Prop} {t : Option Nat} (ht : touchL false (v :: r) = some t)
    (h : callV C f (v :: r) H K) : callV C f (v :: r) H (fun u h => K u h ∧ StayE t H h) := by
  have hir : immuts r = true := by
    unfold touchL at ht
    cases hi : immuts r with
    | true => rfl
    | false => simp only [hi, cond_false] at ht; cases ht
  unfold callV at h ⊢
  rw [hp] at h ⊢
  simp only at h ⊢
  split at h
  · rename_i id off r0 hvr
    cases hvr
    simp only [freezes2_imm hir] at h ⊢
    exact hl f hp he _ r H K t ht h
  · exact hl f hp he v r H K t ht h
theorem CallsOk0.loc {P : Program} {C : Ctx} (h : CallsOk0 P C) (f : FuncId) (hp : C.pass f = .own) : LocalS (C.call f) := by
  have hf := h.1 f
  simp only [hp] at hf
  exact hf.2

theorem CallsOk.ang {P : Program} {C : Ctx} {M0 : Mem} {own0 : Z} (h : CallsOk P C M0 own0) : CallAng C := CallsOk0.ang h.2.1

/-- A callee's world against the one in which the caller began. -/
theorem Base.then {w0 w w' : World} {M0 M M' : Mem} {own0 : Z} {H H' : Heap} {g g' : List G} (h : Base w0 M0 own0 H g M w) (h' : Base w M (Z.of H g) H' g' M' w') (E : Ext g M g' M') : Base w0 M0 own0 H' g' M' w' := by
  have hs := h.size
  have hs' := h'.size
  refine ⟨by omega, ?_, ?_, fun b cs hb => h'.mle b cs (h.mle b cs hb), ?_, h'.os.trans h.os, h'.tape.trans h.tape, h'.output.trans h.output, ?_⟩
  · intro b hb hn
    have : ¬ Own H g b := fun ho => by
      rcases h.own b ho with k | k
      · exact hn k
      · omega
    exact (h'.keep b (by omega) this).trans (h.keep b hb hn)
  · intro b hb
    rcases h'.own b hb with k | k
    · exact h.own b k
    · exact .inr (by omega)
  · intro b cs hb
    rcases h'.mnew b cs hb with k | k | k
    · exact h.mnew b cs k
    · exact .inr (h.own b k)
    · exact .inr (.inr (by omega))
  · exact fun id x hx => h'.gbox id x ⟨h.gbox id x hx, own0.fx id x hx⟩

theorem ObOk.frame {g g' : List G} {M M' : Mem} {w w' : World} {o : Ob} {x : G} (E : Ext g M g' M') (hb : ∀ b, ownB o x b → w'.heap[b]? = w.heap[b]? ∧ M' b = none) (h : ObOk g M w o x) : ObOk g' M' w' o x := by
  cases o <;> cases x <;> simp only [ObOk] at h ⊢ <;> try exact h
  · obtain ⟨c, T, fz, h1, h2, h3, h4⟩ := h
    exact ⟨c, T, fz, (hb _ rfl).1.trans h1, h2.mono E, h3, (hb _ rfl).2⟩
  · obtain ⟨h1, h2, h3, h4⟩ := h
    refine ⟨h1, h2, h3, h4.imp id ?_⟩
    rintro ⟨b, cap, c, T, fz, rfl, k2, k3, k4, k5, k6, k7⟩
    exact ⟨b, cap, c, T, fz, rfl, (hb b rfl).1.trans k2, k3, k4, fun i x hx => (k5 i x hx).mono E, k6, (hb b rfl).2⟩
  · exact ⟨h.1, h.2.1, h.2.2.mono E⟩
  · obtain ⟨p, v, h1, h2, h3, rfl, h5, h6, h7⟩ := h
    exact ⟨p, v, (hb _ (.inl rfl)).1.trans h1, h2, ownsRowF_heap h3 (fun k hk => (hb k (.inr hk)).1), rfl, h5, (hb _ (.inl rfl)).2, fun c hc => (hb c (.inr hc)).2, h7.2⟩
  · exact dp_frame (g := g) (g' := g') (M := M) (M' := M') h hb

theorem Ext.mem {g : List G} {M M' : Mem} (h : ∀ b cs, M b = some cs → M' b = some cs) : Ext g M g M' := ⟨fun _ x hx => ⟨x, hx, Gle.refl x⟩, h⟩
theorem Ext.nil {g : List G} {M : Mem} : Ext [] M g M := ⟨fun _ x hx => by simp at hx, fun _ _ h => h⟩

theorem HR.frame {H : Heap} {g : List G} {M M' : Mem} {w w' : World} (h : HR H g M w) (F : Frame0 w w' M M') (hm : MemOk M' w') : HR H g M' w' :=
  ⟨h.len, fun id o x h1 h2 => (h.ob id o x h1 h2).frame (Ext.mem F.mle) fun b hb => by
    obtain ⟨k1, k2⟩ := Ev.own_lt (h.ob id o x h1 h2) hb
    refine ⟨F.keep b k1, ?_⟩
    cases e : M' b with
    | none => rfl
    | some cs =>
      rcases F.mnew b cs e with k | k
      · rw [k2] at k; cases k
      · omega, h.apart, hm⟩

theorem Base.frame {w0 : World} {M0 : Mem} {own0 : Z} {H : Heap} {g : List G} {M M' : Mem} {w w' : World} (h : Base w0 M0 own0 H g M w) (F : Frame0 w w' M M') : Base w0 M0 own0 H g M' w' := by
  have hs := h.size
  have hs' := F.size
  refine ⟨by omega, fun b h1 h2 => (F.keep b (by omega)).trans (h.keep b h1 h2), h.own, fun b cs hb => F.mle b cs (h.mle b cs hb), ?_, F.os.trans h.os, F.tape.trans h.tape, F.output.trans h.output, h.gbox⟩
  intro b cs hb
  rcases F.mnew b cs hb with k | k
  · exact h.mnew b cs k
  · exact .inr (.inr (by omega))

/-- The owned blocks too, as blocks that nobody writes for a while. -/
noncomputable def memAll (H : Heap) (g : List G) (M : Mem) (w : World) : Mem := fun b =>
  match M b with
  | some cs => some cs
  | none => open Classical in if Own H g b then (match w.heap[b]? with | some (.cells c _ _) => some c.toList | _ => none) else none

theorem memAll_le (H : Heap) (g : List G) (M : Mem) (w : World) : ∀ b cs, M b = some cs → memAll H g M w b = some cs := by
  intro b cs h
  simp [memAll, h]
theorem memAll_own {H : Heap} {g : List G} {M : Mem} {w : World} (hr : HR H g M w) {b : Nat} {c : Array Value} {T : TypeId} {fz : Nat × Nat} (ho : Own H g b) (hc : w.heap[b]? = some (.cells c T fz)) : memAll H g M w b = some c.toList := by
  have := (hr.own_lt ho).2
  simp [memAll, this, ho, hc]
theorem memAll_ok {H : Heap} {g : List G} {M : Mem} {w : World} (hr : HR H g M w) : MemOk (memAll H g M w) w := by
  intro b cs h
  unfold memAll at h
  split at h
  · rename_i cs' hm
    cases h
    exact hr.mem b _ hm
  · split at h
    · split at h
      · rename_i c T fz hc
        cases h
        exact ⟨c, T, fz, hc, rfl⟩
      · cases h
    · cases h

section
variable {g : List G} {M : Mem} {w : World} {H : Heap}
theorem vec_of_sl (hr : HR H g M w) {id : Nat} {ver : Nat} {t : Ty} {xs : List t.den} {h : Value} {ver' sz : Nat} (h1 : H[id]? = some (.sl ver t xs)) (h2 : g[id]? = some (.sl h ver' sz)) : VR [] (memAll H g M w) (.vec t xs) h := by
  have ho := hr.ob id _ _ h1 h2
  simp only [ObOk] at ho
  obtain ⟨_, _, hlen, ho⟩ := ho
  rcases ho with ⟨rfl, rfl⟩ | ⟨b, cap, c, T, fz, rfl, k2, k3, k4, k5, k6, k7⟩
  · exact .vecnil t none 0
  · refine .vec t xs b 0 _ cap c.toList (memAll_own hr ⟨id, _, _, h1, h2, rfl⟩ k2) ⟨rfl, hlen.2⟩ k3 fun i x hx => ?_
    have := (k5 i x hx).mono (Ext.mem (memAll_le H g M w))
    rw [Nat.zero_add]
    exact this.imm (immuts_enc t x)

theorem vec_of_fz (hr : HR H g M w) {id : Nat} {ver : Nat} {t : Ty} {xs : List t.den} {h : Value} {ver' sz : Nat} (h1 : H[id]? = some (.fz ver t xs)) (h2 : g[id]? = some (.sl h ver' sz)) : VR [] (memAll H g M w) (.vec t xs) h := by
  have ho := hr.ob id _ _ h1 h2
  simp only [ObOk] at ho
  exact (ho.2.2.mono (Ext.mem (memAll_le H g M w))).imm rfl

theorem vec_of_dp (hr : HR H g M w) {id ver iv : Nat} {t : Ty} {xs : List t.den} {h : Value} {ver' iv' sz : Nat} {bs : List Nat} {ih : Nat → Value} (h1 : H[id]? = some (.dp ver iv t xs)) (h2 : g[id]? = some (.dp h ver' iv' sz bs ih)) : VR [] (memAll H g M w) (.vec t xs) h := by
  have ho := hr.ob id _ _ h1 h2
  simp only [ObOk] at ho
  have := DC_vec (Mv := memAll H g M w) (.slice t) (fun b hb c T fz hc => memAll_own hr ⟨id, _, _, h1, h2, hb⟩ hc) ho.2.1
  cases this with
  | cons a _ => exact a

theorem vec_of_inn (hr : HR H g M w) {id ver iv i off : Nat} {t : Ty} {xs : List t.den} {x : t.den} {e : Ty} {ys : List e.den} {c : Value} (h1 : H[id]? = some (.dp ver iv t xs)) (hx : xs[i]? = some x) (hs : subAt t x off = some ⟨e, ys⟩) (hv : VR g M (.inn id iv i off) c) : VR [] (memAll H g M w) (.vec e ys) c := by
  cases hv with
  | inn _ _ iv' ver' _ _ sz bs ih h _ p1 p2 p3 p4 =>
    have ho := hr.ob id _ _ h1 p1
    have ho' := ho
    simp only [ObOk] at ho
    obtain ⟨⟨rfl, rfl, rfl⟩, hdc, _⟩ := ho
    have hval := p3 rfl
    obtain ⟨v0, hv0, _, _, ⟨_, rfl, _⟩ | ⟨b, cap, ce, T, fz, bss0, k1, _⟩⟩ := hdc
    · simp at hx
    · cases hv0
      obtain ⟨ce, T, fz, bss, k1, k2, k3, k4, k5, k6, k7, k8, k9, k10⟩ := dp_elem p1 ho' k1
      have hib : i < bss.length := by rw [k7]; exact (List.getElem?_eq_some_iff.1 hx).1
      have hd := k8 i x _ hx (List.getElem?_eq_getElem hib)
      obtain ⟨b1, b2, v, bs', e1, e2, e3, e4, _⟩ := DC_sub t hd hs
      have := k9 i x hx off v e2 e3
      rw [← hval] at this
      subst this
      have := DC_vec (Mv := memAll H g M w) (.slice e) (fun b' hb' c T fz hc => memAll_own hr ⟨id, _, _, h1, p1, (by
        show b' ∈ bs
        rw [k6]
        refine List.mem_cons_of_mem _ (List.mem_flatten.2 ⟨bss[i], List.getElem_mem hib, ?_⟩)
        rw [e1]
        simp [hb'])⟩ hc) e4
      cases this with
      | cons a _ => exact a

theorem g_of (hr : HR H g M w) {id : Nat} {o : Ob} (h : H[id]? = some o) : ∃ x, g[id]? = some x ∧ ObOk g M w o x := by
  have hl := lt_of_get h
  rw [hr.len] at hl
  exact ⟨g[id], List.getElem?_eq_getElem hl, hr.ob id o _ h (List.getElem?_eq_getElem hl)⟩

theorem view1_sound (hr : HR H g M w) {v v' : V} {c : Value} (hv : VR g M v c) (h : view1 H v = some v') : VR [] (memAll H g M w) v' c := by
  have E : Ext g M g (memAll H g M w) := Ext.mem (memAll_le H g M w)
  have imm : ∀ {u : V}, u = v → immut u = true → VR [] (memAll H g M w) u c := fun e hi => by subst e; exact (hv.mono E).imm hi
  cases v <;> simp only [view1] at h
  case obj id ver =>
    cases hv with
    | obj _ _ ver' sz hh _ h1 h2 h3 h4 =>
      split at h
      · rename_i ver2 t xs hid
        have ho := hr.ob id _ _ hid h1
        simp only [ObOk] at ho
        cases hb : Nat.beq ver ver2 with
        | false => simp [hb] at h
        | true =>
          simp only [hb, cond_true, Option.some.injEq] at h
          subst h
          rw [h3 (by rw [ho.1]; exact beq_true hb)]
          exact vec_of_sl hr hid h1
      · rename_i ver2 t xs hid
        have ho := hr.ob id _ _ hid h1
        simp only [ObOk] at ho
        cases hb : Nat.beq ver ver2 with
        | false => simp [hb] at h
        | true =>
          simp only [hb, cond_true, Option.some.injEq] at h
          subst h
          rw [h3 (by rw [ho.1]; exact beq_true hb)]
          exact vec_of_fz hr hid h1
      · cases h
  case ptr => cases h
  case eptr => cases h
  case bptr => cases h
  case psl => cases h
  case dep => cases h
  case dob id ver =>
    cases hv with
    | dob _ _ ver' iv sz bs ih hh _ h1 h2 h3 h4 =>
      split at h
      · rename_i ver2 iv2 t xs hid
        have ho := hr.ob id _ _ hid h1
        simp only [ObOk] at ho
        cases hb : Nat.beq ver ver2 with
        | false => simp [hb] at h
        | true =>
          simp only [hb, cond_true, Option.some.injEq] at h
          subst h
          rw [h3 (by rw [ho.1.1]; exact beq_true hb)]
          exact vec_of_dp hr hid h1
      · cases h
  case inn id iv i off =>
    split at h
    · rename_i ver2 iv2 t xs hid
      cases hb : Nat.beq iv iv2 with
      | false => simp [hb] at h
      | true =>
        simp only [hb, cond_true] at h
        have := beq_true hb
        subst this
        split at h
        · rename_i x hx
          split at h
          · rename_i e ys hs
            cases h
            exact vec_of_inn hr hid hx hs hv
          · cases h
        · cases h
    · cases h
  case agg vs =>
    cases hi : immuts vs <;> simp [hi] at h
    subst h
    exact imm rfl (by simpa [immut] using hi)
  case tuple vs =>
    cases hi : immuts vs <;> simp [hi] at h
    subst h
    exact imm rfl (by simpa [immut] using hi)
  case fn f vs =>
    cases hi : immuts vs <;> simp [hi] at h
    subst h
    exact imm rfl (by simpa [immut] using hi)
  case ref vs o =>
    cases hi : immuts vs <;> simp [hi] at h
    subst h
    exact imm rfl (by simpa [immut] using hi)
  all_goals
    cases h
    exact imm rfl rfl

theorem views1_sound (hr : HR H g M w) : ∀ {vs vs' : List V} {cs : List Value}, VRs g M vs cs → views1 H vs = some vs' → VRs [] (memAll H g M w) vs' cs
  | _, _, _, .nil, h => by simp only [views1, Option.some.injEq] at h; subst h; exact .nil
  | _, _, _, .cons hv hs, h => by
    simp only [views1] at h
    split at h
    · rename_i v' h1
      split at h
      · rename_i vs' h2
        cases h
        exact .cons (view1_sound hr hv h1) (views1_sound hr hs h2)
      · cases h
    · cases h

theorem views1_length : ∀ {vs vs' : List V}, views1 H vs = some vs' → vs'.length = vs.length
  | [], _, h => by simp only [views1, Option.some.injEq] at h; subst h; rfl
  | v :: vs, _, h => by
    simp only [views1] at h
    split at h
    · split at h
      · rename_i vs' h2
        cases h
        simp [views1_length h2]
      · cases h
    · cases h

theorem view2_sound (hr : HR H g M w) {v v' : V} {c : Value} (hv : VR g M v c) (h : view2 H v = some v') : VR [] (memAll H g M w) v' c := by
  cases v <;> simp only [view2] at h <;> try exact view1_sound hr hv h
  case agg vs =>
    split at h
    · rename_i vs' h1
      cases h
      cases hv with
      | agg _ cs hvs => exact .agg _ cs (views1_sound hr hvs h1)
    · cases h
  case ptr id off =>
    split at h
    · rename_i cells hid
      split at h
      · rename_i vs' h1
        cases h
        cases hv with
        | ptr _ _ b hb =>
          have ho := hr.ob id _ _ hid hb
          simp only [ObOk] at ho
          obtain ⟨c, T, fz, k1, k2, k3, k4⟩ := ho
          have := views1_sound hr k2 h1
          refine .ref _ b 0 off _ c.toList (memAll_own hr ⟨id, _, _, hid, hb, rfl⟩ k1) ?_ (by omega)
          have hl := this.length
          rw [List.drop_zero, hl, List.take_length]
          exact this
      · cases h
    · cases h
  case eptr id ver i off =>
    cases hv with
    | eptr _ _ ver' sz _ _ b o hh h1 h2 h3 h4 =>
      have fin : ∀ {t : Ty} {xs : List t.den} {x : t.den}, VR [] (memAll H g M w) (.vec t xs) hh → sz = t.size → ver = ver' → xs[i]? = some x → VR [] (memAll H g M w) (.ref (enc t x) off) (.pointer (some ⟨b, o, none⟩)) := by
        intro t xs x hvec hsz hve hx
        obtain ⟨n, cc, e1⟩ := h3 hve
        subst e1
        cases hvec with
        | vecnil => simp at hx
        | vec _ _ _ _ _ _ cs p1 p2 p3 p4 =>
          refine .ref _ b (i * t.size) off _ cs p1 ?_ (by rw [h4, hsz])
          have := p4 i x hx
          rw [enc_length]
          rw [Nat.zero_add] at this
          exact this
      split at h
      · rename_i ver2 t xs hid
        have ho := hr.ob id _ _ hid h1
        simp only [ObOk] at ho
        cases hb : Nat.beq ver ver2 with
        | false => simp [hb] at h
        | true =>
          simp only [hb, cond_true] at h
          split at h
          · rename_i x hx
            cases h
            exact fin (vec_of_sl hr hid h1) ho.2.1 (by rw [ho.1]; exact beq_true hb) hx
          · cases h
      · rename_i ver2 t xs hid
        have ho := hr.ob id _ _ hid h1
        simp only [ObOk] at ho
        cases hb : Nat.beq ver ver2 with
        | false => simp [hb] at h
        | true =>
          simp only [hb, cond_true] at h
          split at h
          · rename_i x hx
            cases h
            exact fin (vec_of_fz hr hid h1) ho.2.1 (by rw [ho.1]; exact beq_true hb) hx
          · cases h
      · cases h
  case psl id t n =>
    split at h
    · rename_i cells hid
      cases hi : immuts cells with
      | false => simp [hi] at h
      | true =>
        simp only [hi, cond_true] at h
        split at h
        · rename_i xs hxs
          cases h
          cases hv with
          | psl _ b _ _ hb hn =>
            have ho := hr.ob id _ _ hid hb
            simp only [ObOk] at ho
            obtain ⟨c, T, fz, k1, k2, k3, k4⟩ := ho
            have hv2 : VRs [] (memAll H g M w) cells c.toList := (k2.mono (Ext.mem (memAll_le H g M w))).imm hi
            obtain ⟨d1, d2, d3⟩ := decN_sound t n hxs hv2
            refine .vec t xs b 0 n n c.toList (memAll_own hr ⟨id, _, _, hid, hb, rfl⟩ k1) ⟨d1.symm, hn⟩ (Nat.le_refl _) fun i x hx => ?_
            rw [Nat.zero_add]
            exact d3 i x hx
        · cases h
    · cases h

theorem views2_sound (hr : HR H g M w) : ∀ {vs vs' : List V} {cs : List Value}, VRs g M vs cs → views2 H vs = some vs' → VRs [] (memAll H g M w) vs' cs
  | _, _, _, .nil, h => by simp only [views2, Option.some.injEq] at h; subst h; exact .nil
  | _, _, _, .cons hv hs, h => by
    simp only [views2] at h
    split at h
    · rename_i v' h1
      split at h
      · rename_i vs' h2
        cases h
        exact .cons (view2_sound hr hv h1) (views2_sound hr hs h2)
      · cases h
    · cases h

theorem view3_sound (hr : HR H g M w) {v v' : V} {c : Value} (hv : VR g M v c) (h : view3 H v = some v') : VR [] (memAll H g M w) v' c := by
  cases v <;> simp only [view3] at h <;> try exact view2_sound hr hv h
  case fn f vs =>
    split at h
    · rename_i vs' h1
      cases h
      cases hv with
      | fn _ _ cs hvs => exact .fn _ _ cs (views2_sound hr hvs h1)
    · cases h

theorem views3_sound (hr : HR H g M w) : ∀ {vs vs' : List V} {cs : List Value}, VRs g M vs cs → views3 H vs = some vs' → VRs [] (memAll H g M w) vs' cs
  | _, _, _, .nil, h => by simp only [views3, Option.some.injEq] at h; subst h; exact .nil
  | _, _, _, .cons hv hs, h => by
    simp only [views3] at h
    split at h
    · rename_i v' h1
      split at h
      · rename_i vs' h2
        cases h
        exact .cons (view3_sound hr hv h1) (views3_sound hr hs h2)
      · cases h
    · cases h
end

/-- An owned slice becomes one that nobody writes. -/
theorem fz_sound {H : Heap} {g : List G} {M : Mem} {w : World} (hr : HR H g M w) {w0 : World} {M0 : Mem} {own0 : Z} (hb : Base w0 M0 own0 H g M w) {id ver : Nat} {t : Ty} {xs : List t.den} {h : Value} {ver' sz : Nat}
    (h1 : H[id]? = some (.sl ver t xs)) (h2 : g[id]? = some (.sl h ver' sz)) :
    ∃ M', HR (H.set id (.fz ver t xs)) g M' w ∧ Base w0 M0 own0 (H.set id (.fz ver t xs)) g M' w ∧ (∀ b cs, M b = some cs → M' b = some cs) ∧ VR g M' (.vec t xs) h := by
  have ho := hr.ob id _ _ h1 h2
  let M' : Mem := fun b => match M b with
    | some cs => some cs
    | none => open Classical in if ownB (.sl ver t xs) (.sl h ver' sz) b then (match w.heap[b]? with | some (.cells c _ _) => some c.toList | _ => none) else none
  have hle : ∀ b cs, M b = some cs → M' b = some cs := by
    intro b cs hb'
    simp [M', hb']
  have hnew : ∀ b cs, M' b = some cs → M b = some cs ∨ (ownB (.sl ver t xs) (.sl h ver' sz) b ∧ ∃ c T fz, w.heap[b]? = some (.cells c T fz) ∧ c.toList = cs) := by
    intro b cs hb'
    simp only [M'] at hb'
    split at hb'
    · rename_i cs' hm; cases hb'; exact .inl hm
    · split at hb'
      · rename_i ho'
        split at hb'
        · rename_i c T fz hc
          cases hb'
          exact .inr ⟨ho', c, T, fz, hc, rfl⟩
        · cases hb'
      · cases hb'
  have hvec : VR g M' (.vec t xs) h := by
    have ho' := ho
    simp only [ObOk] at ho'
    obtain ⟨_, _, hlen, ho'⟩ := ho'
    rcases ho' with ⟨rfl, rfl⟩ | ⟨b, cap, c, T, fz, rfl, k2, k3, k4, k5, k6, k7⟩
    · exact .vecnil t none 0
    · refine .vec t xs b 0 _ cap c.toList ?_ ⟨rfl, hlen.2⟩ k3 fun i x hx => ?_
      · simp [M', k7, ownB, k2]
      · have := (k5 i x hx).mono (Ext.mem hle)
        rw [Nat.zero_add]
        exact this
  have hid : id < H.length := lt_of_get h1
  have key : ∀ (j : Nat) (y : Ob), (H.set id (.fz ver t xs))[j]? = some y → (j = id ∧ y = .fz ver t xs) ∨ (j ≠ id ∧ H[j]? = some y) := by
    intro j y hj
    by_cases e : id = j
    · subst e
      simp [List.getElem?_set, hid] at hj
      exact .inl ⟨rfl, hj.symm⟩
    · simp [List.getElem?_set, e] at hj
      exact .inr ⟨fun e' => e e'.symm, hj⟩
  have hown : ∀ b, Own (H.set id (.fz ver t xs)) g b → Own H g b := by
    rintro b ⟨j, y, z, p1, p2, p3⟩
    rcases key j y p1 with ⟨rfl, rfl⟩ | ⟨_, p4⟩
    · cases z <;> simp [ownB] at p3
    · exact ⟨j, y, z, p4, p2, p3⟩
  refine ⟨M', ⟨by simp [hr.len], ?_, ?_, ?_⟩, ⟨hb.size, hb.keep, fun b hb' => hb.own b (hown b hb'), fun b cs hb' => hle b cs (hb.mle b cs hb'), ?_, hb.os, hb.tape, hb.output, hb.gbox⟩, hle, hvec⟩
  · intro j y z p1 p2
    rcases key j y p1 with ⟨rfl, rfl⟩ | ⟨hne, p3⟩
    · rw [h2] at p2; cases p2
      simp only [ObOk] at ho ⊢
      exact ⟨ho.1, ho.2.1, hvec⟩
    · refine (hr.ob j y z p3 p2).frame (Ext.mem hle) fun b hb' => ⟨rfl, ?_⟩
      cases e : M' b with
      | none => rfl
      | some cs =>
        rcases hnew b cs e with k | ⟨k, _⟩
        · rw [(Ev.own_lt (hr.ob j y z p3 p2) hb').2] at k; cases k
        · exact absurd (hr.apart j id y _ z _ b p3 p2 h1 h2 hb' k) hne
  · intro j j' y y' z z' b p1 p2 p3 p4 p5 p6
    rcases key j y p1 with ⟨rfl, rfl⟩ | ⟨hne, q1⟩
    · cases z <;> simp [ownB] at p5
    · rcases key j' y' p3 with ⟨rfl, rfl⟩ | ⟨hne', q2⟩
      · cases z' <;> simp [ownB] at p6
      · exact hr.apart j j' y y' z z' b q1 p2 q2 p4 p5 p6
  · intro b cs hm
    rcases hnew b cs hm with k | ⟨_, k⟩
    · exact hr.mem b cs k
    · exact k
  · intro b cs hm
    rcases hnew b cs hm with k | ⟨k, _⟩
    · exact hb.mnew b cs k
    · exact .inr (hb.own b ⟨id, _, _, h1, h2, k⟩)

section
variable {g : List G} {w : World} {w0 : World} {M0 : Mem} {own0 : Z}
theorem freeze1_sound {H H' : Heap} {M : Mem} (hr : HR H g M w) (hb : Base w0 M0 own0 H g M w) {v v' : V} {c : Value} (hv : VR g M v c) (h : freeze1 H v = some (H', v')) :
    ∃ M', HR H' g M' w ∧ Base w0 M0 own0 H' g M' w ∧ (∀ b cs, M b = some cs → M' b = some cs) ∧ VR g M' v' c := by
  have other : ∀ {u : V}, u = v → (bif immut u then some (H, u) else none) = some (H', v') → ∃ M', HR H' g M' w ∧ Base w0 M0 own0 H' g M' w ∧ (∀ b cs, M b = some cs → M' b = some cs) ∧ VR g M' v' c := by
    rintro u rfl h
    cases hi : immut u with
    | true =>
      simp only [hi, cond_true, Option.some.injEq, Prod.mk.injEq] at h
      obtain ⟨rfl, rfl⟩ := h
      exact ⟨M, hr, hb, fun _ _ h => h, hv⟩
    | false => simp only [hi, cond_false] at h; cases h
  cases v <;> simp only [freeze1] at h <;> try exact other rfl h
  case obj id ver =>
    cases hv with
    | obj _ _ ver' sz hh _ h1 h2 h3 h4 =>
      split at h
      · rename_i ver2 t xs hid
        have ho := hr.ob id _ _ hid h1
        simp only [ObOk] at ho
        cases hbq : Nat.beq ver ver2 with
        | false => simp [hbq] at h
        | true =>
          simp only [hbq, cond_true, Option.some.injEq, Prod.mk.injEq] at h
          obtain ⟨rfl, rfl⟩ := h
          rw [h3 (by rw [ho.1]; exact beq_true hbq)]
          exact fz_sound hr hb hid h1
      · rename_i ver2 t xs hid
        have ho := hr.ob id _ _ hid h1
        simp only [ObOk] at ho
        cases hbq : Nat.beq ver ver2 with
        | false => simp [hbq] at h
        | true =>
          simp only [hbq, cond_true, Option.some.injEq, Prod.mk.injEq] at h
          obtain ⟨rfl, rfl⟩ := h
          rw [h3 (by rw [ho.1]; exact beq_true hbq)]
          exact ⟨M, hr, hb, fun _ _ h => h, ho.2.2⟩
      · cases h

theorem freezes1_sound : ∀ {vs vs' : List V} {cs : List Value} {H H' : Heap} {M : Mem}, HR H g M w → Base w0 M0 own0 H g M w → VRs g M vs cs → freezes1 H vs = some (H', vs') →
    ∃ M', HR H' g M' w ∧ Base w0 M0 own0 H' g M' w ∧ (∀ b cs, M b = some cs → M' b = some cs) ∧ VRs g M' vs' cs
  | _, _, _, H, H', M, hr, hb, .nil, h => by
    simp only [freezes1, Option.some.injEq, Prod.mk.injEq] at h
    obtain ⟨rfl, rfl⟩ := h
    exact ⟨M, hr, hb, fun _ _ h => h, .nil⟩
  | _, _, _, H, H', M, hr, hb, .cons hv hs, h => by
    simp only [freezes1] at h
    split at h
    · rename_i H1 v' h1
      split at h
      · rename_i H2 vs' h2
        simp only [Option.some.injEq, Prod.mk.injEq] at h
        obtain ⟨rfl, rfl⟩ := h
        obtain ⟨M1, p1, p2, p3, p4⟩ := freeze1_sound hr hb hv h1
        obtain ⟨M2, q1, q2, q3, q4⟩ := freezes1_sound p1 p2 (hs.mono (Ext.mem p3)) h2
        exact ⟨M2, q1, q2, fun b cs hm => q3 b cs (p3 b cs hm), .cons (p4.mono (Ext.mem q3)) q4⟩
      · cases h
    · cases h

theorem freeze2_sound {H H' : Heap} {M : Mem} (hr : HR H g M w) (hb : Base w0 M0 own0 H g M w) {v v' : V} {c : Value} (hv : VR g M v c) (h : freeze2 H v = some (H', v')) :
    ∃ M', HR H' g M' w ∧ Base w0 M0 own0 H' g M' w ∧ (∀ b cs, M b = some cs → M' b = some cs) ∧ VR g M' v' c := by
  cases v <;> simp only [freeze2] at h <;> try exact freeze1_sound hr hb hv h
  case agg vs =>
    split at h
    · rename_i H1 vs' h1
      simp only [Option.some.injEq, Prod.mk.injEq] at h
      obtain ⟨rfl, rfl⟩ := h
      cases hv with
      | agg _ cs hvs =>
        obtain ⟨M1, p1, p2, p3, p4⟩ := freezes1_sound hr hb hvs h1
        exact ⟨M1, p1, p2, p3, .agg _ cs p4⟩
    · cases h

theorem freezes2_sound : ∀ {vs vs' : List V} {cs : List Value} {H H' : Heap} {M : Mem}, HR H g M w → Base w0 M0 own0 H g M w → VRs g M vs cs → freezes2 H vs = some (H', vs') →
    ∃ M', HR H' g M' w ∧ Base w0 M0 own0 H' g M' w ∧ (∀ b cs, M b = some cs → M' b = some cs) ∧ VRs g M' vs' cs
  | _, _, _, H, H', M, hr, hb, .nil, h => by
    simp only [freezes2, Option.some.injEq, Prod.mk.injEq] at h
    obtain ⟨rfl, rfl⟩ := h
    exact ⟨M, hr, hb, fun _ _ h => h, .nil⟩
  | _, _, _, H, H', M, hr, hb, .cons hv hs, h => by
    simp only [freezes2] at h
    split at h
    · rename_i H1 v' h1
      split at h
      · rename_i H2 vs' h2
        simp only [Option.some.injEq, Prod.mk.injEq] at h
        obtain ⟨rfl, rfl⟩ := h
        obtain ⟨M1, p1, p2, p3, p4⟩ := freeze2_sound hr hb hv h1
        obtain ⟨M2, q1, q2, q3, q4⟩ := freezes2_sound p1 p2 (hs.mono (Ext.mem p3)) h2
        exact ⟨M2, q1, q2, fun b cs hm => q3 b cs (p3 b cs hm), .cons (p4.mono (Ext.mem q3)) q4⟩
      · cases h
    · cases h
end

theorem callV_sound {P : Program} {C : Ctx} {M0 : Mem} {own0 : Z} (hc : CallsOk P C M0 own0) {g : List G} {M : Mem} {w : World} {H : Heap} (hr : HR H g M w) {w0 : World} (hb : Base w0 M0 own0 H g M w)
    {f : FuncId} {args : List V} {cargs : List Value} (ha : VRs g M args cargs) {K : V → Heap → Prop} (h : callV C f args H K) :
    ∃ v H', K v H' ∧ CallsX P f cargs.toArray w fun val w' => ∃ g' M', VR g' M' v val ∧ HR H' g' M' w' ∧ Base w0 M0 own0 H' g' M' w' ∧ Ext g M g' M' := by
  have hcf := hc.2.1.1 f
  have hG : GamOk P M := hc.1.mono hb.mle
  unfold callV at h
  split at h
  · rename_i hp
    simp only [hp] at hcf
    cases hi : immuts args with
    | true =>
      simp only [hi, cond_true] at h
      obtain ⟨v, h1, h2, h3⟩ := hcf args _ h
      refine ⟨v, H, h1, (h3 w M cargs (ha.imm hi) hr.mem hG).mono ?_⟩
      rintro val w' ⟨M', k1, k2, k3⟩
      exact ⟨g, M', k1.mono Ext.nil, hr.frame k3 k2, hb.frame k3, Ext.mem k3.mle⟩
    | false =>
      simp only [hi, cond_false, views3K_eq] at h
      split at h
      · rename_i args' hv
        obtain ⟨v, h1, h2, h3⟩ := hcf args' _ h
        cases hf : flat v with
        | false => simp only [hf, cond_false] at h1
        | true =>
          simp only [hf, cond_true] at h1
          refine ⟨v, H, h1, (h3 w (memAll H g M w) cargs (views3_sound hr ha hv) (memAll_ok hr) (hG.mono (memAll_le H g M w))).mono ?_⟩
          rintro val w' ⟨M', k1, k2, k3⟩
          have F : Frame0 w w' M M := ⟨k3.size, k3.keep, fun _ _ h => h, fun _ _ h => .inl h, k3.os, k3.tape, k3.output⟩
          refine ⟨g, M, k1.flat hf, hr.frame F ?_, hb.frame F, Ext.refl g M⟩
          intro b cs hm
          obtain ⟨c, T, fz, p1, p2⟩ := hr.mem b cs hm
          exact ⟨c, T, fz, (k3.keep b (lt_of_cells p1)).trans p1, p2⟩
      · exact h.elim
  · rename_i hp
    simp only [hp] at hcf
    split at h
    · rename_i H' args' hv
      cases hi : immuts args' with
      | false => simp only [hi, cond_false] at h
      | true =>
        simp only [hi, cond_true] at h
        obtain ⟨v, h1, h2, h3⟩ := hcf args' _ h
        obtain ⟨M1, p1, p2, p3, p4⟩ := freezes2_sound hr hb ha hv
        refine ⟨v, H', h1, (h3 w M1 cargs (p4.imm hi) p1.mem (hG.mono p3)).mono ?_⟩
        rintro val w' ⟨M', k1, k2, k3⟩
        exact ⟨g, M', k1.mono Ext.nil, p1.frame k3 k2, p2.frame k3, Ext.mem fun b cs hm => k3.mle b cs (p3 b cs hm)⟩
    · exact h.elim
  · rename_i hp
    simp only [hp] at hcf
    have plain : C.call f args H K → ∃ v H', K v H' ∧ CallsX P f cargs.toArray w fun val w' => ∃ g' M', VR g' M' v val ∧ HR H' g' M' w' ∧ Base w0 M0 own0 H' g' M' w' ∧ Ext g M g' M' := by
      intro h
      obtain ⟨v, H', h1, h2, h3⟩ := hcf.1 args H _ h
      refine ⟨v, H', h1, (h3 w g M cargs ha hr hG).mono ?_⟩
      rintro val w' ⟨g', M', k1, k2, k3, k4⟩
      exact ⟨g', M', k1, k2, hb.then k4 k3, k3⟩
    split at h
    · split at h
      · rename_i H1 r' hf
        cases ha with
        | cons hv hs =>
          obtain ⟨M1, p1, p2, p3, p4⟩ := freezes2_sound hr hb hs hf
          obtain ⟨v, H', h1, h2, h3⟩ := hcf.1 _ H1 _ h
          refine ⟨v, H', h1, (h3 w g M1 _ (.cons (hv.mono (Ext.mem p3)) p4) p1 (hG.mono p3)).mono ?_⟩
          rintro val w' ⟨g', M', k1, k2, k3, k4⟩
          exact ⟨g', M', k1, k2, p2.then k4 k3, (Ext.mem p3).trans k3⟩
      · exact plain h
    · exact plain h

end Go.Ev
