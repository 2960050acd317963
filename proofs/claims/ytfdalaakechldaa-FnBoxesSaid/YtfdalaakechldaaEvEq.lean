/- Equality of structs and arrays. -/
import Derived.Test.YtfdalaakechldaaEvOps
import Derived.Test.YtfdalaakechldaaEvFloat
import Derived.Laws.StructEq
import Derived.ChangeKeysEq
set_option linter.unusedVariables false
set_option linter.unusedSimpArgs false
namespace Go.Ev

theorem toList_bytes (s : ByteArray) : s.toList = s.data.toList := by
  first | exact ByteArray.toList_eq s | exact ByteArray.toList_eq_data_toList s | simp [ByteArray.toList] | skip

section
variable {P : Program} {C : Ctx} {g : List G} {M : Mem} {w : World}

theorem run_partV {t : TypeId} {i : TI} (F : Facts P t i) {vs : List V} {ce : Array Value} {off : Nat} (hv : VRs g M vs (ce.toList.drop off)) {v : V} (hk : partV i vs = some v) :
    ∃ val, VR g M v val ∧ (part t ce off).run P w = .ok val w := by
  have hlen := hv.length
  unfold partV at hk
  cases ha : i.agg with
  | true =>
    simp only [ha, cond_true] at hk
    cases hs : Nat.ble i.size vs.length with
    | false => simp [hs] at hk
    | true =>
      simp only [hs, cond_true, Option.some.injEq] at hk
      subst hk
      refine ⟨.agg (ce.extract off (off + i.size)), .agg _ _ ?_, ?_⟩
      · have := hv.take i.size
        simpa [List.extract_eq_take_drop] using this
      · simp [part, F.run_isAgg, ha, F.run_sizeOf]
  | false =>
    simp only [ha, cond_false] at hk
    cases hz : Nat.beq i.size 0 with
    | true => simp [hz] at hk
    | false =>
      simp only [hz, cond_false] at hk
      cases vs with
      | nil => simp at hk
      | cons u vs =>
        simp only [Option.some.injEq] at hk
        subst hk
        obtain ⟨x, hx, hr⟩ := hv.get (i := 0) (v := u) (by simp)
        rw [List.getElem?_drop] at hx
        simp at hx
        exact ⟨x, hr, by simp [part, F.run_isAgg, ha, hx]⟩

theorem partV_facts (L : LOk P C) {t : TypeId} {cs : List V} {v : V} (h : partV (C.ti t) cs = some v) : Facts P t (C.ti t) := by
  unfold partV at h
  cases ha : (C.ti t).agg with
  | true =>
    refine L.get (.inl fun e => ?_)
    unfold TI.agg at ha
    rw [e] at ha
    cases ha
  | false =>
    simp only [ha, cond_false] at h
    cases hz : Nat.beq (C.ti t).size 0 with
    | true => simp [hz] at h
    | false => exact L.get (.inr fun e => by rw [e] at hz; cases hz)

theorem leafEq_sound {t : TypeId} {d : TypeDesc} (hu : P.underlying t = some d) {x y : V} {a b : Value} (hx : VR g M x a) (hy : VR g M y b) {r : Bool} (h : leafEq x y d = some r) (n : Nat) : (Op.equalIn (n + 1) t a b).run P w = .ok r w := by
  unfold leafEq at h
  split at h
  · split at h
    · rename_i e
      subst e
      cases h
      cases hx; cases hy
      exact run_equalIn_int w n t _ _ _ _ hu
    · cases h
  · split at h
    · rename_i e
      subst e
      cases h
      cases hx with
      | float _ _ a' h1 h2 =>
      cases hy with
      | float _ _ b' h3 h4 =>
      subst h2; subst h4
      simp only [feq, order_canon]
      simp [Op.equalIn, run_underlying hu, Op.floatEq]
    · cases h
  · cases h
    cases hx; cases hy
    exact run_equalIn_bool w n t _ _ hu
  · cases h
    cases hx with
    | str s l h1 h2 =>
    cases hy with
    | str s' l' h3 h4 =>
    subst h1; subst h3
    rw [run_equalIn_string w n t _ _ hu, toList_bytes, toList_bytes]
    rfl
  · cases h

theorem andO_some {a b : Option Bool} {r : Bool} (h : andO a b = some r) : ∃ x y, a = some x ∧ b = some y ∧ r = (x && y) := by
  cases a with
  | none => cases h
  | some x => cases b with
    | none => cases h
    | some y => cases h; exact ⟨x, y, rfl, rfl, by cases x <;> rfl⟩

theorem eqV_sound (L : LOk P C) : ∀ (n d : Nat), n ≤ d → ∀ (t : TypeId) (x y : V) (r : Bool), eqV C.ti n t x y = some r → ∀ {a b : Value}, VR g M x a → VR g M y b → ((C.ti t).desc ≠ .invalid ∨ (C.ti t).size ≠ 0) → (Op.equalIn d t a b).run P w = .ok r w := by
  intro n
  induction n with
  | zero => intro d _ t x y r h; cases x <;> cases y <;> cases h
  | succ n ih =>
    intro d hd t x y r h a b hx hy hF
    obtain ⟨d, rfl⟩ : ∃ e, d = e + 1 := ⟨d - 1, by omega⟩
    have F := L.get hF
    have hnd : n ≤ d := by omega
    have ihe : ∀ (t' : TypeId) (cs : List V) (v x y : V) (r : Bool), partV (C.ti t') cs = some v → eqV C.ti n t' x y = some r → ∀ {a b : Value}, VR g M x a → VR g M y b → (Op.equalIn d t' a b).run P w = .ok r w := by
      intro t' cs v x y r hp he a b hx hy
      refine ih d hnd t' x y r he hx hy ?_
      unfold partV at hp
      cases ha : (C.ti t').agg with
      | true =>
        refine .inl fun e => ?_
        unfold TI.agg at ha
        rw [e] at ha
        cases ha
      | false =>
        simp only [ha, cond_false] at hp
        cases hz : Nat.beq (C.ti t').size 0 with
        | true => simp [hz] at hp
        | false => exact .inr fun e => by rw [e] at hz; cases hz
    have leaf : (∀ xs ys, ¬ (x = .agg xs ∧ y = .agg ys)) → (Op.equalIn (d + 1) t a b).run P w = .ok r w := by
      intro hn
      have : eqV C.ti (n + 1) t x y = leafEq x y (C.ti t).desc := by
        cases x <;> cases y <;> first | rfl | exact absurd ⟨rfl, rfl⟩ (hn _ _)
      rw [this] at h
      exact leafEq_sound F.under hx hy h d
    by_cases hag : ∃ xs ys, x = .agg xs ∧ y = .agg ys
    · obtain ⟨xs, ys, rfl, rfl⟩ := hag
      cases hx with
      | agg _ cx hvx =>
      cases hy with
      | agg _ cy hvy =>
      simp only [eqV] at h
      split at h
      · rename_i fs hdesc
        cases hok : (C.ti t).eqok with
        | false => simp only [hok, cond_false] at h; cases h
        | true =>
          simp only [hok, cond_true] at h
          have hu : P.underlying t = some (.struct fs) := by rw [F.under, hdesc]
          have hfs : P.fieldsOf t = fs := by simp [Program.fieldsOf, hu]
          rw [run_equalIn_struct w d t cx cy (by rw [hfs]; exact hu) (F.eqok hok).2, hfs]
          generalize fs.toList = l at h
          clear hu hfs hdesc hok leaf F hF
          induction l generalizing r with
          | nil => cases h; rfl
          | cons f l ihl =>
            simp only [eqFs] at h
            cases hnm : f.name == "_" with
            | true => simp only [hnm, cond_true] at h; cases h
            | false =>
              simp only [hnm, cond_false] at h
              split at h
              · cases h
              · rename_i u hp
                split at h
                · cases h
                · rename_i v hq
                  obtain ⟨r1, r2, e1, e2, rfl⟩ := andO_some h
                  obtain ⟨va, k1, k2⟩ := run_partV (P := P) (w := w) (partV_facts L hp) (hvx.drop f.offset) hp
                  obtain ⟨vb, k3, k4⟩ := run_partV (P := P) (w := w) (partV_facts L hq) (hvy.drop f.offset) hq
                  have k5 := ihe f.type _ u u v r1 hp e1 k1 k3
                  have hne : f.name ≠ "_" := by simpa using hnm
                  simp only [Op.eqFields, hne, ne_eq, not_false_eq_true, if_true, Sem.run_bind, k2, k4, k5, Result.andThen_ok]
                  cases r1 with
                  | false => simp
                  | true => simp only [Bool.not_true, Bool.false_eq_true, if_false, Bool.true_and]; exact ihl r2 e2
      · rename_i len e hdesc
        have hu : P.underlying t = some (.array len e) := by rw [F.under, hdesc]
        cases hz : Nat.beq (C.ti e).size 0 with
        | true => simp only [hz, cond_true] at h; cases h
        | false =>
          simp only [hz, cond_false] at h
          have Fe := L.get (t := e) (.inr fun e' => by rw [e'] at hz; cases hz)
          obtain ⟨i, i1, i2, _, _⟩ := Fe.info
          have hc : P.cellsOf e = (C.ti e).size := by simp [Program.cellsOf, i1, i2]
          rw [run_equalIn_array w d cx cy hu i1, hc]
          generalize List.range len = l at h
          clear hu hdesc leaf F hF
          induction l generalizing r with
          | nil => cases h; rfl
          | cons j l ihl =>
            simp only [eqIs] at h
            split at h
            · cases h
            · rename_i u hp
              split at h
              · cases h
              · rename_i v hq
                obtain ⟨r1, r2, e1, e2, rfl⟩ := andO_some h
                obtain ⟨va, k1, k2⟩ := run_partV (P := P) (w := w) (partV_facts L hp) (hvx.drop (j * (C.ti e).size)) hp
                obtain ⟨vb, k3, k4⟩ := run_partV (P := P) (w := w) (partV_facts L hq) (hvy.drop (j * (C.ti e).size)) hq
                have k5 := ihe e _ u u v r1 hp e1 k1 k3
                simp only [Op.eqItems, Sem.run_bind, k2, k4, k5, Result.andThen_ok]
                cases r1 with
                | false => simp
                | true => simp only [Bool.not_true, Bool.false_eq_true, if_false, Bool.true_and]; exact ihl r2 e2
      · cases h
    · exact leaf fun xs ys hh => hag ⟨xs, ys, hh⟩
end
end Go.Ev
