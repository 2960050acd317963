/- A law's arguments, read as plain values; and the frame of a law's row. -/
import Derived.Test.YtfdalaakechldaaEvUse
import Derived.ProofKit
import Derived.Below
import Derived.Carry
import Derived.ChangeOld
set_option linter.unusedVariables false
set_option linter.unusedSimpArgs false
namespace Go.Ev
open Go.WideShapes Go.RowKit

mutual
/-- The program's type is laid as the plain one. -/
def tyFits (P : Program) : Nat → TypeId → Ty → Bool
  | 0, _, _ => false
  | n + 1, T, t =>
    match P.underlying T, t with
    | some .bool, .bool => true
    | some (.int k), .int k' => k == k'
    | some (.float k), .float k' => k == k'
    | some .string, .str => true
    | some (.slice e), .slice t => Nat.beq (P.cellsOf e) t.size && !Nat.beq t.size 0 && tyFits P n e t
    | some (.struct fs), t => Nat.beq (P.cellsOf T) t.size && fieldsFit P n fs.toList 0 t
    | some (.array m e), t => Nat.beq (P.cellsOf T) t.size && elemsFit P n e m 0 t
    | _, _ => false
def fieldsFit (P : Program) : Nat → List Field → Nat → Ty → Bool
  | 0, _, _, _ => false
  | _ + 1, [], _, _ => false
  | n + 1, [f], off, t => Nat.beq f.offset off && Nat.beq (P.cellsOf f.type) t.size && tyFits P n f.type t
  | n + 1, f :: r, off, .pair a b => Nat.beq f.offset off && Nat.beq (P.cellsOf f.type) a.size && tyFits P n f.type a && fieldsFit P n r (off + a.size) b
  | _ + 1, _ :: _ :: _, _, _ => false
def elemsFit (P : Program) : Nat → TypeId → Nat → Nat → Ty → Bool
  | 0, _, _, _, _ => false
  | _ + 1, _, 0, _, _ => false
  | n + 1, e, 1, i, t => Nat.beq (P.cellsOf e) t.size && tyFits P n e t
  | n + 1, e, m + 2, i, .pair a b => Nat.beq (P.cellsOf e) a.size && tyFits P n e a && elemsFit P n e (m + 1) (i + 1) b
  | _ + 1, _, _ + 2, _, _ => false
end

def memOf (W : World) : Mem := fun b => match W.heap[b]? with | some (.cells c _ _) => some c.toList | _ => none
theorem memOf_ok (W : World) : MemOk (memOf W) W := by
  intro b cs h
  unfold memOf at h
  split at h
  · rename_i c T fz hc
    cases h
    exact ⟨c, T, fz, hc, rfl⟩
  · cases h

theorem mapM_range {α : Type} (f : Nat → Option α) : ∀ (n : Nat) (xs : List α), (List.range n).mapM f = some xs → xs.length = n ∧ ∀ i, i < n → ∃ x, xs[i]? = some x ∧ f i = some x := by
  have gen : ∀ (l : List Nat) (xs : List α), l.mapM f = some xs → xs.length = l.length ∧ ∀ (i : Nat) (j : Nat), l[i]? = some j → ∃ x, xs[i]? = some x ∧ f j = some x := by
    intro l
    induction l with
    | nil => intro xs h; simp at h; subst h; simp
    | cons j l ih =>
      intro xs h
      simp only [List.mapM_cons, Option.bind_eq_bind, Option.bind_eq_some_iff, Option.pure_def] at h
      obtain ⟨x, hx, ys, hys, e⟩ := h
      cases e
      obtain ⟨h1, h2⟩ := ih ys hys
      refine ⟨by simp [h1], ?_⟩
      intro i k hk
      cases i with
      | zero => simp at hk; subst hk; exact ⟨x, rfl, hx⟩
      | succ i => exact h2 i k (by simpa using hk)
  intro n xs h
  obtain ⟨h1, h2⟩ := gen _ xs h
  refine ⟨by simpa using h1, fun i hi => h2 i i ?_⟩
  simp [List.getElem?_range, hi]

theorem cells?_some {W : World} {base : Nat} {a : Addr} {n : Nat} {cs : List Value} (h : W.cells? base a n = some cs) : cs.length = n ∧ ∀ i, i < n → ∃ c, cs[i]? = some c ∧ W.cell? (a.add i) = some c := by
  unfold World.cells? at h
  split at h
  · exact mapM_range _ n cs h
  · cases h

theorem addr_spot {W : World} {a : Addr} {c : Value} (h : W.cell? a = some c) : a.spot = none := by
  unfold World.cell? at h
  split at h
  · cases e : a.spot with
    | none => rfl
    | some s => simp [e] at h
  · cases h

theorem canon_fix (k : FloatKind) (b : Nat) : canon k (canon k b) = canon k b := canon_canon k b

section
variable {H : Type} {en : TypeId × Value → H} {P : Program} {W : World} {base : Nat} {sp : Nat → Bool} {held : Bool}

/-- A row of elements that read well, as a list of plain values. -/
theorem row_plain {t : Ty} (Q : Nat → t.den → Prop) : ∀ n, (∀ i, i < n → ∃ x, Q i x) → ∃ xs : List t.den, xs.length = n ∧ ∀ i x, xs[i]? = some x → Q i x := by
  intro n
  induction n with
  | zero => intro _; exact ⟨[], rfl, by simp⟩
  | succ n ih =>
    intro h
    obtain ⟨xs, h1, h2⟩ := ih fun i hi => h i (by omega)
    obtain ⟨y, hy⟩ := h n (by omega)
    refine ⟨xs ++ [y], by simp [h1], ?_⟩
    intro i x hx
    rw [getElem?_snoc] at hx
    split at hx
    · exact h2 i x hx
    · split at hx
      · rename_i e; cases hx; rw [e, h1]; exact hy
      · cases hx

theorem read_sound : ∀ (fuel : Nat) (T : TypeId) (cs : List Value) (d : DataW H × List MemPlace), DataW.trod en P W base sp held fuel T cs = some d →
    ∀ (n : Nat) (t : Ty), tyFits P n T t = true → ∃ x : t.den, VRs [] (memOf W) (enc t x) cs ∧ Wf t x := by
  intro fuel
  induction fuel with
  | zero => intro T cs d h; simp [DataW.trod] at h
  | succ fuel ih =>
    intro T cs d h n t hf
    -- a struct's fields, an array's elements, one behind the other
    have flds : ∀ (n : Nat) (fs : List Field) (off : Nat) (t : Ty), fieldsFit P n fs off t = true → ∀ (xs : List (DataW H × List MemPlace)),
        fs.mapM (fun f => DataW.trod en P W base sp held fuel f.type ((cs.drop f.offset).take (P.cellsOf f.type))) = some xs → ∃ x : t.den, VRs [] (memOf W) (enc t x) ((cs.drop off).take t.size) ∧ Wf t x := by
      intro n
      induction n with
      | zero => intro fs off t hf; simp [fieldsFit] at hf
      | succ n ihn =>
        intro fs off t hf xs hx
        match fs, hf, hx with
        | [], hf, _ => simp [fieldsFit] at hf
        | [f], hf, hx =>
          simp only [fieldsFit, Bool.and_eq_true] at hf
          simp only [List.mapM_cons, List.mapM_nil, Option.bind_eq_bind, Option.bind_eq_some_iff] at hx
          obtain ⟨y, hy, _⟩ := hx
          rw [beq_true hf.1.1, beq_true hf.1.2] at hy
          exact ih _ _ _ hy n t hf.2
        | f :: f2 :: r, hf, hx =>
          cases t with
          | pair a b =>
            simp only [fieldsFit, Bool.and_eq_true] at hf
            rw [List.mapM_cons] at hx
            simp only [Option.bind_eq_bind, Option.bind_eq_some_iff] at hx
            obtain ⟨y, hy, ys, hys, _⟩ := hx
            rw [beq_true hf.1.1.1, beq_true hf.1.1.2] at hy
            obtain ⟨x1, h1, w1⟩ := ih _ _ _ hy n a hf.1.2
            obtain ⟨x2, h2, w2⟩ := ihn (f2 :: r) (off + a.size) b hf.2 ys hys
            refine ⟨(x1, x2), ?_, w1, w2⟩
            simp only [enc, Ty.size]
            rw [List.take_add, List.drop_drop]
            exact h1.append h2
          | _ => simp [fieldsFit] at hf
    have elems : ∀ (n : Nat) (e : TypeId) (m i : Nat) (t : Ty), elemsFit P n e m i t = true → (∀ j, i ≤ j → j < i + m → ∃ y, DataW.trod en P W base sp held fuel e ((cs.drop (j * P.cellsOf e)).take (P.cellsOf e)) = some y) →
        ∃ x : t.den, VRs [] (memOf W) (enc t x) ((cs.drop (i * P.cellsOf e)).take t.size) ∧ Wf t x := by
      intro n
      induction n with
      | zero => intro e m i t hf; simp [elemsFit] at hf
      | succ n ihn =>
        intro e m i t hf hx
        match m, hf, hx with
        | 0, hf, _ => simp [elemsFit] at hf
        | 1, hf, hx =>
          simp only [elemsFit, Bool.and_eq_true] at hf
          obtain ⟨y, hy⟩ := hx i (Nat.le_refl _) (by omega)
          obtain ⟨x, h1, w1⟩ := ih _ _ _ hy n t hf.2
          rw [beq_true hf.1] at h1 ⊢
          exact ⟨x, h1, w1⟩
        | m + 2, hf, hx =>
          cases t with
          | pair a b =>
            simp only [elemsFit, Bool.and_eq_true] at hf
            obtain ⟨y, hy⟩ := hx i (Nat.le_refl _) (by omega)
            obtain ⟨x1, h1, w1⟩ := ih _ _ _ hy n a hf.1.2
            obtain ⟨x2, h2, w2⟩ := ihn e (m + 1) (i + 1) b hf.2 fun j hj1 hj2 => hx j (by omega) (by omega)
            refine ⟨(x1, x2), ?_, w1, w2⟩
            simp only [enc, Ty.size]
            rw [List.take_add, List.drop_drop]
            rw [beq_true hf.1.1] at h1 h2 ⊢
            rw [Nat.succ_mul] at h2
            exact h1.append h2
          | _ => simp [elemsFit] at hf
    cases n with
    | zero => simp [tyFits] at hf
    | succ n =>
      unfold tyFits at hf
      cases hu : P.underlying T with
      | none => simp [hu] at hf
      | some u =>
        rw [hu] at hf
        have single : ∀ {R : Prop}, (∀ c, cs = [c] → R) → (cs = [] → R) → ((∃ a b r, cs = a :: b :: r) → R) → R := by
          intro R h1 h2 h3
          rcases cs with _ | ⟨c, _ | ⟨c2, r⟩⟩
          · exact h2 rfl
          · exact h1 c rfl
          · exact h3 ⟨_, _, _, rfl⟩
        have hstruct : ∀ fs, u = .struct fs → ∃ x : t.den, VRs [] (memOf W) (enc t x) cs ∧ Wf t x := by
          rintro fs rfl
          simp only [Bool.and_eq_true] at hf
          have h' := h
          simp only [DataW.trod, hu] at h'
          split at h'
          · rename_i hl
            simp only [Option.map_eq_some_iff] at h'
            obtain ⟨xs, hxs, _⟩ := h'
            obtain ⟨x, h1, h2⟩ := flds n fs.toList 0 t hf.2 xs hxs
            refine ⟨x, ?_, h2⟩
            rw [List.drop_zero, List.take_of_length_le (by rw [hl, beq_true hf.1]; exact Nat.le_refl _)] at h1
            exact h1
          · cases h'
        have harr : ∀ m e, u = .array m e → ∃ x : t.den, VRs [] (memOf W) (enc t x) cs ∧ Wf t x := by
          rintro m e rfl
          simp only [Bool.and_eq_true] at hf
          have h' := h
          simp only [DataW.trod, hu] at h'
          split at h'
          · rename_i hl
            simp only [Option.map_eq_some_iff] at h'
            obtain ⟨xs, hxs, _⟩ := h'
            obtain ⟨_, hel⟩ := mapM_range _ m xs hxs
            obtain ⟨x, h1, h2⟩ := elems n e m 0 t hf.2 fun j _ hj => by
              obtain ⟨y, _, hy⟩ := hel j (by omega)
              exact ⟨y, hy⟩
            refine ⟨x, ?_, h2⟩
            rw [Nat.zero_mul, List.drop_zero, List.take_of_length_le (by rw [hl, beq_true hf.1]; exact Nat.le_refl _)] at h1
            exact h1
          · cases h'
        cases u
        case struct fs => exact hstruct fs rfl
        case array m e => exact harr m e rfl
        all_goals cases t <;> simp only at hf <;> try (cases hf; done)
        · -- bool
          refine single ?_ ?_ ?_
          · rintro c rfl
            cases c <;> simp [DataW.trod, hu] at h
            rename_i b
            exact ⟨b, .cons (.bool b) .nil, trivial⟩
          · rintro rfl; simp [DataW.trod, hu] at h
          · rintro ⟨a, b, r, rfl⟩; simp [DataW.trod, hu] at h
        · -- int
          rename_i k k'
          have hk : k = k' := by simpa using hf
          subst hk
          refine single ?_ ?_ ?_
          · rintro c rfl
            cases c <;> simp [DataW.trod, hu] at h
            rename_i k2 m
            obtain ⟨⟨rfl, hw⟩, _⟩ := h
            refine ⟨m, .cons (.int _ m (by simpa [Lit.wf] using hw)) .nil, ?_⟩
            simpa [Lit.wf, Wf] using hw
          · rintro rfl; simp [DataW.trod, hu] at h
          · rintro ⟨a, b, r, rfl⟩; simp [DataW.trod, hu] at h
        · -- float
          rename_i k k'
          have hk : k = k' := by simpa using hf
          subst hk
          refine single ?_ ?_ ?_
          · rintro c rfl
            cases c <;> simp [DataW.trod, hu] at h
            rename_i k2 m
            obtain ⟨⟨rfl, hw⟩, _⟩ := h
            have hlt : m < 2 * signOf k2 := by
              cases k2 <;> simpa [Lit.wf, signOf] using hw
            exact ⟨canon k2 m, .cons (.float _ _ m hlt rfl) .nil, canon_lt hlt, canon_canon k2 m⟩
          · rintro rfl; simp [DataW.trod, hu] at h
          · rintro ⟨a, b, r, rfl⟩; simp [DataW.trod, hu] at h
        · -- string
          refine single ?_ ?_ ?_
          · rintro c rfl
            cases c <;> simp [DataW.trod, hu] at h
            rename_i s
            have hsz : s.data.toList.length ≤ 9223372036854775807 := by have := h.1; rw [size_eq_length] at this; exact this
            exact ⟨s.data.toList, .cons (.str s _ rfl hsz) .nil, hsz⟩
          · rintro rfl; simp [DataW.trod, hu] at h
          · rintro ⟨a, b, r, rfl⟩; simp [DataW.trod, hu] at h
        · -- slice
          rename_i e t
          simp only [Bool.and_eq_true] at hf
          have hsz := beq_true hf.1.1
          have hpos : t.size ≠ 0 := fun e => by have := hf.1.2; rw [e] at this; cases this
          refine single ?_ ?_ ?_
          · rintro c rfl
            cases c <;> try (simp [DataW.trod, hu] at h; done)
            rename_i ad len cap
            cases ad with
            | none =>
              cases len <;> cases cap <;> simp [DataW.trod, hu] at h
              exact ⟨[], .cons (.vecnil t none 0) .nil, by simp [maxLen], by simp⟩
            | some ad =>
              simp only [DataW.trod, hu] at h
              split at h
              · rename_i hc
                obtain ⟨hc1, hc2, hc3⟩ := hc
                simp only [Option.bind_eq_some_iff] at h
                obtain ⟨els, hels, _⟩ := h
                obtain ⟨hl, hel⟩ := mapM_range _ len els hels
                have each : ∀ i, i < len → ∃ x : t.den, (∃ cc : List Value, cc.length = t.size ∧ (∀ j, j < t.size → ∃ c, cc[j]? = some c ∧ W.cell? ((ad.add (i * t.size)).add j) = some c) ∧ VRs [] (memOf W) (enc t x) cc) ∧ Wf t x := by
                  intro i hi
                  obtain ⟨y, _, hy⟩ := hel i hi
                  simp only [Option.bind_eq_some_iff] at hy
                  obtain ⟨cc, hcc, hy⟩ := hy
                  obtain ⟨x, h1, h2⟩ := ih e cc y hy n t hf.2
                  obtain ⟨l1, l2⟩ := cells?_some hcc
                  rw [hsz] at l1 l2
                  exact ⟨x, ⟨cc, l1, l2, h1⟩, h2⟩
                obtain ⟨xs, hxs, hq⟩ := row_plain (t := t) _ len each
                have hwf : Wf (.slice t) xs := by
                  refine ⟨by omega, fun x hx => ?_⟩
                  obtain ⟨i, hi⟩ := List.mem_iff_getElem?.1 hx
                  exact (hq i x hi).2
                by_cases hz : len = 0
                · subst hz
                  have : xs = [] := List.length_eq_zero_iff.1 hxs
                  subst this
                  exact ⟨[], .cons (.vecnil t (some ad) cap) .nil, hwf⟩
                · refine ⟨xs, .cons ?_ .nil, hwf⟩
                  -- the elements lie in one row
                  obtain ⟨⟨cc0, _, l20, _⟩, _⟩ := hq 0 _ (List.getElem?_eq_getElem (show 0 < xs.length by omega))
                  obtain ⟨c0, _, hc0⟩ := l20 0 (by omega)
                  simp only [Nat.zero_mul, Addr.add_zero'] at hc0
                  have hspot := addr_spot hc0
                  obtain ⟨b, o, spot⟩ := ad
                  subst hspot
                  have hrow : ∃ c T fz, W.heap[b]? = some (.cells c T fz) := by
                    unfold World.cell? at hc0
                    split at hc0
                    · rename_i c T fz hh; exact ⟨c, T, fz, hh⟩
                    · cases hc0
                  obtain ⟨row, TT, fz, hrow⟩ := hrow
                  refine .vec t xs b o len cap row.toList (by simp [memOf, hrow]) ⟨hxs.symm, by have : maxLen = 9223372036854775807 := rfl; omega⟩ hc2 ?_
                  intro i x hx
                  obtain ⟨⟨cc, l1, l2, hv⟩, _⟩ := hq i x hx
                  have : (row.toList.drop (o + i * t.size)).take t.size = cc := by
                    apply List.ext_getElem?
                    intro j
                    rw [List.getElem?_take]
                    split
                    · rename_i hj
                      obtain ⟨c, hc1', hc2'⟩ := l2 j hj
                      rw [hc1', List.getElem?_drop]
                      simp only [Addr.add_lit] at hc2'
                      rw [cell?_row hrow] at hc2'
                      simpa using hc2'
                    · rename_i hj
                      rw [List.getElem?_eq_none (by omega)]
                  rw [this]
                  exact hv
              · cases h
          · rintro rfl; simp [DataW.trod, hu] at h
          · rintro ⟨a, b, r, rfl⟩; simp [DataW.trod, hu] at h

/-! ### a law's arguments -/
def atFits (P : Program) (T : TypeId) : AT → Bool
  | .cell t => tyFits P 60 T t && Nat.beq t.size 1 && (match P.underlying T with | some (.struct _) => false | some (.array _ _) => false | _ => true)
  | .agg t => tyFits P 60 T t && (match P.underlying T with | some (.struct _) => true | some (.array _ _) => true | _ => false)
  | .fn _ => false
  | .ref _ => false
  | .clo _ _ => false
  | .refp _ => false
  | .nothing => false

theorem arg_sound {r : Reach} {T : TypeId} {v : Value} {d : DataW H} {ps : List MemPlace} (hok : Value.okWide P W r base T v) (h : DataW.Trod en P W 0 sp held T v d ps) (a : AT) (hf : atFits P T a = true) :
    ∃ x : a.den, VR [] (memOf W) (encA a x) v ∧ WfA a x := by
  obtain ⟨fuel, h⟩ := h
  cases a with
  | fn f => simp [atFits] at hf
  | ref t => simp [atFits] at hf
  | clo f t => simp [atFits] at hf
  | refp t => simp [atFits] at hf
  | nothing => simp [atFits] at hf
  | agg t =>
    simp only [atFits, Bool.and_eq_true] at hf
    obtain ⟨x, h1, h2⟩ := read_sound fuel T _ _ h 60 t hf.1
    refine ⟨x, ?_, h2⟩
    have : ∃ cs, v = .agg cs := by
      unfold Value.okWide at hok
      cases hu : P.underlying T with
      | none => rw [hu] at hf; exact absurd hf.2 (by simp)
      | some u =>
        rw [hu] at hf hok
        cases u <;> simp only at hf hok <;> try (cases hf.2; done)
        · obtain ⟨cs, e, _⟩ := hok; exact ⟨cs, e⟩
        · obtain ⟨cs, e, _⟩ := hok; exact ⟨cs, e⟩
    obtain ⟨cs, rfl⟩ := this
    exact .agg _ cs h1
  | cell t =>
    simp only [atFits, Bool.and_eq_true] at hf
    obtain ⟨x, h1, h2⟩ := read_sound fuel T _ _ h 60 t hf.1.1
    refine ⟨x, ?_, h2⟩
    have hs := beq_true hf.1.2
    have hl := h1.length
    rw [enc_length, hs] at hl
    have hv : v.cells = #[v] := by
      cases v with
      | agg cs =>
        exfalso
        unfold Value.okWide at hok
        have ht := hf.1.1
        unfold tyFits at ht
        cases hu : P.underlying T with
        | none => rw [hu] at ht; simp at ht
        | some u =>
          rw [hu] at ht hok hf
          cases u <;> cases t <;> simp only at ht hok hf <;> first | (cases ht; done) | (cases hf.2; done) | (simp [Cell.okWide, Cell.ok, hu] at hok; done)
      | _ => rfl
    rw [hv] at h1
    simp only [encA]
    cases e : enc t x with
    | nil => have := enc_length t x; rw [e, hs] at this; simp at this
    | cons u us =>
      rw [e] at h1
      cases h1 with
      | cons p q => exact p

/-- A program without tables. -/
theorem gamOk_none {P : Program} (h1 : P.globalNamed "internal/strconv.uint64pow10" = none) (h2 : usesIndex P = false) (M : Mem) : GamOk P M := by
  refine ⟨fun k hk => ?_, fun k hu hk => ?_⟩
  · rw [h1] at hk; cases hk
  · rw [h2] at hu; cases hu

/-- Of a law it is asked that it answers true. -/
theorem law_calls {k : FuncId} {fn : Func} {S : Sm} (hS : FnOk P k S) (hf : P.funcs[k]? = some fn) (hb : fn.body.isSome = true) (hn : (fn.name == "runtime.NumGoroutine") = false) {args : List V} {cargs : List Value}
    (h : S args [] (fun v hs => v = .bool true)) (hv : VRs [] (memOf W) args cargs) (hG : GamOk P (memOf W)) : Calls P k cargs.toArray W fun e W' => e = .returned (.bool true) ∧ Below W.heap.size W W' := by
  obtain ⟨v, rfl, _, h3⟩ := hS args _ h
  rcases h3 W (memOf W) cargs hv (memOf_ok W) hG with ⟨u, w', h1, _⟩ | ⟨_, h2⟩
  · exfalso
    have hn' : ¬ fn.name = "runtime.NumGoroutine" := by simpa using hn
    have hb' : ¬ fn.body = none := by intro e; rw [e] at hb; cases hb
    simp [callFunc, hf, hn', hb'] at h1
  · refine h2.mono ?_
    rintro e w' ⟨u, rfl, M', k1, k2, k3⟩
    cases k1
    exact ⟨rfl, ⟨k3.os, k3.tape, k3.output, k3.size, k3.keep⟩⟩
end
end Go.Ev
