/- Comparing strings, as Go's library does it. -/
import Derived.Test.YtmkomfhnomnbiaaEvExt
import Derived.Lib.Bytealg
set_option linter.unusedVariables false
set_option linter.unusedSimpArgs false
namespace Go.Ev

def cmpB (a b : List UInt8) : Int := Lib.compareBytes a b

theorem cmp_cons (a b : UInt8) (as bs : List UInt8) : cmpB (a :: as) (b :: bs) = if a < b then -1 else if b < a then 1 else cmpB as bs := rfl
theorem less_cons (a b : UInt8) (as bs : List UInt8) : Op.bytesLess (a :: as) (b :: bs) = (decide (a < b) || (a == b && Op.bytesLess as bs)) := rfl
theorem u8_tri (a b : UInt8) : (a < b ∧ ¬ b < a ∧ a ≠ b) ∨ (¬ a < b ∧ b < a ∧ a ≠ b) ∨ (¬ a < b ∧ ¬ b < a ∧ a = b) := by
  simp only [UInt8.lt_iff_toNat_lt, ne_eq, ← UInt8.toNat_inj]
  omega

theorem cmp_less : ∀ (a b : List UInt8), decide (cmpB a b < 0) = Op.bytesLess a b
  | [], [] => rfl
  | [], _ :: _ => rfl
  | _ :: _, [] => rfl
  | a :: as, b :: bs => by
    have := cmp_less as bs
    rw [cmp_cons, less_cons]
    rcases u8_tri a b with ⟨h1, h2, h3⟩ | ⟨h1, h2, h3⟩ | ⟨h1, h2, h3⟩
    · simp [h1]
    · simp [h1, h2, h3]
    · subst h3; simp [h1, this]

theorem cmp_zero : ∀ (a b : List UInt8), decide (cmpB a b = 0) = (a == b)
  | [], [] => rfl
  | [], _ :: _ => rfl
  | _ :: _, [] => rfl
  | a :: as, b :: bs => by
    have := cmp_zero as bs
    rw [cmp_cons]
    rcases u8_tri a b with ⟨h1, h2, h3⟩ | ⟨h1, h2, h3⟩ | ⟨h1, h2, h3⟩
    · simp [h1, h3]
    · simp [h1, h2, h3]
    · subst h3; simp [h1, this]

theorem less_trans : ∀ {a b c : List UInt8}, Op.bytesLess a b = true → Op.bytesLess b c = true → Op.bytesLess a c = true
  | [], [], _, h, _ => by cases h
  | [], _ :: _, [], _, h => by cases h
  | [], _ :: _, _ :: _, _, _ => rfl
  | _ :: _, [], _, h, _ => by cases h
  | _ :: _, _ :: _, [], _, h => by cases h
  | a :: as, b :: bs, c :: cs, h, h' => by
    rw [less_cons] at h h' ⊢
    simp only [Bool.or_eq_true, decide_eq_true_eq, Bool.and_eq_true, beq_iff_eq] at h h' ⊢
    rcases h with h | ⟨rfl, h⟩
    · rcases h' with h' | ⟨rfl, h'⟩
      · exact .inl (UInt8.lt_trans h h')
      · exact .inl h
    · rcases h' with h' | ⟨rfl, h'⟩
      · exact .inl h'
      · exact .inr ⟨rfl, less_trans h h'⟩
theorem less_irrefl : ∀ (a : List UInt8), Op.bytesLess a a = false
  | [] => rfl
  | a :: as => by rw [less_cons, less_irrefl as]; simp
theorem cmp_tri : ∀ (a b : List UInt8), ¬ cmpB a b < 0 → ¬ cmpB a b = 0 → Op.bytesLess b a = true
  | [], [], _, h => absurd rfl h
  | [], _ :: _, h, _ => absurd (show (-1 : Int) < 0 by decide) h
  | _ :: _, [], _, _ => rfl
  | a :: as, b :: bs, h, h' => by
    rw [cmp_cons] at h h'
    rw [less_cons]
    rcases u8_tri a b with ⟨h1, h2, h3⟩ | ⟨h1, h2, h3⟩ | ⟨h1, h2, h3⟩
    · simp [h1] at h
    · simp [h2]
    · subst h3
      simp only [h1, if_false] at h h'
      simp [cmp_tri as bs h h']

def sCmp : Sm := fun args hs K =>
  match args with
  | [.str a, .str b] => K (.int .i64 (cmpB a b)) hs
  | _ => False

theorem cmpB_range : ∀ (a b : List UInt8), -1 ≤ cmpB a b ∧ cmpB a b ≤ 1
  | [], [] => by decide
  | [], _ :: _ => by simp [cmpB, Lib.compareBytes]
  | _ :: _, [] => by simp [cmpB, Lib.compareBytes]
  | a :: as, b :: bs => by
    have := cmpB_range as bs
    rw [cmp_cons]
    split
    · omega
    · split <;> omega

theorem ok_cmp {P : Program} {k : FuncId} {fn : Func} (hf : P.funcs[k]? = some fn) (hname : (fn.name == "runtime.NumGoroutine") = false)
    (hb : fn.body.isNone = true) (hn : Extern.findNext fn = none) (he : Extern.find fn = some Extern.BytealgCompare.compare) : FnOk P k sCmp := by
  refine fnOk_ext hf hname hb hn he ?_
  intro args K h
  unfold sCmp at h
  split at h
  · rename_i x y
    refine ⟨_, h, fun K' h' => h', ?_⟩
    intro w M cargs hv
    cases hv with
    | cons a r =>
    cases r with
    | cons b r =>
    cases r
    cases a with
    | str s _ es hs =>
    cases b with
    | str s' _ es' hs' =>
    refine ⟨_, w, Lib.run_compareString s s' w, Drawn.refl w, ?_⟩
    rw [es, es']
    have := cmpB_range x y
    have e1 : IntKind.i64.min = -9223372036854775808 := rfl
    have e2 : IntKind.i64.max = 9223372036854775807 := rfl
    exact .int _ _ (show IntKind.i64.min ≤ cmpB x y ∧ cmpB x y ≤ IntKind.i64.max by omega)
  · exact h.elim
end Go.Ev
