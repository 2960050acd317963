/- One contract for a function that is handed one of two others. -/
import Derived.Test.YtfdalaakechldaaEvLem
set_option linter.unusedVariables false
namespace Go.Ev
/-- One contract for a function that is handed one of two others. -/
def semTwo (i : Nat) (f : FuncId) (S1 S2 : Sm) : Sm := fun args hs K =>
  match args[i]? with
  | some (.fn g []) => bif Nat.beq g f then S1 args hs K else S2 args hs K
  | _ => False
theorem fnOk_two {P : Program} {k : FuncId} {i : Nat} {f : FuncId} {S1 S2 : Sm} (h1 : FnOk P k S1) (h2 : FnOk P k S2) : FnOk P k (semTwo i f S1 S2) := by
  intro args K hk
  unfold semTwo at hk ⊢
  split at hk
  · rename_i g e
    cases hb : Nat.beq g f with
    | true =>
      rw [hb] at hk
      obtain ⟨v, a, b, c⟩ := h1 args K hk
      exact ⟨v, a, fun K' h' => by simp only [e, hb, cond_true]; exact b K' h', c⟩
    | false =>
      rw [hb] at hk
      obtain ⟨v, a, b, c⟩ := h2 args K hk
      exact ⟨v, a, fun K' h' => by simp only [e, hb, cond_false]; exact b K' h', c⟩
  · exact hk.elim
end Go.Ev
