/- slices.Insert of one element, as the evaluator takes it. -/
import Derived.Test.YtmkomfhnomnbiaaEvTake
set_option linter.unusedVariables false
set_option linter.unusedSimpArgs false
namespace Go.Ev

def insL {α : Type} (xs : List α) (i : Nat) (x : α) : List α := xs.take i ++ x :: xs.drop i

def sIns (t : Ty) : Sm := fun args H K =>
  match args with
  | [.obj id ver, .int .i64 i, .obj id2 ver2] =>
    match H[id]? with
    | some (.sl v1 t1 xs) =>
      match H[id2]? with
      | some (.sl v2 t2 ys) =>
        if e1 : t1 = t then
          if e2 : t2 = t then
            match (e2 ▸ ys : List t.den) with
            | [x] => bif Nat.beq ver v1 && (Nat.beq ver2 v2 && !Nat.beq id id2) then
                cond (decide (0 ≤ i) && (decide (i ≤ ((e1 ▸ xs : List t.den).length : Int)) && decide (((e1 ▸ xs : List t.den).length + 1) * 64 ≤ 140737488355328)))
                  (K (.obj H.length 0) (kill H [id] ++ [.sl 0 t (insL (e1 ▸ xs : List t.den) i.toNat x)])) False
              else False
            | _ => False
          else False
        else False
      | _ => False
    | _ => False
  | _ => False

theorem sIns_local (t : Ty) : LocalS (sIns t) := by
  intro v r H K h
  unfold sIns at h ⊢
  split at h
  · rename_i id ver i id2 ver2 heq
    cases heq
    simp only
    cases hid : H[id]? with
    | none => simp only [hid] at h
    | some o =>
      cases o with
      | sl v1 t1 xs =>
        cases hid2 : H[id2]? with
        | none => simp only [hid, hid2] at h
        | some o2 =>
          cases o2 with
          | sl v2 t2 ys =>
            simp only [hid, hid2] at h ⊢
            by_cases e1 : t1 = t
            · subst e1
              by_cases e2 : t2 = t1
              · subst e2
                simp only [dif_pos] at h ⊢
                cases ys with
                | nil => exact h.elim
                | cons x ys =>
                  cases ys with
                  | cons _ _ => exact h.elim
                  | nil =>
                    simp only at h ⊢
                    cases hq : (Nat.beq ver v1 && (Nat.beq ver2 v2 && !Nat.beq id id2)) with
                    | false => simp only [hq, cond_false] at h
                    | true =>
                      simp only [hq, cond_true] at h ⊢
                      cases hc : (decide (0 ≤ i) && (decide (i ≤ (xs.length : Int)) && decide ((xs.length + 1) * 64 ≤ 140737488355328))) with
                      | false => simp only [hc, cond_false] at h
                      | true =>
                        simp only [hc, cond_true] at h ⊢
                        exact ⟨h, .of fun j => kill_boxes H _ j [id] (fun k hk => by
                          simp only [List.mem_singleton] at hk
                          subst hk
                          exact ⟨_, .sl 0 t2 xs, hid, .inl ⟨_, _, _, rfl, rfl⟩⟩)⟩
              · simp only [dif_neg e2] at h
                split at h <;> exact h.elim
            · simp only [dif_neg e1] at h
          | _ => simp only [hid, hid2] at h
      | _ => simp only [hid] at h
  · exact h.elim
end Go.Ev
