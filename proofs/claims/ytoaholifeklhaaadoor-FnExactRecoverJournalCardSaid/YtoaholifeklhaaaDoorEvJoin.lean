/- strings.Join, as the evaluator takes it. -/
import Derived.Test.YtoaholifeklhaaaDoorEvUse
import Derived.Shelf.Strings.OnBuilder
set_option linter.unusedVariables false
set_option linter.unusedSimpArgs false
namespace Go.Ev
open Go.Shelf Go.Proofs Go.RowKit

def joinL (xs : List (List UInt8)) (sep : List UInt8) : List UInt8 := Lib.join xs sep
def sJoin : Sm := fun args hs K =>
  match args with
  | [.vec .str xs, .str sep] => cond (decide (xs.length ≤ 140737488355328) && decide ((joinL xs sep).length ≤ 140737488355328)) (K (.str (joinL xs sep)) hs) False
  | _ => False

theorem mk_str (s : ByteArray) {l : List UInt8} (h : s.data.toList = l) : (⟨l.toArray⟩ : ByteArray) = s := by
  subst h
  cases s
  simp

theorem str_enc {g : List G} {M : Mem} {x : List UInt8} {cs : List Value} (h : VRs g M (enc .str x) cs) : cs = [.string ⟨x.toArray⟩] := by
  cases h with
  | cons a b =>
    cases b
    cases a with
    | str s _ e _ => rw [mk_str s e]

theorem below_frame {w w' : World} {M : Mem} (h : Below w.heap.size w w') : Frame0 w w' M M :=
  ⟨h.size, h.block, fun _ _ h => h, fun _ _ h => .inl h, h.os, h.tape, h.output⟩

theorem frame_memOk {w w' : World} {M : Mem} (hm : MemOk M w) (F : Frame0 w w' M M) : MemOk M w' := by
  intro b cs hb
  obtain ⟨c, T, fz, p1, p2⟩ := hm b cs hb
  exact ⟨c, T, fz, (F.keep b (lt_of_cells p1)).trans p1, p2⟩

theorem ok_Join {P : Program} {ρ : Ren} (L : Lays.n156 P ρ) (X : Builder.Extra P ρ) {k : FuncId} (hk : ρ.f 156 = k) (hn : ((Body.n156 ρ).name == "runtime.NumGoroutine") = false) (hb : (Body.n156 ρ).body.isSome = true) : FnOk P k sJoin := by
  subst hk
  intro args K h
  unfold sJoin at h
  split at h
  · rename_i xs sep
    cases hq : (decide (xs.length ≤ 140737488355328) && decide ((joinL xs sep).length ≤ 140737488355328)) with
    | false => simp only [hq, cond_false] at h
    | true =>
      simp only [hq, cond_true] at h
      refine ⟨_, h, fun K' h' => by simp only [sJoin, hq, cond_true]; exact h', fun w M cargs hv hm hG => .inr ⟨?_, ?_⟩⟩
      · have hn' : ¬ (Body.n156 ρ).name = "runtime.NumGoroutine" := by simpa using hn
        have hb' : ¬ (Body.n156 ρ).body = none := by intro e; rw [e] at hb; cases hb
        simp [callFunc, L.f156, hn', hb']
      · simp only [Bool.and_eq_true, decide_eq_true_eq] at hq
        obtain ⟨hq1, hq2⟩ := hq
        cases hv with
        | cons a r =>
        cases r with
        | cons b r =>
        cases r
        cases b with
        | str s _ es hs =>
        have hlen : (joinL xs sep).length ≤ 9223372036854775807 := by omega
        have fin : ∀ {e : Ending} {w' : World}, e = .returned (.string ⟨(joinL xs sep).toArray⟩) → Below w.heap.size w w' → ∃ v, e = .returned v ∧ ∃ M', VR [] M' (.str (joinL xs sep)) v ∧ MemOk M' w' ∧ Frame0 w w' M M' := by
          intro e w' he hw
          have F : Frame0 w w' M M := below_frame hw
          exact ⟨_, he, M, .str _ _ rfl hlen, frame_memOk hm F, F⟩
        cases a with
        | vecnil _ ad cap =>
          refine (Any.strings_Join_none L X ad cap s w).mono fun e w' ⟨he, hw⟩ => ?_
          subst hw
          exact fin he (Below.refl _ _)
        | vec _ _ bk off n cap cs h1 h2 h3 h4 =>
          obtain ⟨c, T, fz, hc1, hc2⟩ := hm _ _ h1
          obtain ⟨rfl, h2⟩ := h2
          have hmap : (xs.map fun l => (⟨l.toArray⟩ : ByteArray)).map (·.data.toList) = xs := by
            rw [List.map_map]
            exact List.map_id _
          have hj : Lib.join ((xs.map fun l => (⟨l.toArray⟩ : ByteArray)).map (·.data.toList)) s.data.toList = joinL xs sep := by rw [hmap, es]; rfl
          have key := Any.strings_Join L X bk off cap (xs.map fun l => (⟨l.toArray⟩ : ByteArray)) s w ?_ (lt_of_cells hc1) (by simpa using hq1) (by simpa using h3) (by rw [hj]; exact hq2)
          · rw [List.length_map] at key
            refine key.mono fun e w' ⟨he, hw⟩ => fin ?_ hw
            rw [he, hj]
          · intro j x hx
            simp only [List.getElem?_map, Option.map_eq_some_iff] at hx
            obtain ⟨l, hl, rfl⟩ := hx
            have := str_enc (h4 j l hl)
            simp only [Ty.size, Nat.mul_one] at this
            rw [cell?_row hc1]
            have e2 : cs[off + j]? = some (.string ⟨l.toArray⟩) := by
              have := congrArg (fun l => l[0]?) this
              simpa [List.getElem?_take, List.getElem?_drop] using this
            rw [← hc2] at e2
            simpa using e2
  · exact h.elim
end Go.Ev
