/- For whatever input the law FnVectors returns true, and what it was given reads as it did. Conditions: those of the given row, its listed tables tied to the program by the given tie; none of its own. -/
import Derived.Test.YtdlglcacdgcapaaDoorVecs
import Derived.Test.YtdlglcacdgcapaaDoorEvDoor
import Derived.ProofKit
import Derived.OpenShut
import Derived.ShutString
import Derived.ChangeOld
import Derived.Below
import Derived.Test.YtdlglcacdgcapaaDoorCards
import Derived.Test.YtdlglcacdgcapaaDoorTie
import Derived.SevenTiedAt
namespace Go.Proofs.YtdlglcacdgcapaaDoor.rFnVectors
open Go.Ev
open Go.ChangeShapes Go.WideShapes Go.ChangeAt Go.RowKit
set_option linter.unusedVariables false
set_option linter.unusedSimpArgs false
theorem own : ownKnob Tryd.prog.godebug = none := by kernel_rfl
theorem laidOut : laidOutB Tryd.prog = true := by kernel_rfl
def tabs : List (Nat × Array Value) := [(3, cellsOfData (H := Unit) Rows.laid_unicode_utf8_acceptRanges), (2, cellsOfData (H := Unit) Rows.laid_unicode_utf8_first)]
set_option maxRecDepth 100000 in
theorem met (os : Os) (args : Array Value) : laidMet Tryd.prog Rows.fnVectorsRow.laid ((laidWorld Tryd.prog os tabs).forCall (fun _ _ => 0) ⟨#[], args, []⟩).memory :=
  laidMet_of_run' 8 (by kernel_rfl) (by kernel_rfl)
set_option maxRecDepth 100000 in
theorem lifted (os : Os) (started : os.Started) (H : Type) (enc : TypeId × Value → H) :
    ReturnsInHanded {} Tryd.checked os 3 .any (fun w args => (Rows.fnVectorsSpec.pre enc Tryd.prog Tryd.f3 Rows.fnVectorsRow.domain false w args ∧ laidMet Tryd.prog Rows.fnVectorsRow.laid w) ∧ sizedMet enc Tryd.prog Tryd.f3 (OpenSpec.ofChange Rows.fnVectorsSpec) false w args) (Rows.fnVectorsSpec.post enc Tryd.prog Tryd.f3 false true false false) := by
  refine returnsInHanded_laid (C := Tryd.checked) (l := Rows.fnVectorsRow.laid) own started (by kernel_rfl) Tryd.func3
    (ChangeSpec.witness_at (enc := enc) (C := Tryd.checked) (os := os) (X := fun w _ => laidMet Tryd.prog Rows.fnVectorsRow.laid w) false (laidWorld Tryd.prog os tabs) #[.slice none 0 0, .slice none 0 0] 8 rfl (by kernel_rfl) (by kernel_rfl) (by kernel_rfl) (by kernel_rfl) (by kernel_rfl) (met os _)) ?_
  intro W base args ds gs before hval0 hW hL hsh
  have hval : ∀ (j : Nat) t v, Tryd.f3.params[j]? = some t → args[j]? = some v → Value.okWide Tryd.prog W .any base t v := hval0
  have hG : GamOk Tryd.prog (memOf W) := by
    refine gamOk_laid (fun k hk => ?_) (fun k hk => ?_)
    · have e : Tryd.prog.globalNamed "internal/strconv.uint64pow10" = none := by kernel_rfl
      rw [e] at hk; cases hk
    · obtain rfl : 1 = k := Option.some.inj ((show Tryd.prog.globalNamed "internal/bytealg.MaxLen" = some 1 by kernel_rfl).symm.trans hk)
      exact row_of_shapedOpen_int (t := 3) (zero := #[.int .i64 0]) hsh (of_decide_eq_true (by kernel_rfl)) (by kernel_rfl) rfl (by kernel_rfl) (by kernel_rfl) (by kernel_rfl)
  have hW' := hW
  obtain ⟨p, q, hA0, hV, rfl, hfz, hnd⟩ := hW
  have hA : DataW.TrodAll enc Tryd.prog W 0 (fun _ => true) true Tryd.f3.params.toList args.toList ds p := hA0
  rw [Tryd.params3] at hA hval
  obtain ⟨v0, vs0, d0, ds0, p0, q0, hargs, rfl, rfl, h0, r0⟩ := trodAll_cons hA
  obtain ⟨v1, vs1, d1, ds1, p1, q1, rfl, rfl, rfl, h1, r1⟩ := trodAll_cons r0
  obtain ⟨rfl, rfl, rfl⟩ := trodAll_nil r1
  obtain rfl : args = #[v0, v1] := by cases args; simp_all
  obtain ⟨rfl, rfl⟩ := trodVars_none hV
  have k0 := h0
  have lt0 : ∀ x ∈ p0, x.block < W.heap.size := by obtain ⟨m, hm⟩ := k0; exact DataW.trod_lt m _ _ _ hm
  have k1 := h1
  have lt1 : ∀ x ∈ p1, x.block < W.heap.size := by obtain ⟨m, hm⟩ := k1; exact DataW.trod_lt m _ _ _ hm
  obtain ⟨x0, a0, f0⟩ := arg_sound (hval 0 22 v0 rfl rfl) h0 (.cell tB) (by kernel_rfl)
  obtain ⟨x1, a1, f1⟩ := arg_sound (hval 1 22 v1 rfl rfl) h1 (.cell tB) (by kernel_rfl)
  clear hA0 hval0
  refine (law_calls (cargs := [v0, v1]) (args := encAs [.cell tB, .cell tB] (x0, x1, ())) ok_laws_FnVectors Tryd.func3 (by kernel_rfl) (by kernel_rfl) ?_ (.cons a0 (.cons a1 .nil)) hG).mono fun e W' ⟨he, bel⟩ => ?_
  · rfl
  subst he
  exact ⟨_, rfl, _, _, _, [], _, [], hW', trodAll_mk1 (shut_bool Tryd.underlying4 _), (trodAll_cons_mk (Below.trod laidOut (by kernel_rfl) (of_decide_eq_true (by kernel_rfl)) k0 bel lt0) (trodAll_cons_mk (Below.trod laidOut (by kernel_rfl) (of_decide_eq_true (by kernel_rfl)) k1 bel lt1) trodAll_mk0)), rfl, bel.frame _, fun h => by cases h⟩

theorem over : Rows.fnVectorsRow.holds Tryd.pinned (OpenSpec.ofChange Rows.fnVectorsSpec) :=
  OpenClaim.holds_of_wide 3 Tryd.f3 rfl rfl rfl rfl rfl rfl rfl ⟨rfl, rfl, rfl, rfl, rfl⟩ rfl rfl rfl rfl rfl (by kernel_rfl) Tryd.func3 (by kernel_rfl)
    (of_decide_eq_true (by kernel_rfl)) (by unfold Func.isWrapper; first | (rw [if_pos (by decide +kernel)]; kernel_rfl) | (rw [if_neg (by decide +kernel)]; exact ⟨rfl, rfl⟩))
    (fun os started H enc _ => lifted os started H enc)

theorem proved : Rows.FnVectorsCardSaid :=
  Claim7.holds_tied_plain_at .later [] [.data, .pinned] true (true, "83c6fc41ec10290d0b24862ce6b6202e460042c3588910d39702b25834a8a6cd") false
    over (fun _ h => by cases h) (by kernel_rfl) (fun _ h => by cases h) fnVectors_row_tie rfl ⟨rfl, rfl⟩ (by kernel_rfl) rfl
    (fun f fn hf hfn => by
      obtain rfl : f = 3 := Option.some.inj ((show Tryd.prog.funcNamed "loop.example/g01193/laws.FnVectors" = some 3 by kernel_rfl).symm.trans hf) |>.symm
      obtain rfl : fn = Tryd.f3 := (Option.some.inj (Tryd.func3.symm.trans hfn)).symm
      refine ⟨by kernel_rfl, fun j t ht => ?_⟩
      rw [Tryd.params3] at ht
      have hm := List.mem_of_getElem? (l := [22, 22]) (i := j) (by simpa using ht)
      simp only [List.mem_cons, List.mem_nil_iff, or_false, List.not_mem_nil] at hm
      rcases hm with rfl | rfl
      · exact (show Tryd.prog.wantsStandIn 22 = false by kernel_rfl)
      · exact (show Tryd.prog.wantsStandIn 22 = false by kernel_rfl)
      )
    (by kernel_rfl)
#print axioms proved
end Go.Proofs.YtdlglcacdgcapaaDoor.rFnVectors
