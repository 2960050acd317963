/- For whatever input the law FnExactRecoverJournal returns true, and what it was given reads as it did. Conditions: those of the given row, its listed tables tied to the program by the given tie; none of its own. -/
import Derived.Test.YtoaholifeklhaaaDoorRecL
import Derived.Test.YtoaholifeklhaaaDoorEvDoor
import Derived.ProofKit
import Derived.OpenShut
import Derived.ShutString
import Derived.ChangeOld
import Derived.Below
import Derived.Test.YtoaholifeklhaaaDoorCards
import Derived.Test.YtoaholifeklhaaaDoorTie
import Derived.SevenTiedAt
namespace Go.Proofs.YtoaholifeklhaaaDoor.rFnExactRecoverJournal
open Go.Ev
open Go.ChangeShapes Go.WideShapes Go.ChangeAt Go.RowKit
set_option linter.unusedVariables false
set_option linter.unusedSimpArgs false
theorem own : ownKnob Tryd.prog.godebug = none := by kernel_rfl
theorem laidOut : laidOutB Tryd.prog = true := by kernel_rfl
def tabs : List (Nat × Array Value) := [(2, cellsOfData (H := Unit) Rows.laid_math_bits_deBruijn32tab), (3, cellsOfData (H := Unit) Rows.laid_math_bits_deBruijn64tab), (1, cellsOfData (H := Unit) Rows.laid_internal_strconv_uint64pow10)]
set_option maxRecDepth 100000 in
theorem met (os : Os) (args : Array Value) : laidMet Tryd.prog Rows.fnExactRecoverJournalRow.laid ((laidWorld Tryd.prog os tabs).forCall (fun _ _ => 0) ⟨#[], args, []⟩).memory :=
  laidMet_of_run' 8 (by kernel_rfl) (by kernel_rfl)
set_option maxRecDepth 100000 in
theorem lifted (os : Os) (started : os.Started) (H : Type) (enc : TypeId × Value → H) :
    ReturnsInHanded {} Tryd.checked os 4 .any (fun w args => (Rows.fnExactRecoverJournalSpec.pre enc Tryd.prog Tryd.f4 Rows.fnExactRecoverJournalRow.domain false w args ∧ laidMet Tryd.prog Rows.fnExactRecoverJournalRow.laid w) ∧ sizedMet enc Tryd.prog Tryd.f4 (OpenSpec.ofChange Rows.fnExactRecoverJournalSpec) false w args) (Rows.fnExactRecoverJournalSpec.post enc Tryd.prog Tryd.f4 false true false false) := by
  refine returnsInHanded_laid (C := Tryd.checked) (l := Rows.fnExactRecoverJournalRow.laid) own started (by kernel_rfl) Tryd.func4
    (ChangeSpec.witness_at (enc := enc) (C := Tryd.checked) (os := os) (X := fun w _ => laidMet Tryd.prog Rows.fnExactRecoverJournalRow.laid w) false (laidWorld Tryd.prog os tabs) #[.string ByteArray.empty] 8 rfl (by kernel_rfl) (by kernel_rfl) (by kernel_rfl) (by kernel_rfl) (by kernel_rfl) (met os _)) ?_
  intro W base args ds gs before hval0 hW hL hsh
  have hval : ∀ (j : Nat) t v, Tryd.f4.params[j]? = some t → args[j]? = some v → Value.okWide Tryd.prog W .any base t v := hval0
  have hG : GamOk Tryd.prog (memOf W) := by
    refine gamOk_laid (fun k hk => ?_) (fun k hk => ?_)
    · exact Lib.tabIs_of_head (g := 1) (t := 73) (e := 64) (n := 20) (by kernel_rfl) (by kernel_rfl) (by kernel_rfl) (by kernel_rfl) (by kernel_rfl) (by kernel_rfl) (laidMet.tail (laidMet.tail hL))
    · obtain rfl : 0 = k := Option.some.inj ((show Tryd.prog.globalNamed "internal/bytealg.MaxLen" = some 0 by kernel_rfl).symm.trans hk)
      exact row_of_shapedOpen_int (t := 3) (zero := #[.int .i64 0]) hsh (of_decide_eq_true (by kernel_rfl)) (by kernel_rfl) rfl (by kernel_rfl) (by kernel_rfl) (by kernel_rfl)
  have hW' := hW
  obtain ⟨p, q, hA0, hV, rfl, hfz, hnd⟩ := hW
  have hA : DataW.TrodAll enc Tryd.prog W 0 (fun _ => true) true Tryd.f4.params.toList args.toList ds p := hA0
  rw [Tryd.params4] at hA hval
  obtain ⟨v0, vs0, d0, ds0, p0, q0, hargs, rfl, rfl, h0, r0⟩ := trodAll_cons hA
  obtain ⟨rfl, rfl, rfl⟩ := trodAll_nil r0
  obtain rfl : args = #[v0] := by cases args; simp_all
  obtain ⟨rfl, rfl⟩ := trodVars_none hV
  have k0 := h0
  have lt0 : ∀ x ∈ p0, x.block < W.heap.size := by obtain ⟨m, hm⟩ := k0; exact DataW.trod_lt m _ _ _ hm
  obtain ⟨x0, a0, f0⟩ := arg_sound (hval 0 9 v0 rfl rfl) h0 (.cell .str) (by kernel_rfl)
  clear hA0 hval0
  refine (law_calls (cargs := [v0]) (args := encAs [.cell .str] (x0, ())) ok_laws_FnExactRecoverJournal Tryd.func4 (by kernel_rfl) (by kernel_rfl) ?_ (.cons a0 .nil) hG).mono fun e W' ⟨he, bel⟩ => ?_
  · obtain t := x0
    rfl
  subst he
  exact ⟨_, rfl, _, _, _, [], _, [], hW', trodAll_mk1 (shut_bool Tryd.underlying4 _), (trodAll_cons_mk (Below.trod laidOut (by kernel_rfl) (of_decide_eq_true (by kernel_rfl)) k0 bel lt0) trodAll_mk0), rfl, bel.frame _, fun h => by cases h⟩

theorem over : Rows.fnExactRecoverJournalRow.holds Tryd.pinned (OpenSpec.ofChange Rows.fnExactRecoverJournalSpec) :=
  OpenClaim.holds_of_wide 4 Tryd.f4 rfl rfl rfl rfl rfl rfl rfl ⟨rfl, rfl, rfl, rfl, rfl⟩ rfl rfl rfl rfl rfl (by kernel_rfl) Tryd.func4 (by kernel_rfl)
    (of_decide_eq_true (by kernel_rfl)) (by unfold Func.isWrapper; first | (rw [if_pos (by decide +kernel)]; kernel_rfl) | (rw [if_neg (by decide +kernel)]; exact ⟨rfl, rfl⟩))
    (fun os started H enc _ => lifted os started H enc)

theorem proved : Rows.FnExactRecoverJournalCardSaid :=
  Claim7.holds_tied_plain_at .later [] [.data, .data, .data] true (true, "17652290d47063c8df629d28171da0c7cf0bcd9a9842c0a570409468b370f347") false
    over (fun _ h => by cases h) (by kernel_rfl) (fun _ h => by cases h) fnExactRecoverJournal_row_tie rfl ⟨rfl, rfl⟩ (by kernel_rfl) rfl
    (fun f fn hf hfn => by
      obtain rfl : f = 4 := Option.some.inj ((show Tryd.prog.funcNamed "loop.example/g01193/laws.FnExactRecoverJournal" = some 4 by kernel_rfl).symm.trans hf) |>.symm
      obtain rfl : fn = Tryd.f4 := (Option.some.inj (Tryd.func4.symm.trans hfn)).symm
      refine ⟨by kernel_rfl, fun j t ht => ?_⟩
      rw [Tryd.params4] at ht
      have hm := List.mem_of_getElem? (l := [9]) (i := j) (by simpa using ht)
      simp only [List.mem_cons, List.mem_nil_iff, or_false, List.not_mem_nil] at hm
      subst hm
      exact (show Tryd.prog.wantsStandIn 9 = false by kernel_rfl)
      )
    (by kernel_rfl)
#print axioms proved
end Go.Proofs.YtoaholifeklhaaaDoor.rFnExactRecoverJournal
