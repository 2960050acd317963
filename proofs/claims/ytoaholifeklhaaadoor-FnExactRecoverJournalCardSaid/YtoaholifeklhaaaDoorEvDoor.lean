/- Rows that list variables of Go's library as they are laid: the wrap, and what the evaluator needs of those tables. -/
import Derived.Test.YtoaholifeklhaaaDoorEvRow
import Derived.HandedShaped
import Derived.Shelf.Vars
import Derived.Stop.LaidErr
import Derived.Lib.LaidTab
import Derived.Lib.ItoaNum
set_option linter.unusedVariables false
set_option linter.unusedSimpArgs false
namespace Go.Ev
variable {H : Type} {en : TypeId × Value → H}

theorem returnsInHanded_laid {a : Assume} {C : Checked} {os : Os} {f : FuncId} {fn : Func} {s : ChangeSpec} {conds : List PathCond} {apart fresh handsOn again : Bool} {l : List (String × DataW Unit)}
    (own : ownKnob C.prog.godebug = none) (started : os.Started) (noInit : C.prog.inits.idxOf? f = none) (hfn : C.prog.funcs[f]? = some fn)
    (witness : ∃ (w : World) (tape : Tape) (i : Input), w.os = os ∧ (w.forCall tape i).Shaped C.prog ∧ i.vars = [] ∧ Input.okWide C.prog (w.forCall tape i) .any w.heap.size f i ∧
      ((s.pre en C.prog fn conds apart (w.forCall tape i).memory i.args ∧ laidMet C.prog l (w.forCall tape i).memory) ∧ sizedMet en C.prog fn (OpenSpec.ofChange s) apart (w.forCall tape i).memory i.args) ∧ a.holds C.prog (lone (Frame.enter C.prog f i.args .normal) [] (w.forCall tape i)))
    (contract : ∀ (W : World) (base : Nat) (args : Array Value) (ds gs : List (DataW H)) (before : List MemPlace),
      (∀ (j : Nat) t v, fn.params[j]? = some t → args[j]? = some v → Value.okWide C.prog W .any base t v) →
      DataW.Whole en C.prog fn.params.toList s.vars apart W args.toList ds gs before →
      laidMet C.prog l W → W.ShapedOpen C.prog →
      Calls C.prog f args W fun e W' => ∃ v, e = .returned v ∧ s.post en C.prog fn apart fresh handsOn again W args v W') :
    ReturnsInHanded a C os f .any (fun w args => (s.pre en C.prog fn conds apart w args ∧ laidMet C.prog l w) ∧ sizedMet en C.prog fn (OpenSpec.ofChange s) apart w args) (s.post en C.prog fn apart fresh handsOn again) := by
  refine returnsInHanded_of_calls own started noInit witness ?_
  intro w tape i _ hsh _ hok hpre hholds
  obtain ⟨_, _, _, fn', hfn', _, _, _, _, hval⟩ := hok
  have e : fn' = fn := Option.some.inj (hfn'.symm.trans hfn)
  subst e
  obtain ⟨⟨⟨ds, gs, before, hw, hc⟩, hx⟩, hz⟩ := hpre
  have hw' := DataW.Whole.of_heap (w' := w.forCall tape i) (by rfl) hw
  refine (contract (w.forCall tape i) w.heap.size i.args ds gs before hval hw' (hx.of_heap (by rfl)) hsh).mono fun e W' ⟨v, he, hp⟩ => ?_
  subst he
  exact ChangeSpec.post_blind hp

/-- The cells of a table, as a row lists it. -/
def cellsOfData : DataW H → Array Value
  | .agg ds => (ds.flatMap fun d => match d with
    | .lit (.int k n) => [Value.int k n]
    | .agg es => es.map fun e => match e with | .lit (.int k n) => Value.int k n | _ => .tuple #[]
    | _ => [.tuple #[]]).toArray
  | _ => #[]
/-- The settled world with some variables laid. -/
def layCells (cs : Array Value) : Obj → Obj
  | .cells _ t frozen => .cells cs t frozen
  | o => o
def layIn (h : Array Obj) (l : List (Nat × Array Value)) : Array Obj := l.foldl (fun h x => h.modify x.1 (layCells x.2)) h
noncomputable def laidWorld (P : Program) (os : Os) (l : List (Nat × Array Value)) : World :=
  let w := World.holding P os ⟨#[], #[], []⟩
  { w with heap := layIn w.heap l }

theorem row_of_shapedOpen_int {P : Program} {w : World} {g : Nat} {t : TypeId} {zero : Array Value} {k : IntKind}
    (h : w.ShapedOpen P) (hg : g < P.globals.size)
    (h0 : ((begin P (fun _ _ => 0) default).world.heap[g]?).bind Obj.row? = some (zero, t)) (hz : zero.size = 1)
    (hb : P.buildable t = true) (hc : P.cellTypes P.depth t = some [t]) (hu : P.underlying t = some (.int k)) :
    ∃ c T fz m, w.heap[g]? = some (.cells c T fz) ∧ c.toList = [.int k m] := by
  obtain ⟨cs, hh, hs, hr⟩ := h.1 g zero t hg h0
  obtain ⟨ts, hts, _, hall⟩ := hr hb
  rw [hc] at hts
  cases hts
  have h1 : 0 < cs.size := by omega
  obtain ⟨u, hu', hok⟩ := hall 0 cs[0] (by simp [h1])
  have : u = t := by simpa using hu'.symm
  subst this
  unfold Cell.ok at hok
  rw [hu] at hok
  have hl : cs.toList = [cs[0]] := by
    obtain ⟨l⟩ := cs
    match l, hs, hz with
    | [x], _, _ => rfl
    | [], hs, hz => simp at hs; omega
    | _ :: _ :: _, hs, hz => simp at hs; omega
  cases hv : cs[0] <;> rw [hv] at hok <;> simp at hok
  case int k' n => exact ⟨cs, _, _, n, hh, by rw [hl, hv, hok.1]⟩

theorem gamOk_laid {P : Program} {W : World} (htab : ∀ k, P.globalNamed "internal/strconv.uint64pow10" = some k → Lib.TabIs P W "internal/strconv.uint64pow10" .u64 Lib.pow10Tab)
    (hmax : ∀ k, P.globalNamed "internal/bytealg.MaxLen" = some k → ∃ c T fz m, W.heap[k]? = some (.cells c T fz) ∧ c.toList = [.int .i64 m]) : GamOk P (memOf W) := by
  refine ⟨fun k hk => ?_, fun k _ hk => ?_⟩
  · have h := htab k hk
    unfold Lib.TabIs World.var? at h
    rw [hk] at h
    simp only [Option.bind_some] at h
    unfold memOf
    split at h
    · rename_i cs T fz hcs
      rw [hcs]
      injection h with h
      simp only [h, Lib.pow10Tab, List.map_map]
      rfl
    · cases h
  · obtain ⟨c, T, fz, m, h1, h2⟩ := hmax k hk
    exact ⟨m, by unfold memOf; rw [h1]; simp only [h2]⟩
end Go.Ev
