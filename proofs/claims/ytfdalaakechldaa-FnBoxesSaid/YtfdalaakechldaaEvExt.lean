/- Functions that Go's library leaves without a body. -/
import Derived.Test.YtfdalaakechldaaEvUse
import Derived.Laws.Externs
set_option linter.unusedVariables false
set_option linter.unusedSimpArgs false
namespace Go.Ev

theorem fnOk_ext {P : Program} {k : FuncId} {fn : Func} {e : Array Value → Sem Value} {S : Sm} (hf : P.funcs[k]? = some fn) (hname : (fn.name == "runtime.NumGoroutine") = false)
    (hb : fn.body.isNone = true) (hn : Extern.findNext fn = none) (he : Extern.find fn = some e)
    (h : ∀ args K, S args [] K → ∃ v, K v [] ∧ (∀ K' : V → Heap → Prop, K' v [] → S args [] K') ∧
      ∀ (w : World) (M : Mem) (cargs : List Value), VRs [] M args cargs → ∃ val w', (e cargs.toArray).run P w = .ok val w' ∧ Drawn w w' ∧ VR [] M v val) : FnOk P k S := by
  intro args K hk
  obtain ⟨v, h1, h2, h3⟩ := h args K hk
  refine ⟨v, h1, h2, fun w M cargs hv hm hG => ?_⟩
  obtain ⟨val, w', k1, k2, k3⟩ := h3 w M cargs hv
  refine .inl ⟨val, w', ?_, M, k3, ?_, ?_⟩
  · rw [run_callFunc_extern hf hname hb hn he, k1]; rfl
  · intro b cs hb'
    obtain ⟨c, T, fz, p1, p2⟩ := hm b cs hb'
    exact ⟨c, T, fz, by rw [k2.heap]; exact p1, p2⟩
  · exact ⟨by rw [k2.heap]; exact Nat.le_refl _, fun b _ => by rw [k2.heap], fun _ _ h => h, fun _ _ h => .inl h, k2.os, k2.tape, k2.output⟩

/-- math.Float32bits: of a not-a-number nothing is known. -/
def sF32bits : Sm := fun args hs K =>
  match args with
  | [.float .f32 x] => cond (nan .f32 x) (K .nanb hs) (K (.int .u32 x) hs)
  | _ => False

theorem ok_F32bits {P : Program} {k : FuncId} {fn : Func} (hf : P.funcs[k]? = some fn) (hname : (fn.name == "runtime.NumGoroutine") = false)
    (hb : fn.body.isNone = true) (hn : Extern.findNext fn = none) (he : Extern.find fn = some Extern.MathFloatBits.float32bits) : FnOk P k sF32bits := by
  refine fnOk_ext hf hname hb hn he ?_
  intro args K h
  unfold sF32bits at h
  split at h
  · rename_i x
    cases hx : nan .f32 x with
    | true =>
      simp only [hx, cond_true] at h
      refine ⟨.nanb, h, fun K' h' => by simp only [sF32bits, hx, cond_true]; exact h', ?_⟩
      intro w M cargs hv
      cases hv with
      | cons a b =>
        cases b
        cases a with
        | float _ _ b' h1 h2 => exact ⟨.int .u32 b', w, rfl, Drawn.refl w, .nanb _ (by have e3 : 2 * signOf .f32 = 4294967296 := rfl; omega) (by rw [Int.toNat_natCast]; rw [h2, nan_canon] at hx; exact hx)⟩
    | false =>
      simp only [hx, cond_false] at h
      refine ⟨.int .u32 x, h, fun K' h' => by simp only [sF32bits, hx, cond_false]; exact h', ?_⟩
      intro w M cargs hv
      cases hv with
      | cons a b =>
        cases b
        cases a with
        | float _ _ b' h1 h2 =>
          have hb' : nan .f32 b' = false := by rw [h2, nan_canon] at hx; exact hx
          have e : x = b' := by rw [h2, canon_not hb']
          subst e
          refine ⟨.int .u32 x, w, rfl, Drawn.refl w, .int _ _ ?_⟩
          have e1 : IntKind.u32.min = 0 := rfl
          have e2 : IntKind.u32.max = 4294967295 := rfl
          have e3 : 2 * signOf .f32 = 4294967296 := rfl
          omega
  · exact h.elim

/-- math.Float32frombits. -/
def sF32from : Sm := fun args hs K =>
  match args with
  | [.int .u32 n] => K (.float .f32 (canon .f32 n.toNat)) hs
  | [.nanb] => K (.float .f32 (qnan .f32)) hs
  | _ => False

theorem ok_F32from {P : Program} {k : FuncId} {fn : Func} (hf : P.funcs[k]? = some fn) (hname : (fn.name == "runtime.NumGoroutine") = false)
    (hb : fn.body.isNone = true) (hn : Extern.findNext fn = none) (he : Extern.find fn = some Extern.MathFloatBits.float32frombits) : FnOk P k sF32from := by
  refine fnOk_ext hf hname hb hn he ?_
  intro args K h
  unfold sF32from at h
  split at h
  · rename_i n
    refine ⟨_, h, fun K' h' => h', ?_⟩
    intro w M cargs hv
    cases hv with
    | cons a b =>
      cases b
      cases a with
      | int _ _ hr =>
        have e1 : IntKind.u32.min = 0 := rfl
        have e2 : IntKind.u32.max = 4294967295 := rfl
        have e3 : 2 * signOf .f32 = 4294967296 := rfl
        exact ⟨_, w, rfl, Drawn.refl w, .float _ _ n.toNat (by omega) rfl⟩
  · refine ⟨_, h, fun K' h' => h', ?_⟩
    intro w M cargs hv
    cases hv with
    | cons a b =>
      cases b
      cases a with
      | nanb n hr hn =>
        have e3 : 2 * signOf .f32 = 4294967296 := rfl
        exact ⟨_, w, rfl, Drawn.refl w, .float _ _ n.toNat (by omega) (canon_nan hn).symm⟩
  · exact h.elim

/-- math.sqrt. -/
def sSqrt : Sm := fun args hs K =>
  match args with
  | [.float .f64 x] => K (.float .f64 (fsqrt .f64 x)) hs
  | _ => False

theorem ok_sqrt {P : Program} {k : FuncId} {fn : Func} (hf : P.funcs[k]? = some fn) (hname : (fn.name == "runtime.NumGoroutine") = false)
    (hb : fn.body.isNone = true) (hn : Extern.findNext fn = none) (he : Extern.find fn = some Extern.MathSqrt.sqrt) : FnOk P k sSqrt := by
  refine fnOk_ext hf hname hb hn he ?_
  intro args K h
  unfold sSqrt at h
  split at h
  · rename_i x
    refine ⟨_, h, fun K' h' => h', ?_⟩
    intro w M cargs hv
    cases hv with
    | cons a b =>
      cases b
      cases a with
      | float _ _ b' h1 h2 =>
        obtain ⟨r, w', k1, k2, k3, k4⟩ := floatRes (P := P) (w := w) .f64 b' b' (FloatKind.f64.format.sqrt b') (fun r hr => ⟨nan_sqrt hr, by rw [← width_eq]; exact FloatKind.f64.format.sqrt_lt hr⟩)
        refine ⟨_, w', ?_, k2, .float _ _ r k4 ?_⟩
        · exact k1
        · rw [h2, fsqrt, sqrt_canon]; exact k3.symm
  · exact h.elim

end Go.Ev
