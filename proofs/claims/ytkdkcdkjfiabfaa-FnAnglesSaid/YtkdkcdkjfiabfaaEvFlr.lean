/- Functions of 64-bit floats that Go's library leaves without a body: their bits, and wholes. -/
import Derived.Test.YtkdkcdkjfiabfaaEvExt
set_option linter.unusedVariables false
set_option linter.unusedSimpArgs false
namespace Go.Ev

/-- math.Float64bits: of a not-a-number nothing is known. -/
def sF64bits : Sm := fun args hs K =>
  match args with
  | [.float .f64 x] => cond (nan .f64 x) (K .undef hs) (K (.int .u64 x) hs)
  | _ => False

theorem ok_F64bits {P : Program} {k : FuncId} {fn : Func} (hf : P.funcs[k]? = some fn) (hname : (fn.name == "runtime.NumGoroutine") = false)
    (hb : fn.body.isNone = true) (hn : Extern.findNext fn = none) (he : Extern.find fn = some Extern.MathFloatBits.float64bits) : FnOk P k sF64bits := by
  refine fnOk_ext hf hname hb hn he ?_
  intro args K h
  unfold sF64bits at h
  split at h
  · rename_i x
    cases hx : nan .f64 x with
    | true =>
      simp only [hx, cond_true] at h
      refine ⟨.undef, h, fun K' h' => by simp only [sF64bits, hx, cond_true]; exact h', ?_⟩
      intro w M cargs hv
      cases hv with
      | cons a b =>
        cases b
        cases a with
        | float _ _ b' h1 h2 => exact ⟨_, w, rfl, Drawn.refl w, .undef _⟩
    | false =>
      simp only [hx, cond_false] at h
      refine ⟨.int .u64 x, h, fun K' h' => by simp only [sF64bits, hx, cond_false]; exact h', ?_⟩
      intro w M cargs hv
      cases hv with
      | cons a b =>
        cases b
        cases a with
        | float _ _ b' h1 h2 =>
          have hb' : nan .f64 b' = false := by rw [h2, nan_canon] at hx; exact hx
          have e : x = b' := by rw [h2, canon_not hb']
          subst e
          refine ⟨.int .u64 x, w, rfl, Drawn.refl w, .int _ _ ?_⟩
          have e1 : IntKind.u64.min = 0 := rfl
          have e2 : IntKind.u64.max = 18446744073709551615 := rfl
          have e3 : 2 * signOf .f64 = 18446744073709551616 := rfl
          omega
  · exact h.elim

/-- math.Float64frombits. -/
def sF64from : Sm := fun args hs K =>
  match args with
  | [.int .u64 n] => K (.float .f64 (canon .f64 n.toNat)) hs
  | _ => False

theorem ok_F64from {P : Program} {k : FuncId} {fn : Func} (hf : P.funcs[k]? = some fn) (hname : (fn.name == "runtime.NumGoroutine") = false)
    (hb : fn.body.isNone = true) (hn : Extern.findNext fn = none) (he : Extern.find fn = some Extern.MathFloatBits.float64frombits) : FnOk P k sF64from := by
  refine fnOk_ext hf hname hb hn he ?_
  intro args K h
  unfold sF64from at h
  split at h
  · rename_i n
    refine ⟨_, h, fun K' h' => h', ?_⟩
    intro w M cargs hv
    cases hv with
    | cons a b =>
      cases b
      cases a with
      | int _ _ hr =>
        have e1 : IntKind.u64.min = 0 := rfl
        have e2 : IntKind.u64.max = 18446744073709551615 := rfl
        have e3 : 2 * signOf .f64 = 18446744073709551616 := rfl
        exact ⟨_, w, rfl, Drawn.refl w, .float _ _ n.toNat (by omega) rfl⟩
  · exact h.elim

/-- A float made whole. -/
def fwhole (way : Ieee.Toward) (x : Nat) : Nat := bif nan .f64 x then qnan .f64 else FloatKind.f64.encode ((FloatKind.f64.decode x).integral way)
def sWhole (way : Ieee.Toward) : Sm := fun args hs K =>
  match args with
  | [.float .f64 x] => cond (nan .f64 x) False (K (.float .f64 (fwhole way x)) hs)
  | _ => False

theorem ok_whole {P : Program} {k : FuncId} {fn : Func} (name : String) (way : Ieee.Toward) (hf : P.funcs[k]? = some fn) (hname : (fn.name == "runtime.NumGoroutine") = false)
    (hb : fn.body.isNone = true) (hn : Extern.findNext fn = none) (he : Extern.find fn = some (Extern.MathFloor.toIntegral name way)) : FnOk P k (sWhole way) := by
  refine fnOk_ext hf hname hb hn he ?_
  intro args K h
  unfold sWhole at h
  split at h
  · rename_i x
    cases hx : nan .f64 x with
    | true => simp only [hx, cond_true] at h
    | false =>
    simp only [hx, cond_false] at h
    refine ⟨_, h, fun K' h' => by simp only [sWhole, hx, cond_false]; exact h', ?_⟩
    intro w M cargs hv
    cases hv with
    | cons a b =>
      cases b
      cases a with
      | float _ _ b' h1 h2 =>
        have hb' : nan .f64 b' = false := by rw [h2, nan_canon] at hx; exact hx
        have e : x = b' := by rw [h2, canon_not hb']
        subst e
        have hd := read_not_nan hx
        have hpl : plainD (((FloatKind.f64.decode x).integral way)) = true := by
          unfold FloatKind.decode
          cases e : FloatKind.f64.format.read x with
          | nan s t => exact absurd e (hd s t)
          | infinity s => rfl
          | number s m p => rfl
        refine ⟨.float .f64 (FloatKind.f64.encode ((FloatKind.f64.decode x).integral way)), w, ?_, Drawn.refl w, ?_⟩
        · have hT : ∀ d, FloatKind.f64.decode x = d → plainD d = true → (Extern.MathFloor.toIntegral name way #[.float .f64 x]) = pure (.float .f64 (FloatKind.f64.encode (d.integral way))) := by
            intro d e hp
            have h0 : (Extern.MathFloor.toIntegral name way #[.float .f64 x]) = (match FloatKind.f64.decode x with
              | .nan s t => (if FloatKind.f64.format.quiet t = t then pure (.float .f64 x) else do
                let kept ← choose (.extern "math.Floor,Ceil,Trunc,RoundToEven.signallingNaN kept" 2)
                pure (.float .f64 (if kept == 1 then x else FloatKind.f64.encode (.nan s (FloatKind.f64.format.quiet t)))))
              | d => pure (.float .f64 (FloatKind.f64.encode (d.integral way)))) := rfl
            rw [h0, e]
            cases d with
            | nan s t => cases hp
            | infinity s => rfl
            | number s m p => rfl
          show (Extern.MathFloor.toIntegral name way #[.float .f64 x]).run P w = _
          rw [hT _ rfl (by
            unfold FloatKind.decode
            cases e : FloatKind.f64.format.read x with
            | nan s t => exact absurd e (hd s t)
            | infinity s => rfl
            | number s m p => rfl)]
          rfl
        · have hn' : nan .f64 (FloatKind.f64.encode ((FloatKind.f64.decode x).integral way)) = false := nan_write hpl
          refine .float _ _ _ ?_ ?_
          · have := FloatKind.f64.format.write_lt ((FloatKind.f64.decode x).integral way)
            rw [← width_eq]
            exact this
          · unfold fwhole
            rw [hx, cond_false, canon_not hn']
  · exact h.elim

end Go.Ev
