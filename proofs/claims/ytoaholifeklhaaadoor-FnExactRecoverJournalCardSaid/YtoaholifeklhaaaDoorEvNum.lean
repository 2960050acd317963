/- Numbers as decimal texts, and a byte looked for in a text: as the evaluator takes them. -/
import Derived.Test.YtoaholifeklhaaaDoorEvJoin
import Derived.Test.YtoaholifeklhaaaDoorEvExt
import Derived.Shelf.Strconv.Itoa4
import Derived.Shelf.Strings.Search3
import Derived.Lib.ItoaLen
set_option linter.unusedVariables false
set_option linter.unusedSimpArgs false
namespace Go.Ev
open Go.Shelf Go.Proofs Go.RowKit Go.Sort

def itoaL (n : Int) : List UInt8 := Lib.itoa n
def sFmt10 : Sm := fun args hs K =>
  match args with
  | [.int .i64 n, .int .i64 b] => bif b == 10 then K (.str (itoaL n)) hs else False
  | _ => False
def indexB (l : List UInt8) (c : UInt8) : Int := Lib.indexByte l c
def sHas1 : Sm := fun args hs K =>
  match args with
  | [.str s, .str [c]] => K (.bool (decide (0 ≤ indexB s c))) hs
  | _ => False

theorem drewN_os (w : World) : ∀ k, (w.drewN k).os = w.os ∧ (w.drewN k).output = w.output
  | 0 => ⟨rfl, rfl⟩
  | k + 1 => ⟨(drewN_os _ k).1, (drewN_os _ k).2⟩
theorem frame_grow {w : World} {M : Mem} (k : Nat) (os : Array Obj) : Frame0 w (grow (w.drewN k) os) M M :=
  ⟨by simp [grow], fun b hb => by simp only [grow, World.heap_drewN]; exact Array.getElem?_append_left hb, fun _ _ h => h, fun _ _ h => .inl h, by simp [grow, drewN_os], by simp [grow], by simp [grow, drewN_os]⟩

theorem ok_Fmt10 {P : Program} {ρ : Ren} (L : LaysM.n173 P ρ) {k : FuncId} (hk : ρ.f 173 = k) (hg : (P.globalNamed "internal/strconv.uint64pow10").isSome = true) : FnOk P k sFmt10 := by
  subst hk
  have e173 : ∀ args w, (callFunc (ρ.f 173) args).run P w = .ok (.enter (ρ.f 173) args) w := enters_of L.f173 (by kernel_rfl) rfl
  intro args K h
  unfold sFmt10 at h
  split at h
  · rename_i n b
    cases hb : (b == 10) with
    | false => simp only [hb, cond_false] at h
    | true =>
      simp only [hb, cond_true] at h
      refine ⟨_, h, fun K' h' => by simp only [sFmt10, hb, cond_true]; exact h', fun w M cargs hv hm hG => .inr ⟨e173 _ _, ?_⟩⟩
      have hb : b = 10 := by simpa using hb
      subst hb
      cases hv with
      | cons a r =>
      cases r with
      | cons a2 r =>
      cases r
      cases a2
      cases a with
      | int _ _ hr =>
      obtain ⟨kk, hkk⟩ := Option.isSome_iff_exists.1 hg
      have hM := hG.1 kk hkk
      obtain ⟨c, T, fz, p1, p2⟩ := hm _ _ hM
      have htab : Lib.TabIs P w "internal/strconv.uint64pow10" .u64 Lib.pow10Tab := by
        unfold Lib.TabIs World.var?
        rw [hkk]
        simp only [Option.bind_some, p1]
        congr 1
        apply Array.ext'
        rw [p2]
        simp only [Lib.pow10Tab, List.map_map]
        rfl
      have e1 : IntKind.i64.min = -9223372036854775808 := rfl
      have e2 : IntKind.i64.max = 9223372036854775807 := rfl
      refine (Any.strconv_FormatInt_10 L n (by omega) (by omega) w htab).mono ?_
      rintro e w' ⟨he, kq, os, rfl⟩
      have hl := Lib.itoa_length_le n (by omega) (by omega)
      have F : Frame0 w (grow (w.drewN kq) os) M M := frame_grow kq os
      exact ⟨_, he, M, .str _ _ rfl (by unfold itoaL; omega), frame_memOk hm F, F⟩
  · exact h.elim

theorem ok_Has1 {P : Program} {ρ : Ren} (L : Lays.n144 P ρ) {k : FuncId} (hk : ρ.f 144 = k) : FnOk P k sHas1 := by
  subst hk
  have e144 : ∀ args w, (callFunc (ρ.f 144) args).run P w = .ok (.enter (ρ.f 144) args) w := enters_of L.f144 (by kernel_rfl) rfl
  intro args K h
  unfold sHas1 at h
  split at h
  · rename_i s c
    refine ⟨_, h, fun K' h' => h', fun w M cargs hv hm hG => .inr ⟨e144 _ _, ?_⟩⟩
    cases hv with
    | cons a r =>
    cases r with
    | cons a2 r =>
    cases r
    cases a with
    | str s' _ es hs =>
    cases a2 with
    | str c' _ ec hc =>
    have hc' : c' = ⟨#[c]⟩ := (mk_str c' ec).symm
    subst hc'
    refine (Any.strings_Contains_one L s' c w).mono ?_
    rintro e w' ⟨he, rfl⟩
    rw [es] at he
    exact ⟨_, he, M, .bool _, hm, ⟨Nat.le_refl _, fun _ _ => rfl, fun _ _ h => h, fun _ _ h => .inl h, rfl, rfl, rfl⟩⟩
  · exact h.elim
end Go.Ev
