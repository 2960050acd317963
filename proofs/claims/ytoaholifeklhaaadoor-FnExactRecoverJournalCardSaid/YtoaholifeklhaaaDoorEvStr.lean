/- Texts cut at a byte, and a byte looked for: as the evaluator takes them. -/
import Derived.Test.YtoaholifeklhaaaDoorEvNum
import Derived.Shelf.Strings.Split
import Derived.Shelf.Small.Strs
import Derived.Shelf.Strings.Cut
set_option linter.unusedVariables false
set_option linter.unusedSimpArgs false
namespace Go.Ev
open Go.Shelf Go.Proofs Go.RowKit Go.Sort

/-- strings.IndexByte. -/
def sIdx1 : Sm := fun args hs K =>
  match args with
  | [.str s, .int .u8 c] => K (.int .i64 (indexB s c.toNat.toUInt8)) hs
  | _ => False
theorem index_range (l : List UInt8) (c : UInt8) : -1 ≤ Lib.indexByte l c ∧ Lib.indexByte l c ≤ l.length := by
  refine ⟨Lib.indexByte_ge l c, ?_⟩
  induction l with
  | nil => simp [Lib.indexByte]
  | cons b l ih =>
    unfold Lib.indexByte
    simp only [List.length_cons]
    split
    · omega
    · split <;> omega
theorem ok_Idx1 {P : Program} {ρ : Ren} (L : Lays.n137 P ρ) {k : FuncId} (hk : ρ.f 137 = k) : FnOk P k sIdx1 := by
  subst hk
  have e137 : ∀ args w, (callFunc (ρ.f 137) args).run P w = .ok (.enter (ρ.f 137) args) w := enters_of L.f137 (by kernel_rfl) rfl
  intro args K h
  unfold sIdx1 at h
  split at h
  · rename_i s c
    refine ⟨_, h, fun K' h' => h', fun w M cargs hv hm hG => .inr ⟨e137 _ _, ?_⟩⟩
    cases hv with
    | cons a r =>
    cases r with
    | cons a2 r =>
    cases r
    cases a with
    | str s' _ es hs =>
    cases a2 with
    | int _ _ hr =>
    refine (Any.strings_IndexByte L s' c w).mono ?_
    rintro e w' ⟨he, rfl⟩
    rw [es] at he
    have hx := index_range s c.toNat.toUInt8
    have e1 : IntKind.i64.min = -9223372036854775808 := rfl
    have e2 : IntKind.i64.max = 9223372036854775807 := rfl
    exact ⟨_, he, M, .int _ _ (by unfold indexB; omega), hm, ⟨Nat.le_refl _, fun _ _ => rfl, fun _ _ h => h, fun _ _ h => .inl h, rfl, rfl, rfl⟩⟩
  · exact h.elim

/-- strings.Split at one byte. -/
def splitC (s : List UInt8) (c : UInt8) : List (List UInt8) := Lib.split s [c]
def sSplit1 : Sm := fun args hs K =>
  match args with
  | [.str s, .str [c]] => cond (decide (s.length < 4294967281)) (K (.vec .str (splitC s c)) hs) False
  | _ => False
theorem splitK_part (sep : List UInt8) : ∀ (k : Nat) (s : List UInt8), ∀ y ∈ Lib.splitK sep 0 k s, y.length ≤ s.length
  | 0, s, y, h => by
    rw [List.mem_singleton.1 h]
    exact Nat.le_refl _
  | k + 1, s, y, h => by
    unfold Lib.splitK at h
    split at h
    · rw [List.mem_singleton.1 h]
      exact Nat.le_refl _
    · rcases List.mem_cons.1 h with h | h
      · rw [h, List.length_take]; omega
      · have := splitK_part sep k _ y h
        rw [List.length_drop] at this
        omega
theorem split_part_le (s : List UInt8) (c : UInt8) : ∀ y ∈ splitC s c, y.length ≤ s.length := splitK_part [c] _ s
theorem ok_Split1 {P : Program} {ρ : Ren} (L : Lays.n146 P ρ) {k : FuncId} (hk : ρ.f 146 = k) (hu : usesIndex P = true) (hgl : P.globalNamed "internal/bytealg.MaxLen" = some (ρ.g 1))
    (hi9 : (P.info? (ρ.t 9)).map (fun i => (i.zero, i.size, i.bytes)) = some (some (.string ByteArray.empty), 1, 16)) : FnOk P k sSplit1 := by
  subst hk
  have e146 : ∀ args w, (callFunc (ρ.f 146) args).run P w = .ok (.enter (ρ.f 146) args) w := enters_of L.f146 (by kernel_rfl) rfl
  intro args K h
  unfold sSplit1 at h
  split at h
  · rename_i s c
    cases hq : decide (s.length < 4294967281) with
    | false => simp only [hq, cond_false] at h
    | true =>
      simp only [hq, cond_true] at h
      refine ⟨_, h, fun K' h' => by simp only [sSplit1, hq, cond_true]; exact h', fun w M cargs hv hm hG => .inr ⟨e146 _ _, ?_⟩⟩
      have hq := of_decide_eq_true hq
      cases hv with
      | cons a r =>
      cases r with
      | cons a2 r =>
      cases r
      cases a with
      | str s' _ es hs =>
      cases a2 with
      | str c' _ ec hc =>
      have hc' : c' = ⟨#[c]⟩ := (mk_str c' ec).symm
      subst hc'
      obtain ⟨m, hM⟩ := hG.2 _ hu hgl
      obtain ⟨cc, T, fz, p1, p2⟩ := hm _ _ hM
      have hsz : s'.size = s.length := by rw [← es]; exact (Array.length_toList).symm
      have hcell : w.cell? ⟨ρ.g 1, 0, none⟩ = some (.int .i64 m) := by
        rw [cell?_row p1]
        have := congrArg (fun l => l[0]?) p2
        simpa using this
      refine (Any.strings_Split L hi9 s' ⟨#[c]⟩ m w (by omega) hcell (Nat.le_refl 1)).mono ?_
      rintro e w' ⟨he, rfl⟩
      have hsp : (Lib.splitB ⟨#[c]⟩ 0 (Lib.countB s' ⟨#[c]⟩) s').map (·.data.toList) = splitC s c := by
        rw [Lib.splitB_data]
        unfold splitC Lib.split
        rw [← es]
      have hln : (Lib.splitB ⟨#[c]⟩ 0 (Lib.countB s' ⟨#[c]⟩) s').length = Lib.countB s' ⟨#[c]⟩ + 1 := Lib.splitB_all ⟨#[c]⟩ (Nat.le_refl 1) 0 _ s' rfl
      have hle := Lib.countB_le ⟨#[c]⟩ (Nat.le_refl 1) s'.size s' (Nat.le_refl _)
      generalize hps : Lib.splitB ⟨#[c]⟩ 0 (Lib.countB s' ⟨#[c]⟩) s' = ps at *
      have hlen : (splitC s c).length = ps.length := by rw [← hsp, List.length_map]
      refine ⟨_, he, fun b => if b = w.heap.size then some (ps.map Value.string) else M b, ?_, ?_, ⟨by show w.heap.size ≤ (w.heap.push _).size; rw [Array.size_push]; omega, fun b hb => by show (w.heap.push _)[b]? = _; rw [Array.getElem?_push, if_neg (by omega)], ?_, ?_, rfl, rfl, rfl⟩⟩
      · refine .vec .str _ w.heap.size 0 _ _ (ps.map Value.string) (if_pos rfl) ⟨by rw [hlen, hln], by omega⟩ (Nat.le_refl _) fun i x hx => ?_
        rw [← hsp, List.getElem?_map, Option.map_eq_some_iff] at hx
        obtain ⟨y, hy, rfl⟩ := hx
        have hy2 : y.data.toList.length ≤ 9223372036854775807 := by
          have hm : y.data.toList ∈ splitC s c := by rw [← hsp]; exact List.mem_map.2 ⟨y, List.mem_of_getElem? hy, rfl⟩
          have := split_part_le s c _ hm
          omega
        have e2 : ((ps.map Value.string).drop (0 + i * Ty.str.size)).take Ty.str.size = [.string y] := by
          have hi : i < ps.length := by
            rcases Nat.lt_or_ge i ps.length with h' | h'
            · exact h'
            · rw [List.getElem?_eq_none h'] at hy; cases hy
          have e3 : ps[i]'hi = y := by rw [List.getElem?_eq_getElem hi] at hy; exact Option.some.inj hy
          show ((ps.map Value.string).drop (0 + i * 1)).take 1 = _
          rw [Nat.zero_add, Nat.mul_one, List.drop_eq_getElem_cons (by rw [List.length_map]; exact hi)]
          simp [e3]
        rw [e2]
        exact .cons (.str _ _ rfl hy2) .nil
      · intro b cs hb
        by_cases e : b = w.heap.size
        · subst e
          simp only [↓reduceIte, Option.some.injEq] at hb
          subst hb
          exact ⟨_, _, _, Array.getElem?_push_size, by simp⟩
        · simp only [if_neg e] at hb
          obtain ⟨c1, T1, f1, q1, q2⟩ := hm b cs hb
          refine ⟨c1, T1, f1, ?_, q2⟩
          show (w.heap.push _)[b]? = _
          rw [Array.getElem?_push, if_neg e]; exact q1
      · intro b cs hb
        have hlt : b < w.heap.size := by
          obtain ⟨c1, T1, f1, q1, q2⟩ := hm b cs hb
          exact lt_of_cells q1
        simp only [if_neg (show b ≠ w.heap.size by omega)]
        exact hb
      · intro b cs hb
        by_cases e : b = w.heap.size
        · exact .inr (by omega)
        · simp only [if_neg e] at hb
          exact .inl hb
  · exact h.elim

/-- strings.Cut at one byte. -/
def cutC (s : List UInt8) (c : UInt8) : List UInt8 × List UInt8 × Bool := Lib.cut s [c]
def sCut1 : Sm := fun args hs K =>
  match args with
  | [.str s, .str [c]] => cond (decide (s.length < 4294967281)) (K (.tuple [.str (cutC s c).1, .str (cutC s c).2.1, .bool (cutC s c).2.2]) hs) False
  | _ => False
theorem cut_le (s : List UInt8) (c : UInt8) : (cutC s c).1.length ≤ s.length ∧ (cutC s c).2.1.length ≤ s.length := by
  unfold cutC Lib.cut
  split
  · simp only [List.length_take, List.length_drop]; omega
  · simp
theorem ok_Cut1 {P : Program} {ρ : Ren} (L : Lays.n145 P ρ) {k : FuncId} (hk : ρ.f 145 = k) (hu : usesIndex P = true) (hgl : P.globalNamed "internal/bytealg.MaxLen" = some (ρ.g 1)) : FnOk P k sCut1 := by
  subst hk
  have e145 : ∀ args w, (callFunc (ρ.f 145) args).run P w = .ok (.enter (ρ.f 145) args) w := enters_of L.f145 (by kernel_rfl) rfl
  intro args K h
  unfold sCut1 at h
  split at h
  · rename_i s c
    cases hq : decide (s.length < 4294967281) with
    | false => simp only [hq, cond_false] at h
    | true =>
      simp only [hq, cond_true] at h
      refine ⟨_, h, fun K' h' => by simp only [sCut1, hq, cond_true]; exact h', fun w M cargs hv hm hG => .inr ⟨e145 _ _, ?_⟩⟩
      have hq := of_decide_eq_true hq
      cases hv with
      | cons a r =>
      cases r with
      | cons a2 r =>
      cases r
      cases a with
      | str s' _ es hs =>
      cases a2 with
      | str c' _ ec hc =>
      have hc' : c' = ⟨#[c]⟩ := (mk_str c' ec).symm
      subst hc'
      obtain ⟨m, hM⟩ := hG.2 _ hu hgl
      obtain ⟨cc, T, fz, p1, p2⟩ := hm _ _ hM
      have hsz : s'.size = s.length := by rw [← es]; exact (Array.length_toList).symm
      have hcell : w.cell? ⟨ρ.g 1, 0, none⟩ = some (.int .i64 m) := by
        rw [cell?_row p1]
        have := congrArg (fun l => l[0]?) p2
        simpa using this
      refine (Any.strings_Cut L s' ⟨#[c]⟩ m w (by omega) hcell).mono ?_
      rintro e w' ⟨he, n, rfl⟩
      have hcut : Lib.cut s'.data.toList (ByteArray.mk #[c]).data.toList = cutC s c := by rw [es]; rfl
      have hl := cut_le s c
      rw [hcut] at he
      refine ⟨_, he, M, .tuple _ _ (.cons (.str _ _ (by simp) (by omega)) (.cons (.str _ _ (by simp) (by omega)) (.cons (.bool _) .nil))), fun b cs hb => ?_, ⟨by simp, fun b hb => by rw [World.heap_drewN], fun _ _ h => h, fun _ _ h => .inl h, (drewN_os w n).1, by simp, (drewN_os w n).2⟩⟩
      obtain ⟨c1, T1, f1, q1, q2⟩ := hm b cs hb
      exact ⟨c1, T1, f1, by rw [World.heap_drewN]; exact q1, q2⟩
  · exact h.elim
end Go.Ev
