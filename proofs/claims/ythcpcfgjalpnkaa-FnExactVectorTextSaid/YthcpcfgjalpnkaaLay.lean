/- The library of Go in this program: strings.Join. -/
import Derived.Shelf.Strings.OnBuilder
import Derived.Test.YthcpcfgjalpnkaaProg
namespace Go.Proofs
open Go.Shelf
def Try.laysn156_ren : Go.Shelf.Ren where
  f := fun x => bif Nat.beq x 156 then 79 else bif Nat.beq x 165 then 80 else bif Nat.beq x 166 then 81 else bif Nat.beq x 169 then 82 else bif Nat.beq x 240 then 83 else bif Nat.beq x 241 then 84 else bif Nat.beq x 276 then 85 else bif Nat.beq x 277 then 86 else x
  t := fun x => bif Nat.beq x 0 then 0 else bif Nat.beq x 3 then 3 else bif Nat.beq x 4 then 4 else bif Nat.beq x 5 then 5 else bif Nat.beq x 9 then 9 else bif Nat.beq x 20 then 20 else bif Nat.beq x 31 then 85 else bif Nat.beq x 37 then 29 else bif Nat.beq x 70 then 93 else bif Nat.beq x 72 then 95 else bif Nat.beq x 75 then 98 else bif Nat.beq x 76 then 99 else bif Nat.beq x 80 then 101 else bif Nat.beq x 127 then 102 else bif Nat.beq x 164 then 103 else x
  g := fun x => x
theorem Try.laysn156 : Lays.n156 Try.prog Try.laysn156_ren where
  mixed := by kernel_rfl
  f156 := by kernel_rfl
  f165 := by kernel_rfl
  f166 := by kernel_rfl
  f169 := by kernel_rfl
  f240 := by kernel_rfl
  f241 := by kernel_rfl
  f276 := by kernel_rfl
  f277 := by kernel_rfl
  t0 := by kernel_rfl
  a0 := Try.isAgg0
  z0 := Try.sizeOf0
  v0 := Try.zeroValue0
  t3 := by kernel_rfl
  a3 := Try.isAgg3
  z3 := Try.sizeOf3
  v3 := Try.zeroValue3
  t4 := by kernel_rfl
  a4 := Try.isAgg4
  z4 := Try.sizeOf4
  v4 := Try.zeroValue4
  t9 := by kernel_rfl
  a9 := Try.isAgg9
  z9 := Try.sizeOf9
  v9 := Try.zeroValue9
  t20 := by kernel_rfl
  a20 := Try.isAgg20
  z20 := Try.sizeOf20
  v20 := Try.zeroValue20
  t31 := by kernel_rfl
  a31 := Try.isAgg85
  z31 := Try.sizeOf85
  v31 := Try.zeroValue85
  t37 := by kernel_rfl
  a37 := Try.isAgg29
  z37 := Try.sizeOf29
  v37 := Try.zeroValue29
  t70 := by kernel_rfl
  a70 := Try.isAgg93
  z70 := Try.sizeOf93
  v70 := Try.zeroValue93
  t72 := by kernel_rfl
  a72 := Try.isAgg95
  z72 := Try.sizeOf95
  v72 := Try.zeroValue95
  t75 := by kernel_rfl
  a75 := Try.isAgg98
  z75 := Try.sizeOf98
  v75 := Try.zeroValue98
  t76 := by kernel_rfl
  a76 := Try.isAgg99
  z76 := Try.sizeOf99
  v76 := Try.zeroValue99
  t127 := by kernel_rfl
  a127 := Try.isAgg102
  z127 := Try.sizeOf102
  v127 := Try.zeroValue102
  t164 := by kernel_rfl
  a164 := Try.isAgg103
  z164 := Try.sizeOf103
  v164 := Try.zeroValue103
theorem Try.laysn156_X : Builder.Extra Try.prog Try.laysn156_ren where
  sizeBuilder := by kernel_rfl
  liesBuilder := by kernel_rfl
  t5 := Try.underlying5
  a5 := Try.isAgg5
  z5 := Try.sizeOf5
  v5 := Try.zeroValue5
  infoByte := by kernel_rfl
  cellsByte := by kernel_rfl
  sizeByte := by kernel_rfl
  neB5 := by decide

end Go.Proofs
