/- The library of Go in this program. -/
import Derived.Shelf.Strings.OnBuilder
import Derived.Shelf.Strings.Split
import Derived.Shelf.Small.Strs
import Derived.Test.YtdlglcacdgcapaaDoorProg
namespace Go.Proofs
open Go.Shelf
def Tryd.laysn137_ren : Go.Shelf.Ren where
  f := fun x => bif Nat.beq x 137 then 54 else bif Nat.beq x 217 then 61 else bif Nat.beq x 266 then 68 else x
  t := fun x => bif Nat.beq x 3 then 3 else bif Nat.beq x 5 then 5 else bif Nat.beq x 9 then 9 else x
  g := fun x => x
theorem Tryd.laysn137 : Lays.n137 Tryd.prog Tryd.laysn137_ren where
  mixed := by kernel_rfl
  f137 := by kernel_rfl
  f217 := by kernel_rfl
  f266 := by kernel_rfl
  t3 := by kernel_rfl
  a3 := Tryd.isAgg3
  z3 := Tryd.sizeOf3
  v3 := Tryd.zeroValue3
  t5 := by kernel_rfl
  a5 := Tryd.isAgg5
  z5 := Tryd.sizeOf5
  v5 := Tryd.zeroValue5
  t9 := by kernel_rfl
  a9 := Tryd.isAgg9
  z9 := Tryd.sizeOf9
  v9 := Tryd.zeroValue9

def Tryd.laysn146_ren : Go.Shelf.Ren where
  f := fun x => bif Nat.beq x 138 then 66 else bif Nat.beq x 143 then 67 else bif Nat.beq x 146 then 53 else bif Nat.beq x 195 then 71 else bif Nat.beq x 197 then 72 else bif Nat.beq x 217 then 61 else bif Nat.beq x 218 then 73 else bif Nat.beq x 219 then 74 else bif Nat.beq x 221 then 60 else bif Nat.beq x 224 then 77 else bif Nat.beq x 225 then 76 else bif Nat.beq x 260 then 75 else bif Nat.beq x 266 then 68 else bif Nat.beq x 267 then 78 else bif Nat.beq x 268 then 65 else bif Nat.beq x 314 then 79 else x
  t := fun x => bif Nat.beq x 0 then 0 else bif Nat.beq x 3 then 3 else bif Nat.beq x 4 then 4 else bif Nat.beq x 5 then 5 else bif Nat.beq x 9 then 9 else bif Nat.beq x 21 then 21 else bif Nat.beq x 31 then 63 else bif Nat.beq x 46 then 69 else bif Nat.beq x 51 then 70 else bif Nat.beq x 105 then 99 else bif Nat.beq x 119 then 102 else bif Nat.beq x 138 then 104 else bif Nat.beq x 139 then 105 else bif Nat.beq x 146 then 106 else x
  g := fun x => bif Nat.beq x 1 then 1 else bif Nat.beq x 3 then 2 else bif Nat.beq x 4 then 3 else x
theorem Tryd.laysn146 : Lays.n146 Tryd.prog Tryd.laysn146_ren where
  mixed := by kernel_rfl
  f138 := by kernel_rfl
  f143 := by kernel_rfl
  f146 := by kernel_rfl
  f195 := by kernel_rfl
  f197 := by kernel_rfl
  f217 := by kernel_rfl
  f218 := by kernel_rfl
  f219 := by kernel_rfl
  f221 := by kernel_rfl
  f224 := by kernel_rfl
  f225 := by kernel_rfl
  f260 := by kernel_rfl
  f266 := by kernel_rfl
  f267 := by kernel_rfl
  f268 := by kernel_rfl
  f314 := by kernel_rfl
  t0 := by kernel_rfl
  a0 := Tryd.isAgg0
  z0 := Tryd.sizeOf0
  v0 := Tryd.zeroValue0
  t3 := by kernel_rfl
  a3 := Tryd.isAgg3
  z3 := Tryd.sizeOf3
  v3 := Tryd.zeroValue3
  t4 := by kernel_rfl
  a4 := Tryd.isAgg4
  z4 := Tryd.sizeOf4
  v4 := Tryd.zeroValue4
  t5 := by kernel_rfl
  a5 := Tryd.isAgg5
  z5 := Tryd.sizeOf5
  v5 := Tryd.zeroValue5
  t9 := by kernel_rfl
  a9 := Tryd.isAgg9
  z9 := Tryd.sizeOf9
  v9 := Tryd.zeroValue9
  t21 := by kernel_rfl
  a21 := Tryd.isAgg21
  z21 := Tryd.sizeOf21
  v21 := Tryd.zeroValue21
  t31 := by kernel_rfl
  a31 := Tryd.isAgg63
  z31 := Tryd.sizeOf63
  v31 := Tryd.zeroValue63
  t46 := by kernel_rfl
  a46 := Tryd.isAgg69
  z46 := Tryd.sizeOf69
  v46 := Tryd.zeroValue69
  t51 := by kernel_rfl
  a51 := Tryd.isAgg70
  z51 := Tryd.sizeOf70
  v51 := Tryd.zeroValue70
  t105 := by kernel_rfl
  a105 := Tryd.isAgg99
  z105 := Tryd.sizeOf99
  v105 := Tryd.zeroValue99
  t119 := by kernel_rfl
  a119 := Tryd.isAgg102
  z119 := Tryd.sizeOf102
  t138 := by kernel_rfl
  a138 := Tryd.isAgg104
  z138 := Tryd.sizeOf104
  v138 := Tryd.zeroValue104
  t139 := by kernel_rfl
  a139 := Tryd.isAgg105
  z139 := Tryd.sizeOf105
  v139 := Tryd.zeroValue105
  t146 := by kernel_rfl
  a146 := Tryd.isAgg106
  z146 := Tryd.sizeOf106
  v146 := Tryd.zeroValue106
  g1 := by kernel_rfl
  g3 := by kernel_rfl
  g4 := by kernel_rfl

def Tryd.laysn156_ren : Go.Shelf.Ren where
  f := fun x => bif Nat.beq x 156 then 52 else bif Nat.beq x 165 then 57 else bif Nat.beq x 166 then 58 else bif Nat.beq x 169 then 59 else bif Nat.beq x 240 then 63 else bif Nat.beq x 241 then 64 else bif Nat.beq x 276 then 69 else bif Nat.beq x 277 then 70 else x
  t := fun x => bif Nat.beq x 0 then 0 else bif Nat.beq x 3 then 3 else bif Nat.beq x 4 then 4 else bif Nat.beq x 5 then 5 else bif Nat.beq x 9 then 9 else bif Nat.beq x 20 then 20 else bif Nat.beq x 31 then 63 else bif Nat.beq x 37 then 22 else bif Nat.beq x 70 then 81 else bif Nat.beq x 72 then 83 else bif Nat.beq x 75 then 86 else bif Nat.beq x 76 then 87 else bif Nat.beq x 80 then 89 else bif Nat.beq x 127 then 92 else bif Nat.beq x 164 then 95 else x
  g := fun x => x
theorem Tryd.laysn156 : Lays.n156 Tryd.prog Tryd.laysn156_ren where
  mixed := by kernel_rfl
  f156 := by kernel_rfl
  f165 := by kernel_rfl
  f166 := by kernel_rfl
  f169 := by kernel_rfl
  f240 := by kernel_rfl
  f241 := by kernel_rfl
  f276 := by kernel_rfl
  f277 := by kernel_rfl
  t0 := by kernel_rfl
  a0 := Tryd.isAgg0
  z0 := Tryd.sizeOf0
  v0 := Tryd.zeroValue0
  t3 := by kernel_rfl
  a3 := Tryd.isAgg3
  z3 := Tryd.sizeOf3
  v3 := Tryd.zeroValue3
  t4 := by kernel_rfl
  a4 := Tryd.isAgg4
  z4 := Tryd.sizeOf4
  v4 := Tryd.zeroValue4
  t9 := by kernel_rfl
  a9 := Tryd.isAgg9
  z9 := Tryd.sizeOf9
  v9 := Tryd.zeroValue9
  t20 := by kernel_rfl
  a20 := Tryd.isAgg20
  z20 := Tryd.sizeOf20
  v20 := Tryd.zeroValue20
  t31 := by kernel_rfl
  a31 := Tryd.isAgg63
  z31 := Tryd.sizeOf63
  v31 := Tryd.zeroValue63
  t37 := by kernel_rfl
  a37 := Tryd.isAgg22
  z37 := Tryd.sizeOf22
  v37 := Tryd.zeroValue22
  t70 := by kernel_rfl
  a70 := Tryd.isAgg81
  z70 := Tryd.sizeOf81
  v70 := Tryd.zeroValue81
  t72 := by kernel_rfl
  a72 := Tryd.isAgg83
  z72 := Tryd.sizeOf83
  v72 := Tryd.zeroValue83
  t75 := by kernel_rfl
  a75 := Tryd.isAgg86
  z75 := Tryd.sizeOf86
  v75 := Tryd.zeroValue86
  t76 := by kernel_rfl
  a76 := Tryd.isAgg87
  z76 := Tryd.sizeOf87
  v76 := Tryd.zeroValue87
  t127 := by kernel_rfl
  a127 := Tryd.isAgg92
  z127 := Tryd.sizeOf92
  v127 := Tryd.zeroValue92
  t164 := by kernel_rfl
  a164 := Tryd.isAgg95
  z164 := Tryd.sizeOf95
  v164 := Tryd.zeroValue95
theorem Tryd.laysn156_X : Builder.Extra Tryd.prog Tryd.laysn156_ren where
  sizeBuilder := by kernel_rfl
  liesBuilder := by kernel_rfl
  t5 := Tryd.underlying5
  a5 := Tryd.isAgg5
  z5 := Tryd.sizeOf5
  v5 := Tryd.zeroValue5
  infoByte := by kernel_rfl
  cellsByte := by kernel_rfl
  sizeByte := by kernel_rfl
  neB5 := by decide

end Go.Proofs
