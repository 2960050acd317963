/- The library of Go in this program. -/
import Derived.Shelf.Strings.OnBuilder
import Derived.Shelf.Strings.BuilderK
import Derived.Shelf.Strconv.Itoa4
import Derived.Shelf.Strings.Search3
import Derived.Test.YtkdkcdkjfiabfaaDoorProg
namespace Go.Proofs
open Go.Shelf
def Tryd.laysMn173_ren : Go.Shelf.Ren where
  f := fun x => bif Nat.beq x 129 then 79 else bif Nat.beq x 173 then 34 else bif Nat.beq x 246 then 50 else bif Nat.beq x 283 then 65 else bif Nat.beq x 284 then 66 else bif Nat.beq x 285 then 67 else bif Nat.beq x 286 then 68 else bif Nat.beq x 317 then 78 else bif Nat.beq x 318 then 80 else bif Nat.beq x 319 then 81 else bif Nat.beq x 320 then 82 else bif Nat.beq x 337 then 93 else bif Nat.beq x 338 then 94 else x
  t := fun x => bif Nat.beq x 0 then 0 else bif Nat.beq x 2 then 2 else bif Nat.beq x 3 then 3 else bif Nat.beq x 4 then 4 else bif Nat.beq x 5 then 5 else bif Nat.beq x 9 then 9 else bif Nat.beq x 20 then 20 else bif Nat.beq x 37 then 22 else bif Nat.beq x 46 then 85 else bif Nat.beq x 51 then 70 else bif Nat.beq x 53 then 65 else bif Nat.beq x 171 then 87 else bif Nat.beq x 173 then 90 else bif Nat.beq x 212 then 100 else bif Nat.beq x 213 then 101 else bif Nat.beq x 232 then 121 else bif Nat.beq x 233 then 122 else x
  g := fun x => bif Nat.beq x 17 then 1 else bif Nat.beq x 18 then 2 else bif Nat.beq x 19 then 3 else x
theorem Tryd.laysMn173_laysn173 : Lays.n173 Tryd.prog Tryd.laysMn173_ren where
  mixed := by kernel_rfl
  f129 := by kernel_rfl
  f173 := by kernel_rfl
  f246 := by kernel_rfl
  f283 := by kernel_rfl
  f284 := by kernel_rfl
  f285 := by kernel_rfl
  f286 := by kernel_rfl
  f317 := by kernel_rfl
  f318 := by kernel_rfl
  f319 := by kernel_rfl
  f320 := by kernel_rfl
  f337 := by kernel_rfl
  f338 := by kernel_rfl
  t0 := by kernel_rfl
  a0 := Tryd.isAgg0
  z0 := Tryd.sizeOf0
  v0 := Tryd.zeroValue0
  t2 := by kernel_rfl
  a2 := Tryd.isAgg2
  z2 := Tryd.sizeOf2
  v2 := Tryd.zeroValue2
  t3 := by kernel_rfl
  a3 := Tryd.isAgg3
  z3 := Tryd.sizeOf3
  v3 := Tryd.zeroValue3
  t4 := by kernel_rfl
  a4 := Tryd.isAgg4
  z4 := Tryd.sizeOf4
  v4 := Tryd.zeroValue4
  t5 := by kernel_rfl
  a5 := Tryd.isAgg5
  z5 := Tryd.sizeOf5
  v5 := Tryd.zeroValue5
  t9 := by kernel_rfl
  a9 := Tryd.isAgg9
  z9 := Tryd.sizeOf9
  v9 := Tryd.zeroValue9
  t20 := by kernel_rfl
  a20 := Tryd.isAgg20
  z20 := Tryd.sizeOf20
  v20 := Tryd.zeroValue20
  t37 := by kernel_rfl
  a37 := Tryd.isAgg22
  z37 := Tryd.sizeOf22
  v37 := Tryd.zeroValue22
  t46 := by kernel_rfl
  a46 := Tryd.isAgg85
  z46 := Tryd.sizeOf85
  v46 := Tryd.zeroValue85
  t51 := by kernel_rfl
  a51 := Tryd.isAgg70
  z51 := Tryd.sizeOf70
  v51 := Tryd.zeroValue70
  t53 := by kernel_rfl
  a53 := Tryd.isAgg65
  z53 := Tryd.sizeOf65
  v53 := Tryd.zeroValue65
  t171 := by kernel_rfl
  a171 := Tryd.isAgg87
  z171 := Tryd.sizeOf87
  v171 := Tryd.zeroValue87
  t173 := by kernel_rfl
  a173 := Tryd.isAgg90
  z173 := Tryd.sizeOf90
  v173 := Tryd.zeroValue90
  t212 := by kernel_rfl
  a212 := Tryd.isAgg100
  z212 := Tryd.sizeOf100
  v212 := Tryd.zeroValue100
  t213 := by kernel_rfl
  a213 := Tryd.isAgg101
  z213 := Tryd.sizeOf101
  t232 := by kernel_rfl
  a232 := Tryd.isAgg121
  z232 := Tryd.sizeOf121
  v232 := Tryd.zeroValue121
  t233 := by kernel_rfl
  a233 := Tryd.isAgg122
  z233 := Tryd.sizeOf122
  v233 := Tryd.zeroValue122
  g17 := by kernel_rfl
  g18 := by kernel_rfl
  g19 := by kernel_rfl
theorem Tryd.laysMn173 : LaysM.n173 Tryd.prog Tryd.laysMn173_ren where
  ton173 := Tryd.laysMn173_laysn173
  i0 := by kernel_rfl
  i2 := by kernel_rfl
  i3 := by kernel_rfl
  i4 := by kernel_rfl
  i5 := by kernel_rfl
  i9 := by kernel_rfl
  i20 := by kernel_rfl
  i37 := by kernel_rfl
  i46 := by kernel_rfl
  i51 := by kernel_rfl
  i53 := by kernel_rfl
  i171 := by kernel_rfl
  i173 := by kernel_rfl
  i212 := by kernel_rfl
  i232 := by kernel_rfl
  i233 := by kernel_rfl
  m17 := by kernel_rfl
  m18 := by kernel_rfl
  m19 := by kernel_rfl

end Go.Proofs
