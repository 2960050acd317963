/- The library of Go in this program. -/
import Derived.Shelf.Strings.OnBuilder
import Derived.Shelf.Strings.BuilderK
import Derived.Shelf.Strconv.Itoa4
import Derived.Shelf.Strings.Search3
import Derived.Test.YtobdbgdgingjjaaDoorProg
namespace Go.Proofs
open Go.Shelf
def Tryd.laysn166_ren : Go.Shelf.Ren where
  f := fun x => bif Nat.beq x 166 then 36 else bif Nat.beq x 240 then 73 else bif Nat.beq x 276 then 110 else x
  t := fun x => bif Nat.beq x 0 then 0 else bif Nat.beq x 3 then 3 else bif Nat.beq x 4 then 4 else bif Nat.beq x 5 then 5 else bif Nat.beq x 9 then 9 else bif Nat.beq x 20 then 20 else bif Nat.beq x 37 then 68 else bif Nat.beq x 70 then 67 else bif Nat.beq x 72 then 70 else bif Nat.beq x 75 then 76 else bif Nat.beq x 80 then 80 else bif Nat.beq x 164 then 164 else x
  g := fun x => x
theorem Tryd.laysn166 : Lays.n166 Tryd.prog Tryd.laysn166_ren where
  mixed := by kernel_rfl
  f166 := by kernel_rfl
  f240 := by kernel_rfl
  f276 := by kernel_rfl
  t0 := by kernel_rfl
  a0 := Tryd.isAgg0
  z0 := Tryd.sizeOf0
  v0 := Tryd.zeroValue0
  t3 := by kernel_rfl
  a3 := Tryd.isAgg3
  z3 := Tryd.sizeOf3
  v3 := Tryd.zeroValue3
  t4 := by kernel_rfl
  a4 := Tryd.isAgg4
  z4 := Tryd.sizeOf4
  v4 := Tryd.zeroValue4
  t9 := by kernel_rfl
  a9 := Tryd.isAgg9
  z9 := Tryd.sizeOf9
  v9 := Tryd.zeroValue9
  t20 := by kernel_rfl
  a20 := Tryd.isAgg20
  z20 := Tryd.sizeOf20
  v20 := Tryd.zeroValue20
  t37 := by kernel_rfl
  a37 := Tryd.isAgg68
  z37 := Tryd.sizeOf68
  v37 := Tryd.zeroValue68
  t70 := by kernel_rfl
  a70 := Tryd.isAgg67
  z70 := Tryd.sizeOf67
  v70 := Tryd.zeroValue67
  t72 := by kernel_rfl
  a72 := Tryd.isAgg70
  z72 := Tryd.sizeOf70
  v72 := Tryd.zeroValue70
  t75 := by kernel_rfl
  a75 := Tryd.isAgg76
  z75 := Tryd.sizeOf76
  v75 := Tryd.zeroValue76
  t164 := by kernel_rfl
  a164 := Tryd.isAgg164
  z164 := Tryd.sizeOf164
  v164 := Tryd.zeroValue164
theorem Tryd.laysn166_X : Builder.Extra Tryd.prog Tryd.laysn166_ren where
  sizeBuilder := by kernel_rfl
  liesBuilder := by kernel_rfl
  t5 := Tryd.underlying5
  a5 := Tryd.isAgg5
  z5 := Tryd.sizeOf5
  v5 := Tryd.zeroValue5
  infoByte := by kernel_rfl
  cellsByte := by kernel_rfl
  sizeByte := by kernel_rfl
  neB5 := by decide

def Tryd.laysn169_ren : Go.Shelf.Ren where
  f := fun x => bif Nat.beq x 169 then 38 else x
  t := fun x => bif Nat.beq x 0 then 0 else bif Nat.beq x 3 then 3 else bif Nat.beq x 5 then 5 else bif Nat.beq x 9 then 9 else bif Nat.beq x 37 then 68 else bif Nat.beq x 70 then 67 else bif Nat.beq x 72 then 70 else bif Nat.beq x 127 then 128 else x
  g := fun x => x
theorem Tryd.laysn169 : Lays.n169 Tryd.prog Tryd.laysn169_ren where
  mixed := by kernel_rfl
  f169 := by kernel_rfl
  t0 := by kernel_rfl
  a0 := Tryd.isAgg0
  z0 := Tryd.sizeOf0
  v0 := Tryd.zeroValue0
  t3 := by kernel_rfl
  a3 := Tryd.isAgg3
  z3 := Tryd.sizeOf3
  v3 := Tryd.zeroValue3
  t9 := by kernel_rfl
  a9 := Tryd.isAgg9
  z9 := Tryd.sizeOf9
  v9 := Tryd.zeroValue9
  t37 := by kernel_rfl
  a37 := Tryd.isAgg68
  z37 := Tryd.sizeOf68
  v37 := Tryd.zeroValue68
  t70 := by kernel_rfl
  a70 := Tryd.isAgg67
  z70 := Tryd.sizeOf67
  v70 := Tryd.zeroValue67
  t72 := by kernel_rfl
  a72 := Tryd.isAgg70
  z72 := Tryd.sizeOf70
  v72 := Tryd.zeroValue70
  t127 := by kernel_rfl
  a127 := Tryd.isAgg128
  z127 := Tryd.sizeOf128
  v127 := Tryd.zeroValue128
theorem Tryd.laysn169_X : Builder.Extra Tryd.prog Tryd.laysn169_ren where
  sizeBuilder := by kernel_rfl
  liesBuilder := by kernel_rfl
  t5 := Tryd.underlying5
  a5 := Tryd.isAgg5
  z5 := Tryd.sizeOf5
  v5 := Tryd.zeroValue5
  infoByte := by kernel_rfl
  cellsByte := by kernel_rfl
  sizeByte := by kernel_rfl
  neB5 := by decide

def Tryd.laysn170_ren : Go.Shelf.Ren where
  f := fun x => bif Nat.beq x 170 then 34 else x
  t := fun x => bif Nat.beq x 0 then 0 else bif Nat.beq x 3 then 3 else bif Nat.beq x 5 then 5 else bif Nat.beq x 37 then 68 else bif Nat.beq x 70 then 67 else bif Nat.beq x 72 then 70 else x
  g := fun x => x
theorem Tryd.laysn170 : Lays.n170 Tryd.prog Tryd.laysn170_ren where
  mixed := by kernel_rfl
  f170 := by kernel_rfl
  t0 := by kernel_rfl
  a0 := Tryd.isAgg0
  z0 := Tryd.sizeOf0
  v0 := Tryd.zeroValue0
  t3 := by kernel_rfl
  a3 := Tryd.isAgg3
  z3 := Tryd.sizeOf3
  v3 := Tryd.zeroValue3
  t37 := by kernel_rfl
  a37 := Tryd.isAgg68
  z37 := Tryd.sizeOf68
  v37 := Tryd.zeroValue68
  t70 := by kernel_rfl
  a70 := Tryd.isAgg67
  z70 := Tryd.sizeOf67
  v70 := Tryd.zeroValue67
  t72 := by kernel_rfl
  a72 := Tryd.isAgg70
  z72 := Tryd.sizeOf70
  v72 := Tryd.zeroValue70
theorem Tryd.laysn170_X : Builder.Extra Tryd.prog Tryd.laysn170_ren where
  sizeBuilder := by kernel_rfl
  liesBuilder := by kernel_rfl
  t5 := Tryd.underlying5
  a5 := Tryd.isAgg5
  z5 := Tryd.sizeOf5
  v5 := Tryd.zeroValue5
  infoByte := by kernel_rfl
  cellsByte := by kernel_rfl
  sizeByte := by kernel_rfl
  neB5 := by decide

def Tryd.laysMn173_ren : Go.Shelf.Ren where
  f := fun x => bif Nat.beq x 129 then 156 else bif Nat.beq x 173 then 74 else bif Nat.beq x 246 then 111 else bif Nat.beq x 283 then 140 else bif Nat.beq x 284 then 141 else bif Nat.beq x 285 then 142 else bif Nat.beq x 286 then 143 else bif Nat.beq x 317 then 155 else bif Nat.beq x 318 then 157 else bif Nat.beq x 319 then 158 else bif Nat.beq x 320 then 159 else bif Nat.beq x 337 then 160 else bif Nat.beq x 338 then 161 else x
  t := fun x => bif Nat.beq x 0 then 0 else bif Nat.beq x 2 then 2 else bif Nat.beq x 3 then 3 else bif Nat.beq x 4 then 4 else bif Nat.beq x 5 then 5 else bif Nat.beq x 9 then 9 else bif Nat.beq x 20 then 20 else bif Nat.beq x 37 then 68 else bif Nat.beq x 46 then 185 else bif Nat.beq x 51 then 193 else bif Nat.beq x 53 then 187 else bif Nat.beq x 171 then 186 else bif Nat.beq x 173 then 190 else bif Nat.beq x 212 then 201 else bif Nat.beq x 213 then 202 else bif Nat.beq x 232 then 205 else bif Nat.beq x 233 then 206 else x
  g := fun x => bif Nat.beq x 17 then 1 else bif Nat.beq x 18 then 3 else bif Nat.beq x 19 then 4 else x
theorem Tryd.laysMn173_laysn173 : Lays.n173 Tryd.prog Tryd.laysMn173_ren where
  mixed := by kernel_rfl
  f129 := by kernel_rfl
  f173 := by kernel_rfl
  f246 := by kernel_rfl
  f283 := by kernel_rfl
  f284 := by kernel_rfl
  f285 := by kernel_rfl
  f286 := by kernel_rfl
  f317 := by kernel_rfl
  f318 := by kernel_rfl
  f319 := by kernel_rfl
  f320 := by kernel_rfl
  f337 := by kernel_rfl
  f338 := by kernel_rfl
  t0 := by kernel_rfl
  a0 := Tryd.isAgg0
  z0 := Tryd.sizeOf0
  v0 := Tryd.zeroValue0
  t2 := by kernel_rfl
  a2 := Tryd.isAgg2
  z2 := Tryd.sizeOf2
  v2 := Tryd.zeroValue2
  t3 := by kernel_rfl
  a3 := Tryd.isAgg3
  z3 := Tryd.sizeOf3
  v3 := Tryd.zeroValue3
  t4 := by kernel_rfl
  a4 := Tryd.isAgg4
  z4 := Tryd.sizeOf4
  v4 := Tryd.zeroValue4
  t5 := by kernel_rfl
  a5 := Tryd.isAgg5
  z5 := Tryd.sizeOf5
  v5 := Tryd.zeroValue5
  t9 := by kernel_rfl
  a9 := Tryd.isAgg9
  z9 := Tryd.sizeOf9
  v9 := Tryd.zeroValue9
  t20 := by kernel_rfl
  a20 := Tryd.isAgg20
  z20 := Tryd.sizeOf20
  v20 := Tryd.zeroValue20
  t37 := by kernel_rfl
  a37 := Tryd.isAgg68
  z37 := Tryd.sizeOf68
  v37 := Tryd.zeroValue68
  t46 := by kernel_rfl
  a46 := Tryd.isAgg185
  z46 := Tryd.sizeOf185
  v46 := Tryd.zeroValue185
  t51 := by kernel_rfl
  a51 := Tryd.isAgg193
  z51 := Tryd.sizeOf193
  v51 := Tryd.zeroValue193
  t53 := by kernel_rfl
  a53 := Tryd.isAgg187
  z53 := Tryd.sizeOf187
  v53 := Tryd.zeroValue187
  t171 := by kernel_rfl
  a171 := Tryd.isAgg186
  z171 := Tryd.sizeOf186
  v171 := Tryd.zeroValue186
  t173 := by kernel_rfl
  a173 := Tryd.isAgg190
  z173 := Tryd.sizeOf190
  v173 := Tryd.zeroValue190
  t212 := by kernel_rfl
  a212 := Tryd.isAgg201
  z212 := Tryd.sizeOf201
  v212 := Tryd.zeroValue201
  t213 := by kernel_rfl
  a213 := Tryd.isAgg202
  z213 := Tryd.sizeOf202
  t232 := by kernel_rfl
  a232 := Tryd.isAgg205
  z232 := Tryd.sizeOf205
  v232 := Tryd.zeroValue205
  t233 := by kernel_rfl
  a233 := Tryd.isAgg206
  z233 := Tryd.sizeOf206
  v233 := Tryd.zeroValue206
  g17 := by kernel_rfl
  g18 := by kernel_rfl
  g19 := by kernel_rfl
theorem Tryd.laysMn173 : LaysM.n173 Tryd.prog Tryd.laysMn173_ren where
  ton173 := Tryd.laysMn173_laysn173
  i0 := by kernel_rfl
  i2 := by kernel_rfl
  i3 := by kernel_rfl
  i4 := by kernel_rfl
  i5 := by kernel_rfl
  i9 := by kernel_rfl
  i20 := by kernel_rfl
  i37 := by kernel_rfl
  i46 := by kernel_rfl
  i51 := by kernel_rfl
  i53 := by kernel_rfl
  i171 := by kernel_rfl
  i173 := by kernel_rfl
  i212 := by kernel_rfl
  i232 := by kernel_rfl
  i233 := by kernel_rfl
  m17 := by kernel_rfl
  m18 := by kernel_rfl
  m19 := by kernel_rfl

def Tryd.laysn144_ren : Go.Shelf.Ren where
  f := fun x => bif Nat.beq x 143 then 71 else bif Nat.beq x 144 then 33 else bif Nat.beq x 217 then 76 else bif Nat.beq x 219 then 109 else bif Nat.beq x 224 then 138 else bif Nat.beq x 225 then 137 else bif Nat.beq x 266 then 112 else bif Nat.beq x 267 then 139 else bif Nat.beq x 314 then 154 else x
  t := fun x => bif Nat.beq x 3 then 3 else bif Nat.beq x 4 then 4 else bif Nat.beq x 5 then 5 else bif Nat.beq x 9 then 9 else bif Nat.beq x 46 then 185 else bif Nat.beq x 51 then 193 else bif Nat.beq x 146 then 198 else x
  g := fun x => bif Nat.beq x 1 then 0 else x
theorem Tryd.laysn144 : Lays.n144 Tryd.prog Tryd.laysn144_ren where
  mixed := by kernel_rfl
  f143 := by kernel_rfl
  f144 := by kernel_rfl
  f217 := by kernel_rfl
  f219 := by kernel_rfl
  f224 := by kernel_rfl
  f225 := by kernel_rfl
  f266 := by kernel_rfl
  f267 := by kernel_rfl
  f314 := by kernel_rfl
  t3 := by kernel_rfl
  a3 := Tryd.isAgg3
  z3 := Tryd.sizeOf3
  v3 := Tryd.zeroValue3
  t4 := by kernel_rfl
  a4 := Tryd.isAgg4
  z4 := Tryd.sizeOf4
  v4 := Tryd.zeroValue4
  t5 := by kernel_rfl
  a5 := Tryd.isAgg5
  z5 := Tryd.sizeOf5
  v5 := Tryd.zeroValue5
  t9 := by kernel_rfl
  a9 := Tryd.isAgg9
  z9 := Tryd.sizeOf9
  v9 := Tryd.zeroValue9
  t46 := by kernel_rfl
  a46 := Tryd.isAgg185
  z46 := Tryd.sizeOf185
  v46 := Tryd.zeroValue185
  t51 := by kernel_rfl
  a51 := Tryd.isAgg193
  z51 := Tryd.sizeOf193
  v51 := Tryd.zeroValue193
  t146 := by kernel_rfl
  a146 := Tryd.isAgg198
  z146 := Tryd.sizeOf198
  v146 := Tryd.zeroValue198
  g1 := by kernel_rfl

def Tryd.laysn156_ren : Go.Shelf.Ren where
  f := fun x => bif Nat.beq x 156 then 63 else bif Nat.beq x 165 then 101 else bif Nat.beq x 166 then 36 else bif Nat.beq x 169 then 38 else bif Nat.beq x 240 then 73 else bif Nat.beq x 241 then 130 else bif Nat.beq x 276 then 110 else bif Nat.beq x 277 then 153 else x
  t := fun x => bif Nat.beq x 0 then 0 else bif Nat.beq x 3 then 3 else bif Nat.beq x 4 then 4 else bif Nat.beq x 5 then 5 else bif Nat.beq x 9 then 9 else bif Nat.beq x 20 then 20 else bif Nat.beq x 31 then 22 else bif Nat.beq x 37 then 68 else bif Nat.beq x 70 then 67 else bif Nat.beq x 72 then 70 else bif Nat.beq x 75 then 76 else bif Nat.beq x 76 then 77 else bif Nat.beq x 80 then 80 else bif Nat.beq x 127 then 128 else bif Nat.beq x 164 then 164 else x
  g := fun x => x
theorem Tryd.laysn156 : Lays.n156 Tryd.prog Tryd.laysn156_ren where
  mixed := by kernel_rfl
  f156 := by kernel_rfl
  f165 := by kernel_rfl
  f166 := by kernel_rfl
  f169 := by kernel_rfl
  f240 := by kernel_rfl
  f241 := by kernel_rfl
  f276 := by kernel_rfl
  f277 := by kernel_rfl
  t0 := by kernel_rfl
  a0 := Tryd.isAgg0
  z0 := Tryd.sizeOf0
  v0 := Tryd.zeroValue0
  t3 := by kernel_rfl
  a3 := Tryd.isAgg3
  z3 := Tryd.sizeOf3
  v3 := Tryd.zeroValue3
  t4 := by kernel_rfl
  a4 := Tryd.isAgg4
  z4 := Tryd.sizeOf4
  v4 := Tryd.zeroValue4
  t9 := by kernel_rfl
  a9 := Tryd.isAgg9
  z9 := Tryd.sizeOf9
  v9 := Tryd.zeroValue9
  t20 := by kernel_rfl
  a20 := Tryd.isAgg20
  z20 := Tryd.sizeOf20
  v20 := Tryd.zeroValue20
  t31 := by kernel_rfl
  a31 := Tryd.isAgg22
  z31 := Tryd.sizeOf22
  v31 := Tryd.zeroValue22
  t37 := by kernel_rfl
  a37 := Tryd.isAgg68
  z37 := Tryd.sizeOf68
  v37 := Tryd.zeroValue68
  t70 := by kernel_rfl
  a70 := Tryd.isAgg67
  z70 := Tryd.sizeOf67
  v70 := Tryd.zeroValue67
  t72 := by kernel_rfl
  a72 := Tryd.isAgg70
  z72 := Tryd.sizeOf70
  v72 := Tryd.zeroValue70
  t75 := by kernel_rfl
  a75 := Tryd.isAgg76
  z75 := Tryd.sizeOf76
  v75 := Tryd.zeroValue76
  t76 := by kernel_rfl
  a76 := Tryd.isAgg77
  z76 := Tryd.sizeOf77
  v76 := Tryd.zeroValue77
  t127 := by kernel_rfl
  a127 := Tryd.isAgg128
  z127 := Tryd.sizeOf128
  v127 := Tryd.zeroValue128
  t164 := by kernel_rfl
  a164 := Tryd.isAgg164
  z164 := Tryd.sizeOf164
  v164 := Tryd.zeroValue164
theorem Tryd.laysn156_X : Builder.Extra Tryd.prog Tryd.laysn156_ren where
  sizeBuilder := by kernel_rfl
  liesBuilder := by kernel_rfl
  t5 := Tryd.underlying5
  a5 := Tryd.isAgg5
  z5 := Tryd.sizeOf5
  v5 := Tryd.zeroValue5
  infoByte := by kernel_rfl
  cellsByte := by kernel_rfl
  sizeByte := by kernel_rfl
  neB5 := by decide

end Go.Proofs
