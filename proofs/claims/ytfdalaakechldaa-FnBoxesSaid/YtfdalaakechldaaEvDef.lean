/- A small evaluator of the model's code over plain values: numbers, lists and boxes without addresses. What it says is shown to hold of the model's own runs in the texts that follow. -/
import Derived.WalkKit
import Derived.KernelRfl
import Derived.Orders
set_option linter.unusedVariables false
namespace Go.Ev

/-- The types of data that a slice's elements may have. -/
inductive Ty where
  | int (k : IntKind) | float (k : FloatKind) | bool | str | slice (t : Ty) | pair (a b : Ty) | unit
  deriving DecidableEq

@[reducible] def Ty.den : Ty → Type
  | .int _ => Int
  | .float _ => Nat
  | .bool => Bool
  | .str => List UInt8
  | .slice t => List t.den
  | .pair a b => a.den × b.den
  | .unit => Unit

def Ty.size : Ty → Nat
  | .pair a b => a.size + b.size
  | .unit => 0
  | _ => 1

/-- A value of the evaluator. -/
inductive V where
  | undef
  | bool (b : Bool)
  | int (k : IntKind) (n : Int)
  | float (k : FloatKind) (bits : Nat)
  | str (s : List UInt8)
  | agg (vs : List V)
  | vec (t : Ty) (xs : List t.den)
  | nils
  | nilp
  | ref (cells : List V) (off : Nat)
  | ptr (id off : Nat)
  | obj (id ver : Nat)
  | eptr (id ver i off : Nat)
  | bptr (id : Nat)
  | psl (id : Nat) (t : Ty) (n : Nat)
  | fn (f : FuncId) (cap : List V)
  | tuple (vs : List V)
  | nanb
  | empty (nil z : Bool)
  | dob (id ver : Nat)
  | dep (id ver i off : Nat)
  | inn (id iv i off : Nat)

instance : Inhabited V := ⟨.undef⟩

/-- What the evaluator keeps in memory. -/
inductive Ob where
  | box (cells : List V)
  | sl (ver : Nat) (t : Ty) (xs : List t.den)
  | fz (ver : Nat) (t : Ty) (xs : List t.den)
  | bld (T e : TypeId) (l : List UInt8)
  | dead
  | dp (ver iv : Nat) (t : Ty) (xs : List t.den)

abbrev Heap := List Ob

/-! ### floats -/
def infOf : FloatKind → Nat
  | .f32 => 2139095040
  | .f64 => 9218868437227405312
def signOf : FloatKind → Nat
  | .f32 => 2147483648
  | .f64 => 9223372036854775808
def qnan : FloatKind → Nat
  | .f32 => 2143289344
  | .f64 => 9221120237041090560
/-- Is the word a not-a-number? -/
def nan (k : FloatKind) (b : Nat) : Bool := Nat.blt (infOf k) (b % signOf k)
def canon (k : FloatKind) (b : Nat) : Nat := bif nan k b then qnan k else b
def orNan (k : FloatKind) : Option Nat → Nat
  | some r => r
  | none => qnan k
def fadd (k : FloatKind) (x y : Nat) : Nat := orNan k (k.format.add x y)
def fsub (k : FloatKind) (x y : Nat) : Nat := orNan k (k.format.sub x y)
def fmul (k : FloatKind) (x y : Nat) : Nat := orNan k (k.format.mul x y)
def fdiv (k : FloatKind) (x y : Nat) : Nat := orNan k (k.format.div x y)
def fsqrt (k : FloatKind) (x : Nat) : Nat := orNan k (k.format.sqrt x)
def feq (k : FloatKind) (x y : Nat) : Bool := k.format.order x y == some .eq
def flt (k : FloatKind) (x y : Nat) : Bool := k.format.order x y == some .lt
def fle (k : FloatKind) (x y : Nat) : Bool := k.format.order x y == some .lt || k.format.order x y == some .eq
def fgt (k : FloatKind) (x y : Nat) : Bool := k.format.order x y == some .gt
def fge (k : FloatKind) (x y : Nat) : Bool := k.format.order x y == some .gt || k.format.order x y == some .eq
def fneg (k : FloatKind) (x : Nat) : Nat := canon k (x ^^^ signOf k)
/-- A 32-bit float as a 64-bit one. -/
def widen (b : Nat) : Nat := bif nan .f32 b then qnan .f64 else FloatKind.f64.encode (FloatKind.f32.decode b)
/-- Is a 64-bit float finite and too great for 32 bits? -/
def ovf (b : Nat) : Bool :=
  match FloatKind.f64.decode b with
  | .number s m e => (FloatKind.f32.decode (FloatKind.f32.encode (.number s m e))).isInfinity
  | _ => false
def narrow (b : Nat) : Nat := bif nan .f64 b then qnan .f32 else FloatKind.f32.encode (FloatKind.f64.decode b)
/-- A float cut to a whole number, where it fits. -/
def f2i (s : FloatKind) (b : Nat) (d : IntKind) : Option Int :=
  match (s.decode b).toInt .zero with
  | some n => if d.min ≤ n ∧ n ≤ d.max then some n else none
  | none => none

/-! ### encodings -/
def enc : (t : Ty) → t.den → List V
  | .int k, n => [.int k n]
  | .float k, b => [.float k b]
  | .bool, b => [.bool b]
  | .str, s => [.str s]
  | .slice t, xs => [.vec t xs]
  | .pair a b, x => enc a x.1 ++ enc b x.2
  | .unit, _ => []

def dec : (t : Ty) → List V → Option (t.den × List V)
  | .int k, .int k' n :: r => if k = k' then some (n, r) else none
  | .float k, .float k' b :: r => if k = k' then some (b, r) else none
  | .bool, .bool b :: r => some (b, r)
  | .str, .str s :: r => some (s, r)
  | .slice t, .vec t' xs :: r => if h : t' = t then some (h ▸ xs, r) else none
  | .slice _, .nils :: r => some ([], r)
  | .slice _, .empty _ _ :: r => some ([], r)
  | .pair a b, vs =>
    match dec a vs with
    | some (x, r) =>
      match dec b r with
      | some (y, r') => some ((x, y), r')
      | none => none
    | none => none
  | .unit, vs => some ((), vs)
  | _, _ => none

/-- n elements, one behind the other. -/
def decN (t : Ty) : Nat → List V → Option (List t.den)
  | 0, [] => some []
  | 0, _ :: _ => none
  | n + 1, vs =>
    match dec t vs with
    | some (x, r) =>
      match decN t n r with
      | some xs => some (x :: xs)
      | none => none
    | none => none

/-! ### slices whose elements have slices of their own -/
def flatTy : Ty → Bool
  | .slice _ => false
  | .pair a b => flatTy a && flatTy b
  | _ => true
/-- The slice in a value, at a cell. -/
def subAt : (t : Ty) → t.den → Nat → Option (Sigma fun e : Ty => List e.den)
  | .slice e, xs, o => bif Nat.beq o 0 then some ⟨e, xs⟩ else none
  | .pair a b, x, o => bif Nat.blt o a.size then subAt a x.1 o else subAt b x.2 (o - a.size)
  | _, _, _ => none
def putAt : (t : Ty) → t.den → Nat → (e : Ty) → List e.den → t.den
  | .slice e, xs, _, e', ys => if h : e' = e then h ▸ ys else xs
  | .pair a b, x, o, e', ys => bif Nat.blt o a.size then (putAt a x.1 o e' ys, x.2) else (x.1, putAt b x.2 (o - a.size) e' ys)
  | _, x, _, _, _ => x
/-- An element's cells; its slices by their places. -/
def encD (mk : Nat → V) : (t : Ty) → t.den → Nat → List V
  | .slice _, _, o => [mk o]
  | .pair a b, x, o => encD mk a x.1 o ++ encD mk b x.2 (o + a.size)
  | .int k, x, _ => enc (.int k) x
  | .float k, x, _ => enc (.float k) x
  | .bool, x, _ => enc .bool x
  | .str, x, _ => enc .str x
  | .unit, x, _ => enc .unit x
/-- Is it the slice that stands there? -/
def sameInn (id iv i o : Nat) : V → Bool
  | .inn id' iv' i' o' => Nat.beq id id' && (Nat.beq iv iv' && (Nat.beq i i' && Nat.beq o o'))
  | _ => false
def noInn : V → Bool
  | .inn .. => false
  | _ => true
def decD (id iv i : Nat) : (t : Ty) → t.den → Nat → List V → Option (t.den × List V)
  | .slice _, x, o, v :: r => bif sameInn id iv i o v then some (x, r) else none
  | .slice _, _, _, [] => none
  | .pair a b, x, o, vs =>
    match decD id iv i a x.1 o vs with
    | some (y, r) => match decD id iv i b x.2 (o + a.size) r with
      | some (z, r') => some ((y, z), r')
      | none => none
    | none => none
  | .int k, _, _, vs => dec (.int k) vs
  | .float k, _, _, vs => dec (.float k) vs
  | .bool, _, _, vs => dec .bool vs
  | .str, _, _, vs => dec .str vs
  | .unit, _, _, vs => dec .unit vs
/-- Cells with slices of one's own, which become an element's: their numbers. -/
def decOw (H : List Ob) : (t : Ty) → List V → Option (t.den × List Nat × List V)
  | .slice e, v :: r => match v with
    | .nils => bif Nat.blt 0 e.size then some ([], [], r) else none
    | .obj j ver => match H[j]? with
      | some (.sl ver' t' ys) => bif Nat.beq ver ver' && flatTy e then (if h : t' = e then some (h ▸ ys, [j], r) else none) else none
      | _ => none
    | .dob j ver => match H[j]? with
      | some (.dp ver' _ t' ys) => bif Nat.beq ver ver' then (if h : t' = e then some (h ▸ ys, [j], r) else none) else none
      | _ => none
    | _ => none
  | .slice _, [] => none
  | .pair a b, vs =>
    match decOw H a vs with
    | some (y, L, r) => match decOw H b r with
      | some (z, L', r') => some ((y, z), L ++ L', r')
      | none => none
    | none => none
  | .int k, vs => match dec (.int k) vs with | some (x, r) => some (x, [], r) | none => none
  | .float k, vs => match dec (.float k) vs with | some (x, r) => some (x, [], r) | none => none
  | .bool, vs => match dec .bool vs with | some (x, r) => some (x, [], r) | none => none
  | .str, vs => match dec .str vs with | some (x, r) => some (x, [], r) | none => none
  | .unit, vs => match dec .unit vs with | some (x, r) => some (x, [], r) | none => none
def decOwN (H : List Ob) (t : Ty) : Nat → List V → Option (List t.den × List Nat)
  | 0, [] => some ([], [])
  | 0, _ :: _ => none
  | n + 1, vs =>
    match decOw H t vs with
    | some (x, L, r) => match decOwN H t n r with
      | some (xs, L') => some (x :: xs, L ++ L')
      | none => none
    | none => none
def kill (H : List Ob) : List Nat → List Ob
  | [] => H
  | j :: L => (kill H L).set j .dead
def nodupB : List Nat → Bool
  | [] => true
  | x :: r => (r.all fun y => !Nat.beq x y) && nodupB r

/-! ### the tables -/
structure TI where
  desc : TypeDesc
  size : Nat
  bytes : Nat
  zero : Value
  ty : Ty
  eqok : Bool

instance : Inhabited TI := ⟨⟨.invalid, 0, 0, .tuple #[], .unit, false⟩⟩

def TI.agg (i : TI) : Bool := match i.desc with | .struct _ | .array _ _ => true | _ => false

/-- How a call hands over what its caller owns. -/
inductive Pass where
  | view | freeze | own

structure Ann where
  slots : List Nat
  keep : Nat
  gather : Bool

structure Ctx where
  ti : TypeId → TI
  call : FuncId → List V → Heap → (V → Heap → Prop) → Prop
  pass : FuncId → Pass
  ntmps : Nat
  ann : Nat → Option Ann
  base : Nat := 0
  cut : Bool := false
  deep : Bool := false
  dr : Bool := false
  mv : Bool := false
  vw : Bool := false
  es : FuncId → Bool := fun _ => false
  esD : FuncId → Bool := fun _ => false
  callD : FuncId → List V → Heap → (V → Heap → Prop) → Prop := call
  passD : FuncId → Pass := pass

/-- What callees do where the order is open. -/
def Ctx.drawn (C : Ctx) : Ctx := { C with call := C.callD, pass := C.passD, es := C.esD, dr := C.deep || C.mv }
/-- Is a length asked of a view alone, where the order is open? -/
def Ctx.mvl (C : Ctx) : Bool := C.mv && !C.vw

/-! ### frames -/
abbrev Fr := List (Nat × V)
def Fr.get : Fr → Nat → V
  | [], _ => .undef
  | (s, v) :: r, t => bif Nat.beq s t then v else Fr.get r t

/-- What of a constant is known. -/
def ofVal1 : Value → V
  | .bool b => .bool b
  | .int k n => bif decide (k.min ≤ n) && decide (n ≤ k.max) then .int k n else .undef
  | .float k b => bif Nat.blt b (2 * signOf k) then .float k (canon k b) else .undef
  | .string s => bif Nat.ble s.data.toList.length 9223372036854775807 then .str s.data.toList else .undef
  | .slice none 0 0 => .nils
  | .pointer none => .nilp
  | .tuple ⟨[]⟩ => .tuple []
  | _ => .undef
def ofVal : Value → V
  | .agg cs => .agg (cs.toList.map ofVal1)
  | v => ofVal1 v

def Fr.eval (fr : Fr) : Operand → V
  | .tmp t => fr.get t
  | .const v => ofVal v
  | .global _ => .undef
  | .func f => .fn f []

/-- The cells of a value; none where they are not known. -/
def cellsOf : V → Option (List V)
  | .agg vs => some vs
  | .undef => none
  | .tuple _ => none
  | v => some [v]

/-! ### what may leave -/
mutual
/-- No address of what the call owns. -/
def immut : V → Bool
  | .ptr .. | .obj .. | .eptr .. | .bptr _ | .psl .. | .dob .. | .dep .. | .inn .. => false
  | .agg vs => immuts vs
  | .tuple vs => immuts vs
  | .fn _ vs => immuts vs
  | .ref vs _ => immuts vs
  | _ => true
def immuts : List V → Bool
  | [] => true
  | v :: vs => immut v && immuts vs
end
mutual
/-- No address at all. -/
def flat : V → Bool
  | .ptr .. | .obj .. | .eptr .. | .bptr _ | .psl .. | .ref .. | .vec .. | .dob .. | .dep .. | .inn .. => false
  | .agg vs => flats vs
  | .tuple vs => flats vs
  | .fn _ vs => flats vs
  | _ => true
def flats : List V → Bool
  | [] => true
  | v :: vs => flat v && flats vs
end

/-- The list with cells put from a place on. -/
def setAt : List V → Nat → List V → List V
  | cs, _, [] => cs
  | cs, i, v :: vs => setAt (cs.set i v) (i + 1) vs

/-! ### views: what the caller owns, as data that nobody writes -/
def view1 (H : Heap) : V → Option V
  | .obj id ver =>
    match H[id]? with
    | some (.sl ver' t xs) => bif Nat.beq ver ver' then some (.vec t xs) else none
    | some (.fz ver' t xs) => bif Nat.beq ver ver' then some (.vec t xs) else none
    | _ => none
  | .ptr .. => none
  | .eptr .. => none
  | .bptr _ => none
  | .psl .. => none
  | .dob id ver =>
    match H[id]? with
    | some (.dp ver' _ t xs) => bif Nat.beq ver ver' then some (.vec t xs) else none
    | _ => none
  | .inn id iv i off =>
    match H[id]? with
    | some (.dp _ iv' t xs) => bif Nat.beq iv iv' then (match xs[i]? with
      | some x => match subAt t x off with
        | some ⟨e, ys⟩ => some (.vec e ys)
        | none => none
      | none => none) else none
    | _ => none
  | .dep .. => none
  | .agg vs => bif immuts vs then some (.agg vs) else none
  | .tuple vs => bif immuts vs then some (.tuple vs) else none
  | .fn f vs => bif immuts vs then some (.fn f vs) else none
  | .ref vs o => bif immuts vs then some (.ref vs o) else none
  | v => some v
def views1 (H : Heap) : List V → Option (List V)
  | [] => some []
  | v :: vs =>
    match view1 H v with
    | some v' => match views1 H vs with
      | some vs' => some (v' :: vs')
      | none => none
    | none => none
def view2 (H : Heap) : V → Option V
  | .agg vs => match views1 H vs with
    | some vs' => some (.agg vs')
    | none => none
  | .ptr id off =>
    match H[id]? with
    | some (.box cells) => match views1 H cells with
      | some vs' => some (.ref vs' off)
      | none => none
    | _ => none
  | .eptr id ver i off =>
    match H[id]? with
    | some (.sl ver' t xs) => bif Nat.beq ver ver' then (match xs[i]? with | some x => some (.ref (enc t x) off) | none => none) else none
    | some (.fz ver' t xs) => bif Nat.beq ver ver' then (match xs[i]? with | some x => some (.ref (enc t x) off) | none => none) else none
    | _ => none
  | .psl id t n =>
    match H[id]? with
    | some (.box cells) => bif immuts cells then (match decN t n cells with | some xs => some (.vec t xs) | none => none) else none
    | _ => none
  | v => view1 H v
def views2 (H : Heap) : List V → Option (List V)
  | [] => some []
  | v :: vs =>
    match view2 H v with
    | some v' => match views2 H vs with
      | some vs' => some (v' :: vs')
      | none => none
    | none => none
/-- A function value's captured variables are addresses of boxes. -/
def view3 (H : Heap) : V → Option V
  | .fn f vs => match views2 H vs with
    | some vs' => some (.fn f vs')
    | none => none
  | v => view2 H v
def views3 (H : Heap) : List V → Option (List V)
  | [] => some []
  | v :: vs =>
    match view3 H v with
    | some v' => match views3 H vs with
      | some vs' => some (v' :: vs')
      | none => none
    | none => none

/-- An element of an owned slice is looked up where the rest goes on. -/
def view3K (H : Heap) (v : V) (K : V → Prop) : Prop :=
  match v with
  | .eptr id ver i off =>
    match H[id]? with
    | some (.sl ver' t xs) => bif Nat.beq ver ver' then (match xs[i]? with
      | some x => K (.ref (enc t x) off)
      | none => False) else False
    | some (.fz ver' t xs) => bif Nat.beq ver ver' then (match xs[i]? with
      | some x => K (.ref (enc t x) off)
      | none => False) else False
    | _ => False
  | v => match view3 H v with
    | some v' => K v'
    | none => False
def views3K (H : Heap) : List V → (List V → Prop) → Prop
  | [], K => K []
  | v :: vs, K => view3K H v fun v' => views3K H vs fun vs' => K (v' :: vs')
/-! ### operations -/
def binInt (op : BinOp) (k : IntKind) (a b : Int) (K : V → Prop) : Prop :=
  match op with
  | .add => K (.int k (k.wrap (a + b)))
  | .sub => K (.int k (k.wrap (a - b)))
  | .mul => K (.int k (k.wrap (a * b)))
  | .quo => cond (b == 0) False (K (.int k (k.wrap (a.tdiv b))))
  | .rem => cond (b == 0) False (K (.int k (a.tmod b)))
  | .and => K (.int k (k.wrap (BitVec.ofInt k.bits a &&& BitVec.ofInt k.bits b).toNat))
  | .or => K (.int k (k.wrap (BitVec.ofInt k.bits a ||| BitVec.ofInt k.bits b).toNat))
  | .xor => K (.int k (k.wrap (BitVec.ofInt k.bits a ^^^ BitVec.ofInt k.bits b).toNat))
  | .andNot => K (.int k (k.wrap (BitVec.ofInt k.bits a &&& ~~~(BitVec.ofInt k.bits b)).toNat))
  | .eql => K (.bool (a == b))
  | .neq => K (.bool (a != b))
  | .lss => K (.bool (decide (a < b)))
  | .leq => K (.bool (decide (a ≤ b)))
  | .gtr => K (.bool (decide (a > b)))
  | .geq => K (.bool (decide (a ≥ b)))
  | _ => False

def binFloat (op : BinOp) (k : FloatKind) (a b : Nat) (K : V → Prop) : Prop :=
  match op with
  | .add => K (.float k (fadd k a b))
  | .sub => K (.float k (fsub k a b))
  | .mul => K (.float k (fmul k a b))
  | .quo => K (.float k (fdiv k a b))
  | .eql => K (.bool (feq k a b))
  | .neq => K (.bool (!feq k a b))
  | .lss => K (.bool (flt k a b))
  | .leq => K (.bool (fle k a b))
  | .gtr => K (.bool (fgt k a b))
  | .geq => K (.bool (fge k a b))
  | _ => False

def bytesEq (a b : List UInt8) : Bool := a == b
def binStr (op : BinOp) (a b : List UInt8) (K : V → Prop) : Prop :=
  match op with
  | .add => cond (Nat.blt (a.length + b.length) 9223372036854775808) (K (.str (a ++ b))) False
  | .eql => K (.bool (bytesEq a b))
  | .neq => K (.bool (!bytesEq a b))
  | .lss => K (.bool (Op.bytesLess a b))
  | .leq => K (.bool (Op.bytesLess a b || bytesEq a b))
  | .gtr => K (.bool (!(Op.bytesLess a b || bytesEq a b)))
  | .geq => K (.bool (!Op.bytesLess a b))
  | _ => False

def shiftOp (op : BinOp) (k : IntKind) (a b : Int) (K : V → Prop) : Prop :=
  match op with
  | .shl => cond (decide (b < 0)) False (K (.int k (k.wrap (a * 2 ^ (min b.toNat k.bits)))))
  | .shr => cond (decide (b < 0)) False (K (.int k (a.fdiv (2 ^ (min b.toNat k.bits)))))
  | _ => False

def isShift : BinOp → Bool
  | .shl | .shr => true
  | _ => false

def partV (i : TI) (cs : List V) : Option V :=
  bif i.agg then (bif Nat.ble i.size cs.length then some (.agg (cs.take i.size)) else none)
  else bif Nat.beq i.size 0 then none
  else match cs with
    | v :: _ => some v
    | [] => none

def andO (a b : Option Bool) : Option Bool := match a with
  | some x => match b with
    | some y => some (bif x then y else false)
    | none => none
  | none => none

def leafEq : V → V → TypeDesc → Option Bool
  | .int k a, .int k' b, .int _ => if k = k' then some (a == b) else none
  | .float k a, .float k' b, .float _ => if k = k' then some (feq k a b) else none
  | .bool a, .bool b, .bool => some (a == b)
  | .str a, .str b, .string => some (bytesEq a b)
  | _, _, _ => none

def eqFs (eq : TypeId → V → V → Option Bool) (ti : TypeId → TI) (xs ys : List V) : List Field → Option Bool
  | [] => some true
  | f :: fs =>
    bif f.name == "_" then none else
    match partV (ti f.type) (xs.drop f.offset) with
    | none => none
    | some a => match partV (ti f.type) (ys.drop f.offset) with
      | none => none
      | some b => andO (eq f.type a b) (eqFs eq ti xs ys fs)

def eqIs (eq : TypeId → V → V → Option Bool) (ti : TypeId → TI) (e : TypeId) (xs ys : List V) : List Nat → Option Bool
  | [] => some true
  | i :: is =>
    match partV (ti e) (xs.drop (i * (ti e).size)) with
    | none => none
    | some a => match partV (ti e) (ys.drop (i * (ti e).size)) with
      | none => none
      | some b => andO (eq e a b) (eqIs eq ti e xs ys is)

/-- Are two values of a type the same? -/
def eqV (ti : TypeId → TI) : Nat → TypeId → V → V → Option Bool
  | 0, _, _, _ => none
  | n + 1, t, .agg xs, .agg ys =>
    match (ti t).desc with
    | .struct fs => bif (ti t).eqok then eqFs (eqV ti n) ti xs ys fs.toList else none
    | .array len e => bif Nat.beq (ti e).size 0 then none else eqIs (eqV ti n) ti e xs ys (List.range len)
    | _ => none
  | _ + 1, t, x, y => leafEq x y (ti t).desc

def binV (C : Ctx) (op : BinOp) (t : TypeId) (x y : V) (K : V → Prop) : Prop :=
  match x with
  | .int k a =>
    match y with
    | .int k' b => bif isShift op then shiftOp op k a b K else (if k = k' then binInt op k a b K else False)
    | _ => False
  | .float k a =>
    match y with
    | .float k' b => if k = k' then binFloat op k a b K else False
    | _ => False
  | .str a =>
    match y with
    | .str b => binStr op a b K
    | _ => False
  | .bool a =>
    match y with
    | .bool b =>
      match (C.ti t).desc with
      | .bool =>
        match op with
        | .eql => K (.bool (a == b))
        | .neq => K (.bool (a != b))
        | _ => False
      | _ => False
    | _ => False
  | .agg a =>
    match y with
    | .agg b =>
      bif (C.ti t).eqok then
        match eqV C.ti 8 t (.agg a) (.agg b) with
        | none => False
        | some r => match op with
          | .eql => K (.bool r)
          | .neq => K (.bool (!r))
          | _ => False
      else False
    | _ => False
  | .vec _ (_ :: _) =>
    match y with
    | .nils => match (C.ti t).desc with
      | .slice _ => match op with
        | .eql => K (.bool false)
        | .neq => K (.bool true)
        | _ => False
      | _ => False
    | _ => False
  | .empty b _ =>
    match y with
    | .nils => match (C.ti t).desc with
      | .slice _ => match op with
        | .eql => K (.bool b)
        | .neq => K (.bool (!b))
        | _ => False
      | _ => False
    | _ => False
  | .nanb =>
    match y with
    | .int .u32 m => match op with
      | .andNot => bif decide (m = 2147483648) then K .nanb else False
      | _ => False
    | _ => False
  | _ => False

def unV (op : UnOp) (x : V) (K : V → Prop) : Prop :=
  match op with
  | .not => match x with
    | .bool b => K (.bool (!b))
    | _ => False
  | .neg => match x with
    | .int k n => K (.int k (k.wrap (0 - n)))
    | .float k b => K (.float k (fneg k b))
    | _ => False
  | _ => False

def convV (C : Ctx) (src dst : TypeId) (x : V) (K : V → Prop) : Prop :=
  bif Nat.beq (C.ti src).size 0 then False else
  match x with
  | .int _ n =>
    match (C.ti dst).desc with
    | .int k => K (.int k (k.wrap n))
    | .float k => K (.float k (k.nearest n))
    | _ => False
  | .float s b =>
    match (C.ti dst).desc with
    | .int k => match f2i s b k with
      | some n => K (.int k n)
      | none => K .undef
    | .float .f64 => match s with
      | .f32 => K (.float .f64 (widen b))
      | .f64 => K (.float .f64 b)
    | .float .f32 => match s with
      | .f32 => K (.float .f32 b)
      | .f64 => cond (ovf b) (K .undef) (K (.float .f32 (narrow b)))
    | _ => False
  | .str s =>
    match (C.ti src).desc with
    | .string =>
      match (C.ti dst).desc with
      | .string => K (.str s)
      | _ => False
    | _ => False
  | _ => False

/-- What a conversion does with the memory. -/
inductive Kd where
  | blind | reads | alloc | writes
  deriving DecidableEq
def cvKind (C : Ctx) (s d : TypeId) : Kd :=
  match (C.ti s).desc with
  | .slice _ => .reads
  | .string => match (C.ti d).desc with
    | .slice _ => .alloc
    | _ => .blind
  | _ => .blind

def toU8 (xs : List Int) : List UInt8 := xs.map fun n => UInt8.ofNat n.toNat
def ofU8 (s : List UInt8) : List Int := s.map fun b => (b.toNat : Int)

/-- A value that takes just one cell. -/
def one : V → Bool
  | .undef => false
  | .agg _ => false
  | .tuple _ => false
  | _ => true

/-- Cells read as a value of a type. -/
def readV (i : TI) (cs : List V) (K : V → Prop) : Prop :=
  bif i.agg then (bif Nat.ble i.size cs.length then K (.agg (cs.take i.size)) else False)
  else bif Nat.beq i.size 0 then False
  else match cs with
    | v :: _ => K v
    | [] => False

def loadV (C : Ctx) (t : TypeId) (x : V) (H : Heap) (K : V → Prop) : Prop :=
  match x with
  | .ref cells off => readV (C.ti t) (cells.drop off) K
  | .ptr id off =>
    match H[id]? with
    | some (.box cells) => readV (C.ti t) (cells.drop off) K
    | _ => False
  | .eptr id ver i off =>
    match H[id]? with
    | some (.sl ver' ty xs) => bif Nat.beq ver ver' then (match xs[i]? with | some x => readV (C.ti t) ((enc ty x).drop off) K | none => False) else False
    | some (.fz ver' ty xs) => bif Nat.beq ver ver' then (match xs[i]? with | some x => readV (C.ti t) ((enc ty x).drop off) K | none => False) else False
    | _ => False
  | .dep id ver i off =>
    match H[id]? with
    | some (.dp ver' iv ty xs) => bif Nat.beq ver ver' then (match xs[i]? with | some x => readV (C.ti t) ((encD (fun o => .inn id iv i o) ty x 0).drop off) K | none => False) else False
    | _ => False
  | _ => False

def storeV (C : Ctx) (t : TypeId) (x v : V) (H : Heap) (K : Heap → Prop) : Prop :=
  match cellsOf v with
  | none => False
  | some vs =>
    bif Nat.beq vs.length (C.ti t).size && !Nat.beq (C.ti t).size 0 && vs.all one then
      match x with
      | .ptr id off =>
        match H[id]? with
        | some (.box cells) => bif Nat.ble (off + vs.length) cells.length then K (H.set id (.box (setAt cells off vs))) else False
        | _ => False
      | .eptr id ver i off =>
        match H[id]? with
        | some (.sl ver' ty xs) =>
          bif Nat.beq ver ver' then
            match xs[i]? with
            | some x =>
              bif Nat.ble (off + vs.length) ty.size then
                match dec ty (setAt (enc ty x) off vs) with
                | some (x', []) => K (H.set id (.sl ver' ty (xs.set i x')))
                | _ => False
              else False
            | none => False
          else False
        | _ => False
      | .dep id ver i off =>
        match H[id]? with
        | some (.dp ver' iv ty xs) =>
          bif Nat.beq ver ver' then
            match xs[i]? with
            | some x =>
              bif Nat.beq off 0 && Nat.beq vs.length ty.size then
                match decOw H ty vs with
                | some (x', L, []) => bif nodupB (id :: L) && Nat.ble C.base id then K ((kill H L).set id (.dp ver' (iv + 1) ty (xs.set i x'))) else False
                | _ => False
              else bif Nat.ble (off + vs.length) ty.size then
                bif vs.all noInn then
                  match decD id iv 0 ty x 0 (setAt (encD (fun o => .inn id iv 0 o) ty x 0) off vs) with
                  | some (x', []) => K (H.set id (.dp ver' iv ty (xs.set i x')))
                  | _ => False
                else False
              else False
            | none => False
          else False
        | _ => False
      | .bptr id =>
        match H[id]? with
        | some (.bld T e []) => match vs with
          | [.nilp, .nils] => bif Nat.beq T t then K H else False
          | _ => False
        | _ => False
      | _ => False
    else False

def fieldAddrV (C : Ctx) (s : TypeId) (x : V) (f : Nat) (K : V → Prop) : Prop :=
  match (C.ti s).desc with
  | .struct fields =>
    match fields[f]? with
    | some fd =>
      bif Nat.beq (C.ti fd.type).size 0 then False else
      match x with
      | .ptr id off => K (.ptr id (off + fd.offset))
      | .ref cells off => K (.ref cells (off + fd.offset))
      | .eptr id ver i off => K (.eptr id ver i (off + fd.offset))
      | .dep id ver i off => K (.dep id ver i (off + fd.offset))
      | _ => False
    | none => False
  | _ => False

def fieldV (C : Ctx) (s : TypeId) (x : V) (f : Nat) (K : V → Prop) : Prop :=
  match (C.ti s).desc with
  | .struct fields =>
    match fields[f]? with
    | some fd =>
      match x with
      | .agg cs => readV (C.ti fd.type) (cs.drop fd.offset) K
      | _ => False
    | none => False
  | _ => False

def indexAddrV (C : Ctx) (t : TypeId) (x ix : V) (H : Heap) (K : V → Prop) : Prop :=
  match ix with
  | .int _ n =>
    match (C.ti t).desc with
    | .slice e =>
      bif Nat.beq (C.ti e).size (C.ti t).ty.size && !Nat.beq (C.ti e).size 0 then
        match x with
        | .vec ty xs => if ty = (C.ti t).ty then cond (decide (0 ≤ n)) (match xs[n.toNat]? with | some y => K (.ref (enc ty y) 0) | none => False) False else False
        | .obj id ver =>
          match H[id]? with
          | some (.sl ver' ty xs) => if ty = (C.ti t).ty then bif Nat.beq ver ver' then cond (decide (0 ≤ n) && Nat.blt n.toNat xs.length) (K (.eptr id ver n.toNat 0)) False else False else False
          | some (.fz ver' ty xs) => if ty = (C.ti t).ty then bif Nat.beq ver ver' then cond (decide (0 ≤ n)) (match xs[n.toNat]? with | some y => K (.ref (enc ty y) 0) | none => False) False else False else False
          | _ => False
        | .dob id ver =>
          match H[id]? with
          | some (.dp ver' _ ty xs) => if ty = (C.ti t).ty then bif Nat.beq ver ver' then cond (decide (0 ≤ n) && Nat.blt n.toNat xs.length) (K (.dep id ver n.toNat 0)) False else False else False
          | _ => False
        | _ => False
      else False
    | .array len e =>
      bif Nat.beq (C.ti e).size 0 then False else
      cond (decide (0 ≤ n) && decide (n < len))
        (match x with
        | .ptr id off => K (.ptr id (off + n.toNat * (C.ti e).size))
        | .ref cells off => K (.ref cells (off + n.toNat * (C.ti e).size))
        | _ => False)
        False
    | _ => False
  | _ => False

def indexV (C : Ctx) (t : TypeId) (x ix : V) (K : V → Prop) : Prop :=
  match ix with
  | .int _ n =>
    match (C.ti t).desc with
    | .string =>
      match x with
      | .str s => cond (decide (0 ≤ n)) (match s[n.toNat]? with | some b => K (.int .u8 b.toNat) | none => False) False
      | _ => False
    | .array len e =>
      match x with
      | .agg cs => bif Nat.beq (C.ti e).size 0 then False else cond (decide (0 ≤ n) && decide (n < len)) (readV (C.ti e) (cs.drop (n.toNat * (C.ti e).size)) K) False
      | _ => False
    | _ => False
  | _ => False

/-- A struct's fields, or an array's elements, put into its zero cells. -/
def fillV (place : Nat → Option (Nat × Nat)) (cells : List V) : List (Nat × V) → Option (List V)
  | [] => some cells
  | (i, v) :: rest =>
    match place i with
    | none => none
    | some (off, size) =>
      match cellsOf v with
      | none => none
      | some vs => bif Nat.beq vs.length size && Nat.ble (off + vs.length) cells.length then fillV place (setAt cells off vs) rest else none

def zeroCells (i : TI) : List V := i.zero.cells.toList.map ofVal1

def buildV (C : Ctx) (t : TypeId) (parts : List (Nat × V)) (K : V → Prop) : Prop :=
  match (C.ti t).desc with
  | .struct fields =>
    bif fields.toList.any fun f => Nat.beq (C.ti f.type).size 0 then False else
    match fillV (fun i => match fields[i]? with | some f => some (f.offset, (C.ti f.type).size) | none => none) (zeroCells (C.ti t)) parts with
    | some cs => K (.agg cs)
    | none => False
  | .array _ e =>
    bif Nat.beq (C.ti e).size 0 then False else
    match fillV (fun i => some (i * (C.ti e).size, (C.ti e).size)) (zeroCells (C.ti t)) parts with
    | some cs => K (.agg cs)
    | none => False
  | _ => False

def rep (n : Nat) (cs : List V) : List V :=
  match n with
  | 0 => []
  | n + 1 => cs ++ rep n cs

def buildSliceV (C : Ctx) (t : TypeId) (len : Nat) (parts : List (Nat × V)) (H : Heap) (K : V → Heap → Prop) : Prop :=
  match (C.ti t).desc with
  | .slice e =>
    bif Nat.beq (C.ti e).size (C.ti t).ty.size && Nat.ble (len * (C.ti e).size) 16777216 && !Nat.beq (C.ti e).size 0 && Nat.beq (zeroCells (C.ti e)).length (C.ti e).size then
      match fillV (fun i => some (i * (C.ti e).size, (C.ti e).size)) (rep len (zeroCells (C.ti e))) parts with
      | some cs =>
        bif C.dr && Nat.beq len 0 then K (.empty false true) H else
        bif C.dr && (C.mv && flatTy (C.ti t).ty) then
          match decN (C.ti t).ty len cs with
          | some xs => K (.vec (C.ti t).ty xs) H
          | none => False
        else
        bif C.deep && !flatTy (C.ti t).ty then
          match decOwN H (C.ti t).ty len cs with
          | some (xs, L) => bif nodupB L then K (.dob H.length 0) (kill H L ++ [.dp 0 0 (C.ti t).ty xs]) else False
          | none => False
        else
        match decN (C.ti t).ty len cs with
        | some xs => K (.obj H.length 0) (H ++ [.sl 0 (C.ti t).ty xs])
        | none => False
      | none => False
    else False
  | _ => False

/-- A slice's elements. -/
def listOf (H : Heap) (t : Ty) : V → Option (List t.den)
  | .vec t' xs => if h : t' = t then some (h ▸ xs) else none
  | .nils => some []
  | .empty _ _ => some []
  | .obj id ver =>
    match H[id]? with
    | some (.sl ver' t' xs) => bif Nat.beq ver ver' then (if h : t' = t then some (h ▸ xs) else none) else none
    | some (.fz ver' t' xs) => bif Nat.beq ver ver' then (if h : t' = t then some (h ▸ xs) else none) else none
    | _ => none
  | _ => none

def elemOk (C : Ctx) (t e : TypeId) : Bool :=
  Nat.beq (C.ti e).size (C.ti t).ty.size && !Nat.beq (C.ti e).size 0 && !Nat.beq (C.ti e).bytes 0 && Nat.beq (zeroCells (C.ti e)).length (C.ti e).size

/-- Bytes as a string. -/
def bytesToStrV (C : Ctx) (s d : TypeId) (x : V) (H : Heap) (K : V → Prop) : Prop :=
  match (C.ti s).desc with
  | .slice e => match (C.ti d).desc with
    | .string => match (C.ti e).desc with
      | .int .u8 => match listOf H (.int .u8) x with
        | some xs => K (.str (toU8 xs))
        | none => False
      | _ => False
    | _ => False
  | _ => False
/-- A string as bytes of one's own. -/
def strToBytesV (C : Ctx) (s d : TypeId) (x : V) (H : Heap) (K : V → Heap → Prop) : Prop :=
  match (C.ti s).desc with
  | .string => match (C.ti d).desc with
    | .slice e => match (C.ti e).desc with
      | .int .u8 => match x with
        | .str l => if (C.ti d).ty = .int .u8 then K (.obj H.length 0) (H ++ [.sl 0 (.int .u8) (ofU8 l)]) else False
        | _ => False
      | _ => False
    | _ => False
  | _ => False
/-- The type of a Builder: a pointer to itself, and bytes. -/
def bldOf (C : Ctx) (t : TypeId) : Option TypeId :=
  match (C.ti t).desc with
  | .struct fs => match fs.toList with
    | [f, g] => match (C.ti f.type).desc with
      | .pointer t' => bif Nat.beq t' t then (match (C.ti g.type).desc with
        | .slice e => match (C.ti e).desc with
          | .int .u8 => match zeroCells (C.ti t) with
            | [.nilp, .nils] => some e
            | _ => none
          | _ => none
        | _ => none) else none
      | _ => none
    | _ => none
  | _ => none

def makeSliceV (C : Ctx) (t : TypeId) (l c : V) (H : Heap) (K : V → Heap → Prop) : Prop :=
  match (C.ti t).desc with
  | .slice e =>
    bif elemOk C t e then
      match l with
      | .int _ n =>
        match c with
        | .int _ m =>
          bif C.deep && !flatTy (C.ti t).ty then
            match decOw H (C.ti t).ty (zeroCells (C.ti e)) with
            | some (z, [], []) => cond (decide (0 ≤ n) && (decide (n ≤ m) && decide ((C.ti e).bytes * m ≤ 281474976710656))) (K (.dob H.length 0) (H ++ [.dp 0 0 (C.ti t).ty (List.replicate n.toNat z)])) False
            | _ => False
          else
          match dec (C.ti t).ty (zeroCells (C.ti e)) with
          | some (z, []) => cond (decide (0 ≤ n) && (decide (n ≤ m) && decide ((C.ti e).bytes * m ≤ 281474976710656))) (K (.obj H.length 0) (H ++ [.sl 0 (C.ti t).ty (List.replicate n.toNat z)])) False
          | _ => False
        | _ => False
      | _ => False
    else False
  | _ => False

/-- Elements that own their slices are appended. -/
def appendDV (C : Ctx) (t e : TypeId) (x : V) (j ver2 : Nat) (H : Heap) (K : V → Heap → Prop) : Prop :=
  match H[j]? with
  | some (.dp ver2' _ t2 (y0 :: r)) =>
    bif Nat.beq ver2 ver2' then
      if (C.ti t).ty = t2 then
        match x with
        | .nils => cond (decide ((0 + (r.length + 1)) * (C.ti e).bytes ≤ 140737488355328)) (K (.dob H.length 0) (H.set j .dead ++ [.dp 0 0 t2 (y0 :: r)])) False
        | .dob id ver =>
          match H[id]? with
          | some (.dp ver' iv t' xs) =>
            bif Nat.beq ver ver' && (!Nat.beq id j && Nat.ble C.base id) then
              if h : t2 = t' then cond (decide ((xs.length + (r.length + 1)) * (C.ti e).bytes ≤ 140737488355328)) (K (.dob id (ver' + 1)) ((H.set j .dead).set id (.dp (ver' + 1) (iv + 1) t' (xs ++ h ▸ (y0 :: r))))) False
              else False
            else False
          | _ => False
        | _ => False
      else False
    else False
  | _ => False
def appendV (C : Ctx) (t : TypeId) (x y : V) (H : Heap) (K : V → Heap → Prop) : Prop :=
  match (C.ti t).desc with
  | .slice e =>
    bif elemOk C t e then
      match y with
      | .dob j ver2 => appendDV C t e x j ver2 H K
      | _ =>
      match listOf H (C.ti t).ty y with
      | none => False
      | some ys =>
        match x with
        | .nils => cond (decide (((0 + ys.length) * (C.ti e).bytes) ≤ 140737488355328)) (K (.obj H.length 0) (H ++ [.sl 0 (C.ti t).ty ys])) False
        | .empty false true => cond (Nat.blt 0 ys.length && decide (((0 + ys.length) * (C.ti e).bytes) ≤ 140737488355328)) (K (.obj H.length 0) (H ++ [.sl 0 (C.ti t).ty ys])) False
        | .obj id ver =>
          match H[id]? with
          | some (.sl ver' t' xs) =>
            bif Nat.beq ver ver' && Nat.ble C.base id then
              if h : (C.ti t).ty = t' then cond (decide ((xs.length + ys.length) * (C.ti e).bytes ≤ 140737488355328)) (K (.obj id (ver' + 1)) (H.set id (.sl (ver' + 1) t' (xs ++ h ▸ ys)))) False
              else False
            else False
          | _ => False
        | _ => False
    else False
  | _ => False

/-- As many zeros as told are appended to nil. -/
def appendZ (C : Ctx) (t u : TypeId) (x y : V) (H : Heap) (K : V → Heap → Prop) : Prop :=
  match (C.ti t).desc with
  | .slice e =>
    match (C.ti u).desc with
    | .int .i64 =>
      bif elemOk C t e then
        match x with
        | .nils =>
          match y with
          | .int .i64 n =>
            match dec (C.ti t).ty (zeroCells (C.ti e)) with
            | some (z, []) => cond (decide (0 < n) && decide (n * (C.ti e).bytes ≤ 140737488355328)) (K (.obj H.length 0) (H ++ [.sl 0 (C.ti t).ty (List.replicate n.toNat z)])) False
            | _ => False
          | _ => False
        | _ => False
      else False
    | _ => False
  | _ => False

def loOf : Option V → Option Int
  | none => some 0
  | some (.int _ n) => some n
  | _ => none
def hiOf (len : Nat) : Option V → Option Int
  | none => some len
  | some (.int _ n) => some n
  | _ => none

/-- A part of a slice or a string; what is owned is written no more. -/
def sliceV (C : Ctx) (t : TypeId) (x : V) (lo hi : Option V) (H : Heap) (K : V → Heap → Prop) : Prop :=
  match loOf lo with
  | none => False
  | some l =>
    match (C.ti t).desc with
    | .string =>
      match x with
      | .str s => match hiOf s.length hi with
        | some h => cond (decide (0 ≤ l) && (decide (l ≤ h) && decide (h ≤ s.length))) (K (.str ((s.take h.toNat).drop l.toNat)) H) False
        | none => False
      | _ => False
    | .array n e =>
      match x with
      | .ptr id off =>
        bif Nat.beq off 0 && (lo.isNone && (hi.isNone && (Nat.blt 0 n && (Nat.ble n 1000 && !Nat.beq (C.ti e).size 0)))) then
          match (C.ti e).desc with
          | .float k => K (.psl id (.float k) n) H
          | _ => False
        else False
      | _ => False
    | .slice e =>
      bif Nat.beq (C.ti e).size (C.ti t).ty.size && !Nat.beq (C.ti e).size 0 then
        match x with
        | .vec ty xs => if ty = (C.ti t).ty then (match hiOf xs.length hi with
          | some h => cond (decide (0 ≤ l) && (decide (l ≤ h) && decide (h ≤ xs.length))) (K (.vec ty ((xs.take h.toNat).drop l.toNat)) H) False
          | none => False) else False
        | .nils => match hiOf 0 hi with
          | some h => cond (decide (0 ≤ l) && (decide (l ≤ h) && decide (h ≤ 0))) (K .nils H) False
          | none => False
        | .obj id ver =>
          match H[id]? with
          | some (.sl ver' ty xs) => if ty = (C.ti t).ty then bif Nat.beq ver ver' then (match hiOf xs.length hi with
            | some h => bif C.mv && (Nat.beq l.toNat 0 && Nat.ble C.base id) then cond (decide (0 ≤ l) && (decide (l ≤ h) && decide (h ≤ xs.length))) (K (.obj id (ver' + 1)) (H.set id (.sl (ver' + 1) ty (xs.take h.toNat)))) False
              else cond (decide (0 ≤ l) && (decide (l ≤ h) && decide (h ≤ xs.length))) (K (.vec ty ((xs.take h.toNat).drop l.toNat)) (H.set id (.fz ver' ty xs))) False
            | none => False) else False else False
          | some (.fz ver' ty xs) => if ty = (C.ti t).ty then bif Nat.beq ver ver' then (match hiOf xs.length hi with
            | some h => cond (decide (0 ≤ l) && (decide (l ≤ h) && decide (h ≤ xs.length))) (K (.vec ty ((xs.take h.toNat).drop l.toNat)) H) False
            | none => False) else False else False
          | _ => False
        | _ => False
      else False
    | _ => False

def maxV (x y : V) (K : V → Prop) : Prop :=
  match x with
  | .int k a => match y with
    | .int k' b => if k = k' then K (.int k (bif decide (b > a) then b else a)) else False
    | _ => False
  | _ => False
def minV (x y : V) (K : V → Prop) : Prop :=
  match x with
  | .int k a => match y with
    | .int k' b => if k = k' then K (.int k (bif decide (b < a) then b else a)) else False
    | _ => False
  | _ => False

def lenV (x : V) (H : Heap) (K : V → Prop) : Prop :=
  match x with
  | .vec _ xs => K (.int .i64 xs.length)
  | .nils => K (.int .i64 0)
  | .empty _ _ => K (.int .i64 0)
  | .obj id ver =>
    match H[id]? with
    | some (.sl ver' _ xs) => bif Nat.beq ver ver' then K (.int .i64 xs.length) else False
    | some (.fz ver' _ xs) => bif Nat.beq ver ver' then K (.int .i64 xs.length) else False
    | _ => False
  | .dob id ver =>
    match H[id]? with
    | some (.dp ver' _ _ xs) => bif Nat.beq ver ver' then K (.int .i64 xs.length) else False
    | _ => False
  | _ => False

def extractV (x : V) (i : Nat) (K : V → Prop) : Prop :=
  match x with
  | .tuple vs => match vs[i]? with
    | some v => K v
    | none => False
  | _ => False

/-- What a call hands over for good: nobody writes it any more. -/
def freeze1 (H : Heap) : V → Option (Heap × V)
  | .obj id ver =>
    match H[id]? with
    | some (.sl ver' t xs) => bif Nat.beq ver ver' then some (H.set id (.fz ver' t xs), .vec t xs) else none
    | some (.fz ver' t xs) => bif Nat.beq ver ver' then some (H, .vec t xs) else none
    | _ => none
  | v => bif immut v then some (H, v) else none
def freezes1 (H : Heap) : List V → Option (Heap × List V)
  | [] => some (H, [])
  | v :: vs =>
    match freeze1 H v with
    | some (H', v') => match freezes1 H' vs with
      | some (H'', vs') => some (H'', v' :: vs')
      | none => none
    | none => none
def freeze2 (H : Heap) : V → Option (Heap × V)
  | .agg vs => match freezes1 H vs with
    | some (H', vs') => some (H', .agg vs')
    | none => none
  | v => freeze1 H v
def freezes2 (H : Heap) : List V → Option (Heap × List V)
  | [] => some (H, [])
  | v :: vs =>
    match freeze2 H v with
    | some (H', v') => match freezes2 H' vs with
      | some (H'', vs') => some (H'', v' :: vs')
      | none => none
    | none => none

def callV (C : Ctx) (f : FuncId) (args : List V) (H : Heap) (K : V → Heap → Prop) : Prop :=
  match C.pass f with
  | .view =>
    bif immuts args then C.call f args [] (fun v h => match h with | [] => K v H | _ :: _ => False)
    else views3K H args fun args' => C.call f args' [] (fun v h => match h with | [] => bif flat v then K v H else False | _ :: _ => False)
  | .freeze => match freezes2 H args with
    | some (H', args') => bif immuts args' then C.call f args' [] (fun v h => match h with | [] => K v H' | _ :: _ => False) else False
    | none => False
  | .own => match args with
    | .ptr id off :: r => match freezes2 H r with
      | some (H', r') => C.call f (.ptr id off :: r') H' K
      | none => C.call f args H K
    | _ => C.call f args H K

def opndOk : V → Bool
  | .undef => false
  | _ => true

def evalOp (C : Ctx) (o : Oper) (ρ : Operand → V) (H : Heap) (K : V → Heap → Prop) : Prop :=
  match o.op with
  | .move x => K (ρ x) H
  | .assign x => K (ρ x) H
  | .pick c a b => match ρ c with
    | .bool t => cond t (K (ρ a) H) (K (ρ b) H)
    | _ => False
  | .alloc t => match bldOf C t with
    | some e => K (.bptr H.length) (H ++ [.bld t e []])
    | none => bif !Nat.beq (C.ti t).size 0 then K (.ptr H.length 0) (H ++ [.box (zeroCells (C.ti t))]) else False
  | .box _ x => match cellsOf (ρ x) with
    | some vs => K (.ptr H.length 0) (H ++ [.box vs])
    | none => False
  | .build t parts => buildV C t (parts.toList.map fun p => (p.1, ρ p.2)) fun v => K v H
  | .buildSlice t len parts => buildSliceV C t len (parts.toList.map fun p => (p.1, ρ p.2)) H K
  | .load t a => loadV C t (ρ a) H fun v => K v H
  | .store t a x => storeV C t (ρ a) (ρ x) H fun H' => K (.tuple []) H'
  | .nilCheck x => match ρ x with
    | .ptr id off => K (.ptr id off) H
    | .ref cs off => K (.ref cs off) H
    | .eptr id ver i off => K (.eptr id ver i off) H
    | .fn f vs => K (.fn f vs) H
    | _ => False
  | .binOp op t x y _ => binV C op t (ρ x) (ρ y) fun v => K v H
  | .unOp op _ x => unV op (ρ x) fun v => K v H
  | .convert s d x => match cvKind C s d with
    | .reads => bytesToStrV C s d (ρ x) H fun v => K v H
    | .alloc => strToBytesV C s d (ρ x) H K
    | _ => convV C s d (ρ x) fun v => K v H
  | .fieldAddr s x f => fieldAddrV C s (ρ x) f fun v => K v H
  | .field s x f => fieldV C s (ρ x) f fun v => K v H
  | .indexAddr t x i => indexAddrV C t (ρ x) (ρ i) H fun v => K v H
  | .index t x i => indexV C t (ρ x) (ρ i) fun v => K v H
  | .extract x i => extractV (ρ x) i fun v => K v H
  | .makeFunc fn first cap => match fn with
    | .func f => bif Nat.beq first.size 0 then K (.fn f (cap.toList.map ρ)) H else False
    | _ => False
  | .call { callee := .value f, args, .. } => match ρ f with
    | .fn g cap => callV C g (args.toList.map ρ ++ cap) H K
    | _ => False
  | .call { callee := .builtin .len, args, argTypes } => match args.toList with
    | [x] => match argTypes.toList with
      | [t] => match (C.ti t).desc with
        | .slice _ => lenV (ρ x) H fun v => K v H
        | .string => match ρ x with
          | .str s => K (.int .i64 s.length) H
          | _ => False
        | .array n _ => bif Nat.ble n 9223372036854775807 then K (.int .i64 n) H else False
        | _ => False
      | _ => False
    | _ => False
  | .makeSlice t l c => makeSliceV C t (ρ l) (ρ c) H K
  | .slice t x lo hi none => sliceV C t (ρ x) (lo.map ρ) (hi.map ρ) H K
  | .call { callee := .builtin .append, args, argTypes } => match args.toList with
    | [x, y] => match argTypes.toList with
      | [t, u] => bif Nat.beq t u then appendV C t (ρ x) (ρ y) H K else appendZ C t u (ρ x) (ρ y) H K
      | _ => False
    | _ => False
  | .call { callee := .builtin .max, args, .. } => match args.toList with
    | [x, y] => maxV (ρ x) (ρ y) fun v => K v H
    | _ => False
  | .call { callee := .builtin .cap, args, argTypes } => match args.toList with
    | [x] => match argTypes.toList with
      | [t] => match (C.ti t).desc with
        | .slice _ => match ρ x with
          | .nils => K (.int .i64 0) H
          | _ => False
        | _ => False
      | _ => False
    | _ => False
  | .call { callee := .builtin .min, args, .. } => match args.toList with
    | [x, y] => minV (ρ x) (ρ y) fun v => K v H
    | _ => False
  | _ => False

/-! ### code -/
inductive Ex where
  | normal
  | ret
  | exit (id : Nat)

def put (C : Ctx) (fr : Fr) (d : Option Nat) (v : V) (K : Fr → Prop) : Prop :=
  match d with
  | none => K fr
  | some d => bif Nat.blt d C.ntmps then K ((d, v) :: fr) else False

def evalOps (C : Ctx) (ops : Array Oper) : List Oper → Fr → Heap → (Fr → Heap → Prop) → Prop
  | [], fr, H, K => K fr H
  | o :: rest, fr, H, K =>
    match o.guard with
    | none => evalOp C o fr.eval H fun v H' => put C fr o.dst v fun fr' => evalOps C ops rest fr' H' K
    | some (j, want) =>
      match (ops[j]?).bind (·.dst) with
      | none => False
      | some d =>
        match fr.get d with
        | .bool b =>
          bif want then
            cond b
              (evalOp C o (Fr.eval ((d, .bool true) :: fr)) H fun v H' => put C ((d, .bool true) :: fr) o.dst v fun fr' => evalOps C ops rest fr' H' K)
              (put C ((d, .bool false) :: fr) o.dst (.tuple []) fun fr' => evalOps C ops rest fr' H K)
          else
            cond b
              (put C ((d, .bool true) :: fr) o.dst (.tuple []) fun fr' => evalOps C ops rest fr' H K)
              (evalOp C o (Fr.eval ((d, .bool false) :: fr)) H fun v H' => put C ((d, .bool false) :: fr) o.dst v fun fr' => evalOps C ops rest fr' H' K)
        | .tuple [] => put C fr o.dst (.tuple []) fun fr' => evalOps C ops rest fr' H K
        | _ => False

def firstRegion : Code → Nat
  | .region id _ _ => id
  | .seq a _ => firstRegion a
  | .block _ b => firstRegion b
  | .loop b => firstRegion b
  | _ => 0

mutual
/-- No reference to an owned thing from number m on. -/
def below (m : Nat) : V → Bool
  | .ptr id _ => Nat.blt id m
  | .obj id _ => Nat.blt id m
  | .eptr id _ _ _ => Nat.blt id m
  | .bptr id => Nat.blt id m
  | .psl id _ _ => Nat.blt id m
  | .dob id _ => Nat.blt id m
  | .dep id _ _ _ => Nat.blt id m
  | .inn id _ _ _ => Nat.blt id m
  | .agg vs => belows m vs
  | .tuple vs => belows m vs
  | .fn _ vs => belows m vs
  | .ref vs _ => belows m vs
  | _ => true
def belows (m : Nat) : List V → Bool
  | [] => true
  | v :: vs => below m v && belows m vs
end
/-- Where a number stands in a list. -/
def posOf : List Nat → Nat → Option Nat
  | [], _ => none
  | x :: r, id => bif Nat.beq x id then some 0 else (match posOf r id with | some k => some (k + 1) | none => none)
def idsOf : Nat → Heap → List Nat
  | _, [] => []
  | i, _ :: r => i :: idsOf (i + 1) r
/-- A thing that a slot speaks of is kept, too. -/
def addId (n : Nat) (L : List Nat) (id : Nat) : List Nat :=
  match posOf L id with
  | some _ => L
  | none => bif Nat.blt id n then L ++ [id] else L
def addV (n : Nat) (L : List Nat) : V → List Nat
  | .obj id _ => addId n L id
  | .ptr id _ => addId n L id
  | .bptr id => addId n L id
  | .dob id _ => addId n L id
  | _ => L
def gathered (n : Nat) (fr : Fr) : List Nat → List Nat → List Nat
  | [], L => L
  | s :: r, L => gathered n fr r (addV n L (fr.get s))
/-- And what the cells of the boxes among them speak of. -/
def followed (n : Nat) (H : Heap) : List Nat → List Nat → List Nat
  | [], L => L
  | id :: r, L => match H[id]? with
    | some (.box cells) => followed n H r (cells.foldl (addV n) L)
    | _ => followed n H r L
/-- The things that are kept at a loop's head, in their new order. -/
def keptL (a : Ann) (fr : Fr) (H : Heap) : List Nat :=
  bif a.gather then followed H.length H (gathered H.length fr a.slots (idsOf 0 (H.take a.keep))) (gathered H.length fr a.slots (idsOf 0 (H.take a.keep))) else idsOf 0 (H.take a.keep)
/-- A value that is kept at a loop's head; an owned slice's count of changes begins anew. -/
def scrub (H : Heap) (L : List Nat) (v : V) : V :=
  match v with
  | .obj id ver =>
    match posOf L id with
    | some j =>
      (match H[id]? with
      | some (.sl ver' _ _) => bif Nat.beq ver ver' then .obj j 0 else .undef
      | some (.fz ver' _ _) => bif Nat.beq ver ver' then .obj j 0 else .undef
      | _ => .undef)
    | none => .undef
  | .ptr id off => match posOf L id with | some j => .ptr j off | none => .undef
  | .bptr id => match posOf L id with | some j => .bptr j | none => .undef
  | .dob id ver =>
    match posOf L id with
    | some j =>
      (match H[id]? with
      | some (.dp ver' _ _ _) => bif Nat.beq ver ver' then .dob j 0 else .undef
      | _ => .undef)
    | none => .undef
  | v => bif immut v then v else .undef
def scrubOb (H : Heap) (L : List Nat) : Ob → Ob
  | .box cells => .box (cells.map (scrub H L))
  | .sl _ t xs => .sl 0 t xs
  | .fz _ t xs => .fz 0 t xs
  | .bld T e l => .bld T e l
  | .dead => .dead
  | .dp _ _ t xs => .dp 0 0 t xs
def normFrL (a : Ann) (L : List Nat) (fr : Fr) (H : Heap) : Fr := a.slots.map fun s => (s, scrub H L (fr.get s))
def obAt (H : Heap) (id : Nat) : Ob := match H[id]? with | some o => o | none => .dead
def normHL (L : List Nat) (H : Heap) : Heap := L.map fun id => scrubOb H L (obAt H id)
def normFr (a : Ann) (fr : Fr) (H : Heap) : Fr := normFrL a (keptL a fr H) fr H
def normH (a : Ann) (fr : Fr) (H : Heap) : Heap := normHL (keptL a fr H) H

/-- n rounds at the most. -/
def loopN (step : Fr → Heap → (Ex → Fr → Heap → Prop) → Prop) (a : Option Ann) : Nat → Fr → Heap → (Ex → Fr → Heap → Prop) → Prop
  | 0, _, _, _ => False
  | n + 1, fr, H, K => step fr H fun e fr' H' =>
    match e with
    | .normal => match a with
      | none => loopN step a n fr' H' K
      | some a => loopN step (some a) n (normFr a fr' H') (normH a fr' H') K
    | .ret => K .ret fr' H'
    | .exit id => K (.exit id) fr' H'

/-- What an operation does with the memory. -/
def kindOf (C : Ctx) : Op → Kd
  | .move _ | .assign _ | .pick .. | .nilCheck _ | .binOp .. | .unOp .. | .fieldAddr .. | .field .. | .index .. | .extract .. | .build .. => .blind
  | .convert s d _ => cvKind C s d
  | .load .. | .indexAddr .. => .reads
  | .slice .. => bif C.cut then .writes else .reads
  | .alloc .. | .box .. | .makeSlice .. => .alloc
  | .buildSlice t len _ => bif C.dr && Nat.beq len 0 then .blind else bif C.dr && (C.mv && flatTy (C.ti t).ty) then .blind else bif C.deep then .writes else .alloc
  | .call { callee := .builtin .max, .. } => .blind
  | .call { callee := .builtin .min, .. } => .blind
  | .call { callee := .builtin .len, .. } => bif C.mvl then .blind else .reads
  | .call { callee := .value (.func f), .. } => match C.pass f with | .view => .reads | _ => .writes
  | .call { callee := .value (.tmp _), .. } => .reads
  | _ => .writes
def Kd.eff : Kd → Bool
  | .blind | .reads => false
  | .alloc | .writes => true

/-- Is nothing frozen when it is cut? -/
def noFrz (H : Heap) : V → Bool
  | .obj id _ => match H[id]? with
    | some (.fz ..) => true
    | _ => false
  | _ => true
/-- Not a thing whose length stands in the heap. -/
def noOb : V → Bool
  | .obj .. => false
  | .dob .. => false
  | _ => true
/-- A function whose contract is a view. -/
def viewFn (C : Ctx) : V → Bool
  | .fn g _ => match C.pass g with
    | .view => true
    | _ => false
  | _ => false
def evalOpD (C : Ctx) (o : Oper) (ρ : Operand → V) (H : Heap) (K : V → Heap → Prop) : Prop :=
  match o.op with
  | .call { callee := .value (.tmp n), .. } => bif viewFn C (ρ (.tmp n)) then evalOp C o ρ H K else False
  | .slice _ x .. => bif C.cut || noFrz H (ρ x) then evalOp C o ρ H K else False
  | .call { callee := .builtin .len, args, .. } => bif !C.mvl || (args.toList.map ρ).all noOb then evalOp C o ρ H K else False
  | _ => evalOp C o ρ H K

/-- Operations one behind the other, where the order is open. -/
def evalOpsD (C : Ctx) (ops : Array Oper) : List Oper → Fr → Heap → (Fr → Heap → Prop) → Prop
  | [], fr, H, K => K fr H
  | o :: rest, fr, H, K =>
    match o.guard with
    | none => evalOpD C o fr.eval H fun v H' => put C fr o.dst v fun fr' => evalOpsD C ops rest fr' H' K
    | some (j, want) =>
      match (ops[j]?).bind (·.dst) with
      | none => False
      | some d =>
        match fr.get d with
        | .bool b =>
          bif want then
            cond b
              (evalOpD C o (Fr.eval ((d, .bool true) :: fr)) H fun v H' => put C ((d, .bool true) :: fr) o.dst v fun fr' => evalOpsD C ops rest fr' H' K)
              (put C ((d, .bool false) :: fr) o.dst (.tuple []) fun fr' => evalOpsD C ops rest fr' H K)
          else
            cond b
              (put C ((d, .bool true) :: fr) o.dst (.tuple []) fun fr' => evalOpsD C ops rest fr' H K)
              (evalOpD C o (Fr.eval ((d, .bool false) :: fr)) H fun v H' => put C ((d, .bool false) :: fr) o.dst v fun fr' => evalOpsD C ops rest fr' H' K)
        | .tuple [] => put C fr o.dst (.tuple []) fun fr' => evalOpsD C ops rest fr' H K
        | _ => False

def edgeOn (o : Oper) (j : Nat) : Bool := o.after.any fun e => Nat.beq e.on j && Region.binds .any e

/-- What an operation waits for, through others too: a set of numbers as the digits of one. -/
def maskEs (acc : List Nat) : List Edge → Nat
  | [] => 0
  | e :: r => bif Region.binds .any e then ((acc.getD e.on 0) ||| (1 <<< e.on)) ||| maskEs acc r else maskEs acc r
def masksOf : List Oper → List Nat → List Nat
  | [], acc => acc
  | o :: r, acc => masksOf r (acc ++ [maskEs acc o.after.toList])

def effAt (C : Ctx) (head : List Oper) (i : Nat) : Bool := match head[i]? with
  | some o => (kindOf C o.op).eff
  | none => false
/-- No effect ahead of it. -/
def early (C : Ctx) (head : List Oper) (ms : List Nat) (i : Nat) : Bool := !effAt C head i && (List.range head.length).all fun j => !(effAt C head j && (ms.getD i 0).testBit j)
def drawOrd (C : Ctx) (head : List Oper) (ms : List Nat) : List Nat := (List.range head.length).filter (early C head ms) ++ (List.range head.length).filter fun i => !early C head ms i

/-- A load's address, which is not that of the box that a call writes. -/
def farA (a : V) : V → Bool
  | .ref .. => true
  | .ptr j _ => match a with
    | .ptr id _ => !Nat.beq j id
    | _ => true
  | _ => false
def loadOf (o : Oper) : Option Operand := match o.op with
  | .load _ x => some x
  | _ => none
/-- What writes no box, but that of its first argument. -/
def ownArg (C : Ctx) (o : Oper) : Option (Option Operand) := match o.op with
  | .call { callee := .value (.func f), args, .. } => match C.pass f with
    | .own => match args[0]? with
      | some a => some (some a)
      | none => none
    | _ => none
  | .call { callee := .builtin .append, .. } => some none
  | .buildSlice .. => some none
  | _ => none
def ownV (fr : Fr) : Option Operand → V
  | some a => fr.eval a
  | none => .undef
/-- The thing of which a value speaks. -/
def idOf : V → Option Nat
  | .ptr id _ => some id
  | .obj id _ => some id
  | .dob id _ => some id
  | .eptr id _ _ _ => some id
  | .dep id _ _ _ => some id
  | .inn id _ _ _ => some id
  | .bptr id => some id
  | .psl id _ _ => some id
  | _ => none
def apartB (a b : Option Nat) : Bool := match a with
  | some i => (match b with | some j => !Nat.beq i j | none => true)
  | none => true
/-- What looks into one thing. -/
def readOf (o : Oper) : Option Operand := match o.op with
  | .load _ x => some x
  | .indexAddr _ x _ => some x
  | .call { callee := .builtin .len, args, .. } => args[0]?
  | _ => none
/-- What changes one thing alone, and which values tell it. -/
def touchOf (C : Ctx) (o : Oper) : Option (Bool × List Operand) := match o.op with
  | .call { callee := .value (.func f), args, .. } => match C.pass f with
    | .own => bif C.es f then some (false, args.toList) else none
    | _ => none
  | .slice _ x _ _ _ => some (true, [x])
  | .store _ x _ => some (false, [x])
  | _ => none
def touchL (sl : Bool) (vs : List V) : Option (Option Nat) := match vs with
  | v :: r => bif immuts r then (match v with
    | .ptr id _ => bif sl then none else some (some id)
    | .obj id _ => some (some id)
    | v => bif immut v then some none else none) else none
  | [] => none
def farIn (C : Ctx) (ms : List Nat) (fr : Fr) (i : Nat) (x : Operand) (o' : Oper) (j : Nat) : Bool := match touchOf C o' with
  | none => true
  | some a => (ms.getD j 0).testBit i || (match touchL a.1 (a.2.map fr.eval) with
    | some t => apartB t (idOf (fr.eval x))
    | none => false)
/-- A call by views. -/
def vcallOf (C : Ctx) (o : Oper) : Option (List Operand) := match o.op with
  | .call { callee := .value (.func f), args, .. } => match C.pass f with
    | .view => some args.toList
    | _ => none
  | _ => none
def vcIn (C : Ctx) (ms : List Nat) (fr : Fr) (i : Nat) (as : List Operand) (o' : Oper) (j : Nat) : Bool := match touchOf C o' with
  | none => true
  | some _ => (ms.getD j 0).testBit i || immuts (as.map fr.eval)
/-- An early load that may come behind a call which writes another box. -/
def farOp (C : Ctx) (head : List Oper) (ms : List Nat) (o : Oper) (i : Nat) (o' : Oper) : Bool := early C head ms i && (bif C.vw then ((readOf o).isSome || (vcallOf C o).isSome) && (touchOf C o').isSome else (loadOf o).isSome && (ownArg C o').isSome)
/-- Do such calls write other boxes than the loads read? -/
def farOk (C : Ctx) (head : List Oper) (ms : List Nat) (fr : Fr) : Bool :=
  bif C.vw then head.zipIdx.all fun p => match readOf p.1 with
    | none => match vcallOf C p.1 with
      | none => true
      | some as => !early C head ms p.2 || head.zipIdx.all fun q => vcIn C ms fr p.2 as q.1 q.2
    | some x => !early C head ms p.2 || head.zipIdx.all fun q => farIn C ms fr p.2 x q.1 q.2
  else head.zipIdx.all fun p => match loadOf p.1 with
    | none => true
    | some x => !early C head ms p.2 || head.zipIdx.all fun q => match ownArg C q.1 with
      | none => true
      | some a => (ms.getD q.2 0).testBit p.2 || farA (ownV fr a) (fr.eval x)

def headOk (C : Ctx) (head : List Oper) (ms : List Nat) (o : Oper) (i : Nat) : Bool :=
  (match o.dst with
   | none => (kindOf C o.op).eff
   | some d => head.zipIdx.all fun p => Nat.beq p.2 i || p.1.dst != some d) &&
  (head.zipIdx.all fun p => match p.1.dst with
    | none => true
    | some d => !(o.op.operands.toList.any fun x => match x with | .tmp t => Nat.beq t d | _ => false) || (Nat.blt p.2 i && edgeOn o p.2)) &&
  (match o.guard with
   | none => true
   | some (j, _) => Nat.blt j i && edgeOn o j) &&
  (head.zipIdx.all fun p => match kindOf C p.1.op with
    | .blind => true
    | .reads => true
    | .alloc => match kindOf C o.op with
      | .blind => true
      | .reads => early C head ms i || !Nat.blt p.2 i || (ms.getD i 0).testBit p.2
      | _ => !Nat.blt p.2 i || (ms.getD i 0).testBit p.2
    | .writes => match kindOf C o.op with
      | .blind => true
      | .reads => bif !early C head ms i && Nat.blt p.2 i then (ms.getD i 0).testBit p.2 else (ms.getD p.2 0).testBit i || farOp C head ms o i p.1
      | _ => !Nat.blt p.2 i || (ms.getD i 0).testBit p.2)
def tailOk (o : Oper) (i : Nat) : Bool := (List.range i).all fun j => edgeOn o j
def backOk (o : Oper) (i : Nat) : Bool := o.after.all fun e => !Region.binds .any e || Nat.blt e.on i
def drawOk (C : Ctx) (ops : List Oper) (ms : List Nat) (n : Nat) : Bool :=
  Nat.ble n ops.length && (ops.zipIdx.all fun p => backOk p.1 p.2 && (bif Nat.blt p.2 n then headOk C (ops.take n) ms p.1 p.2 else tailOk p.1 p.2))
/-- An allocation in the head that may come at any time: what speaks of it has an effect and stands behind it. -/
def floatOk (C : Ctx) (ops : List Oper) (n q : Nat) : Bool := match ops[q]? with
  | some o => match o.op with
    | .alloc t => (bldOf C t).isNone && (!Nat.beq (C.ti t).size 0 && (o.guard.isNone && (Nat.blt q n && (match o.dst with
      | some d => Nat.blt d C.ntmps && ((ops.take n).zipIdx.all fun p => Nat.beq p.2 q || (p.1.dst != some d && ((match p.1.guard with | some (j, _) => !Nat.beq j q | none => true) && ((p.1.op.operands.toList.all fun x => match x with | .tmp t => !Nat.beq t d | _ => true) || ((kindOf C p.1.op).eff && Nat.blt q p.2)))))
      | none => false))))
    | _ => false
  | none => false
def drawOkF (C : Ctx) (ops : List Oper) (ms : List Nat) (n : Nat) : Bool :=
  Nat.ble n ops.length && (ops.zipIdx.all fun p => backOk p.1 p.2 && (bif Nat.blt p.2 n then (floatOk C ops n p.2 || headOk C (ops.take n) ms p.1 p.2) else tailOk p.1 p.2))
/-- The least number that serves. -/
def tailFrom (ops : List Oper) : Nat := ops.length - ((ops.zipIdx.reverse.takeWhile fun p => tailOk p.1 p.2).length)

def wpE (C : Ctx) : Code → Fr → Heap → (Ex → Fr → Heap → Prop) → Prop
  | .skip, fr, H, K => K .normal fr H
  | .ret, fr, H, K => K .ret fr H
  | .exit id, fr, H, K => K (.exit id) fr H
  | .seq a b, fr, H, K => wpE C a fr H fun e fr' H' => match e with
    | .normal => wpE C b fr' H' K
    | .ret => K .ret fr' H'
    | .exit id => K (.exit id) fr' H'
  | .cond c a b, fr, H, K => match fr.eval c with
    | .bool t => cond t (wpE C a fr H K) (wpE C b fr H K)
    | _ => False
  | .block id body, fr, H, K => wpE C body fr H fun e fr' H' => match e with
    | .normal => K .normal fr' H'
    | .ret => K .ret fr' H'
    | .exit id' => bif Nat.beq id' id then K .normal fr' H' else K (.exit id') fr' H'
  | .loop body, fr, H, K => match C.ann (firstRegion body) with
    | none => ∃ n, loopN (wpE C body) none n fr H K
    | some a => bif Nat.ble C.base a.keep then ∃ n, loopN (wpE C body) (some a) n (normFr a fr H) (normH a fr H) K else False
  | .region _ ops draw, fr, H, K =>
    bif draw then (bif drawOk C.drawn ops.toList (masksOf ops.toList []) (tailFrom ops.toList) || (C.mv && drawOkF C.drawn ops.toList (masksOf ops.toList []) (tailFrom ops.toList)) then
        evalOpsD C.drawn ops ((drawOrd C.drawn (ops.toList.take (tailFrom ops.toList)) (masksOf ops.toList [])).filterMap fun i => ops[i]?) fr H fun fr1 H1 =>
          bif farOk C.drawn (ops.toList.take (tailFrom ops.toList)) (masksOf ops.toList []) fr1 then evalOps C.drawn ops (ops.toList.drop (tailFrom ops.toList)) fr1 H1 fun fr' H' => K .normal fr' H' else False
      else False)
    else evalOps C ops ops.toList fr H fun fr' H' => K .normal fr' H'
  | _, _, _, _ => False

/-! ### functions -/
def paramsFr : Nat → List V → Fr
  | _, [] => []
  | i, v :: vs => (i, v) :: paramsFr (i + 1) vs

/-- What a result becomes when the call ends: what the call itself made is nobody's to write any more. -/
def shut1 (m : Nat) (H : Heap) : V → Option V
  | .obj id ver => bif Nat.blt id m then none else
    match H[id]? with
    | some (.sl ver' t xs) => bif Nat.beq ver ver' then some (.vec t xs) else none
    | some (.fz ver' t xs) => bif Nat.beq ver ver' then some (.vec t xs) else none
    | _ => none
  | .dob id ver => bif Nat.blt id m then none else
    match H[id]? with
    | some (.dp ver' _ t xs) => bif Nat.beq ver ver' then some (.vec t xs) else none
    | _ => none
  | v => bif immut v then some v else none
def shuts1 (m : Nat) (H : Heap) : List V → Option (List V)
  | [] => some []
  | v :: vs => match shut1 m H v with
    | some v' => match shuts1 m H vs with
      | some vs' => some (v' :: vs')
      | none => none
    | none => none
def shut (m : Nat) (H : Heap) : V → Option V
  | .agg vs => match shuts1 m H vs with
    | some vs' => some (.agg vs')
    | none => none
  | v => shut1 m H v
def shuts (m : Nat) (H : Heap) : List V → Option (List V)
  | [] => some []
  | v :: vs => match shut m H v with
    | some v' => match shuts m H vs with
      | some vs' => some (v' :: vs')
      | none => none
    | none => none

def resV (C : Ctx) (fr : Fr) (H : Heap) : List ResultVar → (List V → Prop) → Prop
  | [], K => K []
  | .tmp t :: r, K => resV C fr H r fun vs => K (fr.get t :: vs)
  | .cell t ty :: r, K => loadV C ty (fr.get t) H fun v => resV C fr H r fun vs => K (v :: vs)

/-- The results, as the caller gets them: none of them is owned. -/
def outV (m : Nat) (H : Heap) (vs : List V) (K : V → Heap → Prop) : Prop :=
  match shuts m H vs with
  | none => False
  | some [v] => K v (H.take m)
  | some vs' => K (.tuple vs') (H.take m)

/-- No reference in a thing to one from number m on. -/
def belowOb (m : Nat) : Ob → Bool
  | .box cells => belows m cells
  | _ => true
def tup : List V → V
  | [v] => v
  | vs => .tuple vs
/-- The results of a call that writes what its caller owns. -/
def outO (m : Nat) (H : Heap) (vs : List V) (K : V → Heap → Prop) : Prop :=
  match shuts m H vs with
  | some vs' => bif (H.take m).all (belowOb m) then K (tup vs') (H.take m) else K (tup vs) H
  | none => K (tup vs) H

/-- What a call may be handed: boxes, and slices as they are at first. -/
def isBox : Ob → Bool
  | .box _ => true
  | .sl ver _ _ => Nat.beq ver 0
  | .dp ver iv _ _ => Nat.beq ver 0 && Nat.beq iv 0
  | _ => false

/-! ### results that are handed over -/
/-- Which thing a nil that is handed over is: one whose elements own their slices, or not. -/
def wantE : Ty → Ty × Bool
  | .pair .unit (.pair .unit e) => (e, true)
  | e => (e, flatTy e)
def ownE (e : Ty) : Ty := bif flatTy e then e else .pair .unit (.pair .unit e)
/-- A result is shut for good, or handed over; a nil slice is handed over as one without elements. -/
def give1 (p : Option Ty) (H : Heap) (v : V) : Option (Heap × V) :=
  match p with
  | none => freeze1 H v
  | some e => match v with
    | .nils => bif Nat.blt 0 (wantE e).1.size then (bif (wantE e).2 then some (H ++ [.sl 0 (wantE e).1 []], .obj H.length 0) else some (H ++ [.dp 0 0 (wantE e).1 []], .dob H.length 0)) else none
    | v => some (H, v)
def gives1 : List (Option Ty) → Heap → List V → Option (Heap × List V)
  | [], H, [] => some (H, [])
  | p :: ps, H, v :: vs =>
    match give1 p H v with
    | some (H', v') => match gives1 ps H' vs with
      | some (H'', vs') => some (H'', v' :: vs')
      | none => none
    | none => none
  | _, _, _ => none
def giveO (ps : List (Option Ty)) (H : Heap) (v : V) : Option (Heap × V) :=
  match ps with
  | [p] => give1 p H v
  | _ => none
def give2 (ps : List (Option Ty)) (H : Heap) : V → Option (Heap × V)
  | .agg vs => match gives1 ps H vs with
    | some (H', vs') => some (H', .agg vs')
    | none => none
  | v => giveO ps H v
def gives2 : List (List (Option Ty)) → Heap → List V → Option (Heap × List V)
  | [], H, [] => some (H, [])
  | p :: ps, H, v :: vs =>
    match give2 p H v with
    | some (H', v') => match gives2 ps H' vs with
      | some (H'', vs') => some (H'', v' :: vs')
      | none => none
    | none => none
  | _, _, _ => none
def addVs (n : Nat) (L : List Nat) : List V → List Nat
  | [] => L
  | .agg us :: r => addVs n (us.foldl (addV n) L) r
  | v :: r => addVs n (addV n L v) r
def scrubA (H : Heap) (L : List Nat) : V → V
  | .agg us => .agg (us.map (scrub H L))
  | v => scrub H L v
/-- The things that are left when the call ends: the first m, and those that are handed over, in their order. -/
def leftL (m : Nat) (H : Heap) (vs : List V) : List Nat := addVs H.length (idsOf 0 (H.take m)) vs
def outG (ps : List (List (Option Ty))) (m : Nat) (H : Heap) (vs : List V) (K : V → Heap → Prop) : Prop :=
  match gives2 ps H vs with
  | some (H', vs') => K (tup (vs'.map (scrubA H' (leftL m H' vs')))) (normHL (leftL m H' vs') H')
  | none => False

def wpFnO (C : Ctx) (fn : Func) (args : List V) (hs : Heap) (K : V → Heap → Prop) : Prop :=
  match fn.body with
  | none => False
  | some body =>
    bif Nat.ble args.length fn.ntmps && Nat.beq fn.ntmps C.ntmps && Nat.beq hs.length C.base && hs.all isBox then
      wpE C body (paramsFr 0 args) hs fun e fr H =>
        match e with
        | .exit _ => False
        | _ => bif Nat.ble hs.length H.length then resV C fr H fn.results.toList fun vs => outO hs.length H vs K else False
    else False

def wpFnG (ps : List (List (Option Ty))) (C : Ctx) (fn : Func) (args : List V) (hs : Heap) (K : V → Heap → Prop) : Prop :=
  match fn.body with
  | none => False
  | some body =>
    bif Nat.ble args.length fn.ntmps && Nat.beq fn.ntmps C.ntmps && Nat.beq hs.length C.base && hs.all isBox then
      wpE C body (paramsFr 0 args) hs fun e fr H =>
        match e with
        | .exit _ => False
        | _ => bif Nat.ble hs.length H.length then resV C fr H fn.results.toList fun vs => outG ps hs.length H vs K else False
    else False

def wpFn (C : Ctx) (fn : Func) (args : List V) (hs : Heap) (K : V → Heap → Prop) : Prop :=
  match fn.body with
  | none => False
  | some body =>
    bif Nat.ble args.length fn.ntmps && Nat.beq fn.ntmps C.ntmps then
      wpE C body (paramsFr 0 args) hs fun e fr H =>
        match e with
        | .exit _ => False
        | _ => bif Nat.ble hs.length H.length then
            resV C fr H fn.results.toList fun vs => outV hs.length H vs K
          else False
    else False

end Go.Ev
