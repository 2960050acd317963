/- Merged texts: EvDef EvRel EvDC EvOps EvFloat EvEq EvVal. -/
import Derived.WalkKit
import Derived.KernelRfl
import Derived.Orders
import Derived.Lib.FrozenHead
import Derived.Laws.Cells
import Derived.Laws.Slices
import Derived.Laws.Tables
import Derived.Laws.FloatBits
import Derived.Laws.FloatArith
import Derived.Laws.StructEq
import Derived.ChangeKeysEq
/- A small evaluator of the model's code over plain values: numbers, lists and boxes without addresses. What it says is shown to hold of the model's own runs in the texts that follow. -/
set_option linter.unusedVariables false
namespace Go.Ev

inductive Ty where
  | int (k : IntKind) | float (k : FloatKind) | bool | str | slice (t : Ty) | pair (a b : Ty) | unit
  deriving DecidableEq

@[reducible] def Ty.den : Ty → Type
  | .int _ => Int
  | .float _ => Nat
  | .bool => Bool
  | .str => List UInt8
  | .slice t => List t.den
  | .pair a b => a.den × b.den
  | .unit => Unit

def Ty.size : Ty → Nat
  | .pair a b => a.size + b.size
  | .unit => 0
  | _ => 1

inductive V where
  | undef
  | bool (b : Bool)
  | int (k : IntKind) (n : Int)
  | float (k : FloatKind) (bits : Nat)
  | str (s : List UInt8)
  | agg (vs : List V)
  | vec (t : Ty) (xs : List t.den)
  | nils
  | nilp
  | ref (cells : List V) (off : Nat)
  | ptr (id off : Nat)
  | obj (id ver : Nat)
  | eptr (id ver i off : Nat)
  | bptr (id : Nat)
  | psl (id : Nat) (t : Ty) (n : Nat)
  | fn (f : FuncId) (cap : List V)
  | tuple (vs : List V)
  | nanb
  | empty (nil z : Bool)
  | dob (id ver : Nat)
  | dep (id ver i off : Nat)
  | inn (id iv i off : Nat)

instance : Inhabited V := ⟨.undef⟩

inductive Ob where
  | box (cells : List V)
  | sl (ver : Nat) (t : Ty) (xs : List t.den)
  | fz (ver : Nat) (t : Ty) (xs : List t.den)
  | bld (T e : TypeId) (l : List UInt8)
  | dead
  | dp (ver iv : Nat) (t : Ty) (xs : List t.den)

abbrev Heap := List Ob

def infOf : FloatKind → Nat
  | .f32 => 2139095040
  | .f64 => 9218868437227405312
def signOf : FloatKind → Nat
  | .f32 => 2147483648
  | .f64 => 9223372036854775808
def qnan : FloatKind → Nat
  | .f32 => 2143289344
  | .f64 => 9221120237041090560
def nan (k : FloatKind) (b : Nat) : Bool := Nat.blt (infOf k) (b % signOf k)
def canon (k : FloatKind) (b : Nat) : Nat := bif nan k b then qnan k else b
def orNan (k : FloatKind) : Option Nat → Nat
  | some r => r
  | none => qnan k
def fadd (k : FloatKind) (x y : Nat) : Nat := orNan k (k.format.add x y)
def fsub (k : FloatKind) (x y : Nat) : Nat := orNan k (k.format.sub x y)
def fmul (k : FloatKind) (x y : Nat) : Nat := orNan k (k.format.mul x y)
def fdiv (k : FloatKind) (x y : Nat) : Nat := orNan k (k.format.div x y)
def fsqrt (k : FloatKind) (x : Nat) : Nat := orNan k (k.format.sqrt x)
def feq (k : FloatKind) (x y : Nat) : Bool := k.format.order x y == some .eq
def flt (k : FloatKind) (x y : Nat) : Bool := k.format.order x y == some .lt
def fle (k : FloatKind) (x y : Nat) : Bool := k.format.order x y == some .lt || k.format.order x y == some .eq
def fgt (k : FloatKind) (x y : Nat) : Bool := k.format.order x y == some .gt
def fge (k : FloatKind) (x y : Nat) : Bool := k.format.order x y == some .gt || k.format.order x y == some .eq
def fneg (k : FloatKind) (x : Nat) : Nat := canon k (x ^^^ signOf k)
def widen (b : Nat) : Nat := bif nan .f32 b then qnan .f64 else FloatKind.f64.encode (FloatKind.f32.decode b)
def ovf (b : Nat) : Bool :=
  match FloatKind.f64.decode b with
  | .number s m e => (FloatKind.f32.decode (FloatKind.f32.encode (.number s m e))).isInfinity
  | _ => false
def narrow (b : Nat) : Nat := bif nan .f64 b then qnan .f32 else FloatKind.f32.encode (FloatKind.f64.decode b)
def f2i (s : FloatKind) (b : Nat) (d : IntKind) : Option Int :=
  match (s.decode b).toInt .zero with
  | some n => if d.min ≤ n ∧ n ≤ d.max then some n else none
  | none => none

def enc : (t : Ty) → t.den → List V
  | .int k, n => [.int k n]
  | .float k, b => [.float k b]
  | .bool, b => [.bool b]
  | .str, s => [.str s]
  | .slice t, xs => [.vec t xs]
  | .pair a b, x => enc a x.1 ++ enc b x.2
  | .unit, _ => []

def dec : (t : Ty) → List V → Option (t.den × List V)
  | .int k, .int k' n :: r => if k = k' then some (n, r) else none
  | .float k, .float k' b :: r => if k = k' then some (b, r) else none
  | .bool, .bool b :: r => some (b, r)
  | .str, .str s :: r => some (s, r)
  | .slice t, .vec t' xs :: r => if h : t' = t then some (h ▸ xs, r) else none
  | .slice _, .nils :: r => some ([], r)
  | .slice _, .empty _ _ :: r => some ([], r)
  | .pair a b, vs =>
    match dec a vs with
    | some (x, r) =>
      match dec b r with
      | some (y, r') => some ((x, y), r')
      | none => none
    | none => none
  | .unit, vs => some ((), vs)
  | _, _ => none

def decN (t : Ty) : Nat → List V → Option (List t.den)
  | 0, [] => some []
  | 0, _ :: _ => none
  | n + 1, vs =>
    match dec t vs with
    | some (x, r) =>
      match decN t n r with
      | some xs => some (x :: xs)
      | none => none
    | none => none

def flatTy : Ty → Bool
  | .slice _ => false
  | .pair a b => flatTy a && flatTy b
  | _ => true
def subAt : (t : Ty) → t.den → Nat → Option (Sigma fun e : Ty => List e.den)
  | .slice e, xs, o => bif Nat.beq o 0 then some ⟨e, xs⟩ else none
  | .pair a b, x, o => bif Nat.blt o a.size then subAt a x.1 o else subAt b x.2 (o - a.size)
  | _, _, _ => none
def putAt : (t : Ty) → t.den → Nat → (e : Ty) → List e.den → t.den
  | .slice e, xs, _, e', ys => if h : e' = e then h ▸ ys else xs
  | .pair a b, x, o, e', ys => bif Nat.blt o a.size then (putAt a x.1 o e' ys, x.2) else (x.1, putAt b x.2 (o - a.size) e' ys)
  | _, x, _, _, _ => x
def encD (mk : Nat → V) : (t : Ty) → t.den → Nat → List V
  | .slice _, _, o => [mk o]
  | .pair a b, x, o => encD mk a x.1 o ++ encD mk b x.2 (o + a.size)
  | .int k, x, _ => enc (.int k) x
  | .float k, x, _ => enc (.float k) x
  | .bool, x, _ => enc .bool x
  | .str, x, _ => enc .str x
  | .unit, x, _ => enc .unit x
def sameInn (id iv i o : Nat) : V → Bool
  | .inn id' iv' i' o' => Nat.beq id id' && (Nat.beq iv iv' && (Nat.beq i i' && Nat.beq o o'))
  | _ => false
def noInn : V → Bool
  | .inn .. => false
  | _ => true
def decD (id iv i : Nat) : (t : Ty) → t.den → Nat → List V → Option (t.den × List V)
  | .slice _, x, o, v :: r => bif sameInn id iv i o v then some (x, r) else none
  | .slice _, _, _, [] => none
  | .pair a b, x, o, vs =>
    match decD id iv i a x.1 o vs with
    | some (y, r) => match decD id iv i b x.2 (o + a.size) r with
      | some (z, r') => some ((y, z), r')
      | none => none
    | none => none
  | .int k, _, _, vs => dec (.int k) vs
  | .float k, _, _, vs => dec (.float k) vs
  | .bool, _, _, vs => dec .bool vs
  | .str, _, _, vs => dec .str vs
  | .unit, _, _, vs => dec .unit vs
def decOw (H : List Ob) : (t : Ty) → List V → Option (t.den × List Nat × List V)
  | .slice e, v :: r => match v with
    | .nils => bif Nat.blt 0 e.size then some ([], [], r) else none
    | .obj j ver => match H[j]? with
      | some (.sl ver' t' ys) => bif Nat.beq ver ver' && flatTy e then (if h : t' = e then some (h ▸ ys, [j], r) else none) else none
      | _ => none
    | .dob j ver => match H[j]? with
      | some (.dp ver' _ t' ys) => bif Nat.beq ver ver' then (if h : t' = e then some (h ▸ ys, [j], r) else none) else none
      | _ => none
    | _ => none
  | .slice _, [] => none
  | .pair a b, vs =>
    match decOw H a vs with
    | some (y, L, r) => match decOw H b r with
      | some (z, L', r') => some ((y, z), L ++ L', r')
      | none => none
    | none => none
  | .int k, vs => match dec (.int k) vs with | some (x, r) => some (x, [], r) | none => none
  | .float k, vs => match dec (.float k) vs with | some (x, r) => some (x, [], r) | none => none
  | .bool, vs => match dec .bool vs with | some (x, r) => some (x, [], r) | none => none
  | .str, vs => match dec .str vs with | some (x, r) => some (x, [], r) | none => none
  | .unit, vs => match dec .unit vs with | some (x, r) => some (x, [], r) | none => none
def decOwN (H : List Ob) (t : Ty) : Nat → List V → Option (List t.den × List Nat)
  | 0, [] => some ([], [])
  | 0, _ :: _ => none
  | n + 1, vs =>
    match decOw H t vs with
    | some (x, L, r) => match decOwN H t n r with
      | some (xs, L') => some (x :: xs, L ++ L')
      | none => none
    | none => none
def kill (H : List Ob) : List Nat → List Ob
  | [] => H
  | j :: L => (kill H L).set j .dead
def nodupB : List Nat → Bool
  | [] => true
  | x :: r => (r.all fun y => !Nat.beq x y) && nodupB r

structure TI where
  desc : TypeDesc
  size : Nat
  bytes : Nat
  zero : Value
  ty : Ty
  eqok : Bool

instance : Inhabited TI := ⟨⟨.invalid, 0, 0, .tuple #[], .unit, false⟩⟩

def TI.agg (i : TI) : Bool := match i.desc with | .struct _ | .array _ _ => true | _ => false

inductive Pass where
  | view | freeze | own

structure Ann where
  slots : List Nat
  keep : Nat
  gather : Bool

structure Ctx where
  ti : TypeId → TI
  call : FuncId → List V → Heap → (V → Heap → Prop) → Prop
  pass : FuncId → Pass
  ntmps : Nat
  ann : Nat → Option Ann
  base : Nat := 0
  cut : Bool := false
  deep : Bool := false
  dr : Bool := false
  mv : Bool := false
  vw : Bool := false
  es : FuncId → Bool := fun _ => false
  esD : FuncId → Bool := fun _ => false
  callD : FuncId → List V → Heap → (V → Heap → Prop) → Prop := call
  passD : FuncId → Pass := pass

def Ctx.drawn (C : Ctx) : Ctx := { C with call := C.callD, pass := C.passD, es := C.esD, dr := C.deep || C.mv }
def Ctx.mvl (C : Ctx) : Bool := C.mv && !C.vw

abbrev Fr := List (Nat × V)
def Fr.get : Fr → Nat → V
  | [], _ => .undef
  | (s, v) :: r, t => bif Nat.beq s t then v else Fr.get r t

def ofVal1 : Value → V
  | .bool b => .bool b
  | .int k n => bif decide (k.min ≤ n) && decide (n ≤ k.max) then .int k n else .undef
  | .float k b => bif Nat.blt b (2 * signOf k) then .float k (canon k b) else .undef
  | .string s => bif Nat.ble s.data.toList.length 9223372036854775807 then .str s.data.toList else .undef
  | .slice none 0 0 => .nils
  | .pointer none => .nilp
  | .tuple ⟨[]⟩ => .tuple []
  | _ => .undef
def ofVal : Value → V
  | .agg cs => .agg (cs.toList.map ofVal1)
  | v => ofVal1 v

def Fr.eval (fr : Fr) : Operand → V
  | .tmp t => fr.get t
  | .const v => ofVal v
  | .global _ => .undef
  | .func f => .fn f []

def cellsOf : V → Option (List V)
  | .agg vs => some vs
  | .undef => none
  | .tuple _ => none
  | v => some [v]

mutual
def immut : V → Bool
  | .ptr .. | .obj .. | .eptr .. | .bptr _ | .psl .. | .dob .. | .dep .. | .inn .. => false
  | .agg vs => immuts vs
  | .tuple vs => immuts vs
  | .fn _ vs => immuts vs
  | .ref vs _ => immuts vs
  | _ => true
def immuts : List V → Bool
  | [] => true
  | v :: vs => immut v && immuts vs
end
mutual
def flat : V → Bool
  | .ptr .. | .obj .. | .eptr .. | .bptr _ | .psl .. | .ref .. | .vec .. | .dob .. | .dep .. | .inn .. => false
  | .agg vs => flats vs
  | .tuple vs => flats vs
  | .fn _ vs => flats vs
  | _ => true
def flats : List V → Bool
  | [] => true
  | v :: vs => flat v && flats vs
end

def setAt : List V → Nat → List V → List V
  | cs, _, [] => cs
  | cs, i, v :: vs => setAt (cs.set i v) (i + 1) vs

def view1 (H : Heap) : V → Option V
  | .obj id ver =>
    match H[id]? with
    | some (.sl ver' t xs) => bif Nat.beq ver ver' then some (.vec t xs) else none
    | some (.fz ver' t xs) => bif Nat.beq ver ver' then some (.vec t xs) else none
    | _ => none
  | .ptr .. => none
  | .eptr .. => none
  | .bptr _ => none
  | .psl .. => none
  | .dob id ver =>
    match H[id]? with
    | some (.dp ver' _ t xs) => bif Nat.beq ver ver' then some (.vec t xs) else none
    | _ => none
  | .inn id iv i off =>
    match H[id]? with
    | some (.dp _ iv' t xs) => bif Nat.beq iv iv' then (match xs[i]? with
      | some x => match subAt t x off with
        | some ⟨e, ys⟩ => some (.vec e ys)
        | none => none
      | none => none) else none
    | _ => none
  | .dep .. => none
  | .agg vs => bif immuts vs then some (.agg vs) else none
  | .tuple vs => bif immuts vs then some (.tuple vs) else none
  | .fn f vs => bif immuts vs then some (.fn f vs) else none
  | .ref vs o => bif immuts vs then some (.ref vs o) else none
  | v => some v
def views1 (H : Heap) : List V → Option (List V)
  | [] => some []
  | v :: vs =>
    match view1 H v with
    | some v' => match views1 H vs with
      | some vs' => some (v' :: vs')
      | none => none
    | none => none
def view2 (H : Heap) : V → Option V
  | .agg vs => match views1 H vs with
    | some vs' => some (.agg vs')
    | none => none
  | .ptr id off =>
    match H[id]? with
    | some (.box cells) => match views1 H cells with
      | some vs' => some (.ref vs' off)
      | none => none
    | _ => none
  | .eptr id ver i off =>
    match H[id]? with
    | some (.sl ver' t xs) => bif Nat.beq ver ver' then (match xs[i]? with | some x => some (.ref (enc t x) off) | none => none) else none
    | some (.fz ver' t xs) => bif Nat.beq ver ver' then (match xs[i]? with | some x => some (.ref (enc t x) off) | none => none) else none
    | _ => none
  | .psl id t n =>
    match H[id]? with
    | some (.box cells) => bif immuts cells then (match decN t n cells with | some xs => some (.vec t xs) | none => none) else none
    | _ => none
  | v => view1 H v
def views2 (H : Heap) : List V → Option (List V)
  | [] => some []
  | v :: vs =>
    match view2 H v with
    | some v' => match views2 H vs with
      | some vs' => some (v' :: vs')
      | none => none
    | none => none
def view3 (H : Heap) : V → Option V
  | .fn f vs => match views2 H vs with
    | some vs' => some (.fn f vs')
    | none => none
  | v => view2 H v
def views3 (H : Heap) : List V → Option (List V)
  | [] => some []
  | v :: vs =>
    match view3 H v with
    | some v' => match views3 H vs with
      | some vs' => some (v' :: vs')
      | none => none
    | none => none

def view3K (H : Heap) (v : V) (K : V → Prop) : Prop :=
  match v with
  | .eptr id ver i off =>
    match H[id]? with
    | some (.sl ver' t xs) => bif Nat.beq ver ver' then (match xs[i]? with
      | some x => K (.ref (enc t x) off)
      | none => False) else False
    | some (.fz ver' t xs) => bif Nat.beq ver ver' then (match xs[i]? with
      | some x => K (.ref (enc t x) off)
      | none => False) else False
    | _ => False
  | v => match view3 H v with
    | some v' => K v'
    | none => False
def views3K (H : Heap) : List V → (List V → Prop) → Prop
  | [], K => K []
  | v :: vs, K => view3K H v fun v' => views3K H vs fun vs' => K (v' :: vs')
def binInt (op : BinOp) (k : IntKind) (a b : Int) (K : V → Prop) : Prop :=
  match op with
  | .add => K (.int k (k.wrap (a + b)))
  | .sub => K (.int k (k.wrap (a - b)))
  | .mul => K (.int k (k.wrap (a * b)))
  | .quo => cond (b == 0) False (K (.int k (k.wrap (a.tdiv b))))
  | .rem => cond (b == 0) False (K (.int k (a.tmod b)))
  | .and => K (.int k (k.wrap (BitVec.ofInt k.bits a &&& BitVec.ofInt k.bits b).toNat))
  | .or => K (.int k (k.wrap (BitVec.ofInt k.bits a ||| BitVec.ofInt k.bits b).toNat))
  | .xor => K (.int k (k.wrap (BitVec.ofInt k.bits a ^^^ BitVec.ofInt k.bits b).toNat))
  | .andNot => K (.int k (k.wrap (BitVec.ofInt k.bits a &&& ~~~(BitVec.ofInt k.bits b)).toNat))
  | .eql => K (.bool (a == b))
  | .neq => K (.bool (a != b))
  | .lss => K (.bool (decide (a < b)))
  | .leq => K (.bool (decide (a ≤ b)))
  | .gtr => K (.bool (decide (a > b)))
  | .geq => K (.bool (decide (a ≥ b)))
  | _ => False

def binFloat (op : BinOp) (k : FloatKind) (a b : Nat) (K : V → Prop) : Prop :=
  match op with
  | .add => K (.float k (fadd k a b))
  | .sub => K (.float k (fsub k a b))
  | .mul => K (.float k (fmul k a b))
  | .quo => K (.float k (fdiv k a b))
  | .eql => K (.bool (feq k a b))
  | .neq => K (.bool (!feq k a b))
  | .lss => K (.bool (flt k a b))
  | .leq => K (.bool (fle k a b))
  | .gtr => K (.bool (fgt k a b))
  | .geq => K (.bool (fge k a b))
  | _ => False

def bytesEq (a b : List UInt8) : Bool := a == b
def binStr (op : BinOp) (a b : List UInt8) (K : V → Prop) : Prop :=
  match op with
  | .add => cond (Nat.blt (a.length + b.length) 9223372036854775808) (K (.str (a ++ b))) False
  | .eql => K (.bool (bytesEq a b))
  | .neq => K (.bool (!bytesEq a b))
  | .lss => K (.bool (Op.bytesLess a b))
  | .leq => K (.bool (Op.bytesLess a b || bytesEq a b))
  | .gtr => K (.bool (!(Op.bytesLess a b || bytesEq a b)))
  | .geq => K (.bool (!Op.bytesLess a b))
  | _ => False

def shiftOp (op : BinOp) (k : IntKind) (a b : Int) (K : V → Prop) : Prop :=
  match op with
  | .shl => cond (decide (b < 0)) False (K (.int k (k.wrap (a * 2 ^ (min b.toNat k.bits)))))
  | .shr => cond (decide (b < 0)) False (K (.int k (a.fdiv (2 ^ (min b.toNat k.bits)))))
  | _ => False

def isShift : BinOp → Bool
  | .shl | .shr => true
  | _ => false

def partV (i : TI) (cs : List V) : Option V :=
  bif i.agg then (bif Nat.ble i.size cs.length then some (.agg (cs.take i.size)) else none)
  else bif Nat.beq i.size 0 then none
  else match cs with
    | v :: _ => some v
    | [] => none

def andO (a b : Option Bool) : Option Bool := match a with
  | some x => match b with
    | some y => some (bif x then y else false)
    | none => none
  | none => none

def leafEq : V → V → TypeDesc → Option Bool
  | .int k a, .int k' b, .int _ => if k = k' then some (a == b) else none
  | .float k a, .float k' b, .float _ => if k = k' then some (feq k a b) else none
  | .bool a, .bool b, .bool => some (a == b)
  | .str a, .str b, .string => some (bytesEq a b)
  | _, _, _ => none

def eqFs (eq : TypeId → V → V → Option Bool) (ti : TypeId → TI) (xs ys : List V) : List Field → Option Bool
  | [] => some true
  | f :: fs =>
    bif f.name == "_" then none else
    match partV (ti f.type) (xs.drop f.offset) with
    | none => none
    | some a => match partV (ti f.type) (ys.drop f.offset) with
      | none => none
      | some b => andO (eq f.type a b) (eqFs eq ti xs ys fs)

def eqIs (eq : TypeId → V → V → Option Bool) (ti : TypeId → TI) (e : TypeId) (xs ys : List V) : List Nat → Option Bool
  | [] => some true
  | i :: is =>
    match partV (ti e) (xs.drop (i * (ti e).size)) with
    | none => none
    | some a => match partV (ti e) (ys.drop (i * (ti e).size)) with
      | none => none
      | some b => andO (eq e a b) (eqIs eq ti e xs ys is)

def eqV (ti : TypeId → TI) : Nat → TypeId → V → V → Option Bool
  | 0, _, _, _ => none
  | n + 1, t, .agg xs, .agg ys =>
    match (ti t).desc with
    | .struct fs => bif (ti t).eqok then eqFs (eqV ti n) ti xs ys fs.toList else none
    | .array len e => bif Nat.beq (ti e).size 0 then none else eqIs (eqV ti n) ti e xs ys (List.range len)
    | _ => none
  | _ + 1, t, x, y => leafEq x y (ti t).desc

def binV (C : Ctx) (op : BinOp) (t : TypeId) (x y : V) (K : V → Prop) : Prop :=
  match x with
  | .int k a =>
    match y with
    | .int k' b => bif isShift op then shiftOp op k a b K else (if k = k' then binInt op k a b K else False)
    | _ => False
  | .float k a =>
    match y with
    | .float k' b => if k = k' then binFloat op k a b K else False
    | _ => False
  | .str a =>
    match y with
    | .str b => binStr op a b K
    | _ => False
  | .bool a =>
    match y with
    | .bool b =>
      match (C.ti t).desc with
      | .bool =>
        match op with
        | .eql => K (.bool (a == b))
        | .neq => K (.bool (a != b))
        | _ => False
      | _ => False
    | _ => False
  | .agg a =>
    match y with
    | .agg b =>
      bif (C.ti t).eqok then
        match eqV C.ti 8 t (.agg a) (.agg b) with
        | none => False
        | some r => match op with
          | .eql => K (.bool r)
          | .neq => K (.bool (!r))
          | _ => False
      else False
    | _ => False
  | .vec _ (_ :: _) =>
    match y with
    | .nils => match (C.ti t).desc with
      | .slice _ => match op with
        | .eql => K (.bool false)
        | .neq => K (.bool true)
        | _ => False
      | _ => False
    | _ => False
  | .empty b _ =>
    match y with
    | .nils => match (C.ti t).desc with
      | .slice _ => match op with
        | .eql => K (.bool b)
        | .neq => K (.bool (!b))
        | _ => False
      | _ => False
    | _ => False
  | .nanb =>
    match y with
    | .int .u32 m => match op with
      | .andNot => bif decide (m = 2147483648) then K .nanb else False
      | _ => False
    | _ => False
  | _ => False

def unV (op : UnOp) (x : V) (K : V → Prop) : Prop :=
  match op with
  | .not => match x with
    | .bool b => K (.bool (!b))
    | _ => False
  | .neg => match x with
    | .int k n => K (.int k (k.wrap (0 - n)))
    | .float k b => K (.float k (fneg k b))
    | _ => False
  | _ => False

def convV (C : Ctx) (src dst : TypeId) (x : V) (K : V → Prop) : Prop :=
  bif Nat.beq (C.ti src).size 0 then False else
  match x with
  | .int _ n =>
    match (C.ti dst).desc with
    | .int k => K (.int k (k.wrap n))
    | .float k => K (.float k (k.nearest n))
    | _ => False
  | .float s b =>
    match (C.ti dst).desc with
    | .int k => match f2i s b k with
      | some n => K (.int k n)
      | none => K .undef
    | .float .f64 => match s with
      | .f32 => K (.float .f64 (widen b))
      | .f64 => K (.float .f64 b)
    | .float .f32 => match s with
      | .f32 => K (.float .f32 b)
      | .f64 => cond (ovf b) (K .undef) (K (.float .f32 (narrow b)))
    | _ => False
  | .str s =>
    match (C.ti src).desc with
    | .string =>
      match (C.ti dst).desc with
      | .string => K (.str s)
      | _ => False
    | _ => False
  | _ => False

inductive Kd where
  | blind | reads | alloc | writes
  deriving DecidableEq
def cvKind (C : Ctx) (s d : TypeId) : Kd :=
  match (C.ti s).desc with
  | .slice _ => .reads
  | .string => match (C.ti d).desc with
    | .slice _ => .alloc
    | _ => .blind
  | _ => .blind

def toU8 (xs : List Int) : List UInt8 := xs.map fun n => UInt8.ofNat n.toNat
def ofU8 (s : List UInt8) : List Int := s.map fun b => (b.toNat : Int)

def one : V → Bool
  | .undef => false
  | .agg _ => false
  | .tuple _ => false
  | _ => true

def readV (i : TI) (cs : List V) (K : V → Prop) : Prop :=
  bif i.agg then (bif Nat.ble i.size cs.length then K (.agg (cs.take i.size)) else False)
  else bif Nat.beq i.size 0 then False
  else match cs with
    | v :: _ => K v
    | [] => False

def loadV (C : Ctx) (t : TypeId) (x : V) (H : Heap) (K : V → Prop) : Prop :=
  match x with
  | .ref cells off => readV (C.ti t) (cells.drop off) K
  | .ptr id off =>
    match H[id]? with
    | some (.box cells) => readV (C.ti t) (cells.drop off) K
    | _ => False
  | .eptr id ver i off =>
    match H[id]? with
    | some (.sl ver' ty xs) => bif Nat.beq ver ver' then (match xs[i]? with | some x => readV (C.ti t) ((enc ty x).drop off) K | none => False) else False
    | some (.fz ver' ty xs) => bif Nat.beq ver ver' then (match xs[i]? with | some x => readV (C.ti t) ((enc ty x).drop off) K | none => False) else False
    | _ => False
  | .dep id ver i off =>
    match H[id]? with
    | some (.dp ver' iv ty xs) => bif Nat.beq ver ver' then (match xs[i]? with | some x => readV (C.ti t) ((encD (fun o => .inn id iv i o) ty x 0).drop off) K | none => False) else False
    | _ => False
  | _ => False

def storeV (C : Ctx) (t : TypeId) (x v : V) (H : Heap) (K : Heap → Prop) : Prop :=
  match cellsOf v with
  | none => False
  | some vs =>
    bif Nat.beq vs.length (C.ti t).size && !Nat.beq (C.ti t).size 0 && vs.all one then
      match x with
      | .ptr id off =>
        match H[id]? with
        | some (.box cells) => bif Nat.ble (off + vs.length) cells.length then K (H.set id (.box (setAt cells off vs))) else False
        | _ => False
      | .eptr id ver i off =>
        match H[id]? with
        | some (.sl ver' ty xs) =>
          bif Nat.beq ver ver' then
            match xs[i]? with
            | some x =>
              bif Nat.ble (off + vs.length) ty.size then
                match dec ty (setAt (enc ty x) off vs) with
                | some (x', []) => K (H.set id (.sl ver' ty (xs.set i x')))
                | _ => False
              else False
            | none => False
          else False
        | _ => False
      | .dep id ver i off =>
        match H[id]? with
        | some (.dp ver' iv ty xs) =>
          bif Nat.beq ver ver' then
            match xs[i]? with
            | some x =>
              bif Nat.beq off 0 && Nat.beq vs.length ty.size then
                match decOw H ty vs with
                | some (x', L, []) => bif nodupB (id :: L) && Nat.ble C.base id then K ((kill H L).set id (.dp ver' (iv + 1) ty (xs.set i x'))) else False
                | _ => False
              else bif Nat.ble (off + vs.length) ty.size then
                bif vs.all noInn then
                  match decD id iv 0 ty x 0 (setAt (encD (fun o => .inn id iv 0 o) ty x 0) off vs) with
                  | some (x', []) => K (H.set id (.dp ver' iv ty (xs.set i x')))
                  | _ => False
                else False
              else False
            | none => False
          else False
        | _ => False
      | .bptr id =>
        match H[id]? with
        | some (.bld T e []) => match vs with
          | [.nilp, .nils] => bif Nat.beq T t then K H else False
          | _ => False
        | _ => False
      | _ => False
    else False

def fieldAddrV (C : Ctx) (s : TypeId) (x : V) (f : Nat) (K : V → Prop) : Prop :=
  match (C.ti s).desc with
  | .struct fields =>
    match fields[f]? with
    | some fd =>
      bif Nat.beq (C.ti fd.type).size 0 then False else
      match x with
      | .ptr id off => K (.ptr id (off + fd.offset))
      | .ref cells off => K (.ref cells (off + fd.offset))
      | .eptr id ver i off => K (.eptr id ver i (off + fd.offset))
      | .dep id ver i off => K (.dep id ver i (off + fd.offset))
      | _ => False
    | none => False
  | _ => False

def fieldV (C : Ctx) (s : TypeId) (x : V) (f : Nat) (K : V → Prop) : Prop :=
  match (C.ti s).desc with
  | .struct fields =>
    match fields[f]? with
    | some fd =>
      match x with
      | .agg cs => readV (C.ti fd.type) (cs.drop fd.offset) K
      | _ => False
    | none => False
  | _ => False

def indexAddrV (C : Ctx) (t : TypeId) (x ix : V) (H : Heap) (K : V → Prop) : Prop :=
  match ix with
  | .int _ n =>
    match (C.ti t).desc with
    | .slice e =>
      bif Nat.beq (C.ti e).size (C.ti t).ty.size && !Nat.beq (C.ti e).size 0 then
        match x with
        | .vec ty xs => if ty = (C.ti t).ty then cond (decide (0 ≤ n)) (match xs[n.toNat]? with | some y => K (.ref (enc ty y) 0) | none => False) False else False
        | .obj id ver =>
          match H[id]? with
          | some (.sl ver' ty xs) => if ty = (C.ti t).ty then bif Nat.beq ver ver' then cond (decide (0 ≤ n) && Nat.blt n.toNat xs.length) (K (.eptr id ver n.toNat 0)) False else False else False
          | some (.fz ver' ty xs) => if ty = (C.ti t).ty then bif Nat.beq ver ver' then cond (decide (0 ≤ n)) (match xs[n.toNat]? with | some y => K (.ref (enc ty y) 0) | none => False) False else False else False
          | _ => False
        | .dob id ver =>
          match H[id]? with
          | some (.dp ver' _ ty xs) => if ty = (C.ti t).ty then bif Nat.beq ver ver' then cond (decide (0 ≤ n) && Nat.blt n.toNat xs.length) (K (.dep id ver n.toNat 0)) False else False else False
          | _ => False
        | _ => False
      else False
    | .array len e =>
      bif Nat.beq (C.ti e).size 0 then False else
      cond (decide (0 ≤ n) && decide (n < len))
        (match x with
        | .ptr id off => K (.ptr id (off + n.toNat * (C.ti e).size))
        | .ref cells off => K (.ref cells (off + n.toNat * (C.ti e).size))
        | _ => False)
        False
    | _ => False
  | _ => False

def indexV (C : Ctx) (t : TypeId) (x ix : V) (K : V → Prop) : Prop :=
  match ix with
  | .int _ n =>
    match (C.ti t).desc with
    | .string =>
      match x with
      | .str s => cond (decide (0 ≤ n)) (match s[n.toNat]? with | some b => K (.int .u8 b.toNat) | none => False) False
      | _ => False
    | .array len e =>
      match x with
      | .agg cs => bif Nat.beq (C.ti e).size 0 then False else cond (decide (0 ≤ n) && decide (n < len)) (readV (C.ti e) (cs.drop (n.toNat * (C.ti e).size)) K) False
      | _ => False
    | _ => False
  | _ => False

def fillV (place : Nat → Option (Nat × Nat)) (cells : List V) : List (Nat × V) → Option (List V)
  | [] => some cells
  | (i, v) :: rest =>
    match place i with
    | none => none
    | some (off, size) =>
      match cellsOf v with
      | none => none
      | some vs => bif Nat.beq vs.length size && Nat.ble (off + vs.length) cells.length then fillV place (setAt cells off vs) rest else none

def zeroCells (i : TI) : List V := i.zero.cells.toList.map ofVal1

def buildV (C : Ctx) (t : TypeId) (parts : List (Nat × V)) (K : V → Prop) : Prop :=
  match (C.ti t).desc with
  | .struct fields =>
    bif fields.toList.any fun f => Nat.beq (C.ti f.type).size 0 then False else
    match fillV (fun i => match fields[i]? with | some f => some (f.offset, (C.ti f.type).size) | none => none) (zeroCells (C.ti t)) parts with
    | some cs => K (.agg cs)
    | none => False
  | .array _ e =>
    bif Nat.beq (C.ti e).size 0 then False else
    match fillV (fun i => some (i * (C.ti e).size, (C.ti e).size)) (zeroCells (C.ti t)) parts with
    | some cs => K (.agg cs)
    | none => False
  | _ => False

def rep (n : Nat) (cs : List V) : List V :=
  match n with
  | 0 => []
  | n + 1 => cs ++ rep n cs

def buildSliceV (C : Ctx) (t : TypeId) (len : Nat) (parts : List (Nat × V)) (H : Heap) (K : V → Heap → Prop) : Prop :=
  match (C.ti t).desc with
  | .slice e =>
    bif Nat.beq (C.ti e).size (C.ti t).ty.size && Nat.ble (len * (C.ti e).size) 16777216 && !Nat.beq (C.ti e).size 0 && Nat.beq (zeroCells (C.ti e)).length (C.ti e).size then
      match fillV (fun i => some (i * (C.ti e).size, (C.ti e).size)) (rep len (zeroCells (C.ti e))) parts with
      | some cs =>
        bif C.dr && Nat.beq len 0 then K (.empty false true) H else
        bif C.dr && (C.mv && flatTy (C.ti t).ty) then
          match decN (C.ti t).ty len cs with
          | some xs => K (.vec (C.ti t).ty xs) H
          | none => False
        else
        bif C.deep && !flatTy (C.ti t).ty then
          match decOwN H (C.ti t).ty len cs with
          | some (xs, L) => bif nodupB L then K (.dob H.length 0) (kill H L ++ [.dp 0 0 (C.ti t).ty xs]) else False
          | none => False
        else
        match decN (C.ti t).ty len cs with
        | some xs => K (.obj H.length 0) (H ++ [.sl 0 (C.ti t).ty xs])
        | none => False
      | none => False
    else False
  | _ => False

def listOf (H : Heap) (t : Ty) : V → Option (List t.den)
  | .vec t' xs => if h : t' = t then some (h ▸ xs) else none
  | .nils => some []
  | .empty _ _ => some []
  | .obj id ver =>
    match H[id]? with
    | some (.sl ver' t' xs) => bif Nat.beq ver ver' then (if h : t' = t then some (h ▸ xs) else none) else none
    | some (.fz ver' t' xs) => bif Nat.beq ver ver' then (if h : t' = t then some (h ▸ xs) else none) else none
    | _ => none
  | _ => none

def elemOk (C : Ctx) (t e : TypeId) : Bool :=
  Nat.beq (C.ti e).size (C.ti t).ty.size && !Nat.beq (C.ti e).size 0 && !Nat.beq (C.ti e).bytes 0 && Nat.beq (zeroCells (C.ti e)).length (C.ti e).size

def bytesToStrV (C : Ctx) (s d : TypeId) (x : V) (H : Heap) (K : V → Prop) : Prop :=
  match (C.ti s).desc with
  | .slice e => match (C.ti d).desc with
    | .string => match (C.ti e).desc with
      | .int .u8 => match listOf H (.int .u8) x with
        | some xs => K (.str (toU8 xs))
        | none => False
      | _ => False
    | _ => False
  | _ => False
def strToBytesV (C : Ctx) (s d : TypeId) (x : V) (H : Heap) (K : V → Heap → Prop) : Prop :=
  match (C.ti s).desc with
  | .string => match (C.ti d).desc with
    | .slice e => match (C.ti e).desc with
      | .int .u8 => match x with
        | .str l => if (C.ti d).ty = .int .u8 then K (.obj H.length 0) (H ++ [.sl 0 (.int .u8) (ofU8 l)]) else False
        | _ => False
      | _ => False
    | _ => False
  | _ => False
def bldOf (C : Ctx) (t : TypeId) : Option TypeId :=
  match (C.ti t).desc with
  | .struct fs => match fs.toList with
    | [f, g] => match (C.ti f.type).desc with
      | .pointer t' => bif Nat.beq t' t then (match (C.ti g.type).desc with
        | .slice e => match (C.ti e).desc with
          | .int .u8 => match zeroCells (C.ti t) with
            | [.nilp, .nils] => some e
            | _ => none
          | _ => none
        | _ => none) else none
      | _ => none
    | _ => none
  | _ => none

def makeSliceV (C : Ctx) (t : TypeId) (l c : V) (H : Heap) (K : V → Heap → Prop) : Prop :=
  match (C.ti t).desc with
  | .slice e =>
    bif elemOk C t e then
      match l with
      | .int _ n =>
        match c with
        | .int _ m =>
          bif C.deep && !flatTy (C.ti t).ty then
            match decOw H (C.ti t).ty (zeroCells (C.ti e)) with
            | some (z, [], []) => cond (decide (0 ≤ n) && (decide (n ≤ m) && decide ((C.ti e).bytes * m ≤ 281474976710656))) (K (.dob H.length 0) (H ++ [.dp 0 0 (C.ti t).ty (List.replicate n.toNat z)])) False
            | _ => False
          else
          match dec (C.ti t).ty (zeroCells (C.ti e)) with
          | some (z, []) => cond (decide (0 ≤ n) && (decide (n ≤ m) && decide ((C.ti e).bytes * m ≤ 281474976710656))) (K (.obj H.length 0) (H ++ [.sl 0 (C.ti t).ty (List.replicate n.toNat z)])) False
          | _ => False
        | _ => False
      | _ => False
    else False
  | _ => False

def appendDV (C : Ctx) (t e : TypeId) (x : V) (j ver2 : Nat) (H : Heap) (K : V → Heap → Prop) : Prop :=
  match H[j]? with
  | some (.dp ver2' _ t2 (y0 :: r)) =>
    bif Nat.beq ver2 ver2' then
      if (C.ti t).ty = t2 then
        match x with
        | .nils => cond (decide ((0 + (r.length + 1)) * (C.ti e).bytes ≤ 140737488355328)) (K (.dob H.length 0) (H.set j .dead ++ [.dp 0 0 t2 (y0 :: r)])) False
        | .dob id ver =>
          match H[id]? with
          | some (.dp ver' iv t' xs) =>
            bif Nat.beq ver ver' && (!Nat.beq id j && Nat.ble C.base id) then
              if h : t2 = t' then cond (decide ((xs.length + (r.length + 1)) * (C.ti e).bytes ≤ 140737488355328)) (K (.dob id (ver' + 1)) ((H.set j .dead).set id (.dp (ver' + 1) (iv + 1) t' (xs ++ h ▸ (y0 :: r))))) False
              else False
            else False
          | _ => False
        | _ => False
      else False
    else False
  | _ => False
def appendV (C : Ctx) (t : TypeId) (x y : V) (H : Heap) (K : V → Heap → Prop) : Prop :=
  match (C.ti t).desc with
  | .slice e =>
    bif elemOk C t e then
      match y with
      | .dob j ver2 => appendDV C t e x j ver2 H K
      | _ =>
      match listOf H (C.ti t).ty y with
      | none => False
      | some ys =>
        match x with
        | .nils => cond (decide (((0 + ys.length) * (C.ti e).bytes) ≤ 140737488355328)) (K (.obj H.length 0) (H ++ [.sl 0 (C.ti t).ty ys])) False
        | .empty false true => cond (Nat.blt 0 ys.length && decide (((0 + ys.length) * (C.ti e).bytes) ≤ 140737488355328)) (K (.obj H.length 0) (H ++ [.sl 0 (C.ti t).ty ys])) False
        | .obj id ver =>
          match H[id]? with
          | some (.sl ver' t' xs) =>
            bif Nat.beq ver ver' && Nat.ble C.base id then
              if h : (C.ti t).ty = t' then cond (decide ((xs.length + ys.length) * (C.ti e).bytes ≤ 140737488355328)) (K (.obj id (ver' + 1)) (H.set id (.sl (ver' + 1) t' (xs ++ h ▸ ys)))) False
              else False
            else False
          | _ => False
        | _ => False
    else False
  | _ => False

def appendZ (C : Ctx) (t u : TypeId) (x y : V) (H : Heap) (K : V → Heap → Prop) : Prop :=
  match (C.ti t).desc with
  | .slice e =>
    match (C.ti u).desc with
    | .int .i64 =>
      bif elemOk C t e then
        match x with
        | .nils =>
          match y with
          | .int .i64 n =>
            match dec (C.ti t).ty (zeroCells (C.ti e)) with
            | some (z, []) => cond (decide (0 < n) && decide (n * (C.ti e).bytes ≤ 140737488355328)) (K (.obj H.length 0) (H ++ [.sl 0 (C.ti t).ty (List.replicate n.toNat z)])) False
            | _ => False
          | _ => False
        | _ => False
      else False
    | _ => False
  | _ => False

def loOf : Option V → Option Int
  | none => some 0
  | some (.int _ n) => some n
  | _ => none
def hiOf (len : Nat) : Option V → Option Int
  | none => some len
  | some (.int _ n) => some n
  | _ => none

def sliceV (C : Ctx) (t : TypeId) (x : V) (lo hi : Option V) (H : Heap) (K : V → Heap → Prop) : Prop :=
  match loOf lo with
  | none => False
  | some l =>
    match (C.ti t).desc with
    | .string =>
      match x with
      | .str s => match hiOf s.length hi with
        | some h => cond (decide (0 ≤ l) && (decide (l ≤ h) && decide (h ≤ s.length))) (K (.str ((s.take h.toNat).drop l.toNat)) H) False
        | none => False
      | _ => False
    | .array n e =>
      match x with
      | .ptr id off =>
        bif Nat.beq off 0 && (lo.isNone && (hi.isNone && (Nat.blt 0 n && (Nat.ble n 1000 && !Nat.beq (C.ti e).size 0)))) then
          match (C.ti e).desc with
          | .float k => K (.psl id (.float k) n) H
          | _ => False
        else False
      | _ => False
    | .slice e =>
      bif Nat.beq (C.ti e).size (C.ti t).ty.size && !Nat.beq (C.ti e).size 0 then
        match x with
        | .vec ty xs => if ty = (C.ti t).ty then (match hiOf xs.length hi with
          | some h => cond (decide (0 ≤ l) && (decide (l ≤ h) && decide (h ≤ xs.length))) (K (.vec ty ((xs.take h.toNat).drop l.toNat)) H) False
          | none => False) else False
        | .nils => match hiOf 0 hi with
          | some h => cond (decide (0 ≤ l) && (decide (l ≤ h) && decide (h ≤ 0))) (K .nils H) False
          | none => False
        | .obj id ver =>
          match H[id]? with
          | some (.sl ver' ty xs) => if ty = (C.ti t).ty then bif Nat.beq ver ver' then (match hiOf xs.length hi with
            | some h => bif C.mv && (Nat.beq l.toNat 0 && Nat.ble C.base id) then cond (decide (0 ≤ l) && (decide (l ≤ h) && decide (h ≤ xs.length))) (K (.obj id (ver' + 1)) (H.set id (.sl (ver' + 1) ty (xs.take h.toNat)))) False
              else cond (decide (0 ≤ l) && (decide (l ≤ h) && decide (h ≤ xs.length))) (K (.vec ty ((xs.take h.toNat).drop l.toNat)) (H.set id (.fz ver' ty xs))) False
            | none => False) else False else False
          | some (.fz ver' ty xs) => if ty = (C.ti t).ty then bif Nat.beq ver ver' then (match hiOf xs.length hi with
            | some h => cond (decide (0 ≤ l) && (decide (l ≤ h) && decide (h ≤ xs.length))) (K (.vec ty ((xs.take h.toNat).drop l.toNat)) H) False
            | none => False) else False else False
          | _ => False
        | _ => False
      else False
    | _ => False

def maxV (x y : V) (K : V → Prop) : Prop :=
  match x with
  | .int k a => match y with
    | .int k' b => if k = k' then K (.int k (bif decide (b > a) then b else a)) else False
    | _ => False
  | _ => False
def minV (x y : V) (K : V → Prop) : Prop :=
  match x with
  | .int k a => match y with
    | .int k' b => if k = k' then K (.int k (bif decide (b < a) then b else a)) else False
    | _ => False
  | _ => False

def lenV (x : V) (H : Heap) (K : V → Prop) : Prop :=
  match x with
  | .vec _ xs => K (.int .i64 xs.length)
  | .nils => K (.int .i64 0)
  | .empty _ _ => K (.int .i64 0)
  | .obj id ver =>
    match H[id]? with
    | some (.sl ver' _ xs) => bif Nat.beq ver ver' then K (.int .i64 xs.length) else False
    | some (.fz ver' _ xs) => bif Nat.beq ver ver' then K (.int .i64 xs.length) else False
    | _ => False
  | .dob id ver =>
    match H[id]? with
    | some (.dp ver' _ _ xs) => bif Nat.beq ver ver' then K (.int .i64 xs.length) else False
    | _ => False
  | _ => False

def extractV (x : V) (i : Nat) (K : V → Prop) : Prop :=
  match x with
  | .tuple vs => match vs[i]? with
    | some v => K v
    | none => False
  | _ => False

def freeze1 (H : Heap) : V → Option (Heap × V)
  | .obj id ver =>
    match H[id]? with
    | some (.sl ver' t xs) => bif Nat.beq ver ver' then some (H.set id (.fz ver' t xs), .vec t xs) else none
    | some (.fz ver' t xs) => bif Nat.beq ver ver' then some (H, .vec t xs) else none
    | _ => none
  | v => bif immut v then some (H, v) else none
def freezes1 (H : Heap) : List V → Option (Heap × List V)
  | [] => some (H, [])
  | v :: vs =>
    match freeze1 H v with
    | some (H', v') => match freezes1 H' vs with
      | some (H'', vs') => some (H'', v' :: vs')
      | none => none
    | none => none
def freeze2 (H : Heap) : V → Option (Heap × V)
  | .agg vs => match freezes1 H vs with
    | some (H', vs') => some (H', .agg vs')
    | none => none
  | v => freeze1 H v
def freezes2 (H : Heap) : List V → Option (Heap × List V)
  | [] => some (H, [])
  | v :: vs =>
    match freeze2 H v with
    | some (H', v') => match freezes2 H' vs with
      | some (H'', vs') => some (H'', v' :: vs')
      | none => none
    | none => none

def callV (C : Ctx) (f : FuncId) (args : List V) (H : Heap) (K : V → Heap → Prop) : Prop :=
  match C.pass f with
  | .view =>
    bif immuts args then C.call f args [] (fun v h => match h with | [] => K v H | _ :: _ => False)
    else views3K H args fun args' => C.call f args' [] (fun v h => match h with | [] => bif flat v then K v H else False | _ :: _ => False)
  | .freeze => match freezes2 H args with
    | some (H', args') => bif immuts args' then C.call f args' [] (fun v h => match h with | [] => K v H' | _ :: _ => False) else False
    | none => False
  | .own => match args with
    | .ptr id off :: r => match freezes2 H r with
      | some (H', r') => C.call f (.ptr id off :: r') H' K
      | none => C.call f args H K
    | _ => C.call f args H K

def frzOn (C : Ctx) : Bool := C.mv && (!C.dr && !C.deep)
def isOb : V → Bool
  | .obj .. => true
  | _ => false
def frz1 (C : Ctx) (H : Heap) (ps : List (Nat × V)) : Option (Heap × List (Nat × V)) :=
  bif frzOn C then
    match ps with
    | [(i, .agg vs)] =>
      bif vs.any isOb then
        match freezes1 H vs with
        | some (H', vs') => some (H', [(i, .agg vs')])
        | none => none
      else none
    | _ => none
  else none

def evalOp (C : Ctx) (o : Oper) (ρ : Operand → V) (H : Heap) (K : V → Heap → Prop) : Prop :=
  match o.op with
  | .move x => K (ρ x) H
  | .assign x => K (ρ x) H
  | .pick c a b => match ρ c with
    | .bool t => cond t (K (ρ a) H) (K (ρ b) H)
    | _ => False
  | .alloc t => match bldOf C t with
    | some e => K (.bptr H.length) (H ++ [.bld t e []])
    | none => bif !Nat.beq (C.ti t).size 0 then K (.ptr H.length 0) (H ++ [.box (zeroCells (C.ti t))]) else False
  | .box _ x => match cellsOf (ρ x) with
    | some vs => K (.ptr H.length 0) (H ++ [.box vs])
    | none => False
  | .build t parts => buildV C t (parts.toList.map fun p => (p.1, ρ p.2)) fun v => K v H
  | .buildSlice t len parts =>
    match frz1 C H (parts.toList.map fun p => (p.1, ρ p.2)) with
    | some (H', ps) => buildSliceV C t len ps H' K
    | none => buildSliceV C t len (parts.toList.map fun p => (p.1, ρ p.2)) H K
  | .load t a => loadV C t (ρ a) H fun v => K v H
  | .store t a x => storeV C t (ρ a) (ρ x) H fun H' => K (.tuple []) H'
  | .nilCheck x => match ρ x with
    | .ptr id off => K (.ptr id off) H
    | .ref cs off => K (.ref cs off) H
    | .eptr id ver i off => K (.eptr id ver i off) H
    | .fn f vs => K (.fn f vs) H
    | _ => False
  | .binOp op t x y _ => binV C op t (ρ x) (ρ y) fun v => K v H
  | .unOp op _ x => unV op (ρ x) fun v => K v H
  | .convert s d x => match cvKind C s d with
    | .reads => bytesToStrV C s d (ρ x) H fun v => K v H
    | .alloc => strToBytesV C s d (ρ x) H K
    | _ => convV C s d (ρ x) fun v => K v H
  | .fieldAddr s x f => fieldAddrV C s (ρ x) f fun v => K v H
  | .field s x f => fieldV C s (ρ x) f fun v => K v H
  | .indexAddr t x i => indexAddrV C t (ρ x) (ρ i) H fun v => K v H
  | .index t x i => indexV C t (ρ x) (ρ i) fun v => K v H
  | .extract x i => extractV (ρ x) i fun v => K v H
  | .makeFunc fn first cap => match fn with
    | .func f => bif Nat.beq first.size 0 then K (.fn f (cap.toList.map ρ)) H else False
    | _ => False
  | .call { callee := .value f, args, .. } => match ρ f with
    | .fn g cap => callV C g (args.toList.map ρ ++ cap) H K
    | _ => False
  | .call { callee := .builtin .len, args, argTypes } => match args.toList with
    | [x] => match argTypes.toList with
      | [t] => match (C.ti t).desc with
        | .slice _ => lenV (ρ x) H fun v => K v H
        | .string => match ρ x with
          | .str s => K (.int .i64 s.length) H
          | _ => False
        | .array n _ => bif Nat.ble n 9223372036854775807 then K (.int .i64 n) H else False
        | _ => False
      | _ => False
    | _ => False
  | .makeSlice t l c => makeSliceV C t (ρ l) (ρ c) H K
  | .slice t x lo hi none => sliceV C t (ρ x) (lo.map ρ) (hi.map ρ) H K
  | .call { callee := .builtin .append, args, argTypes } => match args.toList with
    | [x, y] => match argTypes.toList with
      | [t, u] => bif Nat.beq t u then appendV C t (ρ x) (ρ y) H K else appendZ C t u (ρ x) (ρ y) H K
      | _ => False
    | _ => False
  | .call { callee := .builtin .max, args, .. } => match args.toList with
    | [x, y] => maxV (ρ x) (ρ y) fun v => K v H
    | _ => False
  | .call { callee := .builtin .cap, args, argTypes } => match args.toList with
    | [x] => match argTypes.toList with
      | [t] => match (C.ti t).desc with
        | .slice _ => match ρ x with
          | .nils => K (.int .i64 0) H
          | _ => False
        | _ => False
      | _ => False
    | _ => False
  | .call { callee := .builtin .min, args, .. } => match args.toList with
    | [x, y] => minV (ρ x) (ρ y) fun v => K v H
    | _ => False
  | _ => False

inductive Ex where
  | normal
  | ret
  | exit (id : Nat)

def put (C : Ctx) (fr : Fr) (d : Option Nat) (v : V) (K : Fr → Prop) : Prop :=
  match d with
  | none => K fr
  | some d => bif Nat.blt d C.ntmps then K ((d, v) :: fr) else False

def evalOps (C : Ctx) (ops : Array Oper) : List Oper → Fr → Heap → (Fr → Heap → Prop) → Prop
  | [], fr, H, K => K fr H
  | o :: rest, fr, H, K =>
    match o.guard with
    | none => evalOp C o fr.eval H fun v H' => put C fr o.dst v fun fr' => evalOps C ops rest fr' H' K
    | some (j, want) =>
      match (ops[j]?).bind (·.dst) with
      | none => False
      | some d =>
        match fr.get d with
        | .bool b =>
          bif want then
            cond b
              (evalOp C o (Fr.eval ((d, .bool true) :: fr)) H fun v H' => put C ((d, .bool true) :: fr) o.dst v fun fr' => evalOps C ops rest fr' H' K)
              (put C ((d, .bool false) :: fr) o.dst (.tuple []) fun fr' => evalOps C ops rest fr' H K)
          else
            cond b
              (put C ((d, .bool true) :: fr) o.dst (.tuple []) fun fr' => evalOps C ops rest fr' H K)
              (evalOp C o (Fr.eval ((d, .bool false) :: fr)) H fun v H' => put C ((d, .bool false) :: fr) o.dst v fun fr' => evalOps C ops rest fr' H' K)
        | .tuple [] => put C fr o.dst (.tuple []) fun fr' => evalOps C ops rest fr' H K
        | _ => False

def firstRegion : Code → Nat
  | .region id _ _ => id
  | .seq a _ => firstRegion a
  | .block _ b => firstRegion b
  | .loop b => firstRegion b
  | _ => 0

mutual
def below (m : Nat) : V → Bool
  | .ptr id _ => Nat.blt id m
  | .obj id _ => Nat.blt id m
  | .eptr id _ _ _ => Nat.blt id m
  | .bptr id => Nat.blt id m
  | .psl id _ _ => Nat.blt id m
  | .dob id _ => Nat.blt id m
  | .dep id _ _ _ => Nat.blt id m
  | .inn id _ _ _ => Nat.blt id m
  | .agg vs => belows m vs
  | .tuple vs => belows m vs
  | .fn _ vs => belows m vs
  | .ref vs _ => belows m vs
  | _ => true
def belows (m : Nat) : List V → Bool
  | [] => true
  | v :: vs => below m v && belows m vs
end
def posOf : List Nat → Nat → Option Nat
  | [], _ => none
  | x :: r, id => bif Nat.beq x id then some 0 else (match posOf r id with | some k => some (k + 1) | none => none)
def idsOf : Nat → Heap → List Nat
  | _, [] => []
  | i, _ :: r => i :: idsOf (i + 1) r
def addId (n : Nat) (L : List Nat) (id : Nat) : List Nat :=
  match posOf L id with
  | some _ => L
  | none => bif Nat.blt id n then L ++ [id] else L
def addV (n : Nat) (L : List Nat) : V → List Nat
  | .obj id _ => addId n L id
  | .ptr id _ => addId n L id
  | .bptr id => addId n L id
  | .dob id _ => addId n L id
  | _ => L
def gathered (n : Nat) (fr : Fr) : List Nat → List Nat → List Nat
  | [], L => L
  | s :: r, L => gathered n fr r (addV n L (fr.get s))
def followed (n : Nat) (H : Heap) : List Nat → List Nat → List Nat
  | [], L => L
  | id :: r, L => match H[id]? with
    | some (.box cells) => followed n H r (cells.foldl (addV n) L)
    | _ => followed n H r L
def keptL (a : Ann) (fr : Fr) (H : Heap) : List Nat :=
  bif a.gather then followed H.length H (gathered H.length fr a.slots (idsOf 0 (H.take a.keep))) (gathered H.length fr a.slots (idsOf 0 (H.take a.keep))) else idsOf 0 (H.take a.keep)
def scrub (H : Heap) (L : List Nat) (v : V) : V :=
  match v with
  | .obj id ver =>
    match posOf L id with
    | some j =>
      (match H[id]? with
      | some (.sl ver' _ _) => bif Nat.beq ver ver' then .obj j 0 else .undef
      | some (.fz ver' _ _) => bif Nat.beq ver ver' then .obj j 0 else .undef
      | _ => .undef)
    | none => .undef
  | .ptr id off => match posOf L id with | some j => .ptr j off | none => .undef
  | .bptr id => match posOf L id with | some j => .bptr j | none => .undef
  | .dob id ver =>
    match posOf L id with
    | some j =>
      (match H[id]? with
      | some (.dp ver' _ _ _) => bif Nat.beq ver ver' then .dob j 0 else .undef
      | _ => .undef)
    | none => .undef
  | v => bif immut v then v else .undef
def scrubOb (H : Heap) (L : List Nat) : Ob → Ob
  | .box cells => .box (cells.map (scrub H L))
  | .sl _ t xs => .sl 0 t xs
  | .fz _ t xs => .fz 0 t xs
  | .bld T e l => .bld T e l
  | .dead => .dead
  | .dp _ _ t xs => .dp 0 0 t xs
def normFrL (a : Ann) (L : List Nat) (fr : Fr) (H : Heap) : Fr := a.slots.map fun s => (s, scrub H L (fr.get s))
def obAt (H : Heap) (id : Nat) : Ob := match H[id]? with | some o => o | none => .dead
def normHL (L : List Nat) (H : Heap) : Heap := L.map fun id => scrubOb H L (obAt H id)
def normFr (a : Ann) (fr : Fr) (H : Heap) : Fr := normFrL a (keptL a fr H) fr H
def normH (a : Ann) (fr : Fr) (H : Heap) : Heap := normHL (keptL a fr H) H

def loopN (step : Fr → Heap → (Ex → Fr → Heap → Prop) → Prop) (a : Option Ann) : Nat → Fr → Heap → (Ex → Fr → Heap → Prop) → Prop
  | 0, _, _, _ => False
  | n + 1, fr, H, K => step fr H fun e fr' H' =>
    match e with
    | .normal => match a with
      | none => loopN step a n fr' H' K
      | some a => loopN step (some a) n (normFr a fr' H') (normH a fr' H') K
    | .ret => K .ret fr' H'
    | .exit id => K (.exit id) fr' H'

def kindOf (C : Ctx) : Op → Kd
  | .move _ | .assign _ | .pick .. | .nilCheck _ | .binOp .. | .unOp .. | .fieldAddr .. | .field .. | .index .. | .extract .. | .build .. => .blind
  | .convert s d _ => cvKind C s d
  | .load .. | .indexAddr .. => .reads
  | .slice .. => bif C.cut then .writes else .reads
  | .alloc .. | .box .. | .makeSlice .. => .alloc
  | .buildSlice t len _ => bif C.dr && Nat.beq len 0 then .blind else bif C.dr && (C.mv && flatTy (C.ti t).ty) then .blind else bif C.deep || frzOn C then .writes else .alloc
  | .call { callee := .builtin .max, .. } => .blind
  | .call { callee := .builtin .min, .. } => .blind
  | .call { callee := .builtin .len, .. } => bif C.mvl then .blind else .reads
  | .call { callee := .value (.func f), .. } => match C.pass f with | .view => .reads | _ => .writes
  | .call { callee := .value (.tmp _), .. } => .reads
  | _ => .writes
def Kd.eff : Kd → Bool
  | .blind | .reads => false
  | .alloc | .writes => true

def noFrz (H : Heap) : V → Bool
  | .obj id _ => match H[id]? with
    | some (.fz ..) => true
    | _ => false
  | _ => true
def noOb : V → Bool
  | .obj .. => false
  | .dob .. => false
  | _ => true
def viewFn (C : Ctx) : V → Bool
  | .fn g _ => match C.pass g with
    | .view => true
    | _ => false
  | _ => false
def evalOpD (C : Ctx) (o : Oper) (ρ : Operand → V) (H : Heap) (K : V → Heap → Prop) : Prop :=
  match o.op with
  | .call { callee := .value (.tmp n), .. } => bif viewFn C (ρ (.tmp n)) then evalOp C o ρ H K else False
  | .slice _ x .. => bif C.cut || noFrz H (ρ x) then evalOp C o ρ H K else False
  | .call { callee := .builtin .len, args, .. } => bif !C.mvl || (args.toList.map ρ).all noOb then evalOp C o ρ H K else False
  | _ => evalOp C o ρ H K

def evalOpsD (C : Ctx) (ops : Array Oper) : List Oper → Fr → Heap → (Fr → Heap → Prop) → Prop
  | [], fr, H, K => K fr H
  | o :: rest, fr, H, K =>
    match o.guard with
    | none => evalOpD C o fr.eval H fun v H' => put C fr o.dst v fun fr' => evalOpsD C ops rest fr' H' K
    | some (j, want) =>
      match (ops[j]?).bind (·.dst) with
      | none => False
      | some d =>
        match fr.get d with
        | .bool b =>
          bif want then
            cond b
              (evalOpD C o (Fr.eval ((d, .bool true) :: fr)) H fun v H' => put C ((d, .bool true) :: fr) o.dst v fun fr' => evalOpsD C ops rest fr' H' K)
              (put C ((d, .bool false) :: fr) o.dst (.tuple []) fun fr' => evalOpsD C ops rest fr' H K)
          else
            cond b
              (put C ((d, .bool true) :: fr) o.dst (.tuple []) fun fr' => evalOpsD C ops rest fr' H K)
              (evalOpD C o (Fr.eval ((d, .bool false) :: fr)) H fun v H' => put C ((d, .bool false) :: fr) o.dst v fun fr' => evalOpsD C ops rest fr' H' K)
        | .tuple [] => put C fr o.dst (.tuple []) fun fr' => evalOpsD C ops rest fr' H K
        | _ => False

def edgeOn (o : Oper) (j : Nat) : Bool := o.after.any fun e => Nat.beq e.on j && Region.binds .any e

def maskEs (acc : List Nat) : List Edge → Nat
  | [] => 0
  | e :: r => bif Region.binds .any e then ((acc.getD e.on 0) ||| (1 <<< e.on)) ||| maskEs acc r else maskEs acc r
def masksOf : List Oper → List Nat → List Nat
  | [], acc => acc
  | o :: r, acc => masksOf r (acc ++ [maskEs acc o.after.toList])

def effAt (C : Ctx) (head : List Oper) (i : Nat) : Bool := match head[i]? with
  | some o => (kindOf C o.op).eff
  | none => false
def early (C : Ctx) (head : List Oper) (ms : List Nat) (i : Nat) : Bool := !effAt C head i && (List.range head.length).all fun j => !(effAt C head j && (ms.getD i 0).testBit j)
def drawOrd (C : Ctx) (head : List Oper) (ms : List Nat) : List Nat := (List.range head.length).filter (early C head ms) ++ (List.range head.length).filter fun i => !early C head ms i

def farA (a : V) : V → Bool
  | .ref .. => true
  | .ptr j _ => match a with
    | .ptr id _ => !Nat.beq j id
    | _ => true
  | _ => false
def loadOf (o : Oper) : Option Operand := match o.op with
  | .load _ x => some x
  | _ => none
def ownArg (C : Ctx) (o : Oper) : Option (Option Operand) := match o.op with
  | .call { callee := .value (.func f), args, .. } => match C.pass f with
    | .own => match args[0]? with
      | some a => some (some a)
      | none => none
    | _ => none
  | .call { callee := .builtin .append, .. } => some none
  | .buildSlice .. => some none
  | _ => none
def ownV (fr : Fr) : Option Operand → V
  | some a => fr.eval a
  | none => .undef
def idOf : V → Option Nat
  | .ptr id _ => some id
  | .obj id _ => some id
  | .dob id _ => some id
  | .eptr id _ _ _ => some id
  | .dep id _ _ _ => some id
  | .inn id _ _ _ => some id
  | .bptr id => some id
  | .psl id _ _ => some id
  | _ => none
def apartB (a b : Option Nat) : Bool := match a with
  | some i => (match b with | some j => !Nat.beq i j | none => true)
  | none => true
def readOf (o : Oper) : Option Operand := match o.op with
  | .load _ x => some x
  | .indexAddr _ x _ => some x
  | .call { callee := .builtin .len, args, .. } => args[0]?
  | _ => none
def touchOf (C : Ctx) (o : Oper) : Option (Bool × List Operand) := match o.op with
  | .call { callee := .value (.func f), args, .. } => match C.pass f with
    | .own => bif C.es f then some (false, args.toList) else none
    | _ => none
  | .slice _ x _ _ _ => some (true, [x])
  | .store _ x _ => some (false, [x])
  | _ => none
def touchL (sl : Bool) (vs : List V) : Option (Option Nat) := match vs with
  | v :: r => bif immuts r then (match v with
    | .ptr id _ => bif sl then none else some (some id)
    | .obj id _ => some (some id)
    | v => bif immut v then some none else none) else none
  | [] => none
def farIn (C : Ctx) (ms : List Nat) (fr : Fr) (i : Nat) (x : Operand) (o' : Oper) (j : Nat) : Bool := match touchOf C o' with
  | none => true
  | some a => (ms.getD j 0).testBit i || (match touchL a.1 (a.2.map fr.eval) with
    | some t => apartB t (idOf (fr.eval x))
    | none => false)
def vcallOf (C : Ctx) (o : Oper) : Option (List Operand) := match o.op with
  | .call { callee := .value (.func f), args, .. } => match C.pass f with
    | .view => some args.toList
    | _ => none
  | _ => none
def vcIn (C : Ctx) (ms : List Nat) (fr : Fr) (i : Nat) (as : List Operand) (o' : Oper) (j : Nat) : Bool := match touchOf C o' with
  | none => true
  | some _ => (ms.getD j 0).testBit i || immuts (as.map fr.eval)
def farOp (C : Ctx) (head : List Oper) (ms : List Nat) (o : Oper) (i : Nat) (o' : Oper) : Bool := early C head ms i && (bif C.vw then ((readOf o).isSome || (vcallOf C o).isSome) && (touchOf C o').isSome else (loadOf o).isSome && (ownArg C o').isSome)
def farOk (C : Ctx) (head : List Oper) (ms : List Nat) (fr : Fr) : Bool :=
  bif C.vw then head.zipIdx.all fun p => match readOf p.1 with
    | none => match vcallOf C p.1 with
      | none => true
      | some as => !early C head ms p.2 || head.zipIdx.all fun q => vcIn C ms fr p.2 as q.1 q.2
    | some x => !early C head ms p.2 || head.zipIdx.all fun q => farIn C ms fr p.2 x q.1 q.2
  else head.zipIdx.all fun p => match loadOf p.1 with
    | none => true
    | some x => !early C head ms p.2 || head.zipIdx.all fun q => match ownArg C q.1 with
      | none => true
      | some a => (ms.getD q.2 0).testBit p.2 || farA (ownV fr a) (fr.eval x)

def headOk (C : Ctx) (head : List Oper) (ms : List Nat) (o : Oper) (i : Nat) : Bool :=
  (match o.dst with
   | none => (kindOf C o.op).eff
   | some d => head.zipIdx.all fun p => Nat.beq p.2 i || p.1.dst != some d) &&
  (head.zipIdx.all fun p => match p.1.dst with
    | none => true
    | some d => !(o.op.operands.toList.any fun x => match x with | .tmp t => Nat.beq t d | _ => false) || (Nat.blt p.2 i && edgeOn o p.2)) &&
  (match o.guard with
   | none => true
   | some (j, _) => Nat.blt j i && edgeOn o j) &&
  (head.zipIdx.all fun p => match kindOf C p.1.op with
    | .blind => true
    | .reads => true
    | .alloc => match kindOf C o.op with
      | .blind => true
      | .reads => early C head ms i || !Nat.blt p.2 i || (ms.getD i 0).testBit p.2
      | _ => !Nat.blt p.2 i || (ms.getD i 0).testBit p.2
    | .writes => match kindOf C o.op with
      | .blind => true
      | .reads => bif !early C head ms i && Nat.blt p.2 i then (ms.getD i 0).testBit p.2 else (ms.getD p.2 0).testBit i || farOp C head ms o i p.1
      | _ => !Nat.blt p.2 i || (ms.getD i 0).testBit p.2)
def tailOk (o : Oper) (i : Nat) : Bool := (List.range i).all fun j => edgeOn o j
def backOk (o : Oper) (i : Nat) : Bool := o.after.all fun e => !Region.binds .any e || Nat.blt e.on i
def drawOk (C : Ctx) (ops : List Oper) (ms : List Nat) (n : Nat) : Bool :=
  Nat.ble n ops.length && (ops.zipIdx.all fun p => backOk p.1 p.2 && (bif Nat.blt p.2 n then headOk C (ops.take n) ms p.1 p.2 else tailOk p.1 p.2))
def floatOk (C : Ctx) (ops : List Oper) (n q : Nat) : Bool := match ops[q]? with
  | some o => match o.op with
    | .alloc t => (bldOf C t).isNone && (!Nat.beq (C.ti t).size 0 && (o.guard.isNone && (Nat.blt q n && (match o.dst with
      | some d => Nat.blt d C.ntmps && ((ops.take n).zipIdx.all fun p => Nat.beq p.2 q || (p.1.dst != some d && ((match p.1.guard with | some (j, _) => !Nat.beq j q | none => true) && ((p.1.op.operands.toList.all fun x => match x with | .tmp t => !Nat.beq t d | _ => true) || ((kindOf C p.1.op).eff && Nat.blt q p.2)))))
      | none => false))))
    | _ => false
  | none => false
def drawOkF (C : Ctx) (ops : List Oper) (ms : List Nat) (n : Nat) : Bool :=
  Nat.ble n ops.length && (ops.zipIdx.all fun p => backOk p.1 p.2 && (bif Nat.blt p.2 n then (floatOk C ops n p.2 || headOk C (ops.take n) ms p.1 p.2) else tailOk p.1 p.2))
def tailFrom (ops : List Oper) : Nat := ops.length - ((ops.zipIdx.reverse.takeWhile fun p => tailOk p.1 p.2).length)

def wpE (C : Ctx) : Code → Fr → Heap → (Ex → Fr → Heap → Prop) → Prop
  | .skip, fr, H, K => K .normal fr H
  | .ret, fr, H, K => K .ret fr H
  | .exit id, fr, H, K => K (.exit id) fr H
  | .seq a b, fr, H, K => wpE C a fr H fun e fr' H' => match e with
    | .normal => wpE C b fr' H' K
    | .ret => K .ret fr' H'
    | .exit id => K (.exit id) fr' H'
  | .cond c a b, fr, H, K => match fr.eval c with
    | .bool t => cond t (wpE C a fr H K) (wpE C b fr H K)
    | _ => False
  | .block id body, fr, H, K => wpE C body fr H fun e fr' H' => match e with
    | .normal => K .normal fr' H'
    | .ret => K .ret fr' H'
    | .exit id' => bif Nat.beq id' id then K .normal fr' H' else K (.exit id') fr' H'
  | .loop body, fr, H, K => match C.ann (firstRegion body) with
    | none => ∃ n, loopN (wpE C body) none n fr H K
    | some a => bif Nat.ble C.base a.keep then ∃ n, loopN (wpE C body) (some a) n (normFr a fr H) (normH a fr H) K else False
  | .region _ ops draw, fr, H, K =>
    bif draw then (bif drawOk C.drawn ops.toList (masksOf ops.toList []) (tailFrom ops.toList) || (C.mv && drawOkF C.drawn ops.toList (masksOf ops.toList []) (tailFrom ops.toList)) then
        evalOpsD C.drawn ops ((drawOrd C.drawn (ops.toList.take (tailFrom ops.toList)) (masksOf ops.toList [])).filterMap fun i => ops[i]?) fr H fun fr1 H1 =>
          bif farOk C.drawn (ops.toList.take (tailFrom ops.toList)) (masksOf ops.toList []) fr1 then evalOps C.drawn ops (ops.toList.drop (tailFrom ops.toList)) fr1 H1 fun fr' H' => K .normal fr' H' else False
      else False)
    else evalOps C ops ops.toList fr H fun fr' H' => K .normal fr' H'
  | _, _, _, _ => False

def paramsFr : Nat → List V → Fr
  | _, [] => []
  | i, v :: vs => (i, v) :: paramsFr (i + 1) vs

def shut1 (m : Nat) (H : Heap) : V → Option V
  | .obj id ver => bif Nat.blt id m then none else
    match H[id]? with
    | some (.sl ver' t xs) => bif Nat.beq ver ver' then some (.vec t xs) else none
    | some (.fz ver' t xs) => bif Nat.beq ver ver' then some (.vec t xs) else none
    | _ => none
  | .dob id ver => bif Nat.blt id m then none else
    match H[id]? with
    | some (.dp ver' _ t xs) => bif Nat.beq ver ver' then some (.vec t xs) else none
    | _ => none
  | v => bif immut v then some v else none
def shuts1 (m : Nat) (H : Heap) : List V → Option (List V)
  | [] => some []
  | v :: vs => match shut1 m H v with
    | some v' => match shuts1 m H vs with
      | some vs' => some (v' :: vs')
      | none => none
    | none => none
def shut (m : Nat) (H : Heap) : V → Option V
  | .agg vs => match shuts1 m H vs with
    | some vs' => some (.agg vs')
    | none => none
  | v => shut1 m H v
def shuts (m : Nat) (H : Heap) : List V → Option (List V)
  | [] => some []
  | v :: vs => match shut m H v with
    | some v' => match shuts m H vs with
      | some vs' => some (v' :: vs')
      | none => none
    | none => none

def resV (C : Ctx) (fr : Fr) (H : Heap) : List ResultVar → (List V → Prop) → Prop
  | [], K => K []
  | .tmp t :: r, K => resV C fr H r fun vs => K (fr.get t :: vs)
  | .cell t ty :: r, K => loadV C ty (fr.get t) H fun v => resV C fr H r fun vs => K (v :: vs)

def outV (m : Nat) (H : Heap) (vs : List V) (K : V → Heap → Prop) : Prop :=
  match shuts m H vs with
  | none => False
  | some [v] => K v (H.take m)
  | some vs' => K (.tuple vs') (H.take m)

def belowOb (m : Nat) : Ob → Bool
  | .box cells => belows m cells
  | _ => true
def tup : List V → V
  | [v] => v
  | vs => .tuple vs
def outO (m : Nat) (H : Heap) (vs : List V) (K : V → Heap → Prop) : Prop :=
  match shuts m H vs with
  | some vs' => bif (H.take m).all (belowOb m) then K (tup vs') (H.take m) else K (tup vs) H
  | none => K (tup vs) H

def isBox : Ob → Bool
  | .box _ => true
  | .sl ver _ _ => Nat.beq ver 0
  | .dp ver iv _ _ => Nat.beq ver 0 && Nat.beq iv 0
  | _ => false

def wantE : Ty → Ty × Bool
  | .pair .unit (.pair .unit e) => (e, true)
  | e => (e, flatTy e)
def ownE (e : Ty) : Ty := bif flatTy e then e else .pair .unit (.pair .unit e)
def give1 (p : Option Ty) (H : Heap) (v : V) : Option (Heap × V) :=
  match p with
  | none => freeze1 H v
  | some e => match v with
    | .nils => bif Nat.blt 0 (wantE e).1.size then (bif (wantE e).2 then some (H ++ [.sl 0 (wantE e).1 []], .obj H.length 0) else some (H ++ [.dp 0 0 (wantE e).1 []], .dob H.length 0)) else none
    | v => some (H, v)
def gives1 : List (Option Ty) → Heap → List V → Option (Heap × List V)
  | [], H, [] => some (H, [])
  | p :: ps, H, v :: vs =>
    match give1 p H v with
    | some (H', v') => match gives1 ps H' vs with
      | some (H'', vs') => some (H'', v' :: vs')
      | none => none
    | none => none
  | _, _, _ => none
def giveO (ps : List (Option Ty)) (H : Heap) (v : V) : Option (Heap × V) :=
  match ps with
  | [p] => give1 p H v
  | _ => none
def give2 (ps : List (Option Ty)) (H : Heap) : V → Option (Heap × V)
  | .agg vs => match gives1 ps H vs with
    | some (H', vs') => some (H', .agg vs')
    | none => none
  | v => giveO ps H v
def gives2 : List (List (Option Ty)) → Heap → List V → Option (Heap × List V)
  | [], H, [] => some (H, [])
  | p :: ps, H, v :: vs =>
    match give2 p H v with
    | some (H', v') => match gives2 ps H' vs with
      | some (H'', vs') => some (H'', v' :: vs')
      | none => none
    | none => none
  | _, _, _ => none
def addVs (n : Nat) (L : List Nat) : List V → List Nat
  | [] => L
  | .agg us :: r => addVs n (us.foldl (addV n) L) r
  | v :: r => addVs n (addV n L v) r
def scrubA (H : Heap) (L : List Nat) : V → V
  | .agg us => .agg (us.map (scrub H L))
  | v => scrub H L v
def leftL (m : Nat) (H : Heap) (vs : List V) : List Nat := addVs H.length (idsOf 0 (H.take m)) vs
def outG (ps : List (List (Option Ty))) (m : Nat) (H : Heap) (vs : List V) (K : V → Heap → Prop) : Prop :=
  match gives2 ps H vs with
  | some (H', vs') => K (tup (vs'.map (scrubA H' (leftL m H' vs')))) (normHL (leftL m H' vs') H')
  | none => False

def wpFnO (C : Ctx) (fn : Func) (args : List V) (hs : Heap) (K : V → Heap → Prop) : Prop :=
  match fn.body with
  | none => False
  | some body =>
    bif Nat.ble args.length fn.ntmps && Nat.beq fn.ntmps C.ntmps && Nat.beq hs.length C.base && hs.all isBox then
      wpE C body (paramsFr 0 args) hs fun e fr H =>
        match e with
        | .exit _ => False
        | _ => bif Nat.ble hs.length H.length then resV C fr H fn.results.toList fun vs => outO hs.length H vs K else False
    else False

def wpFnG (ps : List (List (Option Ty))) (C : Ctx) (fn : Func) (args : List V) (hs : Heap) (K : V → Heap → Prop) : Prop :=
  match fn.body with
  | none => False
  | some body =>
    bif Nat.ble args.length fn.ntmps && Nat.beq fn.ntmps C.ntmps && Nat.beq hs.length C.base && hs.all isBox then
      wpE C body (paramsFr 0 args) hs fun e fr H =>
        match e with
        | .exit _ => False
        | _ => bif Nat.ble hs.length H.length then resV C fr H fn.results.toList fun vs => outG ps hs.length H vs K else False
    else False

def wpFn (C : Ctx) (fn : Func) (args : List V) (hs : Heap) (K : V → Heap → Prop) : Prop :=
  match fn.body with
  | none => False
  | some body =>
    bif Nat.ble args.length fn.ntmps && Nat.beq fn.ntmps C.ntmps then
      wpE C body (paramsFr 0 args) hs fun e fr H =>
        match e with
        | .exit _ => False
        | _ => bif Nat.ble hs.length H.length then
            resV C fr H fn.results.toList fun vs => outV hs.length H vs K
          else False
    else False

end Go.Ev

/- How the evaluator's plain values stand for the model's values and memory. -/
set_option linter.unusedVariables false
set_option linter.unusedSimpArgs false
namespace Go.Ev

inductive G where
  | box (b : Nat)
  | sl (h : Value) (ver sz : Nat)
  | bld (b : Nat) (buf : Option Nat)
  | dp (h : Value) (ver iv sz : Nat) (bs : List Nat) (ih : Nat → Value)

abbrev Mem := Nat → Option (List Value)

mutual
inductive VR (g : List G) (M : Mem) : V → Value → Prop
  | undef (v : Value) : VR g M .undef v
  | bool (b : Bool) : VR g M (.bool b) (.bool b)
  | int (k : IntKind) (n : Int) : k.min ≤ n ∧ n ≤ k.max → VR g M (.int k n) (.int k n)
  | float (k : FloatKind) (b b' : Nat) : b' < 2 * signOf k → b = canon k b' → VR g M (.float k b) (.float k b')
  | str (s : ByteArray) (l : List UInt8) : s.data.toList = l → l.length ≤ 9223372036854775807 → VR g M (.str l) (.string s)
  | agg (vs : List V) (cs : Array Value) : VRs g M vs cs.toList → VR g M (.agg vs) (.agg cs)
  | vecnil (t : Ty) (ad : Option Addr) (cap : Nat) : VR g M (.vec t []) (.slice ad 0 cap)
  | vec (t : Ty) (xs : List t.den) (b off n cap : Nat) (cs : List Value) : M b = some cs → n = xs.length ∧ n ≤ 9223372036854775807 → n ≤ cap →
      (∀ i x, xs[i]? = some x → VRs g M (enc t x) ((cs.drop (off + i * t.size)).take t.size)) →
      VR g M (.vec t xs) (.slice (some ⟨b, off, none⟩) n cap)
  | nils : VR g M .nils (.slice none 0 0)
  | nilp : VR g M .nilp (.pointer none)
  | ref (cells : List V) (b base off o : Nat) (cs : List Value) : M b = some cs → VRs g M cells ((cs.drop base).take cells.length) → o = base + off →
      VR g M (.ref cells off) (.pointer (some ⟨b, o, none⟩))
  | ptr (id off b : Nat) : g[id]? = some (.box b) → VR g M (.ptr id off) (.pointer (some ⟨b, off, none⟩))
  | obj (id ver ver' sz : Nat) (h val : Value) : g[id]? = some (.sl h ver' sz) → ver ≤ ver' → (ver = ver' → val = h) → val.oneCell' = true → VR g M (.obj id ver) val
  | eptr (id ver ver' sz i off b o : Nat) (h : Value) : g[id]? = some (.sl h ver' sz) → ver ≤ ver' →
      (ver = ver' → ∃ n c, h = .slice (some ⟨b, 0, none⟩) n c) → o = i * sz + off → VR g M (.eptr id ver i off) (.pointer (some ⟨b, o, none⟩))
  | bptr (id b : Nat) (buf : Option Nat) : g[id]? = some (.bld b buf) → VR g M (.bptr id) (.pointer (some ⟨b, 0, none⟩))
  | psl (id b : Nat) (t : Ty) (n : Nat) : g[id]? = some (.box b) → n ≤ 9223372036854775807 → VR g M (.psl id t n) (.slice (some ⟨b, 0, none⟩) n n)
  | fn (f : FuncId) (vs : List V) (cs : Array Value) : VRs g M vs cs.toList → VR g M (.fn f vs) (.func (.func f) #[] cs)
  | tuple (vs : List V) (cs : Array Value) : VRs g M vs cs.toList → VR g M (.tuple vs) (.tuple cs)
  | dob (id ver ver' iv sz : Nat) (bs : List Nat) (ih : Nat → Value) (h val : Value) : g[id]? = some (.dp h ver' iv sz bs ih) → ver ≤ ver' → (ver = ver' → val = h) → val.oneCell' = true → VR g M (.dob id ver) val
  | dep (id ver ver' iv sz i off b o : Nat) (bs : List Nat) (ih : Nat → Value) (h : Value) : g[id]? = some (.dp h ver' iv sz bs ih) → ver ≤ ver' →
      (ver = ver' → ∃ n c, h = .slice (some ⟨b, 0, none⟩) n c) → o = i * sz + off → VR g M (.dep id ver i off) (.pointer (some ⟨b, o, none⟩))
  | inn (id iv iv' ver i off sz : Nat) (bs : List Nat) (ih : Nat → Value) (h val : Value) : g[id]? = some (.dp h ver iv' sz bs ih) → iv ≤ iv' → (iv = iv' → val = ih (i * sz + off)) → val.oneCell' = true → VR g M (.inn id iv i off) val
  | empty (b z : Bool) (ad : Option Addr) (cap : Nat) : ad.isNone = b → (z = true → cap = 0) → VR g M (.empty b z) (.slice ad 0 cap)
  | nanb (n : Int) : 0 ≤ n ∧ n ≤ 4294967295 → nan .f32 n.toNat = true → VR g M .nanb (.int .u32 n)
inductive VRs (g : List G) (M : Mem) : List V → List Value → Prop
  | nil : VRs g M [] []
  | cons {v : V} {c : Value} {vs : List V} {cs : List Value} : VR g M v c → VRs g M vs cs → VRs g M (v :: vs) (c :: cs)
end

def Gle : G → G → Prop
  | .box b, .box b' => b = b'
  | .bld b _, .bld b' _ => b = b'
  | .sl h ver sz, .sl h' ver' sz' => sz = sz' ∧ ver ≤ ver' ∧ (ver = ver' → h = h')
  | .dp h ver iv sz _ ih, .dp h' ver' iv' sz' _ ih' => sz = sz' ∧ ver ≤ ver' ∧ (ver = ver' → h = h') ∧ iv ≤ iv' ∧ (iv = iv' → ih = ih')
  | _, _ => False

theorem Gle.refl (x : G) : Gle x x := by cases x <;> simp [Gle]
theorem Gle.trans {x y z : G} (h : Gle x y) (h' : Gle y z) : Gle x z := by
  cases x <;> cases y <;> cases z <;> simp [Gle] at *
  · omega
  · obtain ⟨rfl, a, b⟩ := h
    obtain ⟨rfl, c, d⟩ := h'
    refine ⟨rfl, by omega, fun e => ?_⟩
    rw [b (by omega), d (by omega)]
  · exact h.trans h'
  · obtain ⟨rfl, a, b, p, q⟩ := h
    obtain ⟨rfl, c, d, p', q'⟩ := h'
    refine ⟨rfl, by omega, fun e => ?_, by omega, fun e => ?_⟩
    · rw [b (by omega), d (by omega)]
    · rw [q (by omega), q' (by omega)]

structure Ext (g : List G) (M : Mem) (g' : List G) (M' : Mem) : Prop where
  g : ∀ (id : Nat) (x : G), g[id]? = some x → ∃ x', g'[id]? = some x' ∧ Gle x x'
  m : ∀ (b : Nat) (cs : List Value), M b = some cs → M' b = some cs

theorem Ext.refl (g : List G) (M : Mem) : Ext g M g M := ⟨fun _ x h => ⟨x, h, Gle.refl x⟩, fun _ _ h => h⟩
theorem Ext.trans {g g' g'' : List G} {M M' M'' : Mem} (h : Ext g M g' M') (h' : Ext g' M' g'' M'') : Ext g M g'' M'' :=
  ⟨fun id x hx => by
    obtain ⟨y, hy, l⟩ := h.g id x hx
    obtain ⟨z, hz, l'⟩ := h'.g id y hy
    exact ⟨z, hz, l.trans l'⟩, fun b cs hb => h'.m b cs (h.m b cs hb)⟩

mutual
theorem VR.mono {g g' : List G} {M M' : Mem} (E : Ext g M g' M') : ∀ {v : V} {c : Value}, VR g M v c → VR g' M' v c
  | _, _, .undef v => .undef v
  | _, _, .bool b => .bool b
  | _, _, .int k n h => .int k n h
  | _, _, .float k b b' h h' => .float k b b' h h'
  | _, _, .str s l h h' => .str s l h h'
  | _, _, .agg vs cs h => .agg vs cs (VRs.mono E h)
  | _, _, .vecnil t ad cap => .vecnil t ad cap
  | _, _, .vec t xs b off n cap cs h1 h2 h3 h4 => .vec t xs b off n cap cs (E.m _ _ h1) h2 h3 fun i x hx => VRs.mono E (h4 i x hx)
  | _, _, .nils => .nils
  | _, _, .nilp => .nilp
  | _, _, .ref cells b base off o cs h1 h2 h3 => .ref cells b base off o cs (E.m _ _ h1) (VRs.mono E h2) h3
  | _, _, .ptr id off b h => by
    obtain ⟨x', h', l⟩ := E.g _ _ h
    cases x' with
    | box b' => simp [Gle] at l; subst l; exact .ptr id off b h'
    | sl h ver sz => simp [Gle] at l
    | bld _ _ => simp [Gle] at l
    | dp _ _ _ _ _ _ => simp [Gle] at l
  | _, _, .obj id ver ver' sz h val h1 h2 h3 h4 => by
    obtain ⟨x', h', l⟩ := E.g _ _ h1
    cases x' with
    | box b' => simp [Gle] at l
    | bld _ _ => simp [Gle] at l
    | dp _ _ _ _ _ _ => simp [Gle] at l
    | sl hh ver'' sz' =>
      obtain ⟨rfl, a, b⟩ := l
      refine .obj id ver ver'' sz hh val h' (by omega) (fun e => ?_) h4
      rw [h3 (by omega)]
      exact b (by omega)
  | _, _, .eptr id ver ver' sz i off b o h h1 h2 h3 h4 => by
    obtain ⟨x', h', l⟩ := E.g _ _ h1
    cases x' with
    | box b' => simp [Gle] at l
    | bld _ _ => simp [Gle] at l
    | dp _ _ _ _ _ _ => simp [Gle] at l
    | sl hh ver'' sz' =>
      obtain ⟨rfl, a, bb⟩ := l
      refine .eptr id ver ver'' sz i off b o hh h' (by omega) (fun e => ?_) h4
      rw [← bb (by omega)]
      exact h3 (by omega)
  | _, _, .dob id ver ver' iv sz bs ih h val h1 h2 h3 h4 => by
    obtain ⟨x', h', l⟩ := E.g _ _ h1
    cases x' with
    | box b' => simp [Gle] at l
    | bld _ _ => simp [Gle] at l
    | sl _ _ _ => simp [Gle] at l
    | dp hh ver'' iv'' sz' bs' ih' =>
      obtain ⟨rfl, a, b, _, _⟩ := l
      refine .dob id ver ver'' iv'' sz bs' ih' hh val h' (by omega) (fun e => ?_) h4
      rw [h3 (by omega)]
      exact b (by omega)
  | _, _, .dep id ver ver' iv sz i off b o bs ih h h1 h2 h3 h4 => by
    obtain ⟨x', h', l⟩ := E.g _ _ h1
    cases x' with
    | box b' => simp [Gle] at l
    | bld _ _ => simp [Gle] at l
    | sl _ _ _ => simp [Gle] at l
    | dp hh ver'' iv'' sz' bs' ih' =>
      obtain ⟨rfl, a, bb, _, _⟩ := l
      refine .dep id ver ver'' iv'' sz i off b o bs' ih' hh h' (by omega) (fun e => ?_) h4
      rw [← bb (by omega)]
      exact h3 (by omega)
  | _, _, .inn id iv iv' ver i off sz bs ih h val h1 h2 h3 h4 => by
    obtain ⟨x', h', l⟩ := E.g _ _ h1
    cases x' with
    | box b' => simp [Gle] at l
    | bld _ _ => simp [Gle] at l
    | sl _ _ _ => simp [Gle] at l
    | dp hh ver'' iv'' sz' bs' ih' =>
      obtain ⟨rfl, _, _, a, b⟩ := l
      refine .inn id iv iv'' ver'' i off sz bs' ih' hh val h' (by omega) (fun e => ?_) h4
      rw [h3 (by omega), b (by omega)]
  | _, _, .psl id b t n h hn => by
    obtain ⟨x', h', l⟩ := E.g _ _ h
    cases x' with
    | box b' => simp [Gle] at l; subst l; exact .psl id b t n h' hn
    | sl h ver sz => simp [Gle] at l
    | dp _ _ _ _ _ _ => simp [Gle] at l
    | bld _ _ => simp [Gle] at l
  | _, _, .bptr id b buf h => by
    obtain ⟨x', h', l⟩ := E.g _ _ h
    cases x' with
    | bld b' buf' => simp [Gle] at l; subst l; exact .bptr id b buf' h'
    | sl h ver sz => simp [Gle] at l
    | dp _ _ _ _ _ _ => simp [Gle] at l
    | box _ => simp [Gle] at l
  | _, _, .fn f vs cs h => .fn f vs cs (VRs.mono E h)
  | _, _, .tuple vs cs h => .tuple vs cs (VRs.mono E h)
  | _, _, .nanb n h h' => .nanb n h h'
  | _, _, .empty b z ad cap h h' => .empty b z ad cap h h'
theorem VRs.mono {g g' : List G} {M M' : Mem} (E : Ext g M g' M') : ∀ {vs : List V} {cs : List Value}, VRs g M vs cs → VRs g' M' vs cs
  | _, _, .nil => .nil
  | _, _, .cons h t => .cons (VR.mono E h) (VRs.mono E t)
end

mutual
theorem VR.imm {g g' : List G} {M : Mem} : ∀ {v : V} {c : Value}, VR g M v c → immut v = true → VR g' M v c
  | _, _, .undef v, _ => .undef v
  | _, _, .bool b, _ => .bool b
  | _, _, .int k n h, _ => .int k n h
  | _, _, .float k b b' h h', _ => .float k b b' h h'
  | _, _, .str s l h h', _ => .str s l h h'
  | _, _, .agg vs cs h, i => .agg vs cs (VRs.imm h (by simpa [immut] using i))
  | _, _, .vecnil t ad cap, _ => .vecnil t ad cap
  | _, _, .vec t xs b off n cap cs h1 h2 h3 h4, _ => .vec t xs b off n cap cs h1 h2 h3 fun i x hx => VRs.imm (h4 i x hx) (immuts_enc t x)
  | _, _, .nils, _ => .nils
  | _, _, .nilp, _ => .nilp
  | _, _, .ref cells b base off o cs h1 h2 h3, i => .ref cells b base off o cs h1 (VRs.imm h2 (by simpa [immut] using i)) h3
  | _, _, .ptr id off b h, i => by simp [immut] at i
  | _, _, .obj id ver ver' sz h val h1 h2 h3 h4, i => by simp [immut] at i
  | _, _, .eptr id ver ver' sz j off b o h h1 h2 h3 h4, i => by simp [immut] at i
  | _, _, .bptr id b buf h, i => by simp [immut] at i
  | _, _, .psl id b t n h hn, i => by simp [immut] at i
  | _, _, .dob id ver ver' iv sz bs ih h val h1 h2 h3 h4, i => by simp [immut] at i
  | _, _, .dep id ver ver' iv sz j off b o bs ih h h1 h2 h3 h4, i => by simp [immut] at i
  | _, _, .inn id iv iv' ver j off sz bs ih h val h1 h2 h3 h4, i => by simp [immut] at i
  | _, _, .fn f vs cs h, i => .fn f vs cs (VRs.imm h (by simpa [immut] using i))
  | _, _, .tuple vs cs h, i => .tuple vs cs (VRs.imm h (by simpa [immut] using i))
  | _, _, .nanb n h h', _ => .nanb n h h'
  | _, _, .empty b z ad cap h h', _ => .empty b z ad cap h h'
theorem VRs.imm {g g' : List G} {M : Mem} : ∀ {vs : List V} {cs : List Value}, VRs g M vs cs → immuts vs = true → VRs g' M vs cs
  | _, _, .nil, _ => .nil
  | _, _, .cons h t, i => .cons (VR.imm h (by simp [immuts] at i; exact i.1)) (VRs.imm t (by simp [immuts] at i; exact i.2))
theorem immuts_enc : ∀ (t : Ty) (x : t.den), immuts (enc t x) = true
  | .int k, x => rfl
  | .float k, x => rfl
  | .bool, x => rfl
  | .str, x => rfl
  | .slice t, x => rfl
  | .pair a b, x => by
    have h1 := immuts_enc a x.1
    have h2 := immuts_enc b x.2
    simp only [enc]
    generalize enc a x.1 = l at *
    generalize enc b x.2 = r at *
    induction l with
    | nil => simpa using h2
    | cons y l ih => simp [immuts] at h1 ⊢; exact ⟨h1.1, ih h1.2⟩
  | .unit, x => rfl
end

mutual
theorem VR.flat {g g' : List G} {M M' : Mem} : ∀ {v : V} {c : Value}, VR g M v c → flat v = true → VR g' M' v c
  | _, _, .undef v, _ => .undef v
  | _, _, .bool b, _ => .bool b
  | _, _, .int k n h, _ => .int k n h
  | _, _, .float k b b' h h', _ => .float k b b' h h'
  | _, _, .str s l h h', _ => .str s l h h'
  | _, _, .agg vs cs h, i => .agg vs cs (VRs.flat h (by simpa [Ev.flat] using i))
  | _, _, .vecnil t ad cap, i => by simp [Ev.flat] at i
  | _, _, .vec t xs b off n cap cs h1 h2 h3 h4, i => by simp [Ev.flat] at i
  | _, _, .nils, _ => .nils
  | _, _, .nilp, _ => .nilp
  | _, _, .ref cells b base off o cs h1 h2 h3, i => by simp [Ev.flat] at i
  | _, _, .ptr id off b h, i => by simp [Ev.flat] at i
  | _, _, .obj id ver ver' sz h val h1 h2 h3 h4, i => by simp [Ev.flat] at i
  | _, _, .eptr id ver ver' sz j off b o h h1 h2 h3 h4, i => by simp [Ev.flat] at i
  | _, _, .bptr id b buf h, i => by simp [Ev.flat] at i
  | _, _, .psl id b t n h hn, i => by simp [Ev.flat] at i
  | _, _, .dob id ver ver' iv sz bs ih h val h1 h2 h3 h4, i => by simp [Ev.flat] at i
  | _, _, .dep id ver ver' iv sz j off b o bs ih h h1 h2 h3 h4, i => by simp [Ev.flat] at i
  | _, _, .inn id iv iv' ver j off sz bs ih h val h1 h2 h3 h4, i => by simp [Ev.flat] at i
  | _, _, .fn f vs cs h, i => .fn f vs cs (VRs.flat h (by simpa [Ev.flat] using i))
  | _, _, .tuple vs cs h, i => .tuple vs cs (VRs.flat h (by simpa [Ev.flat] using i))
  | _, _, .nanb n h h', _ => .nanb n h h'
  | _, _, .empty b z ad cap h h', _ => .empty b z ad cap h h'
theorem VRs.flat {g g' : List G} {M M' : Mem} : ∀ {vs : List V} {cs : List Value}, VRs g M vs cs → flats vs = true → VRs g' M' vs cs
  | _, _, .nil, _ => .nil
  | _, _, .cons h t, i => .cons (VR.flat h (by simp [flats] at i; exact i.1)) (VRs.flat t (by simp [flats] at i; exact i.2))
end

section
variable {g : List G} {M : Mem}
theorem VRs.length {vs : List V} {cs : List Value} (h : VRs g M vs cs) : vs.length = cs.length := by
  induction vs generalizing cs with
  | nil => cases h; rfl
  | cons v vs ih => cases h with | cons a b => simp [ih b]
theorem VRs.get {vs : List V} {cs : List Value} (h : VRs g M vs cs) : ∀ {i : Nat} {v : V}, vs[i]? = some v → ∃ c, cs[i]? = some c ∧ VR g M v c := by
  induction vs generalizing cs with
  | nil => intro i v hi; simp at hi
  | cons x vs ih =>
    cases h with
    | cons a b =>
      intro i v hi
      cases i with
      | zero => simp at hi; subst hi; exact ⟨_, rfl, a⟩
      | succ i => simpa using ih b (i := i) (by simpa using hi)
theorem VRs.append {vs us : List V} {cs ds : List Value} (h : VRs g M vs cs) (h' : VRs g M us ds) : VRs g M (vs ++ us) (cs ++ ds) := by
  induction vs generalizing cs with
  | nil => cases h; exact h'
  | cons v vs ih => cases h with | cons a b => exact .cons a (ih b)
theorem VRs.drop {vs : List V} {cs : List Value} (h : VRs g M vs cs) : ∀ n, VRs g M (vs.drop n) (cs.drop n) := by
  induction vs generalizing cs with
  | nil => cases h; intro n; simp; exact .nil
  | cons v vs ih =>
    cases h with
    | cons a b =>
      intro n
      cases n with
      | zero => exact .cons a b
      | succ n => simpa using ih b n
theorem VRs.take {vs : List V} {cs : List Value} (h : VRs g M vs cs) : ∀ n, VRs g M (vs.take n) (cs.take n) := by
  induction vs generalizing cs with
  | nil => cases h; intro n; simp; exact .nil
  | cons v vs ih =>
    cases h with
    | cons a b =>
      intro n
      cases n with
      | zero => simp; exact .nil
      | succ n => simpa using .cons a (ih b n)
theorem VRs.set {vs : List V} {cs : List Value} (h : VRs g M vs cs) {v : V} {c : Value} (hv : VR g M v c) : ∀ n, VRs g M (vs.set n v) (cs.set n c) := by
  induction vs generalizing cs with
  | nil => cases h; intro n; simp; exact .nil
  | cons x vs ih =>
    cases h with
    | cons a b =>
      intro n
      cases n with
      | zero => exact .cons hv b
      | succ n => exact .cons a (ih b n)
theorem VRs.split {vs us : List V} {cs : List Value} (h : VRs g M (vs ++ us) cs) : VRs g M vs (cs.take vs.length) ∧ VRs g M us (cs.drop vs.length) := by
  have h1 := h.take vs.length
  have h2 := h.drop vs.length
  simp at h1 h2
  exact ⟨h1, h2⟩
end

def setAtC : List Value → Nat → List Value → List Value
  | cs, _, [] => cs
  | cs, i, v :: vs => setAtC (cs.set i v) (i + 1) vs

theorem setAtC_length : ∀ (vs : List Value) (cs : List Value) (i : Nat), (setAtC cs i vs).length = cs.length
  | [], _, _ => rfl
  | v :: vs, cs, i => by simp [setAtC, setAtC_length vs]
theorem VRs.setAt {g : List G} {M : Mem} {us : List V} {ds : List Value} (h' : VRs g M us ds) :
    ∀ {vs : List V} {cs : List Value} (_ : VRs g M vs cs) (i : Nat), VRs g M (setAt vs i us) (setAtC cs i ds) := by
  induction us generalizing ds with
  | nil => cases h'; intro vs cs h i; exact h
  | cons u us ih =>
    cases h' with
    | cons a b => intro vs cs h i; exact ih b (h.set a i) (i + 1)

theorem enc_length : ∀ (t : Ty) (x : t.den), (enc t x).length = t.size
  | .int _, _ => rfl
  | .float _, _ => rfl
  | .bool, _ => rfl
  | .str, _ => rfl
  | .slice _, _ => rfl
  | .pair a b, x => by simp [enc, Ty.size, enc_length a, enc_length b]
  | .unit, _ => rfl

theorem dec_sound {g : List G} {M : Mem} : ∀ (t : Ty) {vs : List V} {x : t.den} {r : List V}, dec t vs = some (x, r) →
    ∀ {cs : List Value}, VRs g M vs cs → VRs g M (enc t x) (cs.take t.size) ∧ VRs g M r (cs.drop t.size) := by
  intro t
  induction t with
  | int k =>
    intro vs x r h cs hc
    cases vs with
    | nil => simp [dec] at h
    | cons v vs =>
      cases v <;> simp [dec] at h
      obtain ⟨rfl, rfl, rfl⟩ := h
      cases hc with | cons a b => exact ⟨.cons a (by simp; exact .nil), by simpa [Ty.size] using b⟩
  | float k =>
    intro vs x r h cs hc
    cases vs with
    | nil => simp [dec] at h
    | cons v vs =>
      cases v <;> simp [dec] at h
      obtain ⟨rfl, rfl, rfl⟩ := h
      cases hc with | cons a b => exact ⟨.cons a (by simp; exact .nil), by simpa [Ty.size] using b⟩
  | bool =>
    intro vs x r h cs hc
    cases vs with
    | nil => simp [dec] at h
    | cons v vs =>
      cases v <;> simp [dec] at h
      obtain ⟨rfl, rfl⟩ := h
      cases hc with | cons a b => exact ⟨.cons a (by simp; exact .nil), by simpa [Ty.size] using b⟩
  | str =>
    intro vs x r h cs hc
    cases vs with
    | nil => simp [dec] at h
    | cons v vs =>
      cases v <;> simp [dec] at h
      obtain ⟨rfl, rfl⟩ := h
      cases hc with | cons a b => exact ⟨.cons a (by simp; exact .nil), by simpa [Ty.size] using b⟩
  | slice t ih =>
    intro vs x r h cs hc
    cases vs with
    | nil => simp [dec] at h
    | cons v vs =>
      cases v <;> simp [dec] at h
      · obtain ⟨⟨rfl, rfl⟩, rfl⟩ := h
        cases hc with | cons a b => exact ⟨.cons a (by simp; exact .nil), by simpa [Ty.size] using b⟩
      · obtain ⟨rfl, rfl⟩ := h
        cases hc with
        | cons a b =>
          cases a
          exact ⟨.cons (.vecnil t none 0) (by simp; exact .nil), by simpa [Ty.size] using b⟩
      · obtain ⟨rfl, rfl⟩ := h
        cases hc with
        | cons a b =>
          cases a with
          | empty _ _ ad cap e => exact ⟨.cons (.vecnil t ad cap) (by simp; exact .nil), by simpa [Ty.size] using b⟩
  | pair a b iha ihb =>
    intro vs x r h cs hc
    simp only [dec] at h
    split at h
    · rename_i y r1 h1
      split at h
      · rename_i z r2 h2
        simp at h
        obtain ⟨rfl, rfl⟩ := h
        obtain ⟨p1, p2⟩ := iha h1 hc
        obtain ⟨q1, q2⟩ := ihb h2 p2
        refine ⟨?_, ?_⟩
        · simp only [enc, Ty.size]
          rw [List.take_add]
          exact p1.append q1
        · simp only [Ty.size]
          rw [← List.drop_drop]
          exact q2
      · simp at h
    · simp at h
  | unit =>
    intro vs x r h cs hc
    simp [dec] at h
    obtain ⟨rfl, rfl⟩ := h
    exact ⟨by simp [enc, Ty.size]; exact .nil, by simpa [Ty.size] using hc⟩

theorem decN_sound {g : List G} {M : Mem} (t : Ty) : ∀ (n : Nat) {vs : List V} {xs : List t.den}, decN t n vs = some xs →
    ∀ {cs : List Value}, VRs g M vs cs → xs.length = n ∧ cs.length = n * t.size ∧ ∀ i x, xs[i]? = some x → VRs g M (enc t x) ((cs.drop (i * t.size)).take t.size) := by
  intro n
  induction n with
  | zero =>
    intro vs xs h cs hc
    cases vs with
    | nil =>
      simp [decN] at h; subst h; cases hc
      exact ⟨rfl, by simp, by intro i x hx; simp at hx⟩
    | cons v vs => simp [decN] at h
  | succ n ih =>
    intro vs xs h cs hc
    simp only [decN] at h
    split at h
    · rename_i y r h1
      split at h
      · rename_i ys h2
        simp at h; subst h
        obtain ⟨p1, p2⟩ := dec_sound t h1 hc
        obtain ⟨q1, q2, q3⟩ := ih h2 p2
        have hl := p1.length
        rw [enc_length, List.length_take] at hl
        simp at q2
        refine ⟨by simp [q1], by rw [Nat.succ_mul]; omega, ?_⟩
        intro i x hx
        cases i with
        | zero => simp at hx; subst hx; simpa using p1
        | succ i =>
          have := q3 i x (by simpa using hx)
          rw [List.drop_drop] at this
          rw [Nat.succ_mul, Nat.add_comm (i * t.size)]
          exact this
      · simp at h
    · simp at h

def Clear (n : Nat) (fz : Nat × Nat) : Prop := ∀ i, i < n → ¬ (fz.1 ≤ i ∧ i < fz.2)
def ClearT (t : Ty) (n : Nat) (fz : Nat × Nat) : Prop := Clear n fz ∧ (t = .int .u8 ∨ ¬ (fz.1 ≤ n ∧ n < fz.2))
theorem clearT_zero (t : Ty) (n : Nat) : ClearT t n (0, 0) := ⟨fun i _ h => by omega, .inr fun h => by omega⟩
def noM : Mem := fun _ => none
def DC (w : World) : (t : Ty) → t.den → List Value → List Nat → Prop
  | .slice e, xs, cs, bs => ∃ v, cs = [v] ∧ xs.length ≤ 9223372036854775807 ∧ 0 < e.size ∧ ((v = .slice none 0 0 ∧ xs = [] ∧ bs = []) ∨
      ∃ b cap c T fz, ∃ bss : List (List Nat), v = .slice (some ⟨b, 0, none⟩) xs.length cap ∧ w.heap[b]? = some (.cells c T fz) ∧ xs.length ≤ cap ∧ cap * e.size ≤ c.size ∧ ClearT e c.size fz ∧
        bs = b :: bss.flatten ∧ bss.length = xs.length ∧ ∀ i x bi, xs[i]? = some x → bss[i]? = some bi → DC w e x ((c.toList.drop (i * e.size)).take e.size) bi)
  | .pair a b, x, cs, bs => ∃ b1 b2, bs = b1 ++ b2 ∧ DC w a x.1 (cs.take a.size) b1 ∧ DC w b x.2 (cs.drop a.size) b2
  | .int k, x, cs, bs => bs = [] ∧ VRs [] noM (enc (.int k) x) cs
  | .float k, x, cs, bs => bs = [] ∧ VRs [] noM (enc (.float k) x) cs
  | .bool, x, cs, bs => bs = [] ∧ VRs [] noM (enc .bool x) cs
  | .str, x, cs, bs => bs = [] ∧ VRs [] noM (enc .str x) cs
  | .unit, x, cs, bs => bs = [] ∧ VRs [] noM (enc .unit x) cs
def spos : Ty → Nat → Bool
  | .slice _, o => Nat.beq o 0
  | .pair a b, o => bif Nat.blt o a.size then spos a o else spos b (o - a.size)
  | _, _ => false

def ObOk (g : List G) (M : Mem) (w : World) : Ob → G → Prop
  | .box cells, .box b => ∃ c T fz, w.heap[b]? = some (.cells c T fz) ∧ VRs g M cells c.toList ∧ Clear c.size fz ∧ M b = none
  | .sl ver t xs, .sl h ver' sz => ver' = ver ∧ sz = t.size ∧ (0 < t.size ∧ xs.length ≤ 9223372036854775807) ∧
      ((h = .slice none 0 0 ∧ xs = []) ∨
       ∃ b cap c T fz, h = .slice (some ⟨b, 0, none⟩) xs.length cap ∧ w.heap[b]? = some (.cells c T fz) ∧ xs.length ≤ cap ∧ cap * t.size ≤ c.size ∧
         (∀ i x, xs[i]? = some x → VRs g M (enc t x) ((c.toList.drop (i * t.size)).take t.size)) ∧ ClearT t c.size fz ∧ M b = none)
  | .fz ver t xs, .sl h ver' sz => ver' = ver ∧ sz = t.size ∧ VR g M (.vec t xs) h
  | .bld T e l, .bld b buf => ∃ p v, w.heap[b]? = some (.cells #[p, v] T (0, 0)) ∧ (p = .pointer none ∨ p = .pointer (some ⟨b, 0, none⟩)) ∧ w.ownsRowF 0 e 1 v l.length (Lib.byteCells l) ∧ v.ownBlock = buf ∧ buf ≠ some b ∧ M b = none ∧ ((∀ c, buf = some c → M c = none) ∧ (l = [] → v = .slice none 0 0))
  | .dp ver iv t xs, .dp h ver' iv' sz bs ih => (ver' = ver ∧ iv' = iv ∧ sz = t.size) ∧ DC w (.slice t) xs [h] bs ∧ bs.Nodup ∧ (∀ b ∈ bs, M b = none) ∧
      (∀ b n cap c T fz, h = .slice (some ⟨b, 0, none⟩) n cap → w.heap[b]? = some (.cells c T fz) → ∀ i o, i < xs.length → o < t.size → spos t o = true → c.toList[i * t.size + o]? = some (ih (i * t.size + o)))
  | .dead, _ => True
  | _, _ => False

def ownB : Ob → G → Nat → Prop
  | .box _, .box b, b' => b = b'
  | .sl .., .sl (.slice (some a) _ _) _ _, b' => a.block = b'
  | .bld .., .bld b buf, b' => b = b' ∨ buf = some b'
  | .dp .., .dp _ _ _ _ bs _, b' => b' ∈ bs
  | _, _, _ => False

def Own (H : Heap) (g : List G) (b : Nat) : Prop := ∃ (id : Nat) (o : Ob) (x : G), H[id]? = some o ∧ g[id]? = some x ∧ ownB o x b

def MemOk (M : Mem) (w : World) : Prop := ∀ b cs, M b = some cs → ∃ c T fz, w.heap[b]? = some (.cells c T fz) ∧ c.toList = cs

structure HR (H : Heap) (g : List G) (M : Mem) (w : World) : Prop where
  len : H.length = g.length
  ob : ∀ (id : Nat) (o : Ob) (x : G), H[id]? = some o → g[id]? = some x → ObOk g M w o x
  apart : ∀ (id id' : Nat) (o o' : Ob) (x x' : G) (b : Nat), H[id]? = some o → g[id]? = some x → H[id']? = some o' → g[id']? = some x' →
    ownB o x b → ownB o' x' b → id = id'
  mem : MemOk M w

def G.fixed : G → Bool
  | .box _ => true
  | .sl _ ver _ => Nat.beq ver 0
  | .bld _ _ => false
  | .dp _ ver iv _ _ _ => Nat.beq ver 0 && Nat.beq iv 0

structure Z where
  own : Nat → Prop
  gx : Nat → G → Prop
  n : Nat
  lt : ∀ id x, gx id x → id < n
  fx : ∀ id x, gx id x → x.fixed = true
def Z.no : Z := ⟨fun _ => False, fun _ _ => False, 0, fun _ _ h => h.elim, fun _ _ h => h.elim⟩
def Z.of (H : Heap) (g : List G) : Z := ⟨Own H g, fun id x => g[id]? = some x ∧ x.fixed = true, g.length, fun id x h => (List.getElem?_eq_some_iff.1 h.1).1, fun _ _ h => h.2⟩

structure Base (w0 : World) (M0 : Mem) (own0 : Z) (H : Heap) (g : List G) (M : Mem) (w : World) : Prop where
  size : w0.heap.size ≤ w.heap.size
  keep : ∀ b, b < w0.heap.size → ¬ own0.own b → w.heap[b]? = w0.heap[b]?
  own : ∀ b, Own H g b → own0.own b ∨ w0.heap.size ≤ b
  mle : ∀ b cs, M0 b = some cs → M b = some cs
  mnew : ∀ b cs, M b = some cs → M0 b = some cs ∨ own0.own b ∨ w0.heap.size ≤ b
  os : w.os = w0.os
  tape : w.tape = w0.tape
  output : w.output = w0.output
  gbox : ∀ id x, own0.gx id x → g[id]? = some x

end Go.Ev

/- Values that own their slices, and the slices of these. -/
set_option linter.unusedVariables false
set_option linter.unusedSimpArgs false
namespace Go.Ev

theorem DC_len {w : World} : ∀ (t : Ty) {x : t.den} {cs : List Value} {bs : List Nat}, DC w t x cs bs → cs.length = t.size := by
  intro t
  induction t with
  | slice e ih => rintro xs cs bs ⟨v, rfl, _⟩; rfl
  | pair a b iha ihb =>
    rintro x cs bs ⟨b1, b2, _, h1, h2⟩
    have := iha h1
    have := ihb h2
    simp only [List.length_take, List.length_drop] at *
    simp only [Ty.size]
    omega
  | int k => rintro x cs bs ⟨_, h⟩; have := h.length; rw [enc_length] at this; exact this.symm
  | float k => rintro x cs bs ⟨_, h⟩; have := h.length; rw [enc_length] at this; exact this.symm
  | bool => rintro x cs bs ⟨_, h⟩; have := h.length; rw [enc_length] at this; exact this.symm
  | str => rintro x cs bs ⟨_, h⟩; have := h.length; rw [enc_length] at this; exact this.symm
  | unit => rintro x cs bs ⟨_, h⟩; have := h.length; rw [enc_length] at this; exact this.symm

theorem DC_lt {w : World} : ∀ (t : Ty) {x : t.den} {cs : List Value} {bs : List Nat}, DC w t x cs bs → ∀ b ∈ bs, ∃ c T fz, w.heap[b]? = some (.cells c T fz) ∧ Clear c.size fz := by
  intro t
  induction t with
  | slice e ih =>
    rintro xs cs bs ⟨v, rfl, _, _, ⟨_, _, rfl⟩ | ⟨b, cap, c, T, fz, bss, rfl, h1, h2, h3, h4, rfl, h5, h6⟩⟩ b' hb'
    · cases hb'
    · rcases List.mem_cons.1 hb' with rfl | hb'
      · exact ⟨c, T, fz, h1, h4.1⟩
      · obtain ⟨bi, hbi, hb'⟩ := List.mem_flatten.1 hb'
        obtain ⟨i, hi⟩ := List.mem_iff_getElem?.1 hbi
        have hl : i < xs.length := by rw [← h5]; exact (List.getElem?_eq_some_iff.1 hi).1
        exact ih (h6 i xs[i] bi (List.getElem?_eq_getElem hl) hi) b' hb'
  | pair a b iha ihb =>
    rintro x cs bs ⟨b1, b2, rfl, h1, h2⟩ b' hb'
    rcases List.mem_append.1 hb' with hb' | hb'
    · exact iha h1 b' hb'
    · exact ihb h2 b' hb'
  | int k => rintro x cs bs ⟨rfl, h⟩ b' hb'; cases hb'
  | float k => rintro x cs bs ⟨rfl, h⟩ b' hb'; cases hb'
  | bool => rintro x cs bs ⟨rfl, h⟩ b' hb'; cases hb'
  | str => rintro x cs bs ⟨rfl, h⟩ b' hb'; cases hb'
  | unit => rintro x cs bs ⟨rfl, h⟩ b' hb'; cases hb'

theorem DC_frame {w w' : World} : ∀ (t : Ty) {x : t.den} {cs : List Value} {bs : List Nat}, (∀ b ∈ bs, w'.heap[b]? = w.heap[b]?) → DC w t x cs bs → DC w' t x cs bs := by
  intro t
  induction t with
  | slice e ih =>
    rintro xs cs bs hf ⟨v, rfl, hl, hs, ⟨h1, h2, rfl⟩ | ⟨b, cap, c, T, fz, bss, rfl, h1, h2, h3, h4, rfl, h5, h6⟩⟩
    · exact ⟨v, rfl, hl, hs, .inl ⟨h1, h2, rfl⟩⟩
    · refine ⟨_, rfl, hl, hs, .inr ⟨b, cap, c, T, fz, bss, rfl, by rw [hf b (by simp)]; exact h1, h2, h3, h4, rfl, h5, fun i x bi hx hbi => ?_⟩⟩
      exact ih (fun b' hb' => hf b' (by simp only [List.mem_cons, List.mem_flatten]; exact .inr ⟨bi, List.mem_of_getElem? hbi, hb'⟩)) (h6 i x bi hx hbi)
  | pair a b iha ihb =>
    rintro x cs bs hf ⟨b1, b2, rfl, h1, h2⟩
    exact ⟨b1, b2, rfl, iha (fun b' hb' => hf b' (by simp [hb'])) h1, ihb (fun b' hb' => hf b' (by simp [hb'])) h2⟩
  | int k => rintro x cs bs hf h; exact h
  | float k => rintro x cs bs hf h; exact h
  | bool => rintro x cs bs hf h; exact h
  | str => rintro x cs bs hf h; exact h
  | unit => rintro x cs bs hf h; exact h

theorem noM_le {M : Mem} : ∀ b cs, noM b = some cs → M b = some cs := fun _ _ h => by cases h
theorem VRs.ofNo {g : List G} {M : Mem} {vs : List V} {cs : List Value} (h : VRs [] noM vs cs) : VRs g M vs cs := h.mono ⟨fun _ _ hx => by simp at hx, noM_le⟩

theorem DC_vec {w : World} {Mv : Mem} : ∀ (t : Ty) {x : t.den} {cs : List Value} {bs : List Nat}, (∀ b ∈ bs, ∀ c T fz, w.heap[b]? = some (.cells c T fz) → Mv b = some c.toList) → DC w t x cs bs → VRs [] Mv (enc t x) cs := by
  intro t
  induction t with
  | slice e ih =>
    rintro xs cs bs hf ⟨v, rfl, hl, hs, ⟨rfl, rfl, rfl⟩ | ⟨b, cap, c, T, fz, bss, rfl, h1, h2, h3, h4, rfl, h5, h6⟩⟩
    · exact .cons (.vecnil e none 0) .nil
    · refine .cons (.vec e xs b 0 _ cap c.toList (hf b (by simp) c T fz h1) ⟨rfl, hl⟩ h2 fun i x hx => ?_) .nil
      have hi : i < bss.length := by rw [h5]; exact (List.getElem?_eq_some_iff.1 hx).1
      rw [Nat.zero_add]
      exact ih (fun b' hb' c T fz hc => hf b' (by simp only [List.mem_cons, List.mem_flatten]; exact .inr ⟨_, List.getElem_mem hi, hb'⟩) c T fz hc) (h6 i x _ hx (List.getElem?_eq_getElem hi))
  | pair a b iha ihb =>
    rintro x cs bs hf ⟨b1, b2, rfl, h1, h2⟩
    have := (iha (fun b' hb' => hf b' (by simp [hb'])) h1).append (ihb (fun b' hb' => hf b' (by simp [hb'])) h2)
    rwa [List.take_append_drop] at this
  | int k => rintro x cs bs hf ⟨_, h⟩; exact h.ofNo
  | float k => rintro x cs bs hf ⟨_, h⟩; exact h.ofNo
  | bool => rintro x cs bs hf ⟨_, h⟩; exact h.ofNo
  | str => rintro x cs bs hf ⟨_, h⟩; exact h.ofNo
  | unit => rintro x cs bs hf ⟨_, h⟩; exact h.ofNo

theorem flats_append : ∀ (a b : List V), flats (a ++ b) = (flats a && flats b)
  | [], b => by simp [flats]
  | v :: a, b => by simp [flats, flats_append a b, Bool.and_assoc]
theorem flats_enc : ∀ (t : Ty) (x : t.den), flatTy t = true → flats (enc t x) = true
  | .int _, _, _ => rfl
  | .float _, _, _ => rfl
  | .bool, _, _ => rfl
  | .str, _, _ => rfl
  | .slice _, _, h => by cases h
  | .pair a b, x, h => by
    simp only [flatTy, Bool.and_eq_true] at h
    simp only [enc, flats_append, flats_enc a x.1 h.1, flats_enc b x.2 h.2, Bool.and_self]
  | .unit, _, _ => rfl

theorem DC_of_flat {w : World} {g : List G} {M : Mem} : ∀ (t : Ty) {x : t.den} {cs : List Value}, flatTy t = true → VRs g M (enc t x) cs → DC w t x cs [] := by
  intro t
  induction t with
  | slice e ih => intro x cs hf; cases hf
  | pair a b iha ihb =>
    intro x cs hf h
    simp only [flatTy, Bool.and_eq_true] at hf
    simp only [enc] at h
    obtain ⟨h1, h2⟩ := h.split
    rw [enc_length] at h1 h2
    exact ⟨[], [], rfl, iha hf.1 h1, ihb hf.2 h2⟩
  | int k => intro x cs hf h; exact ⟨rfl, h.flat rfl⟩
  | float k => intro x cs hf h; exact ⟨rfl, h.flat rfl⟩
  | bool => intro x cs hf h; exact ⟨rfl, h.flat rfl⟩
  | str => intro x cs hf h; exact ⟨rfl, h.flat rfl⟩
  | unit => intro x cs hf h; exact ⟨rfl, h.flat rfl⟩
theorem DC_sub {w : World} : ∀ (t : Ty) {x : t.den} {cs : List Value} {bs : List Nat} {o : Nat} {e : Ty} {ys : List e.den}, DC w t x cs bs → subAt t x o = some ⟨e, ys⟩ →
    ∃ b1 b2 v bs', bs = b1 ++ bs' ++ b2 ∧ cs[o]? = some v ∧ spos t o = true ∧ DC w (.slice e) ys [v] bs' ∧
      ∀ (w' : World) (ys' : List e.den), (∀ b ∈ b1 ++ b2, w'.heap[b]? = w.heap[b]?) → DC w' (.slice e) ys' [v] bs' → DC w' t (putAt t x o e ys') cs bs := by
  intro t
  induction t with
  | slice e0 ih =>
    intro xs cs bs o e ys h hs
    simp only [subAt] at hs
    cases ho : Nat.beq o 0 with
    | false => rw [ho] at hs; cases hs
    | true =>
      rw [ho] at hs
      cases hs
      have := Nat.eq_of_beq_eq_true ho
      subst this
      obtain ⟨v, rfl, h'⟩ := h
      refine ⟨[], [], v, bs, by simp, rfl, rfl, ⟨v, rfl, h'⟩, fun w' ys' _ hd => ?_⟩
      simp only [putAt, dif_pos]
      exact hd
  | pair a b iha ihb =>
    rintro x cs bs o e ys ⟨c1, c2, rfl, h1, h2⟩ hs
    have hl1 := DC_len a h1
    simp only [subAt] at hs
    cases ho : Nat.blt o a.size with
    | true =>
      rw [ho] at hs
      simp only [cond_true] at hs
      obtain ⟨b1, b2, v, bs', rfl, k1, k2, k3, k4⟩ := iha h1 hs
      rw [Nat.blt_eq] at ho
      refine ⟨b1, b2 ++ c2, v, bs', by simp, ?_, ?_, k3, fun w' ys' hf hd => ?_⟩
      · rw [List.getElem?_take] at k1
        rw [if_pos ho] at k1
        exact k1
      · simp only [spos, show Nat.blt o a.size = true by rw [Nat.blt_eq]; exact ho, cond_true]; exact k2
      · simp only [putAt, show Nat.blt o a.size = true by rw [Nat.blt_eq]; exact ho, cond_true]
        exact ⟨_, _, rfl, k4 w' ys' (fun b' hb' => hf b' (by simp at hb' ⊢; rcases hb' with h | h <;> simp [h])) hd, DC_frame b (fun b' hb' => hf b' (by simp [hb'])) h2⟩
    | false =>
      rw [ho] at hs
      simp only [cond_false] at hs
      have hge : a.size ≤ o := by
        rcases Nat.lt_or_ge o a.size with k | k
        · rw [show Nat.blt o a.size = true by rw [Nat.blt_eq]; exact k] at ho; cases ho
        · exact k
      obtain ⟨b1, b2, v, bs', rfl, k1, k2, k3, k4⟩ := ihb h2 hs
      refine ⟨c1 ++ b1, b2, v, bs', by simp, ?_, ?_, k3, fun w' ys' hf hd => ?_⟩
      · rw [List.getElem?_drop, show a.size + (o - a.size) = o by omega] at k1
        exact k1
      · simp only [spos, ho, cond_false]; exact k2
      · simp only [putAt, ho, cond_false]
        exact ⟨_, _, by simp, DC_frame a (fun b' hb' => hf b' (by simp [hb'])) h1, k4 w' ys' (fun b' hb' => hf b' (by simp at hb' ⊢; rcases hb' with h | h <;> simp [h])) hd⟩
  | int k => intro x cs bs o e ys h hs; cases hs
  | float k => intro x cs bs o e ys h hs; cases hs
  | bool => intro x cs bs o e ys h hs; cases hs
  | str => intro x cs bs o e ys h hs; cases hs
  | unit => intro x cs bs o e ys h hs; cases hs

theorem encD_sound {w : World} {g : List G} {M : Mem} {mk : Nat → V} : ∀ (t : Ty) {x : t.den} {cs : List Value} {bs : List Nat} (o : Nat), DC w t x cs bs → (∀ k v, cs[k]? = some v → spos t k = true → VR g M (mk (o + k)) v) →
    VRs g M (encD mk t x o) cs := by
  intro t
  induction t with
  | slice e ih =>
    rintro xs cs bs o ⟨v, rfl, _⟩ hm
    exact .cons (hm 0 v rfl rfl) .nil
  | pair a b iha ihb =>
    rintro x cs bs o ⟨b1, b2, rfl, h1, h2⟩ hm
    have hl1 := DC_len a h1
    have q1 := iha o h1 fun k v hk hs => by
      have hlt : k < a.size := by rw [← hl1]; exact (List.getElem?_eq_some_iff.1 hk).1
      rw [List.getElem?_take, if_pos hlt] at hk
      exact hm k v hk (by simp only [spos, show Nat.blt k a.size = true by rw [Nat.blt_eq]; exact hlt, cond_true]; exact hs)
    have q2 := ihb (o + a.size) h2 fun k v hk hs => by
      rw [List.getElem?_drop] at hk
      have := hm (a.size + k) v hk (by
        have hn : Nat.blt (a.size + k) a.size = false := by
          cases e : Nat.blt (a.size + k) a.size with
          | false => rfl
          | true => rw [Nat.blt_eq] at e; omega
        simp only [spos, hn, cond_false, Nat.add_sub_cancel_left]; exact hs)
      rwa [← Nat.add_assoc] at this
    have := q1.append q2
    rwa [List.take_append_drop] at this
  | int k => rintro x cs bs o ⟨_, h⟩ hm; exact h.ofNo
  | float k => rintro x cs bs o ⟨_, h⟩ hm; exact h.ofNo
  | bool => rintro x cs bs o ⟨_, h⟩ hm; exact h.ofNo
  | str => rintro x cs bs o ⟨_, h⟩ hm; exact h.ofNo
  | unit => rintro x cs bs o ⟨_, h⟩ hm; exact h.ofNo

theorem dec_flat {w : World} {g : List G} {M : Mem} {t : Ty} (hf : flatTy t = true) {vs : List V} {x : t.den} {r : List V} (hd : dec t vs = some (x, r)) {cs : List Value} (hv : VRs g M vs cs) : DC w t x (cs.take t.size) [] ∧ VRs g M r (cs.drop t.size) := by
  obtain ⟨h1, h2⟩ := dec_sound t hd hv
  exact ⟨DC_of_flat t hf h1, h2⟩

def ren (id iv i : Nat) : V → V
  | .inn _ _ _ o => .inn id iv i o
  | v => v
theorem dec_ren {id iv i : Nat} : ∀ (t : Ty) {vs r : List V} {x : t.den}, dec t vs = some (x, r) → dec t (vs.map (ren id iv i)) = some (x, r.map (ren id iv i)) := by
  intro t
  induction t with
  | pair a b iha ihb =>
    intro vs r x h
    simp only [dec] at h ⊢
    split at h
    · rename_i y r1 e1
      split at h
      · rename_i z r2 e2
        cases h
        rw [iha e1]
        simp only
        rw [ihb e2]
      · cases h
    · cases h
  | unit => intro vs r x h; simp only [dec] at h ⊢; cases h; rfl
  | _ =>
    intro vs r x h
    cases vs with
    | nil => simp only [dec, reduceCtorEq] at h
    | cons v vs =>
      cases v <;> simp only [dec, reduceCtorEq] at h <;> first
        | (split at h
           · rename_i h1; cases h1; cases h; simp only [List.map_cons, ren, dec, dif_pos, if_pos]
           · cases h)
        | (cases h; simp only [List.map_cons, ren, dec])
theorem decD_ren {id iv i : Nat} : ∀ (t : Ty) {vs r : List V} {x x' : t.den} (o : Nat), decD id iv 0 t x o vs = some (x', r) → decD id iv i t x o (vs.map (ren id iv i)) = some (x', r.map (ren id iv i)) := by
  intro t
  induction t with
  | slice e ih =>
    intro vs r x x' o h
    cases vs with
    | nil => simp only [decD] at h; cases h
    | cons v vs =>
      simp only [decD] at h
      cases hs : sameInn id iv 0 o v with
      | false => rw [hs] at h; cases h
      | true =>
        rw [hs] at h
        cases h
        cases v <;> simp only [sameInn] at hs <;> try (cases hs; done)
        simp only [Bool.and_eq_true] at hs
        simp only [List.map_cons, ren, decD, sameInn, Nat.beq_refl, hs.2.2.2, Bool.and_self, cond_true]
  | pair a b iha ihb =>
    intro vs r x x' o h
    simp only [decD] at h ⊢
    split at h
    · rename_i y r1 e1
      split at h
      · rename_i z r2 e2
        cases h
        rw [iha o e1]
        simp only
        rw [ihb (o + a.size) e2]
      · cases h
    · cases h
  | _ => intro vs r x x' o h; simp only [decD] at h ⊢; exact dec_ren _ h
theorem map_setAt (f : V → V) : ∀ (vs cs : List V) (i : Nat), (setAt cs i vs).map f = setAt (cs.map f) i (vs.map f)
  | [], _, _ => rfl
  | v :: vs, cs, i => by simp only [setAt, List.map_cons]; rw [map_setAt f vs, List.map_set]
theorem map_noInn {id iv i : Nat} : ∀ {vs : List V}, vs.all noInn = true → vs.map (ren id iv i) = vs
  | [], _ => rfl
  | v :: vs, h => by
    simp only [List.all_cons, Bool.and_eq_true] at h
    rw [List.map_cons, map_noInn h.2]
    cases v <;> simp only [noInn] at h <;> first | rfl | exact absurd h.1 (by decide)
theorem encD_ren {id iv i : Nat} : ∀ (t : Ty) (x : t.den) (o : Nat), (encD (fun o => .inn id iv 0 o) t x o).map (ren id iv i) = encD (fun o => .inn id iv i o) t x o := by
  intro t
  induction t with
  | pair a b iha ihb => intro x o; simp only [encD, List.map_append, iha, ihb]
  | _ => intro x o; simp [encD, ren, enc]
theorem decD_ren0 {id iv : Nat} (i : Nat) {t : Ty} {x x' : t.den} {vs : List V} {off : Nat} (hni : vs.all noInn = true) (h : decD id iv 0 t x 0 (setAt (encD (fun o => .inn id iv 0 o) t x 0) off vs) = some (x', [])) :
    decD id iv i t x 0 (setAt (encD (fun o => .inn id iv i o) t x 0) off vs) = some (x', []) := by
  have := decD_ren (i := i) t 0 h
  rwa [map_setAt, encD_ren, map_noInn hni] at this

theorem decD_sound {w : World} {g : List G} {M : Mem} {id iv i : Nat} {ih : Nat → Value} {sz : Nat} (hin : ∀ o v, VR g M (.inn id iv i o) v → v = ih (i * sz + o)) : ∀ (t : Ty) {x x' : t.den} {cs0 cs : List Value} {bs : List Nat} (o : Nat) {vs r : List V}, DC w t x cs0 bs →
    (∀ k v, cs0[k]? = some v → spos t k = true → v = ih (i * sz + (o + k))) → decD id iv i t x o vs = some (x', r) → VRs g M vs cs →
    DC w t x' (cs.take t.size) bs ∧ VRs g M r (cs.drop t.size) ∧ ∀ k v, (cs.take t.size)[k]? = some v → spos t k = true → v = ih (i * sz + (o + k)) := by
  intro t
  induction t with
  | slice e ihe =>
    intro xs x' cs0 cs bs o vs r h h0 hd hv
    cases vs with
    | nil => simp only [decD] at hd; cases hd
    | cons v vs =>
      simp only [decD] at hd
      cases hs : sameInn id iv i o v with
      | false => rw [hs] at hd; cases hd
      | true =>
        rw [hs] at hd
        cases hd
        cases hv with
        | cons a b =>
          rename_i c cs
          cases v <;> simp only [sameInn] at hs <;> try (cases hs; done)
          simp only [Bool.and_eq_true] at hs
          obtain ⟨e1, e2, e3, e4⟩ := hs
          have := Nat.eq_of_beq_eq_true e1; have := Nat.eq_of_beq_eq_true e2; have := Nat.eq_of_beq_eq_true e3; have := Nat.eq_of_beq_eq_true e4
          subst_vars
          have hc := hin _ _ a
          obtain ⟨v0, rfl, h'⟩ := h
          have := h0 0 v0 rfl rfl
          rw [Nat.add_zero, ← hc] at this
          subst this
          refine ⟨?_, by simpa [Ty.size] using b, ?_⟩
          · simp only [Ty.size, List.take_succ_cons, List.take_zero]
            exact ⟨_, rfl, h'⟩
          · intro k v hk hs
            simp only [spos] at hs
            have := Nat.eq_of_beq_eq_true hs
            subst this
            simp [Ty.size] at hk
            rw [← hk, Nat.add_zero]
            exact hc
  | pair a b iha ihb =>
    rintro x x' cs0 cs bs o vs r ⟨b1, b2, rfl, h1, h2⟩ h0 hd hv
    have hl1 := DC_len a h1
    simp only [decD] at hd
    split at hd
    · rename_i y r1 e1
      split at hd
      · rename_i z r2 e2
        cases hd
        obtain ⟨p1, p2, p3⟩ := iha o h1 (fun k v hk hs => by
          have hlt : k < a.size := by rw [← hl1]; exact (List.getElem?_eq_some_iff.1 hk).1
          rw [List.getElem?_take, if_pos hlt] at hk
          exact h0 k v hk (by simp only [spos, show Nat.blt k a.size = true by rw [Nat.blt_eq]; exact hlt, cond_true]; exact hs)) e1 hv
        obtain ⟨q1, q2, q3⟩ := ihb (o + a.size) h2 (fun k v hk hs => by
          rw [List.getElem?_drop] at hk
          have := h0 (a.size + k) v hk (by
            have hn : Nat.blt (a.size + k) a.size = false := by
              cases e : Nat.blt (a.size + k) a.size with
              | false => rfl
              | true => rw [Nat.blt_eq] at e; omega
            simp only [spos, hn, cond_false, Nat.add_sub_cancel_left]; exact hs)
          rwa [← Nat.add_assoc o] at this) e2 p2
        refine ⟨⟨b1, b2, rfl, ?_, ?_⟩, ?_, ?_⟩
        · simp only [Ty.size]
          rw [List.take_take, Nat.min_eq_left (by omega)]
          exact p1
        · simp only [Ty.size]
          rw [List.drop_take, Nat.add_sub_cancel_left]
          exact q1
        · simp only [Ty.size]
          rw [← List.drop_drop]
          exact q2
        · intro k v hk hs
          simp only [Ty.size] at hk
          simp only [spos] at hs
          rw [List.getElem?_take] at hk
          split at hk
          · rename_i hlt
            cases ho : Nat.blt k a.size with
            | true =>
              rw [ho] at hs
              rw [Nat.blt_eq] at ho
              exact p3 k v (by rw [List.getElem?_take, if_pos ho]; exact hk) hs
            | false =>
              rw [ho] at hs
              have hge : a.size ≤ k := by
                rcases Nat.lt_or_ge k a.size with h | h
                · rw [show Nat.blt k a.size = true by rw [Nat.blt_eq]; exact h] at ho; cases ho
                · exact h
              have := q3 (k - a.size) v (by
                rw [List.getElem?_take, if_pos (by omega), List.getElem?_drop, show a.size + (k - a.size) = k by omega]; exact hk) hs
              rwa [show o + a.size + (k - a.size) = o + k by omega] at this
          · cases hk
      · cases hd
    · cases hd
  | int k => rintro x x' cs0 cs bs o vs r ⟨rfl, _⟩ h0 hd hv; obtain ⟨h1, h2⟩ := dec_flat (w := w) rfl hd hv; exact ⟨h1, h2, fun _ _ _ hs => by cases hs⟩
  | float k => rintro x x' cs0 cs bs o vs r ⟨rfl, _⟩ h0 hd hv; obtain ⟨h1, h2⟩ := dec_flat (w := w) rfl hd hv; exact ⟨h1, h2, fun _ _ _ hs => by cases hs⟩
  | bool => rintro x x' cs0 cs bs o vs r ⟨rfl, _⟩ h0 hd hv; obtain ⟨h1, h2⟩ := dec_flat (w := w) rfl hd hv; exact ⟨h1, h2, fun _ _ _ hs => by cases hs⟩
  | str => rintro x x' cs0 cs bs o vs r ⟨rfl, _⟩ h0 hd hv; obtain ⟨h1, h2⟩ := dec_flat (w := w) rfl hd hv; exact ⟨h1, h2, fun _ _ _ hs => by cases hs⟩
  | unit => rintro x x' cs0 cs bs o vs r ⟨rfl, _⟩ h0 hd hv; obtain ⟨h1, h2⟩ := dec_flat (w := w) rfl hd hv; exact ⟨h1, h2, fun _ _ _ hs => by cases hs⟩

theorem flatten_nils (n : Nat) : (List.replicate n ([] : List Nat)).flatten = [] := by
  induction n with
  | zero => rfl
  | succ n ih => simp [List.replicate_succ, ih]
theorem DC_of_sl {w : World} {g : List G} {M : Mem} {e : Ty} {ver ver' sz : Nat} {xs : List e.den} {h : Value} (hf : flatTy e = true) (ho : ObOk g M w (.sl ver e xs) (.sl h ver' sz)) :
    ∃ bs, DC w (.slice e) xs [h] bs ∧ bs.Nodup ∧ ∀ b ∈ bs, ownB (.sl ver e xs) (.sl h ver' sz) b := by
  simp only [ObOk] at ho
  obtain ⟨_, _, ⟨hsz, hlen⟩, ho⟩ := ho
  rcases ho with ⟨rfl, rfl⟩ | ⟨b, cap, c, T, fz, rfl, k2, k3, k4, k5, k6, k7⟩
  · exact ⟨[], ⟨_, rfl, hlen, hsz, .inl ⟨rfl, rfl, rfl⟩⟩, .nil, by simp⟩
  · refine ⟨[b], ⟨_, rfl, hlen, hsz, .inr ⟨b, cap, c, T, fz, List.replicate xs.length [], rfl, k2, k3, k4, k6, by rw [flatten_nils], by simp, fun i x bi hx hbi => ?_⟩⟩, by simp, ?_⟩
    · have : bi = [] := by
        rw [List.getElem?_replicate] at hbi
        split at hbi
        · cases hbi; rfl
        · cases hbi
      subst this
      exact DC_of_flat e hf (k5 i x hx)
    · intro b' hb'
      simp only [List.mem_singleton] at hb'
      subst hb'
      rfl

def OwnIn (H : Heap) (g : List G) (L : List Nat) (b : Nat) : Prop := ∃ j ∈ L, ∃ o y, H[j]? = some o ∧ g[j]? = some y ∧ ownB o y b

theorem decOw_sound {H : Heap} {g : List G} {M : Mem} {w : World} (hr : HR H g M w) : ∀ (t : Ty) {vs r : List V} {x : t.den} {L : List Nat} {cs : List Value}, decOw H t vs = some (x, L, r) → VRs g M vs cs → L.Nodup →
    ∃ bs, DC w t x (cs.take t.size) bs ∧ VRs g M r (cs.drop t.size) ∧ bs.Nodup ∧ ∀ b ∈ bs, OwnIn H g L b := by
  intro t
  have plain : ∀ (t : Ty), flatTy t = true → ∀ {vs r : List V} {x : t.den} {cs : List Value}, dec t vs = some (x, r) → VRs g M vs cs →
      ∃ bs, DC w t x (cs.take t.size) bs ∧ VRs g M r (cs.drop t.size) ∧ bs.Nodup ∧ ∀ b ∈ bs, OwnIn H g [] b := by
    intro t hf vs r x cs hd hv
    obtain ⟨h1, h2⟩ := dec_flat (w := w) hf hd hv
    exact ⟨[], h1, h2, .nil, by simp⟩
  induction t with
  | slice e ih =>
    intro vs r x L cs hd hv hL
    cases vs with
    | nil => simp only [decOw] at hd; cases hd
    | cons v vs =>
      cases hv with
      | cons a b =>
      rename_i c cs
      have one : ∀ {xs : List e.den} {bs : List Nat}, DC w (.slice e) xs [c] bs → DC w (.slice e) xs ((c :: cs).take (Ty.slice e).size) bs := fun h => by simpa [Ty.size] using h
      have two : VRs g M vs ((c :: cs).drop (Ty.slice e).size) := by simpa [Ty.size] using b
      simp only [decOw] at hd
      split at hd
      · cases hs : Nat.blt 0 e.size with
        | false => rw [hs] at hd; cases hd
        | true =>
          rw [hs] at hd
          cases hd
          cases a
          rw [Nat.blt_eq] at hs
          exact ⟨[], one ⟨_, rfl, Nat.zero_le _, hs, .inl ⟨rfl, rfl, rfl⟩⟩, two, .nil, by simp⟩
      · rename_i j ver
        split at hd
        · rename_i ver' t' ys hj
          cases hb : (Nat.beq ver ver' && flatTy e) with
          | false => rw [hb] at hd; cases hd
          | true =>
            rw [hb] at hd
            simp only [cond_true] at hd
            simp only [Bool.and_eq_true] at hb
            split at hd
            · rename_i e'
              subst e'
              cases hd
              cases a with
              | obj _ _ ver2 sz h _ h1 h2 h3 h4 =>
                have ho := hr.ob j _ _ hj h1
                have hv : ver2 = ver' := by simp only [ObOk] at ho; exact ho.1
                have hval := h3 (by rw [hv]; exact Nat.eq_of_beq_eq_true hb.1)
                subst hval
                obtain ⟨bs, q1, q2, q3⟩ := DC_of_sl hb.2 ho
                exact ⟨bs, one q1, two, q2, fun b hb' => ⟨j, by simp, _, _, hj, h1, q3 b hb'⟩⟩
            · cases hd
        · cases hd
      · rename_i j ver
        split at hd
        · rename_i ver' iv t' ys hj
          cases hb : Nat.beq ver ver' with
          | false => rw [hb] at hd; cases hd
          | true =>
            rw [hb] at hd
            simp only [cond_true] at hd
            split at hd
            · rename_i e'
              subst e'
              cases hd
              cases a with
              | dob _ _ ver2 iv2 sz bs ih' h _ h1 h2 h3 h4 =>
                have ho := hr.ob j _ _ hj h1
                simp only [ObOk] at ho
                have hval := h3 (by rw [ho.1.1]; exact Nat.eq_of_beq_eq_true hb)
                subst hval
                exact ⟨bs, one ho.2.1, two, ho.2.2.1, fun b hb' => ⟨j, by simp, _, _, hj, h1, hb'⟩⟩
            · cases hd
        · cases hd
      · cases hd
  | pair a b iha ihb =>
    intro vs r x L cs hd hv hL
    simp only [decOw] at hd
    split at hd
    · rename_i y L1 r1 e1
      split at hd
      · rename_i z L2 r2 e2
        cases hd
        rw [List.nodup_append] at hL
        obtain ⟨n1, n2, n3⟩ := hL
        obtain ⟨b1, p1, p2, p3, p4⟩ := iha e1 hv n1
        obtain ⟨b2, q1, q2, q3, q4⟩ := ihb e2 p2 n2
        refine ⟨b1 ++ b2, ⟨b1, b2, rfl, ?_, ?_⟩, ?_, ?_, ?_⟩
        · simp only [Ty.size]
          rw [List.take_take, Nat.min_eq_left (by omega)]
          exact p1
        · simp only [Ty.size]
          rw [List.drop_take, Nat.add_sub_cancel_left]
          exact q1
        · simp only [Ty.size]
          rw [← List.drop_drop]
          exact q2
        · rw [List.nodup_append]
          refine ⟨p3, q3, ?_⟩
          rintro b' hb1 _ hb2 rfl
          obtain ⟨j1, k1, o1, y1, m1, m2, m3⟩ := p4 b' hb1
          obtain ⟨j2, k2, o2, y2, m4, m5, m6⟩ := q4 b' hb2
          have := hr.apart j1 j2 o1 o2 y1 y2 b' m1 m2 m4 m5 m3 m6
          exact n3 j1 k1 j2 k2 this
        · intro b' hb'
          rcases List.mem_append.1 hb' with hb' | hb'
          · obtain ⟨j, k, m⟩ := p4 b' hb'
            exact ⟨j, by simp [k], m⟩
          · obtain ⟨j, k, m⟩ := q4 b' hb'
            exact ⟨j, by simp [k], m⟩
      · cases hd
    · cases hd
  | int k =>
    intro vs r x L cs hd hv hL
    simp only [decOw] at hd
    split at hd
    · rename_i y r1 e1; cases hd; exact plain _ rfl e1 hv
    · cases hd
  | float k =>
    intro vs r x L cs hd hv hL
    simp only [decOw] at hd
    split at hd
    · rename_i y r1 e1; cases hd; exact plain _ rfl e1 hv
    · cases hd
  | bool =>
    intro vs r x L cs hd hv hL
    simp only [decOw] at hd
    split at hd
    · rename_i y r1 e1; cases hd; exact plain _ rfl e1 hv
    · cases hd
  | str =>
    intro vs r x L cs hd hv hL
    simp only [decOw] at hd
    split at hd
    · rename_i y r1 e1; cases hd; exact plain _ rfl e1 hv
    · cases hd
  | unit =>
    intro vs r x L cs hd hv hL
    simp only [decOw] at hd
    split at hd
    · rename_i y r1 e1; cases hd; exact plain _ rfl e1 hv
    · cases hd

theorem decOwN_sound {H : Heap} {g : List G} {M : Mem} {w : World} (hr : HR H g M w) (t : Ty) : ∀ (n : Nat) {vs : List V} {xs : List t.den} {L : List Nat} {cs : List Value}, decOwN H t n vs = some (xs, L) → VRs g M vs cs → L.Nodup →
    ∃ bss : List (List Nat), xs.length = n ∧ bss.length = n ∧ cs.length = n * t.size ∧ bss.flatten.Nodup ∧ (∀ b ∈ bss.flatten, OwnIn H g L b) ∧
      ∀ i x bi, xs[i]? = some x → bss[i]? = some bi → DC w t x ((cs.drop (i * t.size)).take t.size) bi
  | 0, [], xs, L, cs, hd, hv, hL => by
    simp only [decOwN] at hd
    cases hd
    cases hv
    exact ⟨[], rfl, rfl, by simp, by simp, by simp, by intro i x bi hx; simp at hx⟩
  | 0, _ :: _, xs, L, cs, hd, hv, hL => by simp only [decOwN] at hd; cases hd
  | n + 1, vs, xs, L, cs, hd, hv, hL => by
    simp only [decOwN] at hd
    split at hd
    · rename_i x L1 r e1
      split at hd
      · rename_i ys L2 e2
        cases hd
        rw [List.nodup_append] at hL
        obtain ⟨n1, n2, n3⟩ := hL
        obtain ⟨b1, p1, p2, p3, p4⟩ := decOw_sound hr t e1 hv n1
        obtain ⟨bss, q1, q2, q3, q4, q5, q6⟩ := decOwN_sound hr t n e2 p2 n2
        have hl := DC_len t p1
        rw [List.length_take] at hl
        rw [List.length_drop] at q3
        refine ⟨b1 :: bss, by simp [q1], by simp [q2], by rw [Nat.succ_mul]; omega, ?_, ?_, ?_⟩
        · rw [List.flatten_cons, List.nodup_append]
          refine ⟨p3, q4, ?_⟩
          rintro b' hb1 _ hb2 rfl
          obtain ⟨j1, k1, o1, y1, m1, m2, m3⟩ := p4 b' hb1
          obtain ⟨j2, k2, o2, y2, m4, m5, m6⟩ := q5 b' hb2
          have := hr.apart j1 j2 o1 o2 y1 y2 b' m1 m2 m4 m5 m3 m6
          exact n3 j1 k1 j2 k2 this
        · intro b' hb'
          rw [List.flatten_cons] at hb'
          rcases List.mem_append.1 hb' with hb' | hb'
          · obtain ⟨j, k, m⟩ := p4 b' hb'
            exact ⟨j, by simp [k], m⟩
          · obtain ⟨j, k, m⟩ := q5 b' hb'
            exact ⟨j, by simp [k], m⟩
        · intro i y bi hy hbi
          cases i with
          | zero =>
            simp at hy hbi
            subst hy; subst hbi
            simpa using p1
          | succ i =>
            have := q6 i y bi (by simpa using hy) (by simpa using hbi)
            rw [List.drop_drop] at this
            rw [Nat.succ_mul, Nat.add_comm (i * t.size)]
            exact this
      · cases hd
    · cases hd

theorem kill_len (H : Heap) : ∀ L, (kill H L).length = H.length
  | [] => rfl
  | j :: L => by simp only [kill, List.length_set, kill_len H L]
theorem kill_get {H : Heap} : ∀ {L : List Nat} {i : Nat} {o : Ob}, (kill H L)[i]? = some o → (i ∈ L ∧ o = .dead) ∨ (i ∉ L ∧ H[i]? = some o)
  | [], i, o, h => .inr ⟨by simp, h⟩
  | j :: L, i, o, h => by
    simp only [kill] at h
    by_cases e : j = i
    · subst e
      have hl : j < (kill H L).length := by
        rcases Nat.lt_or_ge j (kill H L).length with k | k
        · exact k
        · rw [List.getElem?_eq_none (by simpa using k)] at h; cases h
      rw [List.getElem?_set_self hl] at h
      cases h
      exact .inl ⟨by simp, rfl⟩
    · rw [List.getElem?_set_ne e] at h
      rcases kill_get h with ⟨h1, h2⟩ | ⟨h1, h2⟩
      · exact .inl ⟨by simp [h1], h2⟩
      · exact .inr ⟨fun hm => (List.mem_cons.1 hm).elim (fun k => e k.symm) h1, h2⟩
theorem nodupB_ok : ∀ {L : List Nat}, nodupB L = true → L.Nodup
  | [], _ => .nil
  | x :: r, h => by
    simp only [nodupB, Bool.and_eq_true, List.all_eq_true, Bool.not_eq_true'] at h
    refine List.nodup_cons.2 ⟨fun hx => ?_, nodupB_ok h.2⟩
    have := h.1 x hx
    rw [Nat.beq_refl] at this
    cases this

theorem DC_head {w : World} {t : Ty} {xs : List t.den} {b n cap : Nat} {bs : List Nat} (h : DC w (.slice t) xs [.slice (some ⟨b, 0, none⟩) n cap] bs) : b ∈ bs := by
  obtain ⟨v, hv, _, _, ⟨e, _⟩ | ⟨b', cap', c, T, fz, bss, e, _, _, _, _, rfl, _⟩⟩ := h
  · cases hv; cases e
  · cases hv; cases e; simp
theorem dp_frame {g g' : List G} {M M' : Mem} {w w' : World} {ver iv ver' iv' sz : Nat} {t : Ty} {xs : List t.den} {h : Value} {bs : List Nat} {ih : Nat → Value} (ho : ObOk g M w (.dp ver iv t xs) (.dp h ver' iv' sz bs ih))
    (hb : ∀ b ∈ bs, w'.heap[b]? = w.heap[b]? ∧ M' b = none) : ObOk g' M' w' (.dp ver iv t xs) (.dp h ver' iv' sz bs ih) := by
  simp only [ObOk] at ho ⊢
  obtain ⟨h1, h2, h3, h4, h5⟩ := ho
  refine ⟨h1, DC_frame _ (fun b hm => (hb b hm).1) h2, h3, fun b hm => (hb b hm).2, ?_⟩
  intro b n cap c T fz e hc
  subst e
  rw [(hb b (DC_head h2)).1] at hc
  exact h5 b n cap c T fz rfl hc
theorem dp_lt {g : List G} {M : Mem} {w : World} {ver iv ver' iv' sz : Nat} {t : Ty} {xs : List t.den} {h : Value} {bs : List Nat} {ih : Nat → Value} (ho : ObOk g M w (.dp ver iv t xs) (.dp h ver' iv' sz bs ih)) {b : Nat} (hb : b ∈ bs) : b < w.heap.size ∧ M b = none := by
  simp only [ObOk] at ho
  obtain ⟨h1, h2, h3, h4, h5⟩ := ho
  obtain ⟨c, T, fz, hc, _⟩ := DC_lt _ h2 b hb
  refine ⟨?_, h4 b hb⟩
  rcases Nat.lt_or_ge b w.heap.size with h' | h'
  · exact h'
  · rw [Array.getElem?_eq_none h'] at hc; cases hc

theorem DC_spos {w : World} : ∀ (t : Ty) {x : t.den} {cs : List Value} {bs : List Nat} {k : Nat} {v : Value}, DC w t x cs bs → cs[k]? = some v → spos t k = true → v.oneCell' = true := by
  intro t
  induction t with
  | slice e ih =>
    rintro xs cs bs k v ⟨v0, rfl, _, _, h⟩ hk hs
    simp only [spos] at hs
    have := Nat.eq_of_beq_eq_true hs
    subst this
    cases hk
    rcases h with ⟨rfl, _⟩ | ⟨b, cap, c, T, fz, bss, rfl, _⟩ <;> rfl
  | pair a b iha ihb =>
    rintro x cs bs k v ⟨b1, b2, _, h1, h2⟩ hk hs
    simp only [spos] at hs
    cases ho : Nat.blt k a.size with
    | true =>
      rw [ho] at hs
      rw [Nat.blt_eq] at ho
      exact iha h1 (by rw [List.getElem?_take, if_pos ho]; exact hk) hs
    | false =>
      rw [ho] at hs
      have hge : a.size ≤ k := by
        rcases Nat.lt_or_ge k a.size with h | h
        · rw [show Nat.blt k a.size = true by rw [Nat.blt_eq]; exact h] at ho; cases ho
        · exact h
      exact ihb h2 (by rw [List.getElem?_drop, show a.size + (k - a.size) = k by omega]; exact hk) hs
  | int k => intro x cs bs k v h hk hs; cases hs
  | float k => intro x cs bs k v h hk hs; cases hs
  | bool => intro x cs bs k v h hk hs; cases hs
  | str => intro x cs bs k v h hk hs; cases hs
  | unit => intro x cs bs k v h hk hs; cases hs

theorem dp_elem {g : List G} {M : Mem} {w : World} {ver iv ver' iv' sz id : Nat} {t : Ty} {xs : List t.den} {h : Value} {bs : List Nat} {ih : Nat → Value} (hg : g[id]? = some (.dp h ver' iv' sz bs ih)) (ho : ObOk g M w (.dp ver iv t xs) (.dp h ver' iv' sz bs ih))
    {b n cap : Nat} (hh : h = .slice (some ⟨b, 0, none⟩) n cap) :
    ∃ c T fz, ∃ bss : List (List Nat), w.heap[b]? = some (.cells c T fz) ∧ n = xs.length ∧ xs.length ≤ cap ∧ cap * t.size ≤ c.size ∧ ClearT t c.size fz ∧ bs = b :: bss.flatten ∧ bss.length = xs.length ∧
      (∀ i x bi, xs[i]? = some x → bss[i]? = some bi → DC w t x ((c.toList.drop (i * t.size)).take t.size) bi) ∧
      (∀ i x, xs[i]? = some x → ∀ k v, ((c.toList.drop (i * t.size)).take t.size)[k]? = some v → spos t k = true → v = ih (i * t.size + k)) ∧
      ∀ i x, xs[i]? = some x → VRs g M (encD (fun o => .inn id iv i o) t x 0) ((c.toList.drop (i * t.size)).take t.size) := by
  simp only [ObOk] at ho
  obtain ⟨⟨rfl, rfl, rfl⟩, hdc, hnd, hm, hih⟩ := ho
  obtain ⟨v, hv, hlen, hsz, ⟨e, _⟩ | ⟨b', cap', c, T, fz, bss, e, k1, k2, k3, k4, k5, k6, k7⟩⟩ := hdc
  · cases hv; rw [hh] at e; cases e
  · cases hv
    rw [hh] at e
    cases e
    have hihs : ∀ i x, xs[i]? = some x → ∀ k v, ((c.toList.drop (i * t.size)).take t.size)[k]? = some v → spos t k = true → v = ih (i * t.size + k) := by
      intro i x hx k v hk hs
      have hi : i < xs.length := (List.getElem?_eq_some_iff.1 hx).1
      rw [List.getElem?_take] at hk
      split at hk
      · rename_i hlt
        rw [List.getElem?_drop] at hk
        have := hih b _ cap c T fz hh k1 i k hi hlt hs
        rw [hk] at this
        cases this
        rfl
      · cases hk
    refine ⟨c, T, fz, bss, k1, rfl, k2, k3, k4, k5, k6, k7, hihs, fun i x hx => ?_⟩
    have hi : i < bss.length := by rw [k6]; exact (List.getElem?_eq_some_iff.1 hx).1
    have hd := k7 i x _ hx (List.getElem?_eq_getElem hi)
    refine encD_sound t 0 hd fun k v hk hs => ?_
    rw [Nat.zero_add]
    exact .inn id iv' iv' ver' i k t.size bs ih h v hg (Nat.le_refl _) (fun _ => hihs i x hx k v hk hs) (DC_spos t hd hk hs)

theorem nodup_flatten_set {bss : List (List Nat)} {i : Nat} {bi : List Nat} (h : bss.flatten.Nodup) (hb : bi.Nodup) (hd : ∀ b ∈ bi, b ∉ bss.flatten) : (bss.set i bi).flatten.Nodup := by
  rw [List.set_eq_take_append_cons_drop]
  split
  · rename_i hi
    have he : bss = bss.take i ++ bss[i] :: bss.drop (i + 1) := by rw [← List.drop_eq_getElem_cons hi, List.take_append_drop]
    have h1 : ∀ b, b ∈ (bss.take i).flatten → b ∈ bss.flatten := fun b hb => by
      rw [he]; simp only [List.flatten_append, List.mem_append]; exact .inl hb
    have h2 : ∀ b, b ∈ (bss.drop (i + 1)).flatten → b ∈ bss.flatten := fun b hb => by
      rw [he]; simp only [List.flatten_append, List.flatten_cons, List.mem_append]; exact .inr (.inr hb)
    rw [he] at h
    simp only [List.flatten_append, List.flatten_cons] at h ⊢
    rw [List.nodup_append, List.nodup_append] at h ⊢
    refine ⟨h.1, ⟨hb, h.2.1.2.1, ?_⟩, ?_⟩
    · rintro x hx _ hy rfl
      exact hd x hx (h2 x hy)
    · rintro x hx _ hy rfl
      rcases List.mem_append.1 hy with hy | hy
      · exact hd x hy (h1 x hx)
      · exact h.2.2 x hx x (List.mem_append.2 (.inr hy)) rfl
  · exact h
theorem mem_flatten_set {bss : List (List Nat)} {i : Nat} {bi : List Nat} {b : Nat} (h : b ∈ (bss.set i bi).flatten) : b ∈ bss.flatten ∨ b ∈ bi := by
  obtain ⟨l, hl, hb⟩ := List.mem_flatten.1 h
  rcases List.mem_or_eq_of_mem_set hl with hl | rfl
  · exact .inl (List.mem_flatten.2 ⟨l, hl, hb⟩)
  · exact .inr hb

def DCs (w : World) (t : Ty) (xs : List t.den) (cs : List Value) (bss : List (List Nat)) : Prop := bss.length = xs.length ∧ xs.length * t.size ≤ cs.length ∧ ∀ i x bi, xs[i]? = some x → bss[i]? = some bi → DC w t x ((cs.drop (i * t.size)).take t.size) bi
theorem DCs.take {w : World} {t : Ty} {xs : List t.den} {cs : List Value} {bss : List (List Nat)} (h : DCs w t xs cs bss) : DCs w t xs (cs.take (xs.length * t.size)) bss := by
  refine ⟨h.1, by rw [List.length_take]; have := h.2.1; omega, fun i x bi hx hb => ?_⟩
  have := h.2.2 i x bi hx hb
  have hi : i < xs.length := (List.getElem?_eq_some_iff.1 hx).1
  rw [List.drop_take, List.take_take, Nat.min_eq_left]
  · exact this
  · have := Nat.mul_le_mul_right t.size (show i + 1 ≤ xs.length by omega)
    rw [Nat.succ_mul] at this
    omega
theorem DCs.append {w : World} {t : Ty} {xs ys : List t.den} {cs ds : List Value} {bss bss' : List (List Nat)} (h : DCs w t xs cs bss) (hl : cs.length = xs.length * t.size) (h' : DCs w t ys ds bss') : DCs w t (xs ++ ys) (cs ++ ds) (bss ++ bss') := by
  refine ⟨by simp [h.1, h'.1], by rw [List.length_append, List.length_append, Nat.add_mul]; have := h'.2.1; omega, fun i x bi hx hb => ?_⟩
  by_cases hi : i < xs.length
  · rw [List.getElem?_append_left hi] at hx
    rw [List.getElem?_append_left (by rw [h.1]; exact hi)] at hb
    have := h.2.2 i x bi hx hb
    have hm := Nat.mul_le_mul_right t.size (show i + 1 ≤ xs.length by omega)
    rw [Nat.succ_mul] at hm
    rw [List.drop_append_of_le_length (by omega), List.take_append_of_le_length (by rw [List.length_drop]; omega)]
    exact this
  · rw [List.getElem?_append_right (by omega)] at hx
    rw [List.getElem?_append_right (by rw [h.1]; omega), h.1] at hb
    have := h'.2.2 _ x bi hx hb
    have hm := Nat.mul_le_mul_right t.size (show xs.length ≤ i by omega)
    rw [List.drop_append, List.drop_eq_nil_of_le (by omega), List.nil_append]
    rw [show i * t.size - cs.length = (i - xs.length) * t.size by rw [hl, Nat.sub_mul]]
    exact this
theorem DCs.more {w : World} {t : Ty} {xs : List t.den} {cs ds : List Value} {bss : List (List Nat)} (h : DCs w t xs cs bss) : DCs w t xs (cs ++ ds) bss := by
  refine ⟨h.1, by rw [List.length_append]; have := h.2.1; omega, fun i x bi hx hb => ?_⟩
  have := h.2.2 i x bi hx hb
  have hi : i < xs.length := (List.getElem?_eq_some_iff.1 hx).1
  have hm := Nat.mul_le_mul_right t.size (show i + 1 ≤ xs.length by omega)
  rw [Nat.succ_mul] at hm
  have := h.2.1
  rw [List.drop_append_of_le_length (by omega), List.take_append_of_le_length (by rw [List.length_drop]; omega)]
  assumption
theorem DCs.frame {w w' : World} {t : Ty} {xs : List t.den} {cs : List Value} {bss : List (List Nat)} (h : DCs w t xs cs bss) (hf : ∀ b ∈ bss.flatten, w'.heap[b]? = w.heap[b]?) : DCs w' t xs cs bss :=
  ⟨h.1, h.2.1, fun i x bi hx hb => DC_frame t (fun b hm => hf b (List.mem_flatten.2 ⟨bi, List.mem_of_getElem? hb, hm⟩)) (h.2.2 i x bi hx hb)⟩
theorem DC_one {w : World} : ∀ (t : Ty) {x : t.den} {cs : List Value} {bs : List Nat}, DC w t x cs bs → ∀ c ∈ cs, c.oneCell' = true := by
  have enc1 : ∀ (t : Ty) (x : t.den) {cs : List Value}, (∀ k, t ≠ .slice k) → (∀ a b, t ≠ .pair a b) → VRs [] noM (enc t x) cs → ∀ c ∈ cs, c.oneCell' = true := by
    intro t x cs h1 h2 hv c hc
    cases t with
    | slice k => exact absurd rfl (h1 k)
    | pair a b => exact absurd rfl (h2 a b)
    | int k => cases hv with | cons a b => cases b; cases a; simp at hc; subst hc; rfl
    | float k => cases hv with | cons a b => cases b; cases a; simp at hc; subst hc; rfl
    | bool => cases hv with | cons a b => cases b; cases a; simp at hc; subst hc; rfl
    | str => cases hv with | cons a b => cases b; cases a; simp at hc; subst hc; rfl
    | unit => cases hv; cases hc
  intro t
  induction t with
  | slice e ih =>
    rintro xs cs bs ⟨v, rfl, _, _, h⟩ c hc
    simp at hc
    subst hc
    rcases h with ⟨rfl, _⟩ | ⟨b, cap, c, T, fz, bss, rfl, _⟩ <;> rfl
  | pair a b iha ihb =>
    rintro x cs bs ⟨b1, b2, _, h1, h2⟩ c hc
    rw [← List.take_append_drop a.size cs] at hc
    rcases List.mem_append.1 hc with hc | hc
    · exact iha h1 c hc
    · exact ihb h2 c hc
  | int k => rintro x cs bs ⟨_, h⟩; exact enc1 (.int k) x (by simp) (by simp) h
  | float k => rintro x cs bs ⟨_, h⟩; exact enc1 (.float k) x (by simp) (by simp) h
  | bool => rintro x cs bs ⟨_, h⟩; exact enc1 .bool x (by simp) (by simp) h
  | str => rintro x cs bs ⟨_, h⟩; exact enc1 .str x (by simp) (by simp) h
  | unit => rintro x cs bs ⟨_, h⟩; exact enc1 .unit x (by simp) (by simp) h
theorem DCs.one {w : World} {t : Ty} {xs : List t.den} {cs : List Value} {bss : List (List Nat)} (h : DCs w t xs cs bss) (hp : 0 < t.size) (hl : cs.length = xs.length * t.size) : ∀ c ∈ cs, c.oneCell' = true := by
  intro c hc
  obtain ⟨j, hj⟩ := List.mem_iff_getElem?.1 hc
  have hjl := (List.getElem?_eq_some_iff.1 hj).1
  have hi : j / t.size < xs.length := by rw [Nat.div_lt_iff_lt_mul hp]; omega
  have h1 := h.2.2 (j / t.size) _ _ (List.getElem?_eq_getElem hi) (List.getElem?_eq_getElem (by rw [h.1]; exact hi))
  refine DC_one t h1 c ?_
  refine List.mem_iff_getElem?.2 ⟨j % t.size, ?_⟩
  rw [List.getElem?_take, if_pos (Nat.mod_lt _ hp), List.getElem?_drop]
  have : j / t.size * t.size + j % t.size = j := by rw [Nat.mul_comm]; exact Nat.div_add_mod j t.size
  rw [this]; exact hj

theorem dp_mk {g : List G} {M : Mem} {w : World} {ver iv : Nat} {t : Ty} {xs : List t.den} {b cap : Nat} {c : Array Value} {T : TypeId} {fz : Nat × Nat} {bss : List (List Nat)} (h1 : w.heap[b]? = some (.cells c T fz)) (h2 : DCs w t xs c.toList bss) (h3 : xs.length ≤ cap) (h4 : cap * t.size ≤ c.size)
    (h5 : ClearT t c.size fz) (h6 : 0 < t.size) (h7 : xs.length ≤ 9223372036854775807) (h8 : bss.flatten.Nodup) (h9 : b ∉ bss.flatten) (h10 : M b = none) (h11 : ∀ b' ∈ bss.flatten, M b' = none) :
    ObOk g M w (.dp ver iv t xs) (.dp (.slice (some ⟨b, 0, none⟩) xs.length cap) ver iv t.size (b :: bss.flatten) (fun k => (c.toList[k]?).getD Go.undef)) := by
  simp only [ObOk]
  refine ⟨⟨trivial, trivial, trivial⟩, ⟨_, rfl, h7, h6, .inr ⟨b, cap, c, T, fz, bss, rfl, h1, h3, h4, h5, rfl, h2.1, h2.2.2⟩⟩, List.nodup_cons.2 ⟨h9, h8⟩, ?_, ?_⟩
  · intro b' hb'
    rcases List.mem_cons.1 hb' with rfl | hb'
    · exact h10
    · exact h11 b' hb'
  · intro b' n' cap' c' T' fz' e' hc' i o' hi ho' hs'
    cases e'
    rw [h1] at hc'
    cases hc'
    have hlt : i * t.size + o' < c.toList.length := by
      have : (i + 1) * t.size ≤ cap * t.size := Nat.mul_le_mul_right _ (by omega)
      rw [Nat.succ_mul] at this
      simp
      omega
    rw [List.getElem?_eq_getElem hlt]
    rfl
end Go.Ev

/- Each operation of the model does what the evaluator says of it. -/
set_option linter.unusedVariables false
set_option linter.unusedSimpArgs false
namespace Go.Ev

structure Facts (P : Program) (t : TypeId) (i : TI) : Prop where
  under : P.underlying t = some i.desc
  info : ∃ x, P.info? t = some x ∧ x.size = i.size ∧ x.bytes = i.bytes ∧ x.zero = some i.zero
  eqok : i.eqok = true → P.eqGuardType P.depth t = false ∧ P.stoodInHeld t = false

def LOk (P : Program) (C : Ctx) : Prop := ∀ t, (C.ti t).desc ≠ .invalid ∨ (C.ti t).size ≠ 0 → Facts P t (C.ti t)

theorem LOk.get {P : Program} {C : Ctx} (L : LOk P C) {t : TypeId} (h : (C.ti t).desc ≠ .invalid ∨ (C.ti t).size ≠ 0) : Facts P t (C.ti t) := L t h

def tiOf (P : Program) (ty : TypeId → Ty) (t : TypeId) : TI :=
  match P.info? t with
  | some x => match P.underlying t with
    | some d => match x.zero with
      | some z => ⟨d, x.size, x.bytes, z, ty t, !P.eqGuardType P.depth t && !P.stoodInHeld t⟩
      | none => default
    | none => default
  | none => default

theorem lok_tiOf (P : Program) (ty : TypeId → Ty) (C : Ctx) (h : C.ti = tiOf P ty) : LOk P C := by
  intro t ht
  rw [h] at ht ⊢
  unfold tiOf at ht ⊢
  cases hi : P.info? t with
  | none => simp only [hi] at ht; rcases ht with k | k <;> exact absurd rfl k
  | some x =>
    simp only [hi] at ht ⊢
    cases hu : P.underlying t with
    | none => simp only [hu] at ht; rcases ht with k | k <;> exact absurd rfl k
    | some d =>
      simp only [hu] at ht ⊢
      cases hz : x.zero with
      | none => simp only [hz] at ht; rcases ht with k | k <;> exact absurd rfl k
      | some z =>
        simp only
        exact ⟨hu, ⟨x, hi, rfl, rfl, hz⟩, fun h => by simpa using h⟩

section
variable {P : Program} {C : Ctx} {t : TypeId} {i : TI}
theorem Facts.run_underlying (F : Facts P t i) (w : World) : (underlying t).run P w = .ok i.desc w := Go.run_underlying F.under w
theorem Facts.run_sizeOf (F : Facts P t i) (w : World) : (sizeOf t).run P w = .ok i.size w := by
  obtain ⟨x, hx, h, _⟩ := F.info
  simp [sizeOf, typeInfo, hx, h]
theorem Facts.run_zeroValue (F : Facts P t i) (w : World) : (zeroValue t).run P w = .ok i.zero w := by
  obtain ⟨x, hx, _, _, h⟩ := F.info
  simp [zeroValue, typeInfo, hx, h]
theorem Facts.run_isAgg (F : Facts P t i) (w : World) : (isAgg t).run P w = .ok i.agg w := by
  simp only [isAgg, Sem.run_bind, F.run_underlying, Result.andThen_ok, TI.agg]
  cases i.desc <;> rfl
end

theorem VR_ofVal1 (g : List G) (M : Mem) (v : Value) : VR g M (ofVal1 v) v := by
  unfold ofVal1
  split <;> try constructor
  · rename_i k n
    cases h : (decide (k.min ≤ n) && decide (n ≤ k.max))
    · exact .undef _
    · exact .int k n (by simpa using h)
  · rename_i k b
    cases h : Nat.blt b (2 * signOf k)
    · exact .undef _
    · exact .float k _ _ (by rw [Nat.blt_eq] at h; exact h) rfl
  · rename_i s
    cases h : Nat.ble s.data.toList.length 9223372036854775807
    · exact .undef _
    · exact .str s _ rfl (Nat.le_of_ble_eq_true h)
  · rename_i h
    simp
    exact .nil
theorem VRs_ofVal1 (g : List G) (M : Mem) : ∀ (cs : List Value), VRs g M (cs.map ofVal1) cs
  | [] => .nil
  | c :: cs => .cons (VR_ofVal1 g M c) (VRs_ofVal1 g M cs)
theorem VR_ofVal (g : List G) (M : Mem) (v : Value) : VR g M (ofVal v) v := by
  unfold ofVal
  split
  · exact .agg _ _ (VRs_ofVal1 g M _)
  · exact VR_ofVal1 g M _

def putRow (w : World) (b : Nat) (c : Array Value) (T : TypeId) (fz : Nat × Nat) : World := { w with heap := w.heap.setIfInBounds b (.cells c T fz) }

theorem putRow_self {w : World} {b : Nat} {c : Array Value} {T : TypeId} {fz : Nat × Nat} (h : w.heap[b]? = some (.cells c T fz)) : putRow w b c T fz = w := by
  have hb : b < w.heap.size := by
    rcases Nat.lt_or_ge b w.heap.size with h' | h'
    · exact h'
    · simp [Array.getElem?_eq_none h'] at h
  have : w.heap.setIfInBounds b (.cells c T fz) = w.heap := by
    apply Array.ext_getElem?
    intro i
    by_cases hi : b = i
    · subst hi; rw [Array.getElem?_setIfInBounds, if_pos rfl, if_pos hb, h]
    · rw [Array.getElem?_setIfInBounds, if_neg hi]
  unfold putRow
  rw [this]
theorem putRow_get {w : World} {b : Nat} {c : Array Value} {T : TypeId} {fz : Nat × Nat} (hb : b < w.heap.size) : (putRow w b c T fz).heap[b]? = some (.cells c T fz) := by
  simp [putRow, Array.getElem?_setIfInBounds, hb]
theorem putRow_other {w : World} {b b' : Nat} {c : Array Value} {T : TypeId} {fz : Nat × Nat} (h : b ≠ b') : (putRow w b c T fz).heap[b']? = w.heap[b']? := by
  simp [putRow, Array.getElem?_setIfInBounds, h]
theorem putRow_size {w : World} {b : Nat} {c : Array Value} {T : TypeId} {fz : Nat × Nat} : (putRow w b c T fz).heap.size = w.heap.size := by simp [putRow]
theorem putRow_twice {w : World} {b : Nat} {c c' : Array Value} {T : TypeId} {fz : Nat × Nat} : putRow (putRow w b c T fz) b c' T fz = putRow w b c' T fz := by
  simp [putRow]

theorem lt_of_cells {w : World} {b : Nat} {o : Obj} (h : w.heap[b]? = some o) : b < w.heap.size := by
  rcases Nat.lt_or_ge b w.heap.size with h' | h'
  · exact h'
  · simp [Array.getElem?_eq_none h'] at h

theorem cell?_row {w : World} {b : Nat} {c : Array Value} {T : TypeId} {fz : Nat × Nat} (h : w.heap[b]? = some (.cells c T fz)) (i : Nat) : w.cell? ⟨b, i, none⟩ = c[i]? := by
  simp [World.cell?, h]
theorem frozen?_row {w : World} {b : Nat} {c : Array Value} {T : TypeId} {fz : Nat × Nat} (h : w.heap[b]? = some (.cells c T fz)) (hz : Clear c.size fz) {i : Nat} (hi : i < c.size) : w.frozen? ⟨b, i, none⟩ = false := by
  have := hz i hi
  simp [World.frozen?, h]
  intro h1
  exact Nat.le_of_not_lt fun h2 => this ⟨h1, h2⟩
theorem setCell_row {w : World} {b : Nat} {c : Array Value} {T : TypeId} {fz : Nat × Nat} (h : w.heap[b]? = some (.cells c T fz)) (i : Nat) (v : Value) : w.setCell ⟨b, i, none⟩ v = putRow w b (c.setIfInBounds i v) T fz := by
  have hb := lt_of_cells h
  have : w.heap.modify b (fun | .cells c elem frozen => .cells (c.setIfInBounds i v) elem frozen | o => o) = w.heap.setIfInBounds b (.cells (c.setIfInBounds i v) T fz) := by
    apply Array.ext_getElem?
    intro j
    by_cases hj : b = j
    · subst hj; rw [Array.getElem?_modify, Array.getElem?_setIfInBounds, if_pos rfl, if_pos rfl, if_pos hb, h]; rfl
    · rw [Array.getElem?_modify, Array.getElem?_setIfInBounds, if_neg hj, if_neg hj]
  unfold World.setCell putRow
  simp only [Option.isSome_none, Bool.false_eq_true, if_false]
  congr 1

theorem run_storeCells_clear (P : Program) (b o : Nat) (T : TypeId) (fz : Nat × Nat) : ∀ (ds : List Value) (i : Nat) (c : Array Value) (w : World), w.heap[b]? = some (.cells c T fz) →
    o + i + ds.length ≤ c.size → Clear c.size fz → (∀ v ∈ ds, v.oneCell' = true) →
    (storeCells ⟨b, o, none⟩ ds i).run P w = .ok () (putRow w b (setAtC c.toList (o + i) ds).toArray T fz)
  | [], i, c, w, h, _, _, _ => by simp [storeCells, setAtC, putRow_self h]
  | v :: ds, i, c, w, h, hl, hz, h1 => by
    simp at hl
    have hi : o + i < c.size := by omega
    have hc : w.cell? ⟨b, o + i, none⟩ = some c[o + i] := by rw [cell?_row h]; simp [hi]
    have hf := frozen?_row h hz hi
    have h1v := h1 v (by simp)
    have ih := run_storeCells_clear P b o T fz ds (i + 1) (c.setIfInBounds (o + i) v) (putRow w b (c.setIfInBounds (o + i) v) T fz) (putRow_get (lt_of_cells h)) (by simp; omega)
      (by simpa using hz) (fun u hu => h1 u (by simp [hu]))
    simp only [storeCells, Sem.run_bind, Addr.add_lit, run_store P w _ v _ h1v, hc, hf, Bool.false_eq_true, if_false, Result.andThen_ok, setCell_row h, ih, putRow_twice]
    congr 2
    simp [setAtC, Nat.add_assoc]

theorem run_loadCells_row (P : Program) {w : World} {b : Nat} {c : Array Value} {T : TypeId} {fz : Nat × Nat} (h : w.heap[b]? = some (.cells c T fz)) (o n : Nat) (hl : o + n ≤ c.size) :
    (loadCells ⟨b, o, none⟩ n).run P w = .ok ((c.toList.drop o).take n).toArray w := by
  have := run_loadCells_list (P := P) w ⟨b, o, none⟩ ((c.toList.drop o).take n) (by
    intro j v hj
    rw [Addr.add_lit, cell?_row h]
    rw [List.getElem?_take] at hj
    split at hj
    · rw [List.getElem?_drop] at hj
      simpa using hj
    · simp at hj)
  rwa [show ((c.toList.drop o).take n).length = n by simp; omega] at this

theorem run_loadVar_cells {P : Program} {t : TypeId} {i : TI} (F : Facts P t i) {w : World} {b : Nat} {c : Array Value} {T : TypeId} {fz : Nat × Nat} (h : w.heap[b]? = some (.cells c T fz)) (o : Nat)
    {g : List G} {M : Mem} {vs : List V} (hv : VRs g M vs ((c.toList.drop o).take vs.length)) {K : V → Prop} (hk : readV i vs K) :
    ∃ v val, K v ∧ VR g M v val ∧ (loadVar t ⟨b, o, none⟩).run P w = .ok val w := by
  have hlen := hv.length
  simp at hlen
  unfold readV at hk
  cases ha : i.agg with
  | true =>
    simp only [ha, cond_true] at hk
    cases hs : Nat.ble i.size vs.length with
    | false => simp [hs] at hk
    | true =>
      simp only [hs, cond_true] at hk
      have hs' : i.size ≤ vs.length := Nat.le_of_ble_eq_true hs
      refine ⟨_, .agg ((c.toList.drop o).take i.size).toArray, hk, .agg _ _ ?_, ?_⟩
      · have := hv.take i.size
        rw [List.take_take, Nat.min_eq_left hs'] at this
        simpa using this
      · by_cases hz : i.size = 0
        · simp [loadVar, F.run_isAgg, ha, F.run_sizeOf, hz, loadCells, loadCellsFrom]
        · simp [loadVar, F.run_isAgg, ha, F.run_sizeOf, run_loadCells_row P h o i.size (by omega)]
  | false =>
    simp only [ha, cond_false] at hk
    cases hz : Nat.beq i.size 0 with
    | true => simp [hz] at hk
    | false =>
      simp only [hz, cond_false] at hk
      cases vs with
      | nil => simp at hk
      | cons v vs =>
        obtain ⟨x, hx, hr⟩ := hv.get (i := 0) (v := v) (by simp)
        rw [List.getElem?_take] at hx
        simp at hx
        refine ⟨v, x, hk, hr, ?_⟩
        simp [loadVar, F.run_isAgg, ha, cell?_row h, hx]

theorem clear_zero (n : Nat) : Clear n (0, 0) := fun i _ h => by omega

theorem ownsRowF_heap {w w' : World} {e : TypeId} {size : Nat} {v : Value} {n : Nat} {xs : List Value} (h : w.ownsRowF 0 e size v n xs) (hb : ∀ k, v.ownBlock = some k → w'.heap[k]? = w.heap[k]?) : w'.ownsRowF 0 e size v n xs := by
  refine ⟨h.1, h.2.imp (fun e => e) ?_⟩
  rintro ⟨g, cap, cur, fz, rfl, k1, k2, k3⟩
  exact ⟨g, cap, cur, fz, rfl, k1, (hb g rfl).trans k2, k3⟩

theorem ObOk.mono {g g' : List G} {M : Mem} {w w' : World} {o : Ob} {x : G} (E : Ext g M g' M) (hb : ∀ b, ownB o x b → w'.heap[b]? = w.heap[b]?) (h : ObOk g M w o x) : ObOk g' M w' o x := by
  cases o <;> cases x <;> simp only [ObOk] at h ⊢ <;> try exact h
  · obtain ⟨c, T, fz, h1, h2, h3, h4⟩ := h
    exact ⟨c, T, fz, (hb _ rfl).trans h1, h2.mono E, h3, h4⟩
  · obtain ⟨h1, h2, h3, h4⟩ := h
    refine ⟨h1, h2, h3, h4.imp id ?_⟩
    rintro ⟨b, cap, c, T, fz, rfl, k2, k3, k4, k5, k6, k7⟩
    exact ⟨b, cap, c, T, fz, rfl, (hb b rfl).trans k2, k3, k4, fun i x hx => (k5 i x hx).mono E, k6, k7⟩
  · exact ⟨h.1, h.2.1, h.2.2.mono E⟩
  · obtain ⟨p, v, h1, h2, h3, rfl, h5, h6, h7⟩ := h
    refine ⟨p, v, (hb _ (.inl rfl)).trans h1, h2, ownsRowF_heap h3 (fun k hk => hb k (.inr hk)), rfl, h5, h6, h7⟩
  · exact dp_frame (g := g) (g' := g') (M := M) (M' := M) h fun b hm => ⟨hb b hm, h.2.2.2.1 b hm⟩

theorem own_lt {g : List G} {M : Mem} {w : World} {o : Ob} {x : G} (h : ObOk g M w o x) {b : Nat} (hb : ownB o x b) : b < w.heap.size ∧ M b = none := by
  cases o <;> cases x <;> simp only [ObOk] at h <;> simp only [ownB] at hb <;> try (cases hb; done)
  · cases hb
    obtain ⟨c, T, fz, h1, h2, h3, h4⟩ := h
    exact ⟨lt_of_cells h1, h4⟩
  · obtain ⟨h1, h2, h3, h4⟩ := h
    rcases h4 with ⟨rfl, rfl⟩ | ⟨b', cap, c, T, fz, rfl, k2, k3, k4, k5, k6, k7⟩
    · simp at hb
    · simp at hb; subst hb; exact ⟨lt_of_cells k2, k7⟩
  · obtain ⟨p, v, h1, h2, h3, rfl, h5, h6, h7⟩ := h
    rcases hb with rfl | hb
    · exact ⟨lt_of_cells h1, h6⟩
    · exact ⟨(h3.lt _ hb).2, h7.1 _ hb⟩
  · exact dp_lt (g := g) h hb

theorem HR.own_lt {H : Heap} {g : List G} {M : Mem} {w : World} (h : HR H g M w) {b : Nat} (hb : Own H g b) : b < w.heap.size ∧ M b = none := by
  obtain ⟨id, o, x, h1, h2, h3⟩ := hb
  exact Ev.own_lt (h.ob id o x h1 h2) h3

theorem HR.same {H : Heap} {g : List G} {M : Mem} {w w' : World} (hw : w'.heap = w.heap) (h : HR H g M w) : HR H g M w' :=
  ⟨h.len, fun id o x h1 h2 => (h.ob id o x h1 h2).mono (Ext.refl g M) (fun b _ => by rw [hw]), h.apart, fun b cs hb => by rw [hw]; exact h.mem b cs hb⟩

theorem Base.same {w0 : World} {M0 : Mem} {own0 : Z} {H : Heap} {g : List G} {M : Mem} {w w' : World} (hw : w'.heap = w.heap) (ho : w'.os = w.os) (ht : w'.tape = w.tape) (hp : w'.output = w.output)
    (h : Base w0 M0 own0 H g M w) : Base w0 M0 own0 H g M w' :=
  ⟨by rw [hw]; exact h.size, fun b h1 h2 => by rw [hw]; exact h.keep b h1 h2, h.own, h.mle, h.mnew, ho.trans h.os, ht.trans h.tape, hp.trans h.output, h.gbox⟩

theorem getElem?_snoc {α : Type} (l : List α) (a : α) (i : Nat) : (l ++ [a])[i]? = if i < l.length then l[i]? else if i = l.length then some a else none := by
  by_cases h : i < l.length
  · simp [h, List.getElem?_append_left h]
  · rw [List.getElem?_append_right (by omega)]
    by_cases h' : i = l.length
    · simp [h, h']
    · have : i - l.length ≠ 0 := by omega
      cases hk : i - l.length with
      | zero => omega
      | succ k => simp [h, h']

theorem Ext.snoc (g : List G) (M : Mem) (x : G) : Ext g M (g ++ [x]) M :=
  ⟨fun id y h => ⟨y, by rw [List.getElem?_append_left (by
      rcases Nat.lt_or_ge id g.length with h' | h'
      · exact h'
      · simp [List.getElem?_eq_none h'] at h)]; exact h, Gle.refl y⟩, fun _ _ h => h⟩

theorem HR.push {H : Heap} {g : List G} {M : Mem} {w : World} (h : HR H g M w) {o : Ob} {x : G} {c : Array Value} {T : TypeId} {fz : Nat × Nat}
    (hob : ObOk (g ++ [x]) M (w.alloc (.cells c T fz)) o x) (hown : ∀ b, ownB o x b → b = w.heap.size) : HR (H ++ [o]) (g ++ [x]) M (w.alloc (.cells c T fz)) := by
  have hlen := h.len
  have hnew : ∀ b, b < w.heap.size → (w.alloc (.cells c T fz)).heap[b]? = w.heap[b]? := by
    intro b hb
    show (w.heap.push _)[b]? = _
    rw [Array.getElem?_push, if_neg (Nat.ne_of_lt hb)]
  refine ⟨by simp [hlen], ?_, ?_, ?_⟩
  · intro id o' x' h1 h2
    rw [getElem?_snoc] at h1 h2
    rw [← hlen] at h2
    split at h1
    · rename_i hid
      rw [if_pos hid] at h2
      exact (h.ob id o' x' h1 h2).mono (Ext.snoc g M x) fun b hb => hnew b (Ev.own_lt (h.ob id o' x' h1 h2) hb).1
    · rename_i hid
      rw [if_neg hid] at h2
      split at h1
      · rename_i he
        rw [if_pos he] at h2
        cases h1; cases h2
        exact hob
      · cases h1
  · intro id id' o1 o2 x1 x2 b a1 a2 b1 b2 c1 c2
    rw [getElem?_snoc] at a1 a2 b1 b2
    rw [← hlen] at a2 b2
    by_cases p : id < H.length <;> by_cases q : id' < H.length
    · rw [if_pos p] at a1 a2; rw [if_pos q] at b1 b2
      exact h.apart id id' o1 o2 x1 x2 b a1 a2 b1 b2 c1 c2
    · rw [if_pos p] at a1 a2; rw [if_neg q] at b1 b2
      split at b1
      · rename_i he; rw [if_pos he] at b2; cases b1; cases b2
        have := (Ev.own_lt (h.ob id o1 x1 a1 a2) c1).1
        have := hown b c2
        omega
      · cases b1
    · rw [if_neg p] at a1 a2; rw [if_pos q] at b1 b2
      split at a1
      · rename_i he; rw [if_pos he] at a2; cases a1; cases a2
        have := (Ev.own_lt (h.ob id' o2 x2 b1 b2) c2).1
        have := hown b c1
        omega
      · cases a1
    · rw [if_neg p] at a1; rw [if_neg q] at b1
      split at a1
      · split at b1
        · omega
        · cases b1
      · cases a1
  · intro b cs hb
    obtain ⟨c', T', fz', h1, h2⟩ := h.mem b cs hb
    exact ⟨c', T', fz', (hnew b (lt_of_cells h1)).trans h1, h2⟩

theorem own_snoc {H : Heap} {g : List G} (hlen : H.length = g.length) {o : Ob} {x : G} {b : Nat} (h : Own (H ++ [o]) (g ++ [x]) b) : Own H g b ∨ ownB o x b := by
  obtain ⟨id, o', x', h1, h2, h3⟩ := h
  rw [getElem?_snoc] at h1 h2
  rw [← hlen] at h2
  split at h1
  · rename_i hid; rw [if_pos hid] at h2; exact .inl ⟨id, o', x', h1, h2, h3⟩
  · rename_i hid; rw [if_neg hid] at h2
    split at h1
    · rename_i he; rw [if_pos he] at h2; cases h1; cases h2; exact .inr h3
    · cases h1

theorem Base.push {w0 : World} {M0 : Mem} {own0 : Z} {H : Heap} {g : List G} {M : Mem} {w : World} (h : Base w0 M0 own0 H g M w) (hlen : H.length = g.length) {o : Ob} {x : G} {c : Array Value} {T : TypeId} {fz : Nat × Nat}
    (hown : ∀ b, ownB o x b → b = w.heap.size) : Base w0 M0 own0 (H ++ [o]) (g ++ [x]) M (w.alloc (.cells c T fz)) := by
  have hs := h.size
  refine ⟨by simp; omega, ?_, ?_, h.mle, h.mnew, h.os, h.tape, h.output, fun id b hb => by
    have := h.gbox id b hb
    rw [List.getElem?_append_left (by
      rcases Nat.lt_or_ge id g.length with h' | h'
      · exact h'
      · simp [List.getElem?_eq_none h'] at this)]
    exact this⟩
  · intro b hb hn
    rw [show (w.alloc (.cells c T fz)).heap[b]? = w.heap[b]? by show (w.heap.push _)[b]? = _; rw [Array.getElem?_push, if_neg (by omega)]]
    exact h.keep b hb hn
  · intro b hb
    rcases own_snoc hlen hb with h1 | h1
    · exact h.own b h1
    · right; have := hown b h1; omega

theorem HR.write {H : Heap} {g : List G} {M : Mem} {w : World} (h : HR H g M w) {id : Nat} {o o' : Ob} {x : G} {b : Nat} {c : Array Value} {T : TypeId} {fz : Nat × Nat}
    (ho : H[id]? = some o) (hx : g[id]? = some x) (hb : ownB o x b) (hb' : ∀ b', ownB o' x b' → ownB o x b') (hob : ObOk g M (putRow w b c T fz) o' x) : HR (H.set id o') g M (putRow w b c T fz) := by
  have hid : id < H.length := by
    rcases Nat.lt_or_ge id H.length with h' | h'
    · exact h'
    · simp [List.getElem?_eq_none h'] at ho
  have key : ∀ (j : Nat) (y : Ob) (z : G), (H.set id o')[j]? = some y → g[j]? = some z → (j = id ∧ y = o' ∧ z = x) ∨ (j ≠ id ∧ H[j]? = some y) := by
    intro j y z h1 h2
    by_cases e : id = j
    · subst e
      simp [List.getElem?_set, hid] at h1
      rw [hx] at h2; cases h2
      exact .inl ⟨rfl, h1.symm, rfl⟩
    · simp [List.getElem?_set, e] at h1
      exact .inr ⟨fun e' => e e'.symm, h1⟩
  refine ⟨by simp [h.len], ?_, ?_, ?_⟩
  · intro j y z h1 h2
    rcases key j y z h1 h2 with ⟨rfl, rfl, rfl⟩ | ⟨hne, h3⟩
    · exact hob
    · refine (h.ob j y z h3 h2).mono (Ext.refl g M) fun b'' hb'' => putRow_other fun e => ?_
      subst e
      exact hne (h.apart j id y o z x b h3 h2 ho hx hb'' hb)
  · intro j j' y y' z z' bb a1 a2 b1 b2 c1 c2
    rcases key j y z a1 a2 with ⟨rfl, rfl, rfl⟩ | ⟨hne, a3⟩ <;> rcases key j' y' z' b1 b2 with ⟨rfl, rfl, rfl⟩ | ⟨hne', b3⟩
    · rfl
    · exact h.apart _ _ _ _ _ _ bb ho hx b3 b2 (hb' _ c1) c2
    · exact h.apart _ _ _ _ _ _ bb a3 a2 ho hx c1 (hb' _ c2)
    · exact h.apart _ _ _ _ _ _ bb a3 a2 b3 b2 c1 c2
  · intro b'' cs hm
    obtain ⟨c', T', fz', h1, h2⟩ := h.mem b'' cs hm
    refine ⟨c', T', fz', (putRow_other fun e => ?_).trans h1, h2⟩
    subst e
    rw [(Ev.own_lt (h.ob id o x ho hx) hb).2] at hm
    cases hm

theorem own_set {H : Heap} {g : List G} {id : Nat} {o o' : Ob} {x : G} {b b' : Nat} (ho : H[id]? = some o) (hx : g[id]? = some x) (hb : ownB o x b) (hb' : ∀ b', ownB o' x b' → ownB o x b')
    (h : Own (H.set id o') g b') : Own H g b' := by
  obtain ⟨j, y, z, h1, h2, h3⟩ := h
  by_cases e : id = j
  · subst e
    rw [List.getElem?_set] at h1
    simp only [↓reduceIte] at h1
    split at h1
    · cases h1
      rw [hx] at h2; cases h2
      exact ⟨id, o, x, ho, hx, hb' _ h3⟩
    · cases h1
  · simp [List.getElem?_set, e] at h1
    exact ⟨j, y, z, h1, h2, h3⟩

theorem Base.write {w0 : World} {M0 : Mem} {own0 : Z} {H : Heap} {g : List G} {M : Mem} {w : World} (h : Base w0 M0 own0 H g M w) {id : Nat} {o o' : Ob} {x : G} {b : Nat} {c : Array Value} {T : TypeId} {fz : Nat × Nat}
    (ho : H[id]? = some o) (hx : g[id]? = some x) (hb : ownB o x b) (hb' : ∀ b', ownB o' x b' → ownB o x b') : Base w0 M0 own0 (H.set id o') g M (putRow w b c T fz) := by
  refine ⟨by rw [putRow_size]; exact h.size, ?_, ?_, h.mle, h.mnew, h.os, h.tape, h.output, h.gbox⟩
  · intro b'' h1 h2
    rw [putRow_other]
    · exact h.keep b'' h1 h2
    · intro e
      subst e
      rcases h.own b ⟨id, o, x, ho, hx, hb⟩ with k | k
      · exact h2 k
      · omega
  · intro b'' h1
    exact h.own b'' (own_set ho hx hb hb' h1)


theorem regroup {H H' : Heap} {g g' : List G} {M : Mem} {w w' : World} {w0 : World} {M0 : Mem} {own0 : Z} (hr : HR H g M w) (hb : Base w0 M0 own0 H g M w) (S : Nat → Prop) (E : Ext g M g' M) (hgx : ∀ (id : Nat) (x : G), own0.gx id x → g'[id]? = some x)
    (hkeep : ∀ b, b < w.heap.size → ¬ (∃ (id : Nat) (o : Ob) (x : G), S id ∧ H[id]? = some o ∧ g[id]? = some x ∧ ownB o x b) → w'.heap[b]? = w.heap[b]?)
    (hsz : w.heap.size ≤ w'.heap.size) (hos : w'.os = w.os) (htp : w'.tape = w.tape) (hout : w'.output = w.output) (hlen : H'.length = g'.length)
    (keys : ∀ (id : Nat) (o : Ob) (x : G), H'[id]? = some o → g'[id]? = some x → (¬ S id ∧ H[id]? = some o ∧ g[id]? = some x) ∨
      (ObOk g' M w' o x ∧ (∀ b, ownB o x b → (∃ (id : Nat) (o : Ob) (x : G), S id ∧ H[id]? = some o ∧ g[id]? = some x ∧ ownB o x b) ∨ w.heap.size ≤ b) ∧
        ∀ (id' : Nat) (o' : Ob) (x' : G) (b : Nat), H'[id']? = some o' → g'[id']? = some x' → ownB o x b → ownB o' x' b → id = id' ∨ (¬ S id' ∧ H[id']? = some o' ∧ g[id']? = some x'))) :
    HR H' g' M w' ∧ Base w0 M0 own0 H' g' M w' := by
  have hs := hb.size
  have hold : ∀ (id : Nat) (o : Ob) (x : G) (b : Nat), ¬ S id → H[id]? = some o → g[id]? = some x → ownB o x b → b < w.heap.size ∧ w'.heap[b]? = w.heap[b]? ∧
      ¬ (∃ (id : Nat) (o : Ob) (x : G), S id ∧ H[id]? = some o ∧ g[id]? = some x ∧ ownB o x b) := by
    intro id o x b hL p1 p2 p3
    have hlt := Ev.own_lt (hr.ob id o x p1 p2) p3
    have hno : ¬ (∃ (id : Nat) (o : Ob) (x : G), S id ∧ H[id]? = some o ∧ g[id]? = some x ∧ ownB o x b) := by
      rintro ⟨id', o', x', q0, q1, q2, q3⟩
      have := hr.apart id id' o o' x x' b p1 p2 q1 q2 p3 q3
      subst this
      exact hL q0
    exact ⟨hlt.1, hkeep b hlt.1 hno, hno⟩
  refine ⟨⟨hlen, ?_, ?_, ?_⟩, ⟨by omega, ?_, ?_, hb.mle, hb.mnew, hos.trans hb.os, htp.trans hb.tape, hout.trans hb.output, hgx⟩⟩
  · intro id o x h1 h2
    rcases keys id o x h1 h2 with ⟨hL, q1, q2⟩ | ⟨q1, _, _⟩
    · exact (hr.ob id o x q1 q2).mono E fun b hb => (hold id o x b hL q1 q2 hb).2.1
    · exact q1
  · intro id id' o o' x x' b h1 h2 h3 h4 h5 h6
    rcases keys id o x h1 h2 with ⟨hL, q1, q2⟩ | ⟨_, q2, q3⟩
    · rcases keys id' o' x' h3 h4 with ⟨hL', q1', q2'⟩ | ⟨_, q2', q3'⟩
      · exact hr.apart id id' o o' x x' b q1 q2 q1' q2' h5 h6
      · have := hold id o x b hL q1 q2 h5
        rcases q2' b h6 with k | k
        · exact absurd k this.2.2
        · omega
    · rcases q3 id' o' x' b h3 h4 h5 h6 with k | ⟨hL', q1', q2'⟩
      · exact k
      · have := hold id' o' x' b hL' q1' q2' h6
        rcases q2 b h5 with k | k
        · exact absurd k this.2.2
        · omega
  · intro b cs hm
    obtain ⟨c, T, fz, h1, h2⟩ := hr.mem b cs hm
    have hlt := lt_of_cells h1
    refine ⟨c, T, fz, (hkeep b hlt ?_).trans h1, h2⟩
    rintro ⟨id, o, x, _, q1, q2, q3⟩
    rw [(Ev.own_lt (hr.ob id o x q1 q2) q3).2] at hm
    cases hm
  · intro b h1 h2
    have hno : ¬ (∃ (id : Nat) (o : Ob) (x : G), S id ∧ H[id]? = some o ∧ g[id]? = some x ∧ ownB o x b) := by
      rintro ⟨id, o, x, _, q1, q2, q3⟩
      rcases hb.own b ⟨id, o, x, q1, q2, q3⟩ with k | k
      · exact h2 k
      · omega
    exact (hkeep b (by omega) hno).trans (hb.keep b h1 h2)
  · rintro b ⟨id, o, x, h1, h2, h3⟩
    rcases keys id o x h1 h2 with ⟨_, q1, q2⟩ | ⟨_, q2, _⟩
    · exact hb.own b ⟨id, o, x, q1, q2, h3⟩
    · rcases q2 b h3 with ⟨id, o, x, _, q1, q2, q3⟩ | k
      · exact hb.own b ⟨id, o, x, q1, q2, q3⟩
      · exact .inr (by omega)

theorem set_get' {α : Type} {l : List α} {i j : Nat} {a x : α} (h : (l.set i a)[j]? = some x) : (j = i ∧ x = a) ∨ (j ≠ i ∧ l[j]? = some x) := by
  by_cases e : i = j
  · subst e
    have hl : i < l.length := by
      rcases Nat.lt_or_ge i l.length with k | k
      · exact k
      · rw [List.getElem?_eq_none (by simpa using k)] at h; cases h
    rw [List.getElem?_set_self hl] at h
    cases h
    exact .inl ⟨rfl, rfl⟩
  · rw [List.getElem?_set_ne e] at h
    exact .inr ⟨fun e' => e e'.symm, h⟩

theorem adopt_set {H : Heap} {g : List G} {M : Mem} {w w' : World} {w0 : World} {M0 : Mem} {own0 : Z} (hr : HR H g M w) (hb : Base w0 M0 own0 H g M w) {id : Nat} {o o' : Ob} {x x' : G} {L : List Nat} (ho : H[id]? = some o) (hx : g[id]? = some x) (hle : Gle x x')
    (hfx : x.fixed = true → own0.n ≤ id ∨ x' = x) (hsz : w.heap.size ≤ w'.heap.size) (hos : w'.os = w.os) (htp : w'.tape = w.tape) (hout : w'.output = w.output)
    (hkeep : ∀ b, b < w.heap.size → ¬ ownB o x b → ¬ OwnIn H g L b → w'.heap[b]? = w.heap[b]?) (hob : ObOk (g.set id x') M w' o' x')
    (hown : ∀ b, ownB o' x' b → ownB o x b ∨ OwnIn H g L b ∨ w.heap.size ≤ b) :
    HR ((kill H L).set id o') (g.set id x') M w' ∧ Base w0 M0 own0 ((kill H L).set id o') (g.set id x') M w' ∧ Ext g M (g.set id x') M := by
  have E : Ext g M (g.set id x') M := ⟨fun j y hj => by
    by_cases e : id = j
    · subst e
      rw [hx] at hj; cases hj
      exact ⟨x', by rw [List.getElem?_set_self (List.getElem?_eq_some_iff.1 hx).1], hle⟩
    · exact ⟨y, by rw [List.getElem?_set_ne e]; exact hj, Gle.refl y⟩, fun _ _ h => h⟩
  have hSo : ∀ b, (ownB o x b ∨ OwnIn H g L b) → ∃ (j : Nat) (o : Ob) (x : G), (j = id ∨ j ∈ L) ∧ H[j]? = some o ∧ g[j]? = some x ∧ ownB o x b := by
    rintro b (h | ⟨j, hj, o1, y1, p1, p2, p3⟩)
    · exact ⟨id, o, x, .inl rfl, ho, hx, h⟩
    · exact ⟨j, o1, y1, .inr hj, p1, p2, p3⟩
  obtain ⟨r1, r2⟩ := regroup (H' := (kill H L).set id o') (g' := g.set id x') (w' := w') hr hb (fun j => j = id ∨ j ∈ L) E (fun j y hj => by
      have := hb.gbox j y hj
      by_cases e : id = j
      · subst e
        rw [hx] at this; cases this
        rw [List.getElem?_set_self (List.getElem?_eq_some_iff.1 hx).1]
        rcases hfx (own0.fx _ _ hj) with k | k
        · have := own0.lt _ _ hj; omega
        · rw [k]
      · rw [List.getElem?_set_ne e]; exact this)
    (fun b hb1 hn => hkeep b hb1 (fun h => hn (hSo b (.inl h))) (fun h => hn (hSo b (.inr h)))) hsz hos htp hout (by simp [kill_len, hr.len]) (by
      intro j y z h1 h2
      rcases set_get' h1 with ⟨rfl, rfl⟩ | ⟨hne, h1'⟩
      · rcases set_get' h2 with ⟨_, rfl⟩ | ⟨hne, _⟩
        · refine .inr ⟨hob, fun b hb' => ?_, fun j' y' z' b p1 p2 p3 p4 => ?_⟩
          · rcases hown b hb' with k | k | k
            · exact .inl (hSo b (.inl k))
            · exact .inl (hSo b (.inr k))
            · exact .inr k
          · rcases set_get' p1 with ⟨rfl, rfl⟩ | ⟨hne', p1'⟩
            · exact .inl rfl
            · rcases kill_get p1' with ⟨_, rfl⟩ | ⟨hn, p1''⟩
              · exact p4.elim
              · rcases set_get' p2 with ⟨e, _⟩ | ⟨_, p2'⟩
                · exact absurd e hne'
                · exact .inr ⟨fun h => h.elim hne' hn, p1'', p2'⟩
        · exact absurd rfl hne
      · rcases set_get' h2 with ⟨e, _⟩ | ⟨_, h2'⟩
        · exact absurd e hne
        · rcases kill_get h1' with ⟨hm, rfl⟩ | ⟨hn, h1''⟩
          · refine .inr ⟨by cases z <;> exact trivial, fun b hb' => hb'.elim, fun _ _ _ b _ _ p3 _ => p3.elim⟩
          · exact .inl ⟨fun h => h.elim hne hn, h1'', h2'⟩)
  exact ⟨r1, r2, E⟩

theorem adopt_push {H : Heap} {g : List G} {M : Mem} {w w' : World} {w0 : World} {M0 : Mem} {own0 : Z} (hr : HR H g M w) (hb : Base w0 M0 own0 H g M w) {o' : Ob} {x' : G} {L : List Nat}
    (hsz : w.heap.size ≤ w'.heap.size) (hos : w'.os = w.os) (htp : w'.tape = w.tape) (hout : w'.output = w.output)
    (hkeep : ∀ b, b < w.heap.size → ¬ OwnIn H g L b → w'.heap[b]? = w.heap[b]?) (hob : ObOk (g ++ [x']) M w' o' x')
    (hown : ∀ b, ownB o' x' b → OwnIn H g L b ∨ w.heap.size ≤ b) :
    HR (kill H L ++ [o']) (g ++ [x']) M w' ∧ Base w0 M0 own0 (kill H L ++ [o']) (g ++ [x']) M w' ∧ Ext g M (g ++ [x']) M := by
  have hSo : ∀ b, OwnIn H g L b → ∃ (j : Nat) (o : Ob) (x : G), j ∈ L ∧ H[j]? = some o ∧ g[j]? = some x ∧ ownB o x b := by
    rintro b ⟨j, hj, o1, y1, p1, p2, p3⟩
    exact ⟨j, o1, y1, hj, p1, p2, p3⟩
  have hlen := hr.len
  have hcase : ∀ {j : Nat} {o : Ob} {x : G}, (kill H L ++ [o'])[j]? = some o → (g ++ [x'])[j]? = some x → (j < H.length ∧ ((j ∈ L ∧ o = .dead) ∨ (j ∉ L ∧ H[j]? = some o ∧ g[j]? = some x))) ∨ (j = H.length ∧ o = o' ∧ x = x') := by
    intro j o x h1 h2
    rw [getElem?_snoc] at h1 h2
    rw [kill_len] at h1
    rw [← hlen] at h2
    split at h1
    · rename_i hl
      rw [if_pos hl] at h2
      refine .inl ⟨hl, ?_⟩
      rcases kill_get h1 with k | ⟨k1, k2⟩
      · exact .inl k
      · exact .inr ⟨k1, k2, h2⟩
    · rename_i hl
      rw [if_neg hl] at h2
      split at h1
      · rename_i he; rw [if_pos he] at h2; cases h1; cases h2; exact .inr ⟨he, rfl, rfl⟩
      · cases h1
  obtain ⟨r1, r2⟩ := regroup (H' := kill H L ++ [o']) (g' := g ++ [x']) (w' := w') hr hb (fun j => j ∈ L) (Ext.snoc g M x') (fun j y hj => by
      have := hb.gbox j y hj
      rw [List.getElem?_append_left (List.getElem?_eq_some_iff.1 this).1]; exact this)
    (fun b hb1 hn => hkeep b hb1 (fun h => hn (hSo b h))) hsz hos htp hout (by simp [kill_len, hlen]) (by
      intro j y z h1 h2
      rcases hcase h1 h2 with ⟨hl, ⟨hm, rfl⟩ | ⟨hn, k1, k2⟩⟩ | ⟨he, rfl, rfl⟩
      · exact .inr ⟨by cases z <;> exact trivial, fun b hb' => hb'.elim, fun _ _ _ b _ _ p3 _ => p3.elim⟩
      · exact .inl ⟨hn, k1, k2⟩
      · refine .inr ⟨hob, fun b hb' => (hown b hb').imp (hSo b) id, fun j' y' z' b p1 p2 p3 p4 => ?_⟩
        rcases hcase p1 p2 with ⟨hl, ⟨hm, rfl⟩ | ⟨hn, k1, k2⟩⟩ | ⟨he', _, _⟩
        · exact p4.elim
        · exact .inr ⟨hn, k1, k2⟩
        · exact .inl (by omega))
  exact ⟨r1, r2, Ext.snoc g M x'⟩
end Go.Ev

/- Floats up to the bits of a not-a-number. -/
set_option linter.unusedVariables false
set_option linter.unusedSimpArgs false
namespace Go.Ev
open Ieee

theorem sign_eq (k : FloatKind) : k.format.signWeight = signOf k := by cases k <;> rfl
theorem inf_eq (k : FloatKind) : k.format.infRung = infOf k := by cases k <;> rfl
theorem width_eq (k : FloatKind) : 2 ^ k.format.width = 2 * signOf k := by cases k <;> rfl
theorem binade_le (k : FloatKind) : k.format.binade ≤ infOf k := by cases k <;> decide
theorem inf_lt_sign (k : FloatKind) : infOf k < signOf k := by cases k <;> decide
theorem nan_qnan (k : FloatKind) : nan k (qnan k) = true := by cases k <;> decide
theorem qnan_lt (k : FloatKind) : qnan k < 2 * signOf k := by cases k <;> decide

theorem nan_iff (k : FloatKind) (b : Nat) : nan k b = true ↔ infOf k < b % signOf k := by simp [nan, Nat.blt_eq]

theorem read_nan {k : FloatKind} {b : Nat} (h : nan k b = true) : ∃ s t, k.format.read b = .nan s t := by
  rw [nan_iff] at h
  have h1 := binade_le k
  unfold Format.read
  simp only [sign_eq, inf_eq]
  rw [if_neg (by omega), if_neg (by omega), if_neg (by omega)]
  exact ⟨_, _, rfl⟩
theorem read_not_nan {k : FloatKind} {b : Nat} (h : nan k b = false) : ∀ s t, k.format.read b ≠ .nan s t := by
  have h' : ¬ infOf k < b % signOf k := by
    intro h2
    have := (nan_iff k b).2 h2
    rw [h] at this
    cases this
  intro s t
  unfold Format.read
  simp only [sign_eq, inf_eq]
  split
  · simp
  · split
    · simp
    · rw [if_pos (by omega)]; simp

theorem canon_not {k : FloatKind} {b : Nat} (h : nan k b = false) : canon k b = b := by simp [canon, h]
theorem canon_nan {k : FloatKind} {b : Nat} (h : nan k b = true) : canon k b = qnan k := by simp [canon, h]
theorem nan_canon (k : FloatKind) (b : Nat) : nan k (canon k b) = nan k b := by
  cases h : nan k b
  · rw [canon_not h, h]
  · rw [canon_nan h, nan_qnan]
theorem canon_canon (k : FloatKind) (b : Nat) : canon k (canon k b) = canon k b := by
  cases h : nan k b
  · rw [canon_not h, canon_not h]
  · rw [canon_nan h, canon_nan (nan_qnan k)]
theorem canon_lt {k : FloatKind} {b : Nat} (h : b < 2 * signOf k) : canon k b < 2 * signOf k := by
  cases h' : nan k b
  · rw [canon_not h']; exact h
  · rw [canon_nan h']; exact qnan_lt k

def plainD : Datum → Bool
  | .nan .. => false
  | _ => true

theorem nan_word {k : FloatKind} (neg : Bool) {r : Nat} (h : r ≤ infOf k) : nan k (k.format.word neg r) = false := by
  cases hn : nan k (k.format.word neg r) with
  | false => rfl
  | true =>
    rw [nan_iff] at hn
    have := inf_lt_sign k
    unfold Format.word at hn
    rw [sign_eq] at hn
    split at hn
    · rw [Nat.add_mod, Nat.mod_self, Nat.zero_add, Nat.mod_mod, Nat.mod_eq_of_lt (by omega)] at hn; omega
    · rw [Nat.mod_eq_of_lt (by omega)] at hn; omega

theorem nan_write {k : FloatKind} {d : Datum} (h : plainD d = true) : nan k (k.format.write d) = false := by
  cases d with
  | nan s t => simp [plainD] at h
  | infinity s => exact nan_word s (by rw [inf_eq]; exact Nat.le_refl _)
  | number s m e =>
    unfold Format.write
    simp only []
    unfold Format.nearest
    split
    · exact nan_word s (Nat.zero_le _)
    · exact nan_word s (by rw [inf_eq]; exact Nat.min_le_right _ _)

theorem plain_sum {x y d : Datum} (h : x.sum y = some d) : plainD d = true := by
  cases x <;> cases y <;> simp [Datum.sum] at h
  · subst h; rfl
  · subst h; rfl
  · subst h; rfl
  · obtain ⟨_, rfl⟩ := h; rfl
theorem plain_product {x y d : Datum} (h : x.product y = some d) : plainD d = true := by
  cases x <;> cases y <;> simp [Datum.product] at h
  · subst h; rfl
  · obtain ⟨_, rfl⟩ := h; rfl
  · obtain ⟨_, rfl⟩ := h; rfl
  · subst h; rfl
theorem plain_quotient {n : Nat} {x y d : Datum} (h : x.quotient n y = some d) : plainD d = true := by
  cases x <;> cases y <;> simp only [Datum.quotient] at h
  all_goals (repeat' split at h)
  all_goals first | (cases h; rfl) | (cases h; done)
theorem plain_root {n : Nat} {x d : Datum} (h : x.root n = some d) : plainD d = true := by
  cases x <;> simp only [Datum.root] at h
  all_goals (repeat' split at h)
  all_goals first | (cases h; rfl) | (cases h; done)

section
variable {k : FloatKind} {x y r : Nat}
theorem nan_add (h : k.format.add x y = some r) : nan k r = false := by
  unfold Format.add at h
  cases hs : (k.format.read x).sum (k.format.read y) with
  | none => simp [hs] at h
  | some d => simp [hs] at h; subst h; exact nan_write (plain_sum hs)
theorem nan_sub (h : k.format.sub x y = some r) : nan k r = false := by
  unfold Format.sub at h
  cases hs : (k.format.read x).sum (k.format.read y).opposite with
  | none => simp [hs] at h
  | some d => simp [hs] at h; subst h; exact nan_write (plain_sum hs)
theorem nan_mul (h : k.format.mul x y = some r) : nan k r = false := by
  unfold Format.mul at h
  cases hs : (k.format.read x).product (k.format.read y) with
  | none => simp [hs] at h
  | some d => simp [hs] at h; subst h; exact nan_write (plain_product hs)
theorem nan_div (h : k.format.div x y = some r) : nan k r = false := by
  unfold Format.div at h
  cases hs : (k.format.read x).quotient (k.format.fractionBits + 2) (k.format.read y) with
  | none => simp [hs] at h
  | some d => simp [hs] at h; subst h; exact nan_write (plain_quotient hs)
theorem nan_sqrt (h : k.format.sqrt x = some r) : nan k r = false := by
  unfold Format.sqrt at h
  cases hs : (k.format.read x).root (k.format.fractionBits + 2) with
  | none => simp [hs] at h
  | some d => simp [hs] at h; subst h; exact nan_write (plain_root hs)

theorem sum_nan_l (s : Bool) (t : Nat) (d : Datum) : (Datum.nan s t).sum d = none := by cases d <;> rfl
theorem sum_nan_r (s : Bool) (t : Nat) (d : Datum) : d.sum (Datum.nan s t) = none := by cases d <;> rfl
theorem product_nan_l (s : Bool) (t : Nat) (d : Datum) : (Datum.nan s t).product d = none := by cases d <;> rfl
theorem product_nan_r (s : Bool) (t : Nat) (d : Datum) : d.product (Datum.nan s t) = none := by cases d <;> rfl
theorem quotient_nan_l (n : Nat) (s : Bool) (t : Nat) (d : Datum) : (Datum.nan s t).quotient n d = none := by cases d <;> rfl
theorem quotient_nan_r (n : Nat) (s : Bool) (t : Nat) (d : Datum) : d.quotient n (Datum.nan s t) = none := by cases d <;> rfl
theorem order_nan_l (s : Bool) (t : Nat) (d : Datum) : (Datum.nan s t).order d = none := by cases d <;> rfl
theorem order_nan_r (s : Bool) (t : Nat) (d : Datum) : d.order (Datum.nan s t) = none := by cases d <;> rfl

theorem canon2 {α : Type} (F : Datum → Datum → Option α) (hl : ∀ s t d, F (.nan s t) d = none) (hr : ∀ s t d, F d (.nan s t) = none) (x y : Nat) :
    F (k.format.read (canon k x)) (k.format.read (canon k y)) = F (k.format.read x) (k.format.read y) := by
  cases hx : nan k x with
  | true =>
    obtain ⟨s, t, e⟩ := read_nan hx
    obtain ⟨s', t', e'⟩ := read_nan (k := k) (b := canon k x) (by rw [nan_canon, hx])
    rw [e, e', hl, hl]
  | false =>
    cases hy : nan k y with
    | true =>
      obtain ⟨s, t, e⟩ := read_nan hy
      obtain ⟨s', t', e'⟩ := read_nan (k := k) (b := canon k y) (by rw [nan_canon, hy])
      rw [e, e', hr, hr]
    | false => rw [canon_not hx, canon_not hy]

theorem add_canon (x y : Nat) : k.format.add (canon k x) (canon k y) = k.format.add x y := by
  unfold Format.add; rw [canon2 _ sum_nan_l sum_nan_r]
theorem sub_canon (x y : Nat) : k.format.sub (canon k x) (canon k y) = k.format.sub x y := by
  unfold Format.sub
  rw [canon2 (fun a b => a.sum b.opposite) (fun s t d => sum_nan_l _ _ _) (fun s t d => sum_nan_r _ _ _)]
theorem mul_canon (x y : Nat) : k.format.mul (canon k x) (canon k y) = k.format.mul x y := by
  unfold Format.mul; rw [canon2 _ product_nan_l product_nan_r]
theorem div_canon (x y : Nat) : k.format.div (canon k x) (canon k y) = k.format.div x y := by
  unfold Format.div; rw [canon2 _ (quotient_nan_l _) (quotient_nan_r _)]
theorem order_canon (x y : Nat) : k.format.order (canon k x) (canon k y) = k.format.order x y := by
  unfold Format.order; rw [canon2 _ order_nan_l order_nan_r]
theorem sqrt_canon (x : Nat) : k.format.sqrt (canon k x) = k.format.sqrt x := by
  unfold Format.sqrt
  cases hx : nan k x with
  | true =>
    obtain ⟨s, t, e⟩ := read_nan hx
    obtain ⟨s', t', e'⟩ := read_nan (k := k) (b := canon k x) (by rw [nan_canon, hx])
    rw [e, e']; rfl
  | false => rw [canon_not hx]
end

theorem cut_nan (k : FloatKind) (q : Question) (hq : (∃ x y, q = .nanBits k x y) ∨ (∃ b, q = .nanConv k b)) (t : Nat) : nan k (q.cut t) = true ∧ q.cut t < 2 * signOf k := by
  have h2 := Nat.mod_lt t (show 0 < 2 by omega)
  rcases hq with ⟨x, y, rfl⟩ | ⟨b, rfl⟩ <;> cases k <;> simp only [Question.cut, nan_iff, infOf, signOf]
  all_goals
    have h1 := Nat.mod_lt (t / 2) (show 0 < 2 ^ 23 - 1 by decide)
    have h3 := Nat.mod_lt (t / 2) (show 0 < 2 ^ 52 - 1 by decide)
    generalize t / 2 % (2 ^ 23 - 1) = m at *
    generalize t / 2 % (2 ^ 52 - 1) = m' at *
    generalize t % 2 = n at *
    simp only [show (2 : Nat) ^ 23 - 1 = 8388607 by decide, show (2 : Nat) ^ 52 - 1 = 4503599627370495 by decide, show (2 : Nat) ^ 31 = 2147483648 by decide, show (2 : Nat) ^ 63 = 9223372036854775808 by decide] at *
    omega

end Go.Ev

/- Equality of structs and arrays. -/
set_option linter.unusedVariables false
set_option linter.unusedSimpArgs false
namespace Go.Ev

theorem toList_bytes (s : ByteArray) : s.toList = s.data.toList := by
  first | exact ByteArray.toList_eq s | exact ByteArray.toList_eq_data_toList s | simp [ByteArray.toList] | skip

section
variable {P : Program} {C : Ctx} {g : List G} {M : Mem} {w : World}

theorem run_partV {t : TypeId} {i : TI} (F : Facts P t i) {vs : List V} {ce : Array Value} {off : Nat} (hv : VRs g M vs (ce.toList.drop off)) {v : V} (hk : partV i vs = some v) :
    ∃ val, VR g M v val ∧ (part t ce off).run P w = .ok val w := by
  have hlen := hv.length
  unfold partV at hk
  cases ha : i.agg with
  | true =>
    simp only [ha, cond_true] at hk
    cases hs : Nat.ble i.size vs.length with
    | false => simp [hs] at hk
    | true =>
      simp only [hs, cond_true, Option.some.injEq] at hk
      subst hk
      refine ⟨.agg (ce.extract off (off + i.size)), .agg _ _ ?_, ?_⟩
      · have := hv.take i.size
        simpa [List.extract_eq_take_drop] using this
      · simp [part, F.run_isAgg, ha, F.run_sizeOf]
  | false =>
    simp only [ha, cond_false] at hk
    cases hz : Nat.beq i.size 0 with
    | true => simp [hz] at hk
    | false =>
      simp only [hz, cond_false] at hk
      cases vs with
      | nil => simp at hk
      | cons u vs =>
        simp only [Option.some.injEq] at hk
        subst hk
        obtain ⟨x, hx, hr⟩ := hv.get (i := 0) (v := u) (by simp)
        rw [List.getElem?_drop] at hx
        simp at hx
        exact ⟨x, hr, by simp [part, F.run_isAgg, ha, hx]⟩

theorem partV_facts (L : LOk P C) {t : TypeId} {cs : List V} {v : V} (h : partV (C.ti t) cs = some v) : Facts P t (C.ti t) := by
  unfold partV at h
  cases ha : (C.ti t).agg with
  | true =>
    refine L.get (.inl fun e => ?_)
    unfold TI.agg at ha
    rw [e] at ha
    cases ha
  | false =>
    simp only [ha, cond_false] at h
    cases hz : Nat.beq (C.ti t).size 0 with
    | true => simp [hz] at h
    | false => exact L.get (.inr fun e => by rw [e] at hz; cases hz)

theorem leafEq_sound {t : TypeId} {d : TypeDesc} (hu : P.underlying t = some d) {x y : V} {a b : Value} (hx : VR g M x a) (hy : VR g M y b) {r : Bool} (h : leafEq x y d = some r) (n : Nat) : (Op.equalIn (n + 1) t a b).run P w = .ok r w := by
  unfold leafEq at h
  split at h
  · split at h
    · rename_i e
      subst e
      cases h
      cases hx; cases hy
      exact run_equalIn_int w n t _ _ _ _ hu
    · cases h
  · split at h
    · rename_i e
      subst e
      cases h
      cases hx with
      | float _ _ a' h1 h2 =>
      cases hy with
      | float _ _ b' h3 h4 =>
      subst h2; subst h4
      simp only [feq, order_canon]
      simp [Op.equalIn, run_underlying hu, Op.floatEq]
    · cases h
  · cases h
    cases hx; cases hy
    exact run_equalIn_bool w n t _ _ hu
  · cases h
    cases hx with
    | str s l h1 h2 =>
    cases hy with
    | str s' l' h3 h4 =>
    subst h1; subst h3
    rw [run_equalIn_string w n t _ _ hu, toList_bytes, toList_bytes]
    rfl
  · cases h

theorem andO_some {a b : Option Bool} {r : Bool} (h : andO a b = some r) : ∃ x y, a = some x ∧ b = some y ∧ r = (x && y) := by
  cases a with
  | none => cases h
  | some x => cases b with
    | none => cases h
    | some y => cases h; exact ⟨x, y, rfl, rfl, by cases x <;> rfl⟩

theorem eqV_sound (L : LOk P C) : ∀ (n d : Nat), n ≤ d → ∀ (t : TypeId) (x y : V) (r : Bool), eqV C.ti n t x y = some r → ∀ {a b : Value}, VR g M x a → VR g M y b → ((C.ti t).desc ≠ .invalid ∨ (C.ti t).size ≠ 0) → (Op.equalIn d t a b).run P w = .ok r w := by
  intro n
  induction n with
  | zero => intro d _ t x y r h; cases x <;> cases y <;> cases h
  | succ n ih =>
    intro d hd t x y r h a b hx hy hF
    obtain ⟨d, rfl⟩ : ∃ e, d = e + 1 := ⟨d - 1, by omega⟩
    have F := L.get hF
    have hnd : n ≤ d := by omega
    have ihe : ∀ (t' : TypeId) (cs : List V) (v x y : V) (r : Bool), partV (C.ti t') cs = some v → eqV C.ti n t' x y = some r → ∀ {a b : Value}, VR g M x a → VR g M y b → (Op.equalIn d t' a b).run P w = .ok r w := by
      intro t' cs v x y r hp he a b hx hy
      refine ih d hnd t' x y r he hx hy ?_
      unfold partV at hp
      cases ha : (C.ti t').agg with
      | true =>
        refine .inl fun e => ?_
        unfold TI.agg at ha
        rw [e] at ha
        cases ha
      | false =>
        simp only [ha, cond_false] at hp
        cases hz : Nat.beq (C.ti t').size 0 with
        | true => simp [hz] at hp
        | false => exact .inr fun e => by rw [e] at hz; cases hz
    have leaf : (∀ xs ys, ¬ (x = .agg xs ∧ y = .agg ys)) → (Op.equalIn (d + 1) t a b).run P w = .ok r w := by
      intro hn
      have : eqV C.ti (n + 1) t x y = leafEq x y (C.ti t).desc := by
        cases x <;> cases y <;> first | rfl | exact absurd ⟨rfl, rfl⟩ (hn _ _)
      rw [this] at h
      exact leafEq_sound F.under hx hy h d
    by_cases hag : ∃ xs ys, x = .agg xs ∧ y = .agg ys
    · obtain ⟨xs, ys, rfl, rfl⟩ := hag
      cases hx with
      | agg _ cx hvx =>
      cases hy with
      | agg _ cy hvy =>
      simp only [eqV] at h
      split at h
      · rename_i fs hdesc
        cases hok : (C.ti t).eqok with
        | false => simp only [hok, cond_false] at h; cases h
        | true =>
          simp only [hok, cond_true] at h
          have hu : P.underlying t = some (.struct fs) := by rw [F.under, hdesc]
          have hfs : P.fieldsOf t = fs := by simp [Program.fieldsOf, hu]
          rw [run_equalIn_struct w d t cx cy (by rw [hfs]; exact hu) (F.eqok hok).2, hfs]
          generalize fs.toList = l at h
          clear hu hfs hdesc hok leaf F hF
          induction l generalizing r with
          | nil => cases h; rfl
          | cons f l ihl =>
            simp only [eqFs] at h
            cases hnm : f.name == "_" with
            | true => simp only [hnm, cond_true] at h; cases h
            | false =>
              simp only [hnm, cond_false] at h
              split at h
              · cases h
              · rename_i u hp
                split at h
                · cases h
                · rename_i v hq
                  obtain ⟨r1, r2, e1, e2, rfl⟩ := andO_some h
                  obtain ⟨va, k1, k2⟩ := run_partV (P := P) (w := w) (partV_facts L hp) (hvx.drop f.offset) hp
                  obtain ⟨vb, k3, k4⟩ := run_partV (P := P) (w := w) (partV_facts L hq) (hvy.drop f.offset) hq
                  have k5 := ihe f.type _ u u v r1 hp e1 k1 k3
                  have hne : f.name ≠ "_" := by simpa using hnm
                  simp only [Op.eqFields, hne, ne_eq, not_false_eq_true, if_true, Sem.run_bind, k2, k4, k5, Result.andThen_ok]
                  cases r1 with
                  | false => simp
                  | true => simp only [Bool.not_true, Bool.false_eq_true, if_false, Bool.true_and]; exact ihl r2 e2
      · rename_i len e hdesc
        have hu : P.underlying t = some (.array len e) := by rw [F.under, hdesc]
        cases hz : Nat.beq (C.ti e).size 0 with
        | true => simp only [hz, cond_true] at h; cases h
        | false =>
          simp only [hz, cond_false] at h
          have Fe := L.get (t := e) (.inr fun e' => by rw [e'] at hz; cases hz)
          obtain ⟨i, i1, i2, _, _⟩ := Fe.info
          have hc : P.cellsOf e = (C.ti e).size := by simp [Program.cellsOf, i1, i2]
          rw [run_equalIn_array w d cx cy hu i1, hc]
          generalize List.range len = l at h
          clear hu hdesc leaf F hF
          induction l generalizing r with
          | nil => cases h; rfl
          | cons j l ihl =>
            simp only [eqIs] at h
            split at h
            · cases h
            · rename_i u hp
              split at h
              · cases h
              · rename_i v hq
                obtain ⟨r1, r2, e1, e2, rfl⟩ := andO_some h
                obtain ⟨va, k1, k2⟩ := run_partV (P := P) (w := w) (partV_facts L hp) (hvx.drop (j * (C.ti e).size)) hp
                obtain ⟨vb, k3, k4⟩ := run_partV (P := P) (w := w) (partV_facts L hq) (hvy.drop (j * (C.ti e).size)) hq
                have k5 := ihe e _ u u v r1 hp e1 k1 k3
                simp only [Op.eqItems, Sem.run_bind, k2, k4, k5, Result.andThen_ok]
                cases r1 with
                | false => simp
                | true => simp only [Bool.not_true, Bool.false_eq_true, if_false, Bool.true_and]; exact ihl r2 e2
      · cases h
    · exact leaf fun xs ys hh => hag ⟨xs, ys, hh⟩
end
end Go.Ev

/- The operations that touch no memory do what the evaluator says. -/
set_option linter.unusedVariables false
set_option linter.unusedSimpArgs false
namespace Go.Ev

structure Drawn (w w' : World) : Prop where
  heap : w'.heap = w.heap
  os : w'.os = w.os
  tape : w'.tape = w.tape
  output : w'.output = w.output
theorem Drawn.refl (w : World) : Drawn w w := ⟨rfl, rfl, rfl, rfl⟩
theorem Drawn.drew (w : World) : Drawn w { w with drawn := w.drawn + 1 } := ⟨rfl, rfl, rfl, rfl⟩

def SemOk (P : Program) (g : List G) (M : Mem) (w : World) (s : Sem Value) (K : V → Prop) : Prop :=
  ∃ v val w', K v ∧ VR g M v val ∧ s.run P w = .ok val w' ∧ Drawn w w'

def SemSt (P : Program) (g : List G) (M : Mem) (w : World) (s : Sem Value) (K : V → Prop) : Prop :=
  ∃ v val, K v ∧ VR g M v val ∧ s.run P w = .ok val w
theorem SemSt.ok {P : Program} {g : List G} {M : Mem} {w : World} {s : Sem Value} {K : V → Prop} (h : SemSt P g M w s K) : SemOk P g M w s K := by
  obtain ⟨v, val, h1, h2, h3⟩ := h
  exact ⟨v, val, w, h1, h2, h3, Drawn.refl w⟩

theorem SemOk.pure {P : Program} {g : List G} {M : Mem} {w : World} {s : Sem Value} {K : V → Prop} {v : V} {val : Value} (hk : K v) (hv : VR g M v val) (hs : s.run P w = .ok val w) : SemOk P g M w s K :=
  ⟨v, val, w, hk, hv, hs, Drawn.refl w⟩

section
variable {P : Program} {g : List G} {M : Mem} {w : World} {K : V → Prop}

theorem size_eq_length (s : ByteArray) : s.size = s.data.toList.length := by show s.data.size = _; rw [Array.length_toList]

theorem wrap_range (k : IntKind) (n : Int) : k.min ≤ k.wrap n ∧ k.wrap n ≤ k.max := by
  first
  | exact k.wrap_range n
  | (cases k <;> simp only [IntKind.wrap, IntKind.min, IntKind.max, IntKind.bits, IntKind.signed] <;> simp <;> omega)

theorem tmod_le (a b : Int) (h : 0 ≤ a) : a.tmod b ≤ a := by
  obtain ⟨m, rfl⟩ := Int.eq_ofNat_of_zero_le h
  cases b with
  | ofNat n => exact Int.ofNat_le.2 (Nat.mod_le m n)
  | negSucc n => exact Int.ofNat_le.2 (Nat.mod_le m (n + 1))

theorem tmod_range {k : IntKind} {a b : Int} (ha : k.min ≤ a ∧ a ≤ k.max) : k.min ≤ a.tmod b ∧ a.tmod b ≤ k.max := by
  have h0 : k.min ≤ 0 ∧ 0 ≤ k.max := by cases k <;> decide
  rcases Int.le_total 0 a with h | h
  · have h1 := Int.tmod_nonneg b h
    have h2 : a.tmod b ≤ a := tmod_le a b h
    omega
  · have h1 : 0 ≤ (-a).tmod b := Int.tmod_nonneg b (by omega)
    have h2 : (-a).tmod b ≤ -a := tmod_le _ b (by omega)
    rw [Int.neg_tmod] at h1 h2
    omega

theorem fdiv_range {k : IntKind} {a : Int} (n : Nat) (ha : k.min ≤ a ∧ a ≤ k.max) : k.min ≤ a.fdiv (2 ^ n) ∧ a.fdiv (2 ^ n) ≤ k.max := by
  have h0 : k.min ≤ 0 ∧ 0 ≤ k.max := by cases k <;> decide
  have hp : (0 : Int) < 2 ^ n := Int.pow_pos (by decide)
  rw [Int.fdiv_eq_ediv_of_nonneg _ (Int.le_of_lt hp)]
  rcases Int.le_total 0 a with h | h
  · have h1 := Int.ediv_nonneg h (Int.le_of_lt hp)
    have h2 := Int.ediv_le_self (2 ^ n) h
    omega
  · have hm : a * 2 ^ n ≤ a := by
      have h3 : (0 : Int) ≤ 2 ^ n - 1 := by omega
      have h4 := Int.mul_nonneg (show (0 : Int) ≤ -a by omega) h3
      rw [Int.mul_sub, Int.neg_mul, Int.mul_one] at h4
      omega
    have h2 : a ≤ a / 2 ^ n := (Int.le_ediv_iff_mul_le hp).2 hm
    have h1 : a / 2 ^ n ≤ 0 := by
      have := Int.ediv_le_ediv hp h
      simpa using this
    omega

theorem binInt_sound (op : BinOp) (t : TypeId) (k : IntKind) (a b : Int) (ha : k.min ≤ a ∧ a ≤ k.max) (hs : isShift op = false) (h : binInt op k a b K) : SemOk P g M w (binOp op t (.int k a) (.int k b)) K := by
  cases op <;> simp only [isShift] at hs <;> simp only [binInt] at h <;> try (cases hs; done)
  · exact .pure h (.int _ _ (wrap_range _ _)) (by simp [binOp, Op.intArith])
  · exact .pure h (.int _ _ (wrap_range _ _)) (by simp [binOp, Op.intArith])
  · exact .pure h (.int _ _ (wrap_range _ _)) (by simp [binOp, Op.intArith])
  · cases hb : b == 0 with
    | true => simp [hb] at h
    | false =>
      simp only [hb, cond_false] at h
      have : b ≠ 0 := by simpa using hb
      exact .pure h (.int _ _ (wrap_range _ _)) (by simp [binOp, Op.intDiv, this])
  · cases hb : b == 0 with
    | true => simp [hb] at h
    | false =>
      simp only [hb, cond_false] at h
      have : b ≠ 0 := by simpa using hb
      exact .pure h (.int _ _ (tmod_range ha)) (by simp [binOp, Op.intDiv, this])
  · exact .pure h (.int _ _ (wrap_range _ _)) (by simp only [binOp, Op.intBits, ne_eq, not_true_eq_false, if_false]; rfl)
  · exact .pure h (.int _ _ (wrap_range _ _)) (by simp only [binOp, Op.intBits, ne_eq, not_true_eq_false, if_false]; rfl)
  · exact .pure h (.int _ _ (wrap_range _ _)) (by simp only [binOp, Op.intBits, ne_eq, not_true_eq_false, if_false]; rfl)
  · exact .pure h (.int _ _ (wrap_range _ _)) (by simp only [binOp, Op.intBits, ne_eq, not_true_eq_false, if_false]; rfl)
  · exact .pure h (.bool _) (by simp [binOp, Op.intCmp])
  · exact .pure h (.bool _) (by simp [binOp, Op.intCmp])
  · exact .pure h (.bool _) (by simp [binOp, Op.intCmp])
  · exact .pure h (.bool _) (by simp [binOp, Op.intCmp])
  · exact .pure h (.bool _) (by simp [binOp, Op.intCmp])
  · exact .pure h (.bool _) (by simp [binOp, Op.intCmp])

theorem shift_sound (op : BinOp) (t : TypeId) (k k' : IntKind) (a b : Int) (ha : k.min ≤ a ∧ a ≤ k.max) (h : shiftOp op k a b K) : SemOk P g M w (binOp op t (.int k a) (.int k' b)) K := by
  cases op <;> simp only [shiftOp] at h
  all_goals
    cases hb : decide (b < 0) with
    | true => simp [hb] at h
    | false =>
      simp only [hb, cond_false] at h
      have : ¬ b < 0 := by simpa using hb
      exact .pure h (.int _ _ (by first | exact wrap_range _ _ | exact fdiv_range _ ha)) (by simp [binOp, Op.shift, this])

theorem orNan_ok {k : FloatKind} {r : Nat} (h : nan k r = false) : orNan k (some r) = canon k r := by simp [orNan, canon_not h]

theorem choose_nan (k : FloatKind) (q : Question) (hq : (∃ x y, q = .nanBits k x y) ∨ (∃ b, q = .nanConv k b)) (w : World) :
    ∃ r w', (choose q).run P w = .ok r w' ∧ Drawn w w' ∧ nan k r = true ∧ r < 2 * signOf k := by
  have hc := cut_nan k q hq (w.tape w.drawn q)
  have hf : q.forced = false := by rcases hq with ⟨x, y, rfl⟩ | ⟨b, rfl⟩ <;> rfl
  exact ⟨_, _, by simp [hf], Drawn.drew w, hc.1, hc.2⟩

theorem floatRes (k : FloatKind) (x y : Nat) (o : Option Nat) (ho : ∀ r, o = some r → nan k r = false ∧ r < 2 * signOf k) :
    ∃ r w', (match o with | some r => (Pure.pure (.float k r) : Sem Value) | none => do Pure.pure (.float k (← choose (.nanBits k x y)))).run P w = .ok (.float k r) w' ∧ Drawn w w' ∧ canon k r = orNan k o ∧ r < 2 * signOf k := by
  cases o with
  | some r =>
    obtain ⟨h1, h2⟩ := ho r rfl
    exact ⟨r, w, rfl, Drawn.refl w, (orNan_ok h1).symm, h2⟩
  | none =>
    obtain ⟨r, w', h1, h2, h3, h4⟩ := choose_nan (P := P) k (.nanBits k x y) (.inl ⟨x, y, rfl⟩) w
    exact ⟨r, w', by simp only [Sem.run_bind, h1, Result.andThen_ok]; rfl, h2, by rw [canon_nan h3]; rfl, h4⟩

theorem binFloat_sound (op : BinOp) (t : TypeId) (k : FloatKind) (a b : Nat) (h : binFloat op k (canon k a) (canon k b) K) : SemOk P g M w (binOp op t (.float k a) (.float k b)) K := by
  cases op <;> simp only [binFloat] at h
  case add =>
    obtain ⟨r, w', h1, h2, h3, h4⟩ := floatRes (P := P) (w := w) k a b (k.format.add a b) (fun r hr => ⟨nan_add hr, by rw [← width_eq]; exact k.format.add_lt hr⟩)
    rw [fadd, add_canon] at h
    exact ⟨_, _, _, h, .float k _ r h4 h3.symm, by simp only [binOp, ne_eq, not_true_eq_false, if_false, Op.floatArith, pure_bind]; exact h1, h2⟩
  case sub =>
    obtain ⟨r, w', h1, h2, h3, h4⟩ := floatRes (P := P) (w := w) k a b (k.format.sub a b) (fun r hr => ⟨nan_sub hr, by rw [← width_eq]; exact k.format.sub_lt hr⟩)
    rw [fsub, sub_canon] at h
    exact ⟨_, _, _, h, .float k _ r h4 h3.symm, by simp only [binOp, ne_eq, not_true_eq_false, if_false, Op.floatArith, pure_bind]; exact h1, h2⟩
  case mul =>
    obtain ⟨r, w', h1, h2, h3, h4⟩ := floatRes (P := P) (w := w) k a b (k.format.mul a b) (fun r hr => ⟨nan_mul hr, by rw [← width_eq]; exact k.format.mul_lt hr⟩)
    rw [fmul, mul_canon] at h
    exact ⟨_, _, _, h, .float k _ r h4 h3.symm, by simp only [binOp, ne_eq, not_true_eq_false, if_false, Op.floatArith, pure_bind]; exact h1, h2⟩
  case quo =>
    obtain ⟨r, w', h1, h2, h3, h4⟩ := floatRes (P := P) (w := w) k a b (k.format.div a b) (fun r hr => ⟨nan_div hr, by rw [← width_eq]; exact k.format.div_lt hr⟩)
    rw [fdiv, div_canon] at h
    exact ⟨_, _, _, h, .float k _ r h4 h3.symm, by simp only [binOp, ne_eq, not_true_eq_false, if_false, Op.floatArith, pure_bind]; exact h1, h2⟩
  all_goals
    simp only [feq, flt, fle, fgt, fge, order_canon] at h
    exact .pure h (.bool _) (by simp [binOp, Op.floatCmp, bne])



theorem binStr_sound (op : BinOp) (t : TypeId) (a b : ByteArray) (h : binStr op a.data.toList b.data.toList K) : SemOk P g M w (binOp op t (.string a) (.string b)) K := by
  cases op <;> simp only [binStr] at h
  case add =>
    cases hl : Nat.blt (a.data.toList.length + b.data.toList.length) 9223372036854775808 with
    | false => simp only [hl, cond_false] at h
    | true =>
      simp only [hl, cond_true] at h
      rw [Nat.blt_eq, ← size_eq_length, ← size_eq_length] at hl
      refine .pure h (.str (a ++ b) _ (by simp) (by rw [List.length_append, ← size_eq_length, ← size_eq_length]; omega)) ?_
      have hn : ¬ ((a.size + b.size : Nat) : Int) > IntKind.i64.max := by
        have : IntKind.i64.max = 9223372036854775807 := by decide
        rw [this]; omega
      simp only [binOp, Op.stringOp, hn, if_false]
      rfl
  all_goals
    refine .pure h (.bool _) ?_
    simp only [binOp, Op.stringOp, toList_bytes, bytesEq]
    rfl

theorem xor_sign (k : FloatKind) (b : Nat) : (b ^^^ signOf k) % signOf k = b % signOf k := by
  cases k
  · show (b ^^^ 2 ^ 31) % 2 ^ 31 = b % 2 ^ 31
    rw [Nat.xor_mod_two_pow]; simp
  · show (b ^^^ 2 ^ 63) % 2 ^ 63 = b % 2 ^ 63
    rw [Nat.xor_mod_two_pow]; simp
theorem xor_lt (k : FloatKind) {b : Nat} (h : b < 2 * signOf k) : b ^^^ signOf k < 2 * signOf k := by
  cases k
  · exact Nat.xor_lt_two_pow (n := 32) h (by decide)
  · exact Nat.xor_lt_two_pow (n := 64) h (by decide)
theorem nan_xor (k : FloatKind) (b : Nat) : nan k (b ^^^ signOf k) = nan k b := by simp [nan, xor_sign]
theorem fneg_canon (k : FloatKind) (b : Nat) : fneg k (canon k b) = canon k (b ^^^ signOf k) := by
  unfold fneg
  cases h : nan k b with
  | false => rw [canon_not h]
  | true => rw [canon_nan h, canon_nan (by rw [nan_xor]; exact nan_qnan k), canon_nan (by rw [nan_xor]; exact h)]

theorem unV_sound (op : UnOp) {x : V} {c : Value} (hx : VR g M x c) (h : unV op x K) : SemOk P g M w (Op.unary op c) K := by
  cases op <;> simp only [unV] at h
  · cases hx <;> simp only at h <;> try exact h.elim
    · exact .pure h (.int _ _ (wrap_range _ _)) (by simp [Op.unary, Op.intArith])
    · rename_i k b b' h1 h2
      subst h2
      rw [fneg_canon] at h
      refine .pure h (.float k _ _ (xor_lt k h1) rfl) ?_
      simp only [Op.unary, Op.negFloat]
      cases k <;> rfl
  · cases hx <;> simp only at h <;> try exact h.elim
    exact .pure h (.bool _) (by simp [Op.unary])

theorem boolEq_sound {C : Ctx} (L : LOk P C) {t : TypeId} (hd : (C.ti t).desc = .bool) (a b : Bool) : (Op.equal t (.bool a) (.bool b)).run P w = .ok (a == b) w := by
  have F := L.get (t := t) (.inl (by rw [hd]; simp))
  have hu : P.underlying t = some .bool := by rw [F.under, hd]
  unfold Op.equal
  obtain ⟨d, hd'⟩ : ∃ d, Op.maxDepth = d + 1 := ⟨9999, rfl⟩
  rw [hd']
  simp only [Op.equalIn, Sem.run_bind, Go.run_underlying hu, Result.andThen_ok, Sem.run_pure]

theorem sliceEq_sound {C : Ctx} (L : LOk P C) {t e : TypeId} (hd : (C.ti t).desc = .slice e) (ad : Option Addr) (n cap : Nat) : (Op.equal t (.slice ad n cap) (.slice none 0 0)).run P w = .ok ad.isNone w := by
  have F := L.get (t := t) (.inl (by rw [hd]; simp))
  have hu : P.underlying t = some (.slice e) := by rw [F.under, hd]
  unfold Op.equal
  obtain ⟨d, hd'⟩ : ∃ d, Op.maxDepth = d + 1 := ⟨9999, rfl⟩
  rw [hd']
  cases ad with
  | none => simp only [Op.equalIn, Sem.run_bind, Go.run_underlying hu, Result.andThen_ok, Sem.run_pure, Option.isNone_none]
  | some a => simp only [Op.equalIn, Sem.run_bind, Go.run_underlying hu, Result.andThen_ok, Sem.run_pure]; rfl

theorem andNot_bits {n : Int} (h : 0 ≤ n ∧ n ≤ 4294967295) : (BitVec.ofInt 32 n &&& ~~~BitVec.ofInt 32 2147483648).toNat = n.toNat % 2147483648 := by
  obtain ⟨x, rfl⟩ : ∃ x : Nat, n = (x : Int) := ⟨n.toNat, by omega⟩
  rw [BitVec.toNat_and, BitVec.ofInt_natCast, BitVec.toNat_ofNat, Nat.mod_eq_of_lt (show x < 2 ^ 32 by omega), Int.toNat_natCast]
  exact Nat.and_two_pow_sub_one_eq_mod x 31
theorem nan_mod (x : Nat) : nan .f32 (x % 2147483648) = nan .f32 x := by
  unfold nan
  rw [show x % 2147483648 % signOf .f32 = x % signOf .f32 from Nat.mod_mod _ _]
theorem binV_sound {C : Ctx} (L : LOk P C) (op : BinOp) (t : TypeId) {x y : V} {a b : Value} (hx : VR g M x a) (hy : VR g M y b) (h : binV C op t x y K) (xo yo : Operand) :
    SemOk P g M w (do eqGuard op t xo yo a b; binOp op t a b) K := by
  unfold binV at h
  have guard : ∀ (s : Sem Value), (eqGuard op t xo yo a b).run P w = .ok () w → SemOk P g M w s K → SemOk P g M w (do eqGuard op t xo yo a b; s) K := by
    intro s this ⟨v, val, w', k1, k2, k3, k4⟩
    refine ⟨v, val, w', k1, k2, ?_, k4⟩
    simp only [Sem.run_bind, this, Result.andThen_ok, k3]
  cases hx <;> simp only at h <;> try exact h.elim
  · rename_i p
    cases hy <;> simp only at h <;> try exact h.elim
    rename_i q
    refine guard _ (by unfold eqGuard; cases op <;> rfl) ?_
    split at h
    · rename_i hd
      split at h
      · exact .pure h (.bool _) (by simp [binOp, boolEq_sound L hd])
      · refine .pure h (.bool _) ?_
        simp [binOp, boolEq_sound L hd, bne]
      · exact h.elim
    · exact h.elim
  · rename_i k p hp
    cases hy <;> simp only at h <;> try exact h.elim
    rename_i k' q hq
    refine guard _ (by unfold eqGuard; cases op <;> rfl) ?_
    cases hs : isShift op with
    | true => simp only [hs, cond_true] at h; exact shift_sound op t k k' p q hp h
    | false =>
      simp only [hs, cond_false] at h
      split at h
      · rename_i e; subst e; exact binInt_sound op t k p q hp hs h
      · exact h.elim
  · rename_i k p p' h1 h2
    cases hy <;> simp only at h <;> try exact h.elim
    rename_i k' q q' h3 h4
    refine guard _ (by unfold eqGuard; cases op <;> rfl) ?_
    split at h
    · rename_i e; subst e; subst h2; subst h4; exact binFloat_sound op t k p' q' h
    · exact h.elim
  · rename_i s l hl hl2
    cases hy <;> simp only at h <;> try exact h.elim
    rename_i s' l' hl' hl2'
    refine guard _ (by unfold eqGuard; cases op <;> rfl) ?_
    subst hl; subst hl'
    exact binStr_sound op t s s' h
  · rename_i xs cs hxs
    cases hy <;> simp only at h <;> try exact h.elim
    rename_i ys ds hys
    cases hok : (C.ti t).eqok with
    | false => simp only [hok, cond_false] at h
    | true =>
      simp only [hok, cond_true] at h
      split at h
      · exact h.elim
      · rename_i r hr
        have hF : (C.ti t).desc ≠ .invalid ∨ (C.ti t).size ≠ 0 := by
          refine .inl fun e => ?_
          simp only [eqV] at hr
          rw [e] at hr
          cases hr
        have hq := (L.get hF).eqok hok
        have he := eqV_sound (P := P) (w := w) L 8 10000 (by omega) t _ _ r hr (.agg _ _ hxs) (.agg _ _ hys) hF
        refine guard _ (run_eqGuard_agg w op t xo yo cs ds hq.1) ?_
        split at h
        · exact .pure h (.bool _) (by rw [run_eql_struct, he]; rfl)
        · exact .pure h (.bool _) (by rw [run_neq_struct, he]; rfl)
        · exact h.elim
  · rename_i ty xs b0 off n cap cs hm hn hc hv
    cases xs with
    | nil => exact h.elim
    | cons x0 xs =>
      simp only at h
      cases hy <;> simp only at h <;> try exact h.elim
      split at h
      · rename_i e hd
        refine guard _ (by unfold eqGuard; cases op <;> rfl) ?_
        split at h
        · exact .pure h (.bool _) (by simp [binOp, sliceEq_sound L hd])
        · exact .pure h (.bool _) (by simp [binOp, sliceEq_sound L hd])
        · exact h.elim
      · exact h.elim
  · rename_i b0 z0 ad cap hb0 hz0
    cases hy <;> simp only at h <;> try exact h.elim
    split at h
    · rename_i e hd
      refine guard _ (by unfold eqGuard; cases op <;> rfl) ?_
      subst hb0
      split at h
      · exact .pure h (.bool _) (by simp [binOp, sliceEq_sound L hd])
      · exact .pure h (.bool _) (by simp [binOp, sliceEq_sound L hd])
      · exact h.elim
    · exact h.elim
  · rename_i n hn1 hn2
    cases hy <;> (try simp only at h) <;> (try exact h.elim)
    rename_i k q hq
    cases k <;> (try simp only at h) <;> (try exact h.elim)
    cases op <;> (try simp only at h) <;> (try exact h.elim)
    cases hm : decide (q = 2147483648) with
    | false => simp only [hm, cond_false] at h
    | true =>
      simp only [hm, cond_true] at h
      have hq2 := of_decide_eq_true hm
      subst hq2
      refine guard _ (by unfold eqGuard; rfl) ?_
      obtain ⟨v, val, w', k1, k2, k3, k4⟩ := binInt_sound (K := fun v => v = .int .u32 (IntKind.u32.wrap (BitVec.ofInt 32 n &&& ~~~(BitVec.ofInt 32 2147483648)).toNat)) (P := P) (g := g) (M := M) (w := w) .andNot t .u32 n 2147483648 hn1 rfl rfl
      have hb := andNot_bits hn1
      have hw : IntKind.u32.wrap ((BitVec.ofInt 32 n &&& ~~~(BitVec.ofInt 32 2147483648)).toNat : Int) = ((n.toNat % 2147483648 : Nat) : Int) := by
        rw [hb, IntKind.wrap_u32]
        omega
      rw [hw] at k1
      subst k1
      cases k2
      refine ⟨.nanb, _, w', h, .nanb _ (by omega) ?_, k3, k4⟩
      rw [Int.toNat_natCast, nan_mod]
      exact hn2

theorem decode_inf {k : FloatKind} {b : Nat} {s : Bool} (h : k.format.read b = .infinity s) : b % signOf k = infOf k := by
  unfold Ieee.Format.read at h
  simp only [sign_eq, inf_eq] at h
  split at h
  · cases h
  · split at h
    · cases h
    · split at h
      · assumption
      · cases h

theorem encode_lt (k : FloatKind) (d : Ieee.Datum) : k.encode d < 2 * signOf k := by rw [← width_eq]; exact k.format.write_lt d

theorem f2i_sound (s : FloatKind) (b : Nat) (d : IntKind) {n : Int} (h : f2i s (canon s b) d = some n) : (Conv.floatToInt s b d).run P w = .ok (.int d n) w := by
  unfold f2i at h
  cases hn : nan s b with
  | true =>
    obtain ⟨x, y, e⟩ := read_nan (k := s) (b := canon s b) (by rw [nan_canon, hn])
    have : (s.decode (canon s b)).toInt .zero = none := by rw [show s.decode (canon s b) = _ from e]; rfl
    rw [this] at h
    cases h
  | false =>
    rw [canon_not hn] at h
    unfold Conv.floatToInt
    split at h
    · rename_i m hm
      split at h
      · rename_i hr
        cases h
        simp only [hm]
        rw [if_pos hr]
        rfl
      · cases h
    · cases h

theorem f2i_range {s : FloatKind} {b : Nat} {d : IntKind} {n : Int} (h : f2i s b d = some n) : d.min ≤ n ∧ n ≤ d.max := by
  unfold f2i at h
  split at h
  · split at h
    · rename_i hr; cases h; exact hr
    · cases h
  · cases h

theorem f2i_any (s : FloatKind) (b : Nat) (d : IntKind) : ∃ val w', (Conv.floatToInt s b d).run P w = .ok val w' ∧ Drawn w w' := by
  have hc : ∃ val w', (do Pure.pure (Value.int d (d.wrap (← choose (.floatToInt s b d)))) : Sem Value).run P w = .ok val w' ∧ Drawn w w' :=
    ⟨.int d (d.wrap (Question.cut (.floatToInt s b d) (w.tape w.drawn (.floatToInt s b d)))), { w with drawn := w.drawn + 1 }, rfl, Drawn.drew w⟩
  unfold Conv.floatToInt
  split
  · split
    · exact ⟨_, _, rfl, Drawn.refl w⟩
    · exact hc
  · exact hc

theorem floatToFloat_nan (s d : FloatKind) (b : Nat) (hsd : s ≠ d) (hn : nan s b = true) :
    ∃ r w', (Conv.floatToFloat s b d).run P w = .ok (.float d r) w' ∧ Drawn w w' ∧ nan d r = true ∧ r < 2 * signOf d := by
  obtain ⟨x, y, e⟩ := read_nan hn
  obtain ⟨r, w', h1, h2, h3, h4⟩ := choose_nan (P := P) d (.nanConv d b) (.inr ⟨b, rfl⟩) w
  refine ⟨r, w', ?_, h2, h3, h4⟩
  unfold Conv.floatToFloat
  rw [if_neg hsd]
  simp only [show s.decode b = _ from e, Sem.run_bind, h1, Result.andThen_ok]
  rfl

theorem nan_encode {d : FloatKind} {x : Ieee.Datum} (h : plainD x = true) : nan d (d.encode x) = false := nan_write h
theorem not_nan_plain {s : FloatKind} {b : Nat} (h : nan s b = false) : plainD (s.decode b) = true := by
  have := read_not_nan h
  cases e : s.decode b with
  | nan x y => exact absurd e (this x y)
  | _ => rfl

theorem cut_zero (neg : Bool) (n : Nat) : Ieee.Toward.even.cut neg n 0 = n := by
  unfold Ieee.Toward.cut
  simp [Nat.mod_one]

theorem read_f32 {b : Nat} {s : Bool} {m : Nat} {e : Int} (h : FloatKind.f32.decode b = .number s m e) : m < 16777216 ∧ -149 ≤ e ∧ e ≤ 104 := by
  unfold FloatKind.decode FloatKind.format Ieee.Format.read at h
  have e1 : Ieee.single.signWeight = 2147483648 := rfl
  have e2 : Ieee.single.binade = 8388608 := rfl
  have e3 : Ieee.single.infRung = 2139095040 := rfl
  have e4 : Ieee.single.leastPlace = -149 := by decide
  simp only [e1, e2, e3, e4] at h
  split at h
  · cases h; omega
  · split at h
    · cases h; omega
    · split at h <;> cases h

theorem log2_lt {m n : Nat} (h : m < 2 ^ n) (hm : m ≠ 0) : m.log2 < n := (Nat.log2_lt hm).2 h

theorem shift_lt {m : Nat} (hm : m ≠ 0) (s : Nat) (h : m.log2 + s = 52) : m <<< s < 9007199254740992 := by
  rw [Nat.shiftLeft_eq]
  have h1 : m < 2 ^ (m.log2 + 1) := Nat.lt_log2_self
  have h2 : m * 2 ^ s < 2 ^ (m.log2 + 1) * 2 ^ s := Nat.mul_lt_mul_of_pos_right h1 (Nat.two_pow_pos s)
  rw [← Nat.pow_add, show m.log2 + 1 + s = 53 by omega] at h2
  exact h2

theorem widen_fits {b : Nat} {s : Bool} {m : Nat} {e : Int} (h : FloatKind.f32.decode b = .number s m e) : (FloatKind.f64.decode (FloatKind.f64.encode (.number s m e))).isInfinity = false := by
  obtain ⟨h1, h2, h3⟩ := read_f32 h
  have hlt : ∃ r, FloatKind.f64.encode (.number s m e) = Ieee.double.word s r ∧ r < 9218868437227405312 := by
    unfold FloatKind.encode FloatKind.format Ieee.Format.write Ieee.Format.nearest
    simp only
    by_cases hm : m = 0
    · exact ⟨0, by rw [if_pos hm], by omega⟩
    · rw [if_neg hm]
      refine ⟨_, rfl, ?_⟩
      have e2 : Ieee.double.binade = 4503599627370496 := rfl
      have e3 : Ieee.double.infRung = 9218868437227405312 := rfl
      have e4 : Ieee.double.leastPlace = -1074 := by decide
      have e5 : Ieee.double.fractionBits = 52 := rfl
      have hl : m.log2 < 24 := log2_lt (n := 24) h1 hm
      rw [e2, e3, e4, e5]
      have hmax : max (e + (m.log2 : Int) - ((52 : Nat) : Int)) (-1074) = e + (m.log2 : Int) - 52 := by
        have : ((52 : Nat) : Int) = 52 := rfl
        omega
      rw [hmax]
      have hd : (e + (m.log2 : Int) - 52 - e).toNat = 0 := by omega
      rw [hd, cut_zero]
      have hs := shift_lt hm (e - (e + (m.log2 : Int) - 52)).toNat (by omega)
      have ht : (e + (m.log2 : Int) - 52 - -1074).toNat ≤ 1149 := by omega
      refine Nat.lt_of_le_of_lt (Nat.min_le_left _ _) ?_
      have := Nat.mul_le_mul_right 4503599627370496 ht
      omega
  obtain ⟨r, hr, hlt⟩ := hlt
  rw [hr]
  cases hi : FloatKind.f64.decode (Ieee.double.word s r) with
  | infinity s' =>
    have := decode_inf (k := .f64) hi
    simp only [signOf, infOf] at this
    unfold Ieee.Format.word at this
    have e1 : Ieee.double.signWeight = 9223372036854775808 := rfl
    rw [e1] at this
    split at this <;> omega
  | number _ _ _ => rfl
  | nan _ _ => rfl

theorem convV_sound {C : Ctx} (L : LOk P C) (src dst : TypeId) {x : V} {c : Value} (hx : VR g M x c) (h : convV C src dst x K) : SemOk P g M w (convert src dst c) K := by
  unfold convV at h
  cases hz : Nat.beq (C.ti src).size 0 with
  | true => simp [hz] at h
  | false =>
    simp only [hz, cond_false] at h
    have Fs := L.get (t := src) (.inr (fun e => by rw [e] at hz; cases hz))
    have hus := Fs.under
    generalize (C.ti src).desc = u at hus h
    cases hx <;> simp only at h <;> try exact h.elim
    · rename_i k n hkn
      have Fd : ∀ d, (C.ti dst).desc = d → d ≠ .invalid → P.underlying dst = some d := fun d e ne => by rw [← e]; exact (L.get (t := dst) (.inl (by rw [e]; exact ne))).under
      split at h
      · rename_i k' hd
        refine .pure h (.int _ _ (wrap_range _ _)) ?_
        cases u <;> simp [convert, Go.run_underlying hus, Go.run_underlying (Fd _ hd (by simp)), Conv.intToInt]
      · rename_i k' hd
        refine .pure (val := .float k' (k'.nearest n)) h (.float _ _ _ (encode_lt k' (.number (n < 0) n.natAbs 0)) ?_) ?_
        · exact (canon_not (nan_encode (x := .number (n < 0) n.natAbs 0) rfl)).symm
        · cases u <;> simp [convert, Go.run_underlying hus, Go.run_underlying (Fd _ hd (by simp)), Conv.intToFloat]
      · exact h.elim
    · rename_i k b b' hb hb'
      subst hb'
      have Fd : ∀ d, (C.ti dst).desc = d → d ≠ .invalid → P.underlying dst = some d := fun d e ne => by rw [← e]; exact (L.get (t := dst) (.inl (by rw [e]; exact ne))).under
      split at h
      · rename_i k' hd
        have hrun : ∀ w, (convert src dst (.float k b')).run P w = (Conv.floatToInt k b' k').run P w := by
          intro w
          cases u <;> simp [convert, Go.run_underlying hus, Go.run_underlying (Fd _ hd (by simp))]
        split at h
        · rename_i n hn
          exact .pure h (.int _ _ (f2i_range hn)) (by rw [hrun]; exact f2i_sound k b' k' hn)
        · obtain ⟨val, w', h1, h2⟩ := f2i_any (P := P) (w := w) k b' k'
          exact ⟨.undef, val, w', h, .undef _, by rw [hrun]; exact h1, h2⟩
      · rename_i hd
        have hrun : ∀ w, (convert src dst (.float k b')).run P w = (Conv.floatToFloat k b' .f64).run P w := by
          intro w
          cases u <;> simp [convert, Go.run_underlying hus, Go.run_underlying (Fd _ hd (by simp))]
        cases k with
        | f64 =>
          simp only at h
          exact .pure h (.float _ _ b' hb rfl) (by rw [hrun]; rfl)
        | f32 =>
          simp only at h
          cases hn : nan .f32 b' with
          | true =>
            obtain ⟨r, w', h1, h2, h3, h4⟩ := floatToFloat_nan (P := P) (w := w) .f32 .f64 b' (by simp) hn
            have : widen (canon .f32 b') = canon .f64 r := by
              unfold widen
              rw [nan_canon, hn, canon_nan h3]; rfl
            exact ⟨_, _, w', h, .float _ _ r h4 this, by rw [hrun]; exact h1, h2⟩
          | false =>
            have hw : widen (canon .f32 b') = canon .f64 (FloatKind.f64.encode (FloatKind.f32.decode b')) := by
              unfold widen
              rw [nan_canon, hn, canon_not hn, canon_not (nan_encode (not_nan_plain hn))]; rfl
            refine .pure h (.float _ _ _ (encode_lt _ _) hw) ?_
            rw [hrun]
            unfold Conv.floatToFloat
            rw [if_neg (by simp)]
            have hp := not_nan_plain hn
            split
            · rename_i e; rw [e] at hp; cases hp
            · rename_i e; rw [e]; rfl
            · rename_i sg m ex e
              rw [e]
              simp only [widen_fits e, Bool.false_eq_true, if_false]
              rfl
      · rename_i hd
        have hrun : ∀ w, (convert src dst (.float k b')).run P w = (Conv.floatToFloat k b' .f32).run P w := by
          intro w
          cases u <;> simp [convert, Go.run_underlying hus, Go.run_underlying (Fd _ hd (by simp))]
        cases k with
        | f32 =>
          simp only at h
          exact .pure h (.float _ _ b' hb rfl) (by rw [hrun]; rfl)
        | f64 =>
          simp only at h
          cases hn : nan .f64 b' with
          | true =>
            obtain ⟨r, w', h1, h2, h3, h4⟩ := floatToFloat_nan (P := P) (w := w) .f64 .f32 b' (by simp) hn
            have : narrow (canon .f64 b') = canon .f32 r := by
              unfold narrow
              rw [nan_canon, hn, canon_nan h3]; rfl
            cases ho : ovf (canon .f64 b') with
            | true =>
              rw [ho] at h
              exact ⟨_, _, w', h, .undef _, by rw [hrun]; exact h1, h2⟩
            | false =>
              rw [ho] at h
              exact ⟨_, _, w', h, .float _ _ r h4 this, by rw [hrun]; exact h1, h2⟩
          | false =>
            rw [canon_not hn] at h
            have hp := not_nan_plain hn
            have hnw : narrow b' = canon .f32 (FloatKind.f32.encode (FloatKind.f64.decode b')) := by
              unfold narrow
              rw [hn, canon_not (nan_encode (not_nan_plain hn))]; rfl
            cases e : FloatKind.f64.decode b' with
            | nan x y => rw [e] at hp; cases hp
            | infinity s =>
              have ho : ovf b' = false := by unfold ovf; rw [e]
              rw [ho] at h
              refine .pure h (.float _ _ _ (encode_lt _ _) hnw) ?_
              rw [hrun]
              unfold Conv.floatToFloat
              rw [if_neg (by simp), e]
              rfl
            | number s m ex =>
              have ho : ovf b' = (FloatKind.f32.decode (FloatKind.f32.encode (.number s m ex))).isInfinity := by unfold ovf; rw [e]
              cases ho' : ovf b' with
              | true =>
                rw [ho'] at h
                refine ⟨.undef, .float .f32 (Question.cut (.floatToFloat b') (w.tape w.drawn (.floatToFloat b'))), { w with drawn := w.drawn + 1 }, h, .undef _, ?_, Drawn.drew w⟩
                rw [hrun]
                unfold Conv.floatToFloat
                rw [if_neg (by simp), e]
                simp only [← ho, ho', if_true]
                rfl
              | false =>
                rw [ho'] at h
                refine .pure h (.float _ _ _ (encode_lt _ _) hnw) ?_
                rw [hrun]
                unfold Conv.floatToFloat
                rw [if_neg (by simp), e]
                simp only [← ho, ho', Bool.false_eq_true, if_false]
                rfl
      · exact h.elim
    · rename_i s l hl hl2
      split at h
      · rename_i hu
        split at h
        · rename_i hd
          have Fd := (L.get (t := dst) (.inl (by rw [hd]; simp))).under
          rw [hd] at Fd
          refine .pure h (.str s _ hl hl2) ?_
          simp [convert, Go.run_underlying hus, Go.run_underlying Fd]
        · exact h.elim
      · exact h.elim

end
end Go.Ev

