/- The abstract evaluator: values, boxes, the walk of the model's code as a proposition. Definitions alone; the proof that it is sound stands in YthakgbecpkfeoaaEvB. -/
import Derived.Test.YthakgbecpkfeoaaProg
import Derived.Calls
import Derived.Orders
import Derived.ArgAppend
import Derived.Maps.AppendAt
import Derived.Laws.CopyOwn
import Derived.Below
import Derived.KernelRfl
set_option linter.unusedVariables false
namespace Go.Proofs.Ythakgbecpkfeoaa.Ev

/-- An access. -/
structure Acc where
  kind : Int
  cell : Int
  old : Int
  new : Int
  bytes : ByteArray

/-- A result. -/
structure Res where
  val : Int
  ok : Bool
  deriving DecidableEq

/-- What a slice may hold. -/
inductive ET where
  | i64 | u8 | bl | acc | res | i3 | i2
  deriving DecidableEq

@[reducible] def ET.T : ET → Type
  | .i64 => Int
  | .u8 => Int
  | .bl => Bool
  | .acc => Acc
  | .res => Res
  | .i3 => Int × Int × Int
  | .i2 => Int × Int

/-- One cell of an element. -/
inductive CV where
  | int (k : IntKind) (n : Int)
  | bool (b : Bool)
  | str (s : ByteArray)

def CV.v : CV → Value
  | .int k n => .int k n
  | .bool b => .bool b
  | .str s => .string s

def ET.enc : (τ : ET) → τ.T → List CV
  | .i64, n => [.int .i64 n]
  | .u8, n => [.int .u8 n]
  | .bl, b => [.bool b]
  | .acc, a => [.int .i64 (Acc.kind a), .int .i64 (Acc.cell a), .int .i64 (Acc.old a), .int .i64 (Acc.new a), .str (Acc.bytes a)]
  | .res, r => [.int .i64 (Res.val r), .bool (Res.ok r)]
  | .i3, (a, b, c) => [.int .i64 a, .int .i64 b, .int .i64 c]
  | .i2, (a, b) => [.int .i64 a, .int .i64 b]

def ET.size : ET → Nat
  | .i64 => 1 | .u8 => 1 | .bl => 1 | .acc => 5 | .res => 2 | .i3 => 3 | .i2 => 2

def ET.dflt : (τ : ET) → τ.T
  | .i64 => (0 : Int)
  | .u8 => (0 : Int)
  | .bl => false
  | .acc => (⟨0, 0, 0, 0, ⟨#[]⟩⟩ : Acc)
  | .res => (⟨0, false⟩ : Res)
  | .i3 => (0, 0, 0)
  | .i2 => (0, 0)

/-- The type's number in this program, and its bytes. -/
def ET.tid : ET → Nat
  | .i64 => 3 | .u8 => 5 | .bl => 4 | .acc => 51 | .res => 53 | .i3 => 160 | .i2 => 162
def ET.bytes : ET → Nat
  | .i64 => 8 | .u8 => 1 | .bl => 1 | .acc => 48 | .res => 16 | .i3 => 24 | .i2 => 16

/-- Abstract values. -/
inductive AV where
  | int (k : IntKind) (n : Int)
  | bool (b : Bool)
  | str (s : ByteArray)
  | ptr (o off : Nat)
  | ep (cs : List CV)
  | oep (o i : Nat)
  | sl (τ : ET) (xs : List τ.T)
  | lit (τ : ET) (xs : List τ.T)
  | own (o : Nat)
  | nil
  | fn (f : Nat)
  | clo (f : Nat) (caps : List AV)
  | agg (l : List AV)
  | tup (l : List AV)
  | ifc (t : Nat) (v : AV)
  | opq (v : Value)
  | skp
  | undef

/-- Abstract objects. -/
inductive AO where
  | box (cs : List AV)
  | arr (τ : ET) (xs : List τ.T)

abbrev Hp := List (Nat × AO)

def CV.av : CV → AV
  | .int k n => .int k n
  | .bool b => .bool b
  | .str s => .str s

/-- Brings a value to its constructor. -/
def AV.f (v : AV) (k : AV → Prop) : Prop :=
  match v with
  | .int a n => k (.int a n)
  | .bool b => k (.bool b)
  | .str s => k (.str s)
  | .ptr o off => k (.ptr o off)
  | .ep cs => k (.ep cs)
  | .oep o i => k (.oep o i)
  | .sl τ xs => k (.sl τ xs)
  | .lit τ xs => k (.lit τ xs)
  | .own o => k (.own o)
  | .nil => k .nil
  | .fn g => k (.fn g)
  | .clo g caps => k (.clo g caps)
  | .agg l => k (.agg l)
  | .tup l => k (.tup l)
  | .ifc t v => k (.ifc t v)
  | .opq v => k (.opq v)
  | .skp => k .skp
  | .undef => k .undef

theorem AV.f_eq (v : AV) (k : AV → Prop) : v.f k = k v := by cases v <;> rfl

def getV : List AV → Nat → AV
  | [], _ => .undef
  | x :: _, 0 => x
  | _ :: l, n + 1 => getV l n

def nthA : List AV → Nat → (AV → Prop) → Prop
  | [], _, _ => False
  | x :: _, 0, k => x.f k
  | _ :: l, n + 1, k => nthA l n k

def setF : List AV → Nat → AV → (List AV → Prop) → Prop
  | [], _, _, k => k []
  | _ :: l, 0, v, k => k (v :: l)
  | x :: l, n + 1, v, k => setF l n v fun l' => k (x :: l')

def putF (tm : List AV) (d : Nat) (v : AV) (k : List AV → Prop) : Prop := v.f fun v => setF tm d v k

def putD (tm : List AV) (d : Option Nat) (v : AV) (k : List AV → Prop) : Prop :=
  match d with
  | some d => putF tm d v k
  | none => k tm

def takeF : List AV → Nat → (List AV → Prop) → Prop
  | _, 0, k => k []
  | [], _ + 1, _ => False
  | x :: l, n + 1, k => takeF l n fun l' => k (x :: l')

def dropF : List AV → Nat → (List AV → Prop) → Prop
  | l, 0, k => k l
  | [], _ + 1, _ => False
  | _ :: l, n + 1, k => dropF l n k

/-- The cells from 'off' on, written over. -/
def spliceF : List AV → Nat → List AV → (List AV → Prop) → Prop
  | l, 0, [], k => k l
  | [], 0, _ :: _, _ => False
  | _ :: l, 0, v :: vs, k => spliceF l 0 vs fun l' => k (v :: l')
  | [], _ + 1, _, _ => False
  | x :: l, n + 1, vs, k => spliceF l n vs fun l' => k (x :: l')

def takeC : List CV → Nat → (List AV → Prop) → Prop
  | _, 0, k => k []
  | [], _ + 1, _ => False
  | x :: l, n + 1, k => x.av.f fun v => takeC l n fun l' => k (v :: l')

def dropC : List CV → Nat → (List CV → Prop) → Prop
  | l, 0, k => k l
  | [], _ + 1, _ => False
  | _ :: l, n + 1, k => dropC l n k

def hget : Hp → Nat → (AO → Prop) → Prop
  | [], _, _ => False
  | (o, x) :: h, n, k => match Nat.beq o n with
    | true => k x
    | false => hget h n k

def hlive : Hp → Nat → Bool
  | [], _ => false
  | (o, _) :: h, n => match Nat.beq o n with
    | true => true
    | false => hlive h n

/-- Replaces the object, or lays it behind the others. -/
def hputF : Hp → Nat → AO → (Hp → Prop) → Prop
  | [], n, x, k => k [(n, x)]
  | (o, y) :: h, n, x, k => match Nat.beq o n with
    | true => k ((n, x) :: h)
    | false => hputF h n x fun h' => k ((o, y) :: h')

def hdelF : Hp → Nat → (Hp → Prop) → Prop
  | [], _, k => k []
  | (o, y) :: h, n, k => match Nat.beq o n with
    | true => k h
    | false => hdelF h n fun h' => k ((o, y) :: h')

mutual
def AV.kill (o : Nat) : AV → AV
  | .ptr p off => match Nat.beq p o with | true => .undef | false => .ptr p off
  | .oep p i => match Nat.beq p o with | true => .undef | false => .oep p i
  | .own p => match Nat.beq p o with | true => .undef | false => .own p
  | .clo f caps => .clo f (AV.kills o caps)
  | .agg l => .agg (AV.kills o l)
  | .tup l => .tup (AV.kills o l)
  | .ifc t v => .ifc t (AV.kill o v)
  | v => v
def AV.kills (o : Nat) : List AV → List AV
  | [] => []
  | v :: l => v.kill o :: AV.kills o l
end

def killsF (o : Nat) : List AV → (List AV → Prop) → Prop
  | [], k => k []
  | v :: l, k => (v.kill o).f fun v' => killsF o l fun l' => k (v' :: l')

def killHpF (o : Nat) : Hp → (Hp → Prop) → Prop
  | [], k => k []
  | (n, .box cs) :: h, k => killsF o cs fun cs' => killHpF o h fun h' => k ((n, .box cs') :: h')
  | (n, .arr τ xs) :: h, k => killHpF o h fun h' => k ((n, .arr τ xs) :: h')

/-- Forgets an object and all that names it. -/
def dropObj (tm : List AV) (hp : Hp) (o : Nat) (k : List AV → Hp → Prop) : Prop :=
  match hlive hp o with
  | false => k tm hp
  | true => hdelF hp o fun hp => killsF o tm fun tm => killHpF o hp fun hp => k tm hp

/-- A new object under the number of the slot that names it. -/
def newObj (tm : List AV) (hp : Hp) (d : Nat) (x : AO) (v : AV) (k : List AV → Hp → Prop) : Prop :=
  match Nat.blt d 1000 with
  | true => dropObj tm hp d fun tm hp => hputF hp d x fun hp => setF tm d v fun tm => k tm hp
  | false => False

/-! ### The program's tables -/
inductive CK where
  | int (κ : IntKind)
  | bool
  | str

structure TI where
  agg : Bool
  size : Nat
  zero : List Value
  fields : List (Nat × Nat × Bool)
  elem : Option ET
  arr : Option (Nat × Nat × Bool)
  ik : Option IntKind
  eqk : List CK

def ETeq : ET → ET → Bool
  | .i64, .i64 | .u8, .u8 | .bl, .bl | .acc, .acc | .res, .res | .i3, .i3 | .i2, .i2 => true
  | _, _ => false
def TI.has (ti : TI) (τ : ET) : Bool := match ti.elem with
  | some σ => ETeq σ τ
  | none => false

def tiGet : List (Nat × TI) → Nat → (TI → Prop) → Prop
  | [], _, _ => False
  | (o, x) :: h, n, k => match Nat.beq o n with
    | true => k x
    | false => tiGet h n k

inductive Out where
  | ret (v : AV)
  | pan (v : AV)

inductive Spec where
  | pure (g : List AV → Option (Prop × AV))
  | full (g : List AV → List (List AV) → Option (Prop × Out × List (List AV)))

/-- A function's answer, where its condition holds. -/
def detS (g : List AV → List (List AV) → Option (Prop × Out × List (List AV))) (ws : List AV) (bs : List (List AV)) (Q : Out → List (List AV) → Prop) : Prop :=
  match g ws bs with
  | some (p, out, bs') => p ∧ Q out bs'
  | none => False

structure Env where
  tys : List (Nat × TI)
  sp : List (Nat × Spec)

def spGet : List (Nat × Spec) → Nat → (Spec → Prop) → Prop
  | [], _, _ => False
  | (o, x) :: h, n, k => match Nat.beq o n with
    | true => k x
    | false => spGet h n k

def constV : Value → AV
  | .int k n => .int k n
  | .bool b => .bool b
  | .string s => .str s
  | .slice none 0 0 => .nil
  | v => .opq v

def evalV (tm : List AV) : Operand → AV
  | .tmp t => getV tm t
  | .const v => constV v
  | .func f => .fn f
  | .global _ => .undef

def evs (tm : List AV) : List Operand → (List AV → Prop) → Prop
  | [], k => k []
  | x :: l, k => (evalV tm x).f fun v => evs tm l fun vs => k (v :: vs)

def constsF : List Value → (List AV → Prop) → Prop
  | [], k => k []
  | x :: l, k => (constV x).f fun v => constsF l fun vs => k (v :: vs)

/-! ### Operators -/
def kindEq : IntKind → IntKind → Bool
  | .i8, .i8 | .i16, .i16 | .i32, .i32 | .i64, .i64 | .u8, .u8 | .u16, .u16 | .u32, .u32 | .u64, .u64 => true
  | _, _ => false

def bitsV (op : BinOp) (k : IntKind) (x y : Int) : Int :=
  match op with
  | .and => k.wrap (BitVec.ofInt k.bits x &&& BitVec.ofInt k.bits y).toNat
  | _ => k.wrap (BitVec.ofInt k.bits x ||| BitVec.ofInt k.bits y).toNat

def shlV (k : IntKind) (x y : Int) : Int := k.wrap (x * 2 ^ min y.toNat k.bits)
def shrV (k : IntKind) (x y : Int) : Int := x.fdiv (2 ^ min y.toNat k.bits)

def intBin (op : BinOp) (κ : IntKind) (a b : Int) (k : AV → Prop) : Prop :=
  match op with
  | .add => k (.int κ (κ.wrap (a + b)))
  | .sub => k (.int κ (κ.wrap (a - b)))
  | .mul => k (.int κ (κ.wrap (a * b)))
  | .quo => b ≠ 0 ∧ k (.int κ (κ.wrap (a.tdiv b)))
  | .rem => b ≠ 0 ∧ k (.int κ (a.tmod b))
  | .and => k (.int κ (bitsV .and κ a b))
  | .or => k (.int κ (bitsV .or κ a b))
  | .eql => k (.bool (a == b))
  | .neq => k (.bool (a != b))
  | .lss => k (.bool (decide (a < b)))
  | .leq => k (.bool (decide (a ≤ b)))
  | .gtr => k (.bool (decide (a > b)))
  | .geq => k (.bool (decide (a ≥ b)))
  | _ => False

def eqC : AV → AV → Option Bool
  | .int _ a, .int _ b => some (a == b)
  | .bool a, .bool b => some (a == b)
  | .str a, .str b => some (a.toList == b.toList)
  | _, _ => none

/-- Two structs, cell by cell, in the order in which Go asks. -/
def eqCs : List AV → List AV → (Bool → Prop) → Prop
  | [], [], k => k true
  | x :: xs, y :: ys, k => match eqC x y with
    | some a => eqCs xs ys fun b => k (a && b)
    | none => False
  | _, _, _ => False

def fitsK : List CK → List AV → Bool
  | [], [] => true
  | .int κ :: ks, .int κ' _ :: l => match kindEq κ κ' with
    | true => fitsK ks l
    | false => false
  | .bool :: ks, .bool _ :: l => fitsK ks l
  | .str :: ks, .str _ :: l => fitsK ks l
  | _, _ => false

def binF (E : Env) (op : BinOp) (T : Nat) (x y : AV) (k : AV → Prop) : Prop :=
  match x, y with
  | .int κ a, .int κ' b => match op with
    | .shl => 0 ≤ b ∧ k (.int κ (shlV κ a b))
    | .shr => 0 ≤ b ∧ k (.int κ (shrV κ a b))
    | op => match kindEq κ κ' with
      | true => intBin op κ a b k
      | false => False
  | .bool a, .bool b => match op, Nat.beq T 4 with
    | .eql, true => k (.bool (a == b))
    | .neq, true => k (.bool (!(a == b)))
    | _, _ => False
  | .str a, .str b => match op with
    | .eql => k (.bool (a.toList == b.toList))
    | .neq => k (.bool (!(a.toList == b.toList)))
    | _ => False
  | .agg l, .agg m => tiGet E.tys T fun ti => match fitsK ti.eqk l, fitsK ti.eqk m, ti.eqk with
    | true, true, _ :: _ => match op with
      | .eql => eqCs l m fun b => k (.bool b)
      | .neq => eqCs l m fun b => k (.bool (!b))
      | _ => False
    | _, _, _ => False
  | _, _ => False

def nthF (l : List (Nat × Nat × Bool)) (i : Nat) (k : Nat × Nat × Bool → Prop) : Prop :=
  match l, i with
  | [], _ => False
  | x :: _, 0 => k x
  | _ :: l, i + 1 => nthF l i k

/-- What a value's cells are, and back. -/
def cellsF (v : AV) (k : List AV → Prop) : Prop :=
  match v with
  | .agg l => k l
  | .tup _ => False
  | .undef => False
  | .opq _ => False
  | v => k [v]
def shapeF (agg : Bool) (l : List AV) (k : AV → Prop) : Prop :=
  match agg with
  | true => k (.agg l)
  | false => match l with
    | [x] => x.f k
    | _ => False

/-- A slice's content, whatever form it has. -/
def listF (hp : Hp) (v : AV) (k : (τ : ET) → List τ.T → Prop) : Prop :=
  match v with
  | .sl τ xs => k τ xs
  | .lit τ xs => k τ xs
  | .own o => hget hp o fun
    | .arr τ xs => k τ xs
    | .box _ => False
  | _ => False

/- A literal's array, told as one that is read. -/
mutual
def AV.low : AV → AV
  | .lit τ xs => .sl τ xs
  | .agg l => .agg (AV.lows l)
  | .tup l => .tup (AV.lows l)
  | v => v
def AV.lows : List AV → List AV
  | [] => []
  | v :: l => v.low :: AV.lows l
end

/-- An array that is owned, told as one that is read. -/
def viewF (hp : Hp) (v : AV) (k : AV → Prop) : Prop :=
  match v with
  | .own o => hget hp o fun
    | .arr τ xs => k (.sl τ xs)
    | .box _ => False
  | v => v.low.f k
def viewsF (hp : Hp) : List AV → (List AV → Prop) → Prop
  | [], k => k []
  | v :: l, k => viewF hp v fun v' => viewsF hp l fun l' => k (v' :: l')

def isOwn : AV → Bool
  | .own _ => true
  | _ => false
def anyOwn : List AV → Bool
  | [] => false
  | v :: l => match isOwn v with
    | true => true
    | false => anyOwn l
/-- No slice, no pointer inside. -/
def plainA : AV → Bool
  | .int _ _ => true
  | .bool _ => true
  | .str _ => true
  | _ => false
def plainL : List AV → Bool
  | [] => true
  | v :: l => match plainA v with
    | true => plainL l
    | false => false
def plain1 : AV → Bool
  | .agg l => plainL l
  | v => plainA v
def plainM : List AV → Bool
  | [] => true
  | v :: l => match plain1 v with
    | true => plainM l
    | false => false
def plainV : AV → Bool
  | .tup l => plainM l
  | v => plain1 v

/-- One cell each. -/
def oneC : AV → Bool
  | .agg _ | .tup _ | .skp | .opq _ | .undef => false
  | _ => true
def ones : List AV → Bool
  | [] => true
  | v :: l => match oneC v with
    | true => ones l
    | false => false

/- No pointer, no owned array: what a box may hold beside plain values and slices. -/
mutual
def AV.calm : AV → Bool
  | .int _ _ | .bool _ | .str _ | .sl _ _ | .lit _ _ | .nil | .fn _ | .undef => true
  | .agg l => AV.calms l
  | .tup l => AV.calms l
  | .ifc _ v => v.calm
  | _ => false
def AV.calms : List AV → Bool
  | [] => true
  | v :: l => match v.calm with
    | true => AV.calms l
    | false => false
end

/- No object is named. -/
mutual
def AV.free : AV → Bool
  | .ptr _ _ | .oep _ _ | .own _ => false
  | .clo _ l => AV.frees l
  | .agg l => AV.frees l
  | .tup l => AV.frees l
  | .ifc _ v => v.free
  | _ => true
def AV.frees : List AV → Bool
  | [] => true
  | v :: l => match v.free with
    | true => AV.frees l
    | false => false
end

def decF (τ : ET) (l : List AV) (k : τ.T → Prop) : Prop :=
  match τ, l with
  | .i64, [.int .i64 n] => k n
  | .u8, [.int .u8 n] => k n
  | .bl, [.bool b] => k b
  | .acc, [.int .i64 a, .int .i64 b, .int .i64 c, .int .i64 d, .str s] => k (⟨a, b, c, d, s⟩ : Acc)
  | .res, [.int .i64 a, .bool b] => k (⟨a, b⟩ : Res)
  | _, _ => False

/-- The elements of a literal, in their order. -/
def elemsF (τ : ET) (tm : List AV) : Nat → List (Nat × Operand) → (List τ.T → Prop) → Prop
  | _, [], k => k []
  | i, (j, x) :: l, k => match Nat.beq i j with
    | true => cellsF (evalV tm x) fun cs => decF τ cs fun e => elemsF τ tm (i + 1) l fun es => k (e :: es)
    | false => False

def fillF (fs : List (Nat × Nat × Bool)) (tm : List AV) : List (Nat × Operand) → List AV → (List AV → Prop) → Prop
  | [], cs, k => k cs
  | (i, x) :: l, cs, k => nthF fs i fun f => (evalV tm x).f fun v => cellsF v fun vs => match Nat.beq vs.length f.2.1 with
    | true => spliceF cs f.1 vs fun cs' => fillF fs tm l cs' k
    | false => False

/-- Operations that change no object: what they give. -/
def pop (E : Env) (op : Op) (tm : List AV) (hp : Hp) (k : AV → Prop) : Prop :=
  match op with
  | .move x => (evalV tm x).f k
  | .assign x => match evalV tm x with
    | .own _ => False
    | .nil => False
    | v => v.f k
  | .pick c a b => match evalV tm c with
    | .bool t => match t with
      | true => (evalV tm a).f k
      | false => (evalV tm b).f k
    | _ => False
  | .binOp op T x y _ => (evalV tm x).f fun vx => (evalV tm y).f fun vy => binF E op T vx vy k
  | .unOp op _ x => match op, evalV tm x with
    | .not, .bool b => k (.bool (!b))
    | .neg, .int κ n => k (.int κ (κ.wrap (0 - n)))
    | _, _ => False
  | .convert _ d x => match evalV tm x with
    | .int _ n => tiGet E.tys d fun ti => match ti.ik with
      | some κ => k (.int κ (κ.wrap n))
      | none => False
    | _ => False
  | .extract x i => match evalV tm x with
    | .tup l => nthA l i k
    | _ => False
  | .fieldAddr T x i => match evalV tm x with
    | .ptr o off => tiGet E.tys T fun ti => nthF ti.fields i fun f => k (.ptr o (off + f.1))
    | .ep cs => tiGet E.tys T fun ti => nthF ti.fields i fun f => dropC cs f.1 fun cs => k (.ep cs)
    | _ => False
  | .field T x i => match evalV tm x with
    | .agg l => tiGet E.tys T fun ti => nthF ti.fields i fun f => dropF l f.1 fun l => takeF l f.2.1 fun l => shapeF f.2.2 l k
    | _ => False
  | .load T x => match evalV tm x with
    | .ptr o off => tiGet E.tys T fun ti => hget hp o fun
      | .box cs => dropF cs off fun l => takeF l ti.size fun l => shapeF ti.agg l k
      | .arr _ _ => False
    | .ep cs => tiGet E.tys T fun ti => takeC cs ti.size fun l => shapeF ti.agg l k
    | .oep o i => match Nat.beq T 3 with
      | true => hget hp o fun
        | .arr .i64 xs => i < xs.length ∧ k (.int .i64 (xs.getD i (0 : Int)))
        | _ => False
      | false => False
    | _ => False
  | .indexAddr T x i => match evalV tm i with
    | .int _ n => match evalV tm x with
      | .sl τ xs => tiGet E.tys T fun ti => match ti.has τ with
        | true => (0 ≤ n ∧ n < xs.length) ∧ k (.ep (τ.enc (xs.getD n.toNat τ.dflt)))
        | false => False
      | .lit τ xs => tiGet E.tys T fun ti => match ti.has τ with
        | true => (0 ≤ n ∧ n < xs.length) ∧ k (.ep (τ.enc (xs.getD n.toNat τ.dflt)))
        | false => False
      | .own o => tiGet E.tys T fun ti => hget hp o fun
        | .arr .i64 xs => match ti.has .i64 with
          | true => (0 ≤ n ∧ n < xs.length) ∧ k (.oep o n.toNat)
          | false => False
        | _ => False
      | .ptr o off => tiGet E.tys T fun ti => match ti.arr with
        | some (m, z, _) => (0 ≤ n ∧ n < (m : Int)) ∧ k (.ptr o (off + n.toNat * z))
        | none => False
      | _ => False
    | _ => False
  | .nilCheck x => match evalV tm x with
    | .ptr o off => k (.ptr o off)
    | .ep cs => k (.ep cs)
    | .fn g => k (.fn g)
    | .clo g caps => k (.clo g caps)
    | _ => False
  | .build T parts => tiGet E.tys T fun ti => match ti.fields with
    | [] => False
    | f :: fs => constsF ti.zero fun cs => fillF (f :: fs) tm parts.toList cs fun cs => k (.agg cs)
  | .slice T x lo hi mx => tiGet E.tys T fun ti => listF hp (evalV tm x) fun τ xs => match ti.has τ, mx with
      | false, _ => False
      | _, some _ => False
      | true, none =>
        match (match lo with | some l => evalV tm l | none => .int .i64 0), (match hi with | some h => evalV tm h | none => .int .i64 xs.length) with
        | .int _ a, .int _ b => match isOwn (evalV tm x) with
          | false => (0 ≤ a ∧ a ≤ b ∧ b ≤ xs.length) ∧ k (.sl τ ((xs.take b.toNat).drop a.toNat))
          | true => False
        | _, _ => False
  | .makeFunc fn first caps => match fn, first.toList with
    | .func g, [] => evs tm caps.toList fun vs => match anyOwn vs with
      | false => k (.clo g vs)
      | true => False
    | _, _ => False
  | .makeInterface T x => (evalV tm x).f fun v => match plain1 v with
    | true => k (.ifc T v)
    | false => False
  | .call c => match c.callee with
    | .builtin .len => match c.args.toList, c.argTypes.toList with
      | [x], [T] => match evalV tm x with
        | .nil => tiGet E.tys T fun ti => match ti.elem with
          | some _ => k (.int .i64 0)
          | none => False
        | v => tiGet E.tys T fun ti => listF hp v fun τ xs => match ti.has τ with
          | true => k (.int .i64 xs.length)
          | false => False
      | _, _ => False
    | .builtin .min => match c.args.toList with
      | [x, y] => match evalV tm x, evalV tm y with
        | .int .i64 a, .int .i64 b => k (.int .i64 (if b < a then b else a))
        | _, _ => False
      | _ => False
    | .builtin .max => match c.args.toList with
      | [x, y] => match evalV tm x, evalV tm y with
        | .int .i64 a, .int .i64 b => k (.int .i64 (if b > a then b else a))
        | _, _ => False
      | _ => False
    | .value f => match evalV tm f with
      | .fn g => spGet E.sp g fun
        | .pure h => evs tm c.args.toList fun vs => viewsF hp vs fun ws => match AV.calms ws with
          | false => False
          | true => match h ws with
            | some (p, r) => p ∧ r.f fun r => match r.calm, anyOwn vs, plainV r with
              | false, _, _ => False
              | true, true, false => False
              | true, _, _ => k r
            | none => False
        | .full _ => False
      | .clo g caps => spGet E.sp g fun
        | .pure h => evs tm c.args.toList fun vs => viewsF hp vs fun ws => match AV.calms (ws ++ caps) with
          | false => False
          | true => match h (ws ++ caps) with
            | some (p, r) => p ∧ r.f fun r => match r.calm, anyOwn vs, plainV r with
              | false, _, _ => False
              | true, true, false => False
              | true, _, _ => k r
            | none => False
        | .full _ => False
      | _ => False
    | _ => False
  | .buildSlice T n parts => tiGet E.tys T fun ti => match ti.elem with
    | some τ => match Nat.beq parts.toList.length n && Nat.ble n 100000 with
      | true => elemsF τ tm 0 parts.toList fun es => k (.lit τ es)
      | false => False
    | none => False
  | _ => False

/-! ### Operations that make or change objects -/
def castF : (τ' τ : ET) → List τ'.T → (List τ.T → Prop) → Prop
  | .i64, .i64, ys, k => k ys
  | .u8, .u8, ys, k => k ys
  | .bl, .bl, ys, k => k ys
  | .acc, .acc, ys, k => k ys
  | .res, .res, ys, k => k ys
  | .i3, .i3, ys, k => k ys
  | .i2, .i2, ys, k => k ys
  | _, _, _, _ => False

mutual
def AV.frz (o : Nat) (τ : ET) (xs : List τ.T) : AV → AV
  | .ptr p off => match Nat.beq p o with | true => .undef | false => .ptr p off
  | .oep p i => match Nat.beq p o with | true => .undef | false => .oep p i
  | .own p => match Nat.beq p o with | true => .sl τ xs | false => .own p
  | .clo f caps => .clo f (AV.frzs o τ xs caps)
  | .agg l => .agg (AV.frzs o τ xs l)
  | .tup l => .tup (AV.frzs o τ xs l)
  | .ifc t v => .ifc t (AV.frz o τ xs v)
  | v => v
def AV.frzs (o : Nat) (τ : ET) (xs : List τ.T) : List AV → List AV
  | [] => []
  | v :: l => v.frz o τ xs :: AV.frzs o τ xs l
end

def frzsF (o : Nat) (τ : ET) (xs : List τ.T) : List AV → (List AV → Prop) → Prop
  | [], k => k []
  | v :: l, k => (v.frz o τ xs).f fun v' => frzsF o τ xs l fun l' => k (v' :: l')

def frzHpF (o : Nat) (τ : ET) (xs : List τ.T) : Hp → (Hp → Prop) → Prop
  | [], k => k []
  | (n, .box cs) :: h, k => frzsF o τ xs cs fun cs' => frzHpF o τ xs h fun h' => k ((n, .box cs') :: h')
  | (n, .arr τ' ys) :: h, k => frzHpF o τ xs h fun h' => k ((n, .arr τ' ys) :: h')

/-- From now on the array is read alone. -/
def freezeF (tm : List AV) (hp : Hp) (o : Nat) (k : List AV → Hp → Prop) : Prop :=
  hget hp o fun
    | .arr τ xs => hdelF hp o fun hp => frzsF o τ xs tm fun tm => frzHpF o τ xs hp fun hp => k tm hp
    | .box _ => False

def freezesF : List AV → List AV → Hp → (List AV → Hp → Prop) → Prop
  | [], tm, hp, k => k tm hp
  | v :: l, tm, hp, k => match v with
    | .own o => match hlive hp o with
      | true => freezeF tm hp o fun tm hp => freezesF l tm hp k
      | false => freezesF l tm hp k
    | _ => freezesF l tm hp k

/-- The owned arrays that an operation stores away. -/
def kept (op : Op) (tm : List AV) (k : List AV → Prop) : Prop :=
  match op with
  | .build _ parts => evs tm (parts.toList.map (·.2)) k
  | .box _ x => evs tm [x] k
  | .store _ _ x => evs tm [x] k
  | .makeFunc _ _ caps => evs tm caps.toList k
  | .slice _ x _ _ _ => evs tm [x] k
  | _ => k []

/-- The objects that arguments name, in their order; the arguments as the callee sees them (object i is 1000 + i). -/
def idxOf : List Nat → Nat → Nat → Nat
  | [], _, i => i
  | p :: l, o, i => match Nat.beq p o with
    | true => i
    | false => idxOf l o (i + 1)
def addId (ids : List Nat) (o : Nat) : List Nat := match Nat.blt (idxOf ids o 0) ids.length with | true => ids | false => ids ++ [o]

mutual
def AV.ids : AV → List Nat → List Nat
  | .ptr o _, l => addId l o
  | .clo _ caps, l => AV.idss caps l
  | _, l => l
def AV.idss : List AV → List Nat → List Nat
  | [], l => l
  | v :: vs, l => AV.idss vs (v.ids l)
end
mutual
def AV.ren (ids : List Nat) : AV → AV
  | .ptr o off => .ptr (1000 + idxOf ids o 0) off
  | .clo f caps => .clo f (AV.rens ids caps)
  | v => v
def AV.rens (ids : List Nat) : List AV → List AV
  | [] => []
  | v :: l => v.ren ids :: AV.rens ids l
end
/- Does the callee see all that the value names? -/
mutual
def AV.renok (ids : List Nat) : AV → Bool
  | .ptr o _ => Nat.blt (idxOf ids o 0) ids.length
  | .clo _ caps => AV.renoks ids caps
  | v => v.free
def AV.renoks (ids : List Nat) : List AV → Bool
  | [] => true
  | v :: l => match v.renok ids with
    | true => AV.renoks ids l
    | false => false
end
def notIn : List Nat → Nat → Bool
  | [], _ => true
  | x :: l, n => match Nat.beq x n with
    | true => false
    | false => notIn l n
def nodupB : List Nat → Bool
  | [] => true
  | x :: l => match notIn l x with
    | true => nodupB l
    | false => false
def rensF (ids : List Nat) : List AV → (List AV → Prop) → Prop
  | [], k => k []
  | v :: l, k => (v.ren ids).f fun v' => rensF ids l fun l' => k (v' :: l')

def boxesF (hp : Hp) : List Nat → (List (List AV) → Prop) → Prop
  | [], k => k []
  | o :: l, k => hget hp o fun
    | .box cs => match AV.frees cs with
      | true => boxesF hp l fun bs => k (cs :: bs)
      | false => False
    | .arr _ _ => False
def unboxF : List Nat → List (List AV) → Hp → (Hp → Prop) → Prop
  | [], [], hp, k => k hp
  | o :: l, cs :: bs, hp, k => match AV.frees cs with
    | true => hputF hp o (.box cs) fun hp => unboxF l bs hp k
    | false => False
  | _, _, _, _ => False


def callP (E : Env) (h : List AV → Option (Prop × AV)) (vs caps : List AV) (tm : List AV) (hp : Hp) (dst : Option Nat) (k : List AV → Hp → Prop) : Prop :=
  viewsF hp vs fun ws => match AV.calms (ws ++ caps) with
    | false => False
    | true => match h (ws ++ caps) with
      | some (p, r) => p ∧ r.f fun r => match r.calm, anyOwn vs, plainV r with
        | false, _, _ => False
        | true, true, false => freezesF vs tm hp fun tm hp => putD tm dst r fun tm => k tm hp
        | true, _, _ => putD tm dst r fun tm => k tm hp
      | none => False

def callS (E : Env) (s : List AV → List (List AV) → (Out → List (List AV) → Prop) → Prop) (vs : List AV) (tm : List AV) (hp : Hp) (dst : Option Nat)
    (kp : AV → List AV → Hp → Prop) (k : List AV → Hp → Prop) : Prop :=
  viewsF hp vs fun ws => boxesF hp (AV.idss ws []) fun bs => rensF (AV.idss ws []) ws fun ws' => match anyOwn vs, AV.renoks (AV.idss ws []) ws && nodupB (AV.idss ws []) with
    | true, _ => False
    | false, false => False
    | false, true => s ws' bs fun out bs' => match out with
      | .ret r => r.f fun r => match r.calm with
        | true => unboxF (AV.idss ws []) bs' hp fun hp => putD tm dst r fun tm => k tm hp
        | false => False
      | .pan v => v.f fun v => match v.calm with
        | true => unboxF (AV.idss ws []) bs' hp fun hp => kp v tm hp
        | false => False

def callF (E : Env) (g : Nat) (vs caps : List AV) (tm : List AV) (hp : Hp) (dst : Option Nat) (kp : AV → List AV → Hp → Prop) (k : List AV → Hp → Prop) : Prop :=
  spGet E.sp g fun
    | .pure h => callP E h vs caps tm hp dst k
    | .full g => callS E (detS g) (vs ++ caps) tm hp dst kp k

/-- One operation, once what it stores away is frozen. -/
def step1 (E : Env) (o : Oper) (tm : List AV) (hp : Hp) (kp : AV → List AV → Hp → Prop) (k : List AV → Hp → Prop) : Prop :=
  match o.op with
  | .alloc T => match o.dst with
    | some d => tiGet E.tys T fun ti => constsF ti.zero fun cs => match AV.frees cs with
      | true => newObj tm hp d (.box cs) (.ptr d 0) k
      | false => False
    | none => False
  | .box T x => match o.dst with
    | some d => tiGet E.tys T fun ti => (evalV tm x).f fun v => cellsF v fun cs => match AV.frees cs, Nat.beq cs.length ti.size with
      | true, true => newObj tm hp d (.box cs) (.ptr d 0) k
      | _, _ => False
    | none => False
  | .store T a x => match evalV tm a with
    | .ptr p off => tiGet E.tys T fun ti => (evalV tm x).f fun v => cellsF v fun vs => match anyOwn vs, Nat.beq vs.length ti.size && ones vs with
      | false, true => hget hp p fun
        | .box cs => spliceF cs off vs fun cs' => hputF hp p (.box cs') fun hp => putD tm o.dst .skp fun tm => k tm hp
        | .arr _ _ => False
      | _, _ => False
    | .oep p i => match Nat.beq T 3 with
      | true => match evalV tm x with
        | .int .i64 n => hget hp p fun
          | .arr .i64 xs => i < xs.length ∧ hputF hp p (.arr .i64 (xs.set i n)) fun hp => putD tm o.dst .skp fun tm => k tm hp
          | _ => False
        | _ => False
      | false => False
    | _ => False
  | .makeSlice T l c => match o.dst with
    | some d => match evalV tm l, evalV tm c with
      | .int .i64 n, .int .i64 m => tiGet E.tys T fun ti => match ti.has .i64 with
        | true => (n = m ∧ 0 ≤ n ∧ n ≤ 17592186044416) ∧ newObj tm hp d (.arr .i64 (List.replicate n.toNat (0 : Int))) (.own d) k
        | false => False
      | _, _ => False
    | none => False
  | .assign x => match evalV tm x with
    | .own p => match o.dst with
      | some d => match Nat.beq p d with
        | true => setF tm d (.own d) fun tm => k tm hp
        | false => match Nat.blt d 1000 with
          | true => dropObj tm hp d fun tm hp => hget hp p fun
            | .arr τ xs => dropObj tm hp p fun tm hp => hputF hp d (.arr τ xs) fun hp => setF tm d (.own d) fun tm => k tm hp
            | .box _ => False
          | false => False
      | none => False
    | .nil => match o.dst with
      | some d => tiGet E.tys o.type fun ti => match ti.elem with
        | some τ => newObj tm hp d (.arr τ []) (.own d) k
        | none => False
      | none => False
    | v => v.f fun v => putD tm o.dst v fun tm => k tm hp
  | .panic x => match evalV tm x with
    | .ifc t v => match v.calm with
      | true => kp (.ifc t v) tm hp
      | false => False
    | _ => False
  | .call c => match c.callee with
    | .builtin .append => match c.args.toList, c.argTypes.toList, o.dst with
      | [s, x], [T, T'], some d => match Nat.beq T T' with
        | true => tiGet E.tys T fun ti => match ti.elem with
          | some τ => listF hp (evalV tm x) fun τ' ys => castF τ' τ ys fun ys => match evalV tm s with
            | .own p => hget hp p fun
              | .arr τ'' xs => castF τ'' τ xs fun xs => (xs.length + ys.length) * τ.bytes ≤ 140737488355328 ∧
                  dropObj tm hp p fun tm hp => newObj tm hp d (.arr τ (xs ++ ys)) (.own d) k
              | .box _ => False
            | .lit τ'' xs => castF τ'' τ xs fun xs => (xs = [] ∨ ys ≠ []) ∧ (xs.length + ys.length) * τ.bytes ≤ 140737488355328 ∧ newObj tm hp d (.arr τ (xs ++ ys)) (.own d) k
            | _ => False
          | none => False
        | false => False
      | _, _, _ => False
    | .builtin .copy => match c.args.toList, c.argTypes.toList with
      | [s, x], [T, T'] => tiGet E.tys T fun ti => match ti.has .i64, evalV tm s with
        | true, .own p => hget hp p fun
          | .arr .i64 xs => listF hp (evalV tm x) fun τ' ys => castF τ' .i64 ys fun ys => (xs ≠ [] ∧ ys ≠ []) ∧
              hputF hp p (.arr .i64 (ys.take xs.length ++ xs.drop ys.length)) fun hp => putD tm o.dst (.int .i64 (min ys.length xs.length : Nat)) fun tm => k tm hp
          | _ => False
        | _, _ => False
      | _, _ => False
    | .value f => match evalV tm f with
      | .fn g => evs tm c.args.toList fun vs => callF E g vs [] tm hp o.dst kp k
      | .clo g caps => evs tm c.args.toList fun vs => callF E g vs caps tm hp o.dst kp k
      | _ => False
    | _ => pop E o.op tm hp fun v => putD tm o.dst v fun tm => k tm hp
  | op => pop E op tm hp fun v => putD tm o.dst v fun tm => k tm hp

def step (E : Env) (o : Oper) (tm : List AV) (hp : Hp) (kp : AV → List AV → Hp → Prop) (k : List AV → Hp → Prop) : Prop :=
  kept o.op tm fun vs => match anyOwn vs with
    | true => freezesF vs tm hp fun tm hp => step1 E o tm hp kp k
    | false => step1 E o tm hp kp k

/-! ### Regions -/
def dstOf : List Oper → Nat → Option Nat
  | [], _ => none
  | o :: _, 0 => o.dst
  | _ :: l, n + 1 => dstOf l n

/-- Is an operation performed? Its guard is decided, and told so. -/
def guardF (all : List Oper) (o : Oper) (tm : List AV) (yes no : List AV → Prop) : Prop :=
  match o.guard with
  | none => yes tm
  | some (j, want) => match dstOf all j with
    | none => False
    | some d => match getV tm d with
      | .bool b => match b with
        | true => setF tm d (.bool true) fun tm => match want with
          | true => yes tm
          | false => no tm
        | false => setF tm d (.bool false) fun tm => match want with
          | true => no tm
          | false => yes tm
      | .skp => no tm
      | _ => False

def evOps (E : Env) (all : List Oper) : List Oper → List AV → Hp → (AV → List AV → Hp → Prop) → (List AV → Hp → Prop) → Prop
  | [], tm, hp, _, k => k tm hp
  | o :: l, tm, hp, kp, k => guardF all o tm
      (fun tm => step E o tm hp kp fun tm hp => evOps E all l tm hp kp k)
      (fun tm => putD tm o.dst .skp fun tm => evOps E all l tm hp kp k)

/-- Operations that change nothing, in the order of the text. -/
def evQ (E : Env) (all : List Oper) (hp : Hp) : List Oper → List AV → (List AV → Prop) → Prop
  | [], tm, k => k tm
  | o :: l, tm, k => guardF all o tm
      (fun tm => pop E o.op tm hp fun v => putD tm o.dst v fun tm => evQ E all hp l tm k)
      (fun tm => putD tm o.dst .skp fun tm => evQ E all hp l tm k)

def getB : List Bool → Nat → Bool
  | [], _ => false
  | b :: _, 0 => b
  | _ :: l, n + 1 => getB l n
def setB : List Bool → Nat → List Bool
  | [], _ => []
  | _ :: l, 0 => true :: l
  | b :: l, n + 1 => b :: setB l n
def edgesOk (listed : List Bool) : List Edge → Bool
  | [] => true
  | e :: l => match Region.binds .any e with
    | true => match getB listed e.on with
      | true => edgesOk listed l
      | false => false
    | false => edgesOk listed l
def isReady (listed : List Bool) (i : Nat) (o : Oper) : Bool :=
  match getB listed i with
  | true => false
  | false => edgesOk listed o.after.toList
def noneReady (listed : List Bool) : Nat → List Oper → Bool
  | _, [] => true
  | i, o :: l => match isReady listed i o with
    | true => false
    | false => noneReady listed (i + 1) l
def eachReady (listed : List Bool) (f : Nat → Oper → Prop) : Nat → List Oper → Prop
  | _, [] => True
  | i, o :: l => match isReady listed i o with
    | true => f i o ∧ eachReady listed f (i + 1) l
    | false => eachReady listed f (i + 1) l

/-- Every order that the edges allow. -/
def evAny (E : Env) (all : List Oper) (kp : AV → List AV → Hp → Prop) (k : List AV → Hp → Prop) : Nat → List Bool → List AV → Hp → Prop
  | 0, listed, tm, hp => match noneReady listed 0 all with
    | true => k tm hp
    | false => False
  | n + 1, listed, tm, hp => match noneReady listed 0 all with
    | true => k tm hp
    | false => eachReady listed (fun i o => guardF all o tm
        (fun tm => step E o tm hp kp fun tm hp => evAny E all kp k n (setB listed i) tm hp)
        (fun tm => putD tm o.dst .skp fun tm => evAny E all kp k n (setB listed i) tm hp)) 0 all

/-- May the order of the text stand for all orders? Each slot that an operation looks at and another one writes: the two are bound by an edge. -/
def hasEdge : List Edge → Nat → Bool
  | [], _ => false
  | e :: l, j => match Region.binds .any e with
    | true => match Nat.beq e.on j with
      | true => true
      | false => hasEdge l j
    | false => hasEdge l j
def memN : List Nat → Nat → Bool
  | [], _ => false
  | x :: l, n => match Nat.beq x n with
    | true => true
    | false => memN l n
def opTmps : List Operand → List Nat
  | [] => []
  | .tmp t :: l => t :: opTmps l
  | _ :: l => opTmps l
def looks (all : List Oper) (o : Oper) : List Nat :=
  (match o.guard with
    | none => []
    | some (j, _) => match dstOf all j with
      | some d => [d]
      | none => []) ++ opTmps o.op.operands.toList
/-- Operation o, number i, against all others: whoever writes what it looks at stands before it by an edge if it stands before it in the text, and behind it by an edge else; nobody else writes what it writes. -/
def fitsAll (all : List Oper) (i : Nat) (o : Oper) : Nat → List Oper → Bool
  | _, [] => true
  | j, p :: l => match Nat.beq i j with
    | true => (match p.dst with
        | some d => !memN (looks all o) d
        | none => true) && fitsAll all i o (j + 1) l
    | false => (match p.dst with
        | some d => (!memN (looks all o) d || (match Nat.blt j i with
            | true => hasEdge o.after.toList j
            | false => hasEdge p.after.toList i)) && (match o.dst with
            | some d' => !Nat.beq d d'
            | none => true)
        | none => true) && fitsAll all i o (j + 1) l
def edgesBack (i : Nat) : List Edge → Bool
  | [] => true
  | e :: l => match Region.binds .any e with
    | true => Nat.blt e.on i && edgesBack i l
    | false => edgesBack i l
def quietL (all : List Oper) : Nat → List Oper → Bool
  | _, [] => true
  | i, o :: l => fitsAll all i o 0 all && o.dst.isSome && edgesBack i o.after.toList && quietL all (i + 1) l

/-! ### Operations that write objects, told as a value and the objects written -/
/-- The boxes that a call hands back. -/
def backF : List Nat → List (List AV) → (List (Nat × AO) → Prop) → Prop
  | [], [], k => k []
  | o :: l, cs :: bs, k => match AV.frees cs with
    | true => backF l bs fun ws => k ((o, .box cs) :: ws)
    | false => False
  | _, _, _ => False

def effS (g : List AV → List (List AV) → Option (Prop × Out × List (List AV))) (vs : List AV) (hp : Hp) (k : AV → List (Nat × AO) → Prop) : Prop :=
  viewsF hp vs fun ws => boxesF hp (AV.idss ws []) fun bs => rensF (AV.idss ws []) ws fun ws' => match anyOwn vs, AV.renoks (AV.idss ws []) ws && nodupB (AV.idss ws []) with
    | false, true => match g ws' bs with
      | some (p, .ret r, bs') => p ∧ r.f fun r => match r.calm with
        | true => backF (AV.idss ws []) bs' fun us => k r us
        | false => False
      | _ => False
    | _, _ => False

def effP (h : List AV → Option (Prop × AV)) (vs caps : List AV) (hp : Hp) (k : AV → List (Nat × AO) → Prop) : Prop :=
  viewsF hp vs fun ws => match AV.calms (ws ++ caps) with
    | false => False
    | true => match h (ws ++ caps) with
      | some (p, r) => p ∧ r.f fun r => match r.calm, anyOwn vs, plainV r with
        | false, _, _ => False
        | true, true, false => False
        | true, _, _ => k r []
      | none => False

def effC (E : Env) (g : Nat) (vs caps : List AV) (hp : Hp) (k : AV → List (Nat × AO) → Prop) : Prop :=
  spGet E.sp g fun
    | .pure h => effP h vs caps hp k
    | .full s => effS s (vs ++ caps) hp k

/-- A new object, if none lies there. -/
def newE (hp : Hp) (d : Option Nat) (x : AO) (v : Nat → AV) (k : AV → List (Nat × AO) → Prop) : Prop :=
  match d with
  | some d => match hlive hp d, Nat.blt d 1000 with
    | false, true => k (v d) [(d, x)]
    | _, _ => False
  | none => False

def eff1 (E : Env) (o : Oper) (tm : List AV) (hp : Hp) (k : AV → List (Nat × AO) → Prop) : Prop :=
  match o.op with
  | .alloc T => tiGet E.tys T fun ti => constsF ti.zero fun cs => match AV.frees cs with
    | true => newE hp o.dst (.box cs) (fun d => .ptr d 0) k
    | false => False
  | .box T x => tiGet E.tys T fun ti => (evalV tm x).f fun v => cellsF v fun cs => match AV.frees cs, Nat.beq cs.length ti.size with
    | true, true => newE hp o.dst (.box cs) (fun d => .ptr d 0) k
    | _, _ => False
  | .store T a x => match evalV tm a with
    | .ptr p off => tiGet E.tys T fun ti => (evalV tm x).f fun v => cellsF v fun vs => match anyOwn vs, Nat.beq vs.length ti.size && ones vs with
      | false, true => hget hp p fun
        | .box cs => spliceF cs off vs fun cs' => k .skp [(p, .box cs')]
        | .arr _ _ => False
      | _, _ => False
    | .oep p i => match Nat.beq T 3 with
      | true => match evalV tm x with
        | .int .i64 n => hget hp p fun
          | .arr .i64 xs => i < xs.length ∧ k .skp [(p, .arr .i64 (xs.set i n))]
          | _ => False
        | _ => False
      | false => False
    | _ => False
  | .makeSlice T l c => match evalV tm l, evalV tm c with
    | .int .i64 n, .int .i64 m => tiGet E.tys T fun ti => match ti.has .i64 with
      | true => (n = m ∧ 0 ≤ n ∧ n ≤ 17592186044416) ∧ newE hp o.dst (.arr .i64 (List.replicate n.toNat (0 : Int))) (fun d => .own d) k
      | false => False
    | _, _ => False
  | .assign x => match evalV tm x with
    | .nil => tiGet E.tys o.type fun ti => match ti.elem with
      | some τ => newE hp o.dst (.arr τ []) (fun d => .own d) k
      | none => False
    | .own _ => False
    | v => v.f fun v => k v []
  | .call c => match c.callee with
    | .value f => match evalV tm f with
      | .fn g => evs tm c.args.toList fun vs => effC E g vs [] hp k
      | .clo g caps => evs tm c.args.toList fun vs => effC E g vs caps hp k
      | _ => False
    | _ => pop E o.op tm hp fun v => k v []
  | op => pop E op tm hp fun v => k v []

def eff (E : Env) (o : Oper) (tm : List AV) (hp : Hp) (k : AV → List (Nat × AO) → Prop) : Prop :=
  kept o.op tm fun vs => match anyOwn vs with
    | true => False
    | false => eff1 E o tm hp k

def hputsF : Hp → List (Nat × AO) → (Hp → Prop) → Prop
  | h, [], k => k h
  | h, (o, x) :: l, k => hputF h o x fun h => hputsF h l k

/- The objects that a value names. -/
mutual
def AV.names : AV → List Nat
  | .ptr o _ => [o]
  | .oep o _ => [o]
  | .own o => [o]
  | .clo _ l => AV.namesL l
  | _ => []
def AV.namesL : List AV → List Nat
  | [] => []
  | v :: l => v.names ++ AV.namesL l
end
def opNames (tm : List AV) : List Operand → List Nat
  | [] => []
  | x :: l => (evalV tm x).names ++ opNames tm l
/-- Does an operation look into memory? -/
def looksHp : Op → Bool
  | .load .. => true
  | .indexAddr .. => true
  | .slice .. => true
  | .call _ => true
  | .store .. => true
  | _ => false
def rdOf (tm : List AV) (op : Op) : List Nat := match looksHp op with
  | true => opNames tm op.operands.toList
  | false => []
def natsF : List Nat → (List Nat → Prop) → Prop
  | [], k => k []
  | x :: l, k => natsF l fun l' => k (x :: l')
def keysOf : List (Nat × AO) → List Nat
  | [] => []
  | (o, _) :: l => o :: keysOf l

/-- The objects that an operation looks at, and those that it writes. -/
structure Ft where
  rd : List Nat
  wr : List Nat

def evM (E : Env) (all : List Oper) : List Oper → List AV → Hp → (List AV → Hp → List Ft → Prop) → Prop
  | [], tm, hp, k => k tm hp []
  | o :: l, tm, hp, k => guardF all o tm
      (fun tm => eff E o tm hp fun v ws => natsF (rdOf tm o.op) fun rd => natsF (keysOf ws) fun wr => putD tm o.dst v fun tm => hputsF hp ws fun hp =>
        evM E all l tm hp fun tm hp fs => k tm hp (⟨rd, wr⟩ :: fs))
      (fun tm => putD tm o.dst .skp fun tm => evM E all l tm hp fun tm hp fs => k tm hp (⟨[], []⟩ :: fs))

/-- Whom an operation's edges lead back to. -/
def getN : List (List Nat) → Nat → List Nat
  | [], _ => []
  | x :: _, 0 => x
  | _ :: l, n + 1 => getN l n
def addN (n : Nat) (l : List Nat) : List Nat := match memN l n with
  | true => l
  | false => n :: l
def addNs : List Nat → List Nat → List Nat
  | [], l => l
  | x :: m, l => addNs m (addN x l)
def ancOf (done : List (List Nat)) : List Edge → List Nat
  | [] => []
  | e :: l => match Region.binds .any e with
    | true => addN e.on (addNs (getN done e.on) (ancOf done l))
    | false => ancOf done l
def ancs : List (List Nat) → List Oper → List (List Nat)
  | done, [] => done
  | done, o :: l => ancs (done ++ [ancOf done o.after.toList]) l

def anyIn (l : List Nat) : List Nat → Bool
  | [] => false
  | x :: m => match memN l x with
    | true => true
    | false => anyIn l m
def optIn (l : List Nat) : Option Nat → Bool
  | none => false
  | some d => memN l d
def optNe : Option Nat → Option Nat → Bool
  | some a, some b => !Nat.beq a b
  | _, _ => true
def confM (all : List Oper) (o p : Oper) (f g : Ft) : Bool :=
  optIn (looks all o) p.dst || optIn (looks all p) o.dst || anyIn g.wr f.rd || anyIn g.wr f.wr || anyIn g.rd f.wr
/-- Operation i (o, f) against those before it in the text. -/
def rowM (all : List Oper) (i : Nat) (o : Oper) (f : Ft) (A : List Nat) : Nat → List Oper → List Ft → Bool
  | _, [], [] => true
  | j, p :: l, g :: gs => (match Nat.blt j i with
      | true => optNe o.dst p.dst && (!confM all o p f g || memN A j)
      | false => true) && rowM all i o f A (j + 1) l gs
  | _, _, _ => false
def rowsM (all front : List Oper) (fs : List Ft) (acs : List (List Nat)) : Nat → List Oper → List Ft → Bool
  | _, [], [] => true
  | i, o :: l, f :: gs => rowM all i o f (getN acs i) 0 front fs && !optIn (looks all o) o.dst && rowsM all front fs acs (i + 1) l gs
  | _, _, _ => false
/-- Is every number below among these? -/
def belowB : Nat → List Nat → Bool
  | 0, _ => true
  | n + 1, A => match memN A n with
    | true => belowB n A
    | false => false
/-- Each operation from number n on stands behind all before it in the text. -/
def tailB (acs : List (List Nat)) (n : Nat) : Nat → List Oper → Bool
  | _, [] => true
  | i, o :: l => (match Nat.blt i n with
      | true => true
      | false => belowB i (getN acs i)) && edgesBack i o.after.toList && tailB acs n (i + 1) l
def dstsB (all : List Oper) : List Oper → Bool
  | [] => true
  | o :: l => dstsC o.dst l && dstsB all l
where dstsC (d : Option Nat) : List Oper → Bool
  | [] => true
  | p :: l => optNe d p.dst && dstsC d l
/-- The first n operations may come in any order, and the others come after them, one by one. -/
def fitsM (all : List Oper) (n : Nat) (fs : List Ft) : Bool :=
  rowsM all (all.take n) fs (ancs [] all) 0 (all.take n) fs && tailB (ancs [] all) n 0 all && dstsB all all && Nat.ble n all.length

@[irreducible] def DrawVC (E : Env) (ops : Array Oper) (tm : List AV) (hp : Hp) (kp : AV → List AV → Hp → Prop) (k : List AV → Hp → Prop) : Prop :=
  (quietL ops.toList 0 ops.toList = true ∧ evQ E ops.toList hp ops.toList tm fun tm => k tm hp) ∨
    (∃ n, evM E ops.toList (ops.toList.take n) tm hp fun tm hp fs => fitsM ops.toList n fs = true ∧ evOps E ops.toList (ops.toList.drop n) tm hp kp k) ∨
    ∃ tm' hp', evAny E ops.toList kp (fun tm hp => tm = tm' ∧ hp = hp') ops.size (List.replicate ops.size false) tm hp ∧ k tm' hp'

theorem DrawVC.quiet {E : Env} {ops : Array Oper} {tm : List AV} {hp : Hp} {kp : AV → List AV → Hp → Prop} {k : List AV → Hp → Prop} (hq : quietL ops.toList 0 ops.toList = true)
    (h : evQ E ops.toList hp ops.toList tm fun tm => k tm hp) : DrawVC E ops tm hp kp k := by unfold DrawVC; exact .inl ⟨hq, h⟩
theorem DrawVC.any {E : Env} {ops : Array Oper} {tm : List AV} {hp : Hp} {kp : AV → List AV → Hp → Prop} {k : List AV → Hp → Prop} {tm' : List AV} {hp' : Hp}
    (h : evAny E ops.toList kp (fun tm hp => tm = tm' ∧ hp = hp') ops.size (List.replicate ops.size false) tm hp) (hk : k tm' hp') : DrawVC E ops tm hp kp k := by unfold DrawVC; exact .inr (.inr ⟨tm', hp', h, hk⟩)
theorem DrawVC.mix {E : Env} {ops : Array Oper} {tm : List AV} {hp : Hp} {kp : AV → List AV → Hp → Prop} {k : List AV → Hp → Prop}
    (h : evM E ops.toList (ops.toList.take ops.size) tm hp fun tm hp fs => fitsM ops.toList ops.size fs = true ∧ evOps E ops.toList (ops.toList.drop ops.size) tm hp kp k) : DrawVC E ops tm hp kp k := by unfold DrawVC; exact .inr (.inl ⟨_, h⟩)
theorem DrawVC.tail {E : Env} {ops : Array Oper} {tm : List AV} {hp : Hp} {kp : AV → List AV → Hp → Prop} {k : List AV → Hp → Prop} (n : Nat)
    (h : evM E ops.toList (ops.toList.take n) tm hp fun tm hp fs => fitsM ops.toList n fs = true ∧ evOps E ops.toList (ops.toList.drop n) tm hp kp k) : DrawVC E ops tm hp kp k := by unfold DrawVC; exact .inr (.inl ⟨n, h⟩)

/-! ### Code -/
inductive Ex where
  | normal
  | exit (id : Nat)
  | ret
  | pan (v : AV)

abbrev Post := Ex → List AV → Hp → Prop

def loopN (body : List AV → Hp → Post → Prop) : Nat → List AV → Hp → Post → Prop
  | 0, _, _, _ => False
  | n + 1, tm, hp, k => body tm hp fun e tm hp => match e with
    | .normal => loopN body n tm hp k
    | e => k e tm hp

/-- Slots and objects that say no more than these do. -/
inductive Weak1 : AV → AV → Prop where
  | same (v : AV) : Weak1 v v
  | undef (v : AV) : Weak1 .undef v
  | lit (τ : ET) (xs : List τ.T) : Weak1 (.sl τ xs) (.lit τ xs)
inductive WeakL : List AV → List AV → Prop where
  | nil : WeakL [] []
  | cons {a b : AV} {l m : List AV} : Weak1 a b → WeakL l m → WeakL (a :: l) (b :: m)
inductive WeakA : AO → AO → Prop where
  | same (x : AO) : WeakA x x
  | box {l m : List AV} : WeakL l m → WeakA (.box l) (.box m)
inductive WeakH : Hp → Hp → Prop where
  | nil : WeakH [] []
  | cons {x y : AO} {h g : Hp} (n : Nat) : WeakA x y → WeakH h g → WeakH ((n, x) :: h) ((n, y) :: g)
theorem WeakH.rfl : ∀ (h : Hp), WeakH h h
  | [] => .nil
  | (n, x) :: h => .cons n (.same x) (WeakH.rfl h)

/-- Forgets objects. -/
def drops : List Nat → List AV → Hp → (List AV → Hp → Prop) → Prop
  | [], tm, hp, k => k tm hp
  | d :: ds, tm, hp, k => dropObj tm hp d fun tm hp => drops ds tm hp k

@[irreducible] def LoopVC (body : List AV → Hp → Post → Prop) (tm : List AV) (hp : Hp) (k : Post) : Prop :=
  ∃ (J : List AV → Hp → Nat → Prop) (n : Nat), J tm hp n ∧ ∀ tm hp n, J tm hp n → ∃ ds, drops ds tm hp fun tm hp => ∃ tm' hp', WeakL tm' tm ∧ WeakH hp' hp ∧
    body tm' hp' fun e tm hp => match e with
      | .normal => ∃ m, m < n ∧ J tm hp m
      | e => k e tm hp

theorem dropObj_mono {tm : List AV} {hp : Hp} {d : Nat} {k k' : List AV → Hp → Prop} (hk : ∀ tm hp, k tm hp → k' tm hp) (h : dropObj tm hp d k) : dropObj tm hp d k' := by
  have h1 : ∀ (h : Hp) (n : Nat) (k k' : Hp → Prop), (∀ x, k x → k' x) → hdelF h n k → hdelF h n k' := by
    intro h n
    induction h with
    | nil => intro k k' hk h; exact hk _ h
    | cons p h ih =>
      intro k k' hk hh
      obtain ⟨o, y⟩ := p
      simp only [hdelF] at hh ⊢
      cases e : Nat.beq o n with
      | true => rw [e] at hh; exact hk _ hh
      | false => rw [e] at hh; exact ih _ _ (fun x => hk _) hh
  have h2 : ∀ (o : Nat) (l : List AV) (k k' : List AV → Prop), (∀ x, k x → k' x) → killsF o l k → killsF o l k' := by
    intro o l
    induction l with
    | nil => intro k k' hk h; exact hk _ h
    | cons v l ih =>
      intro k k' hk h
      simp only [killsF, AV.f_eq] at h ⊢
      exact ih _ _ (fun x => hk _) h
  have h3 : ∀ (o : Nat) (l : Hp) (k k' : Hp → Prop), (∀ x, k x → k' x) → killHpF o l k → killHpF o l k' := by
    intro o l
    induction l with
    | nil => intro k k' hk h; exact hk _ h
    | cons p l ih =>
      intro k k' hk h
      obtain ⟨n, x⟩ := p
      cases x with
      | box cs => simp only [killHpF] at h ⊢; exact h2 _ _ _ _ (fun cs' h => ih _ _ (fun x => hk _) h) h
      | arr τ xs => simp only [killHpF] at h ⊢; exact ih _ _ (fun x => hk _) h
  unfold dropObj at h ⊢
  split at h
  · exact hk _ _ h
  · exact h1 _ _ _ _ (fun hp h => h2 _ _ _ _ (fun tm h => h3 _ _ _ _ (fun hp h => hk _ _ h) h) h) h
theorem drops_mono {ds : List Nat} : ∀ {tm : List AV} {hp : Hp} {k k' : List AV → Hp → Prop} (hk : ∀ tm hp, k tm hp → k' tm hp) (h : drops ds tm hp k), drops ds tm hp k' := by
  induction ds with
  | nil => intro tm hp k k' hk h; exact hk _ _ h
  | cons d ds ih => intro tm hp k k' hk h; exact dropObj_mono (fun tm hp h => ih hk h) h

theorem LoopVC.introW {body : List AV → Hp → Post → Prop} {tm : List AV} {hp : Hp} {k : Post} {ι : Type} (ds : List Nat) (pat : ι → List AV) (heap : ι → Hp) (inv : ι → Prop) (μ : ι → Nat) (i0 : ι) (h0 : inv i0)
    (hw : drops ds tm hp fun tm hp => WeakL (pat i0) tm ∧ WeakH (heap i0) hp)
    (round : ∀ i, inv i → body (pat i) (heap i) fun e tm hp => match e with | .normal => ∃ j, μ j < μ i ∧ inv j ∧ drops ds tm hp fun tm hp => WeakL (pat j) tm ∧ WeakH (heap j) hp | e => k e tm hp) : LoopVC body tm hp k := by
  unfold LoopVC
  refine ⟨fun tm hp n => ∃ i, inv i ∧ (drops ds tm hp fun tm hp => WeakL (pat i) tm ∧ WeakH (heap i) hp) ∧ n = μ i, μ i0, ⟨i0, h0, hw, rfl⟩, ?_⟩
  rintro tm hp n ⟨i, h1, h2, rfl⟩
  refine ⟨ds, drops_mono ?_ h2⟩
  rintro tm hp ⟨h3, h4⟩
  refine ⟨pat i, heap i, h3, h4, ?_⟩
  have e : (fun (e : Ex) (tm : List AV) (hp : Hp) => match e with | .normal => ∃ m, m < μ i ∧ ∃ j, inv j ∧ (drops ds tm hp fun tm hp => WeakL (pat j) tm ∧ WeakH (heap j) hp) ∧ m = μ j | e => k e tm hp) =
      fun (e : Ex) (tm : List AV) (hp : Hp) => match e with | .normal => ∃ j, μ j < μ i ∧ inv j ∧ drops ds tm hp fun tm hp => WeakL (pat j) tm ∧ WeakH (heap j) hp | e => k e tm hp := by
    funext e tm hp
    cases e <;> simp only
    refine propext ⟨?_, ?_⟩
    · rintro ⟨m, h1, j, h2, h3, rfl⟩; exact ⟨j, h1, h2, h3⟩
    · rintro ⟨j, h1, h2, h3⟩; exact ⟨_, h1, j, h2, h3, rfl⟩
  rw [e]
  exact round i h1

theorem LoopVC.intro {body : List AV → Hp → Post → Prop} {tm : List AV} {hp : Hp} {k : Post} {ι : Type} (ds : List Nat) (pat : ι → List AV) (heap : ι → Hp) (inv : ι → Prop) (μ : ι → Nat) (i0 : ι) (h0 : inv i0)
    (hw : drops ds tm hp fun tm hp => WeakL (pat i0) tm ∧ hp = heap i0)
    (round : ∀ i, inv i → body (pat i) (heap i) fun e tm hp => match e with | .normal => ∃ j, μ j < μ i ∧ inv j ∧ drops ds tm hp fun tm hp => WeakL (pat j) tm ∧ hp = heap j | e => k e tm hp) : LoopVC body tm hp k := by
  unfold LoopVC
  refine ⟨fun tm hp n => ∃ i, inv i ∧ (drops ds tm hp fun tm hp => WeakL (pat i) tm ∧ hp = heap i) ∧ n = μ i, μ i0, ⟨i0, h0, hw, rfl⟩, ?_⟩
  rintro tm hp n ⟨i, h1, h2, rfl⟩
  refine ⟨ds, drops_mono ?_ h2⟩
  rintro tm hp ⟨h3, rfl⟩
  refine ⟨pat i, heap i, h3, WeakH.rfl _, ?_⟩
  have e : (fun (e : Ex) (tm : List AV) (hp : Hp) => match e with | .normal => ∃ m, m < μ i ∧ ∃ j, inv j ∧ (drops ds tm hp fun tm hp => WeakL (pat j) tm ∧ hp = heap j) ∧ m = μ j | e => k e tm hp) =
      fun (e : Ex) (tm : List AV) (hp : Hp) => match e with | .normal => ∃ j, μ j < μ i ∧ inv j ∧ drops ds tm hp fun tm hp => WeakL (pat j) tm ∧ hp = heap j | e => k e tm hp := by
    funext e tm hp
    cases e <;> simp only
    refine propext ⟨?_, ?_⟩
    · rintro ⟨m, h1, j, h2, h3, rfl⟩; exact ⟨j, h1, h2, h3⟩
    · rintro ⟨j, h1, h2, h3⟩; exact ⟨_, h1, j, h2, h3, rfl⟩
  rw [e]
  exact round i h1

def ev (E : Env) : Code → List AV → Hp → Post → Prop
  | .skip, tm, hp, k => k .normal tm hp
  | .region _ ops draw, tm, hp, k => match draw with
    | false => evOps E ops.toList ops.toList tm hp (fun v tm hp => k (.pan v) tm hp) fun tm hp => k .normal tm hp
    | true => DrawVC E ops tm hp (fun v tm hp => k (.pan v) tm hp) fun tm hp => k .normal tm hp
  | .seq a b, tm, hp, k => ev E a tm hp fun e tm hp => match e with
    | .normal => ev E b tm hp k
    | e => k e tm hp
  | .cond c a b, tm, hp, k => match evalV tm c with
    | .bool t => match t with
      | true => ev E a tm hp k
      | false => ev E b tm hp k
    | _ => False
  | .block id c, tm, hp, k => ev E c tm hp fun e tm hp => match e with
    | .exit j => match Nat.beq j id with
      | true => k .normal tm hp
      | false => k (.exit j) tm hp
    | e => k e tm hp
  | .loop c, tm, hp, k => LoopVC (fun tm hp k => ev E c tm hp k) tm hp k
  | .exit id, tm, hp, k => k (.exit id) tm hp
  | .ret, tm, hp, k => k .ret tm hp
  | .label _, tm, hp, k => k .normal tm hp
  | _, _, _, _ => False

/-! ### Functions -/
def resF (E : Env) (tm : List AV) (hp : Hp) : List ResultVar → (List AV → Prop) → Prop
  | [], k => k []
  | .tmp t :: l, k => viewF hp (getV tm t) fun v => v.f fun v => resF E tm hp l fun vs => k (v :: vs)
  | .cell a T :: l, k => match getV tm a with
    | .ptr o off => tiGet E.tys T fun ti => hget hp o fun
      | .box cs => dropF cs off fun cs => takeF cs ti.size fun cs => shapeF ti.agg cs fun v => resF E tm hp l fun vs => k (v :: vs)
      | .arr _ _ => False
    | _ => False

def skpsF : Nat → (List AV → Prop) → Prop
  | 0, k => k []
  | n + 1, k => skpsF n fun l => k (.skp :: l)
def initF : List AV → Nat → (List AV → Prop) → Prop
  | [], n, k => skpsF n k
  | v :: l, n, k => v.f fun v => initF l (n - 1) fun l' => k (v :: l')

def extF : Nat → List (List AV) → (Hp → Prop) → Prop
  | _, [], k => k []
  | i, cs :: l, k => extF (i + 1) l fun h => k ((1000 + i, .box cs) :: h)
def extOut (hp : Hp) : Nat → Nat → (List (List AV) → Prop) → Prop
  | 0, _, k => k []
  | n + 1, i, k => hget hp (1000 + i) fun
    | .box cs => match AV.frees cs with
      | true => extOut hp n (i + 1) fun l => k (cs :: l)
      | false => False
    | .arr _ _ => False

/-- A function's body at arguments and at the boxes that they lead to. -/
def evFn (E : Env) (fn : Func) (args : List AV) (bs : List (List AV)) (Q : Out → List (List AV) → Prop) : Prop :=
  match fn.body with
  | none => False
  | some c => initF args fn.ntmps fun tm => extF 0 bs fun hp => ev E c tm hp fun e tm hp => match e with
    | .normal => resF E tm hp fn.results.toList fun vs => extOut hp bs.length 0 fun bs' => match vs with
      | [v] => match v.calm with
        | true => Q (.ret v) bs'
        | false => False
      | vs => match AV.calms vs with
        | true => Q (.ret (.tup vs)) bs'
        | false => False
    | .ret => resF E tm hp fn.results.toList fun vs => extOut hp bs.length 0 fun bs' => match vs with
      | [v] => match v.calm with
        | true => Q (.ret v) bs'
        | false => False
      | vs => match AV.calms vs with
        | true => Q (.ret (.tup vs)) bs'
        | false => False
    | .pan v => extOut hp bs.length 0 fun bs' => Q (.pan v) bs'
    | _ => False

end Go.Proofs.Ythakgbecpkfeoaa.Ev
