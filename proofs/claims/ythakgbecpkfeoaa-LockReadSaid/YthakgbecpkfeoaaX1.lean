/- Parts of the proof, joined. -/
import Derived.Test.YthakgbecpkfeoaaProg
import Derived.Calls
import Derived.Orders
import Derived.ArgAppend
import Derived.Maps.AppendAt
import Derived.Laws.CopyOwn
import Derived.Below
import Derived.KernelRfl
import Derived.Laws.StructEq
import Derived.Laws.MakeOwn
import Derived.Laws.Slices
import Derived.Laws.Entries
import Derived.Laws.Cells
import Derived.Laws.CopyRow
import Derived.Laws.Build
/- The abstract evaluator: values, boxes, the walk of the model's code as a proposition. Definitions alone; the proof that it is sound stands in YthakgbecpkfeoaaEvB. -/
set_option linter.unusedVariables false
namespace Go.Proofs.Ythakgbecpkfeoaa.Ev

/-- An access. -/
structure Acc where
  kind : Int
  cell : Int
  old : Int
  new : Int
  bytes : ByteArray

/-- A result. -/
structure Res where
  val : Int
  ok : Bool
  deriving DecidableEq

/-- What a slice may hold. -/
inductive ET where
  | i64 | u8 | bl | acc | res | i3 | i2
  deriving DecidableEq

@[reducible] def ET.T : ET → Type
  | .i64 => Int
  | .u8 => Int
  | .bl => Bool
  | .acc => Acc
  | .res => Res
  | .i3 => Int × Int × Int
  | .i2 => Int × Int

/-- One cell of an element. -/
inductive CV where
  | int (k : IntKind) (n : Int)
  | bool (b : Bool)
  | str (s : ByteArray)

def CV.v : CV → Value
  | .int k n => .int k n
  | .bool b => .bool b
  | .str s => .string s

def ET.enc : (τ : ET) → τ.T → List CV
  | .i64, n => [.int .i64 n]
  | .u8, n => [.int .u8 n]
  | .bl, b => [.bool b]
  | .acc, a => [.int .i64 (Acc.kind a), .int .i64 (Acc.cell a), .int .i64 (Acc.old a), .int .i64 (Acc.new a), .str (Acc.bytes a)]
  | .res, r => [.int .i64 (Res.val r), .bool (Res.ok r)]
  | .i3, (a, b, c) => [.int .i64 a, .int .i64 b, .int .i64 c]
  | .i2, (a, b) => [.int .i64 a, .int .i64 b]

def ET.size : ET → Nat
  | .i64 => 1 | .u8 => 1 | .bl => 1 | .acc => 5 | .res => 2 | .i3 => 3 | .i2 => 2

def ET.dflt : (τ : ET) → τ.T
  | .i64 => (0 : Int)
  | .u8 => (0 : Int)
  | .bl => false
  | .acc => (⟨0, 0, 0, 0, ⟨#[]⟩⟩ : Acc)
  | .res => (⟨0, false⟩ : Res)
  | .i3 => (0, 0, 0)
  | .i2 => (0, 0)

/-- The type's number in this program, and its bytes. -/
def ET.tid : ET → Nat
  | .i64 => 3 | .u8 => 5 | .bl => 4 | .acc => 51 | .res => 53 | .i3 => 160 | .i2 => 162
def ET.bytes : ET → Nat
  | .i64 => 8 | .u8 => 1 | .bl => 1 | .acc => 48 | .res => 16 | .i3 => 24 | .i2 => 16

/-- Abstract values. -/
inductive AV where
  | int (k : IntKind) (n : Int)
  | bool (b : Bool)
  | str (s : ByteArray)
  | ptr (o off : Nat)
  | ep (cs : List CV)
  | kp (cs : List AV)
  | mp (ks : List Int) (vs : List AV)
  | oep (o i : Nat)
  | sl (τ : ET) (xs : List τ.T)
  | lit (τ : ET) (xs : List τ.T)
  | own (o : Nat)
  | nil
  | fn (f : Nat)
  | clo (f : Nat) (caps : List AV)
  | agg (l : List AV)
  | tup (l : List AV)
  | ifc (t : Nat) (v : AV)
  | opq (v : Value)
  | skp
  | undef

/-- Abstract objects. -/
inductive AO where
  | box (cs : List AV)
  | arr (τ : ET) (xs : List τ.T)

abbrev Hp := List (Nat × AO)

def CV.av : CV → AV
  | .int k n => .int k n
  | .bool b => .bool b
  | .str s => .str s

/-- Brings a value to its constructor. -/
def AV.f (v : AV) (k : AV → Prop) : Prop :=
  match v with
  | .int a n => k (.int a n)
  | .bool b => k (.bool b)
  | .str s => k (.str s)
  | .ptr o off => k (.ptr o off)
  | .ep cs => k (.ep cs)
  | .kp cs => k (.kp cs)
  | .mp ks vs => k (.mp ks vs)
  | .oep o i => k (.oep o i)
  | .sl τ xs => k (.sl τ xs)
  | .lit τ xs => k (.lit τ xs)
  | .own o => k (.own o)
  | .nil => k .nil
  | .fn g => k (.fn g)
  | .clo g caps => k (.clo g caps)
  | .agg l => k (.agg l)
  | .tup l => k (.tup l)
  | .ifc t v => k (.ifc t v)
  | .opq v => k (.opq v)
  | .skp => k .skp
  | .undef => k .undef

theorem AV.f_eq (v : AV) (k : AV → Prop) : v.f k = k v := by cases v <;> rfl

def getV : List AV → Nat → AV
  | [], _ => .undef
  | x :: _, 0 => x
  | _ :: l, n + 1 => getV l n

def nthA : List AV → Nat → (AV → Prop) → Prop
  | [], _, _ => False
  | x :: _, 0, k => x.f k
  | _ :: l, n + 1, k => nthA l n k

def setF : List AV → Nat → AV → (List AV → Prop) → Prop
  | [], _, _, k => k []
  | _ :: l, 0, v, k => k (v :: l)
  | x :: l, n + 1, v, k => setF l n v fun l' => k (x :: l')

def putF (tm : List AV) (d : Nat) (v : AV) (k : List AV → Prop) : Prop := v.f fun v => setF tm d v k

def putD (tm : List AV) (d : Option Nat) (v : AV) (k : List AV → Prop) : Prop :=
  match d with
  | some d => putF tm d v k
  | none => k tm

def takeF : List AV → Nat → (List AV → Prop) → Prop
  | _, 0, k => k []
  | [], _ + 1, _ => False
  | x :: l, n + 1, k => takeF l n fun l' => k (x :: l')

def dropF : List AV → Nat → (List AV → Prop) → Prop
  | l, 0, k => k l
  | [], _ + 1, _ => False
  | _ :: l, n + 1, k => dropF l n k

/-- The cells from 'off' on, written over. -/
def spliceF : List AV → Nat → List AV → (List AV → Prop) → Prop
  | l, 0, [], k => k l
  | [], 0, _ :: _, _ => False
  | _ :: l, 0, v :: vs, k => spliceF l 0 vs fun l' => k (v :: l')
  | [], _ + 1, _, _ => False
  | x :: l, n + 1, vs, k => spliceF l n vs fun l' => k (x :: l')

def takeC : List CV → Nat → (List AV → Prop) → Prop
  | _, 0, k => k []
  | [], _ + 1, _ => False
  | x :: l, n + 1, k => x.av.f fun v => takeC l n fun l' => k (v :: l')

def dropC : List CV → Nat → (List CV → Prop) → Prop
  | l, 0, k => k l
  | [], _ + 1, _ => False
  | _ :: l, n + 1, k => dropC l n k

def hget : Hp → Nat → (AO → Prop) → Prop
  | [], _, _ => False
  | (o, x) :: h, n, k => match Nat.beq o n with
    | true => k x
    | false => hget h n k

def hlive : Hp → Nat → Bool
  | [], _ => false
  | (o, _) :: h, n => match Nat.beq o n with
    | true => true
    | false => hlive h n

/-- Replaces the object, or lays it behind the others. -/
def hputF : Hp → Nat → AO → (Hp → Prop) → Prop
  | [], n, x, k => k [(n, x)]
  | (o, y) :: h, n, x, k => match Nat.beq o n with
    | true => k ((n, x) :: h)
    | false => hputF h n x fun h' => k ((o, y) :: h')

def hdelF : Hp → Nat → (Hp → Prop) → Prop
  | [], _, k => k []
  | (o, y) :: h, n, k => match Nat.beq o n with
    | true => k h
    | false => hdelF h n fun h' => k ((o, y) :: h')

mutual
def AV.kill (o : Nat) : AV → AV
  | .ptr p off => match Nat.beq p o with | true => .undef | false => .ptr p off
  | .oep p i => match Nat.beq p o with | true => .undef | false => .oep p i
  | .own p => match Nat.beq p o with | true => .undef | false => .own p
  | .clo f caps => .clo f (AV.kills o caps)
  | .kp cs => .kp (AV.kills o cs)
  | .mp ks vs => .mp ks (AV.kills o vs)
  | .agg l => .agg (AV.kills o l)
  | .tup l => .tup (AV.kills o l)
  | .ifc t v => .ifc t (AV.kill o v)
  | v => v
def AV.kills (o : Nat) : List AV → List AV
  | [] => []
  | v :: l => v.kill o :: AV.kills o l
end

def killsF (o : Nat) : List AV → (List AV → Prop) → Prop
  | [], k => k []
  | v :: l, k => (v.kill o).f fun v' => killsF o l fun l' => k (v' :: l')

def killHpF (o : Nat) : Hp → (Hp → Prop) → Prop
  | [], k => k []
  | (n, .box cs) :: h, k => killsF o cs fun cs' => killHpF o h fun h' => k ((n, .box cs') :: h')
  | (n, .arr τ xs) :: h, k => killHpF o h fun h' => k ((n, .arr τ xs) :: h')

/-- Forgets an object and all that names it. -/
def dropObj (tm : List AV) (hp : Hp) (o : Nat) (k : List AV → Hp → Prop) : Prop :=
  match hlive hp o with
  | false => k tm hp
  | true => hdelF hp o fun hp => killsF o tm fun tm => killHpF o hp fun hp => k tm hp

/-- A new object under the number of the slot that names it. -/
def newObj (tm : List AV) (hp : Hp) (d : Nat) (x : AO) (v : AV) (k : List AV → Hp → Prop) : Prop :=
  match Nat.blt d 1000 with
  | true => dropObj tm hp d fun tm hp => hputF hp d x fun hp => setF tm d v fun tm => k tm hp
  | false => False

/-! ### The program's tables -/
inductive CK where
  | int (κ : IntKind)
  | bool
  | str

structure TI where
  agg : Bool
  size : Nat
  zero : List Value
  fields : List (Nat × Nat × Bool)
  elem : Option ET
  arr : Option (Nat × Nat × Bool)
  ik : Option IntKind
  eqk : List CK

def ETeq : ET → ET → Bool
  | .i64, .i64 | .u8, .u8 | .bl, .bl | .acc, .acc | .res, .res | .i3, .i3 | .i2, .i2 => true
  | _, _ => false
def TI.has (ti : TI) (τ : ET) : Bool := match ti.elem with
  | some σ => ETeq σ τ
  | none => false

def tiGet : List (Nat × TI) → Nat → (TI → Prop) → Prop
  | [], _, _ => False
  | (o, x) :: h, n, k => match Nat.beq o n with
    | true => k x
    | false => tiGet h n k

inductive Out where
  | ret (v : AV)
  | pan (v : AV)

inductive Spec where
  | pure (g : List AV → Option (Prop × AV))
  | full (g : List AV → List (List AV) → Option (Prop × Out × List (List AV)))
  | tab (g : List AV → List AV → Option (List Int) → Option (Prop × List AV × Option (List Int)))

/-- A function's answer, where its condition holds. -/
def detS (g : List AV → List (List AV) → Option (Prop × Out × List (List AV))) (ws : List AV) (bs : List (List AV)) (Q : Out → List (List AV) → Prop) : Prop :=
  match g ws bs with
  | some (p, out, bs') => p ∧ Q out bs'
  | none => False

structure Env where
  tys : List (Nat × TI)
  sp : List (Nat × Spec)

def spGet : List (Nat × Spec) → Nat → (Spec → Prop) → Prop
  | [], _, _ => False
  | (o, x) :: h, n, k => match Nat.beq o n with
    | true => k x
    | false => spGet h n k

def constV : Value → AV
  | .int k n => .int k n
  | .bool b => .bool b
  | .string s => .str s
  | .slice none 0 0 => .nil
  | v => .opq v

def evalV (tm : List AV) : Operand → AV
  | .tmp t => getV tm t
  | .const v => constV v
  | .func f => .fn f
  | .global _ => .undef

def evs (tm : List AV) : List Operand → (List AV → Prop) → Prop
  | [], k => k []
  | x :: l, k => (evalV tm x).f fun v => evs tm l fun vs => k (v :: vs)

def constsF : List Value → (List AV → Prop) → Prop
  | [], k => k []
  | x :: l, k => (constV x).f fun v => constsF l fun vs => k (v :: vs)

/-! ### Operators -/
def kindEq : IntKind → IntKind → Bool
  | .i8, .i8 | .i16, .i16 | .i32, .i32 | .i64, .i64 | .u8, .u8 | .u16, .u16 | .u32, .u32 | .u64, .u64 => true
  | _, _ => false

def bitsV (op : BinOp) (k : IntKind) (x y : Int) : Int :=
  match op with
  | .and => k.wrap (BitVec.ofInt k.bits x &&& BitVec.ofInt k.bits y).toNat
  | _ => k.wrap (BitVec.ofInt k.bits x ||| BitVec.ofInt k.bits y).toNat

def shlV (k : IntKind) (x y : Int) : Int := k.wrap (x * 2 ^ min y.toNat k.bits)
def shrV (k : IntKind) (x y : Int) : Int := x.fdiv (2 ^ min y.toNat k.bits)

def intBin (op : BinOp) (κ : IntKind) (a b : Int) (k : AV → Prop) : Prop :=
  match op with
  | .add => k (.int κ (κ.wrap (a + b)))
  | .sub => k (.int κ (κ.wrap (a - b)))
  | .mul => k (.int κ (κ.wrap (a * b)))
  | .quo => b ≠ 0 ∧ k (.int κ (κ.wrap (a.tdiv b)))
  | .rem => b ≠ 0 ∧ k (.int κ (a.tmod b))
  | .and => k (.int κ (bitsV .and κ a b))
  | .or => k (.int κ (bitsV .or κ a b))
  | .eql => k (.bool (a == b))
  | .neq => k (.bool (a != b))
  | .lss => k (.bool (decide (a < b)))
  | .leq => k (.bool (decide (a ≤ b)))
  | .gtr => k (.bool (decide (a > b)))
  | .geq => k (.bool (decide (a ≥ b)))
  | _ => False

def eqC : AV → AV → Option Bool
  | .int _ a, .int _ b => some (a == b)
  | .bool a, .bool b => some (a == b)
  | .str a, .str b => some (a.toList == b.toList)
  | _, _ => none

/-- Two structs, cell by cell, in the order in which Go asks. -/
def eqCs : List AV → List AV → (Bool → Prop) → Prop
  | [], [], k => k true
  | x :: xs, y :: ys, k => match eqC x y with
    | some a => eqCs xs ys fun b => k (a && b)
    | none => False
  | _, _, _ => False

def fitsK : List CK → List AV → Bool
  | [], [] => true
  | .int κ :: ks, .int κ' _ :: l => match kindEq κ κ' with
    | true => fitsK ks l
    | false => false
  | .bool :: ks, .bool _ :: l => fitsK ks l
  | .str :: ks, .str _ :: l => fitsK ks l
  | _, _ => false

def binF (E : Env) (op : BinOp) (T : Nat) (x y : AV) (k : AV → Prop) : Prop :=
  match x, y with
  | .int κ a, .int κ' b => match op with
    | .shl => 0 ≤ b ∧ k (.int κ (shlV κ a b))
    | .shr => 0 ≤ b ∧ k (.int κ (shrV κ a b))
    | op => match kindEq κ κ' with
      | true => intBin op κ a b k
      | false => False
  | .bool a, .bool b => match op, Nat.beq T 4 with
    | .eql, true => k (.bool (a == b))
    | .neq, true => k (.bool (!(a == b)))
    | _, _ => False
  | .str a, .str b => match op with
    | .eql => k (.bool (a.toList == b.toList))
    | .neq => k (.bool (!(a.toList == b.toList)))
    | _ => False
  | .agg l, .agg m => tiGet E.tys T fun ti => match fitsK ti.eqk l, fitsK ti.eqk m, ti.eqk with
    | true, true, _ :: _ => match op with
      | .eql => eqCs l m fun b => k (.bool b)
      | .neq => eqCs l m fun b => k (.bool (!b))
      | _ => False
    | _, _, _ => False
  | _, _ => False

def nthF (l : List (Nat × Nat × Bool)) (i : Nat) (k : Nat × Nat × Bool → Prop) : Prop :=
  match l, i with
  | [], _ => False
  | x :: _, 0 => k x
  | _ :: l, i + 1 => nthF l i k

/-- What a value's cells are, and back. -/
def cellsF (v : AV) (k : List AV → Prop) : Prop :=
  match v with
  | .agg l => k l
  | .tup _ => False
  | .undef => False
  | .opq _ => False
  | v => k [v]
def shapeF (agg : Bool) (l : List AV) (k : AV → Prop) : Prop :=
  match agg with
  | true => k (.agg l)
  | false => match l with
    | [x] => x.f k
    | _ => False

/-- A slice's content, whatever form it has. -/
def listF (hp : Hp) (v : AV) (k : (τ : ET) → List τ.T → Prop) : Prop :=
  match v with
  | .sl τ xs => k τ xs
  | .lit τ xs => k τ xs
  | .own o => hget hp o fun
    | .arr τ xs => k τ xs
    | .box _ => False
  | _ => False

/- A literal's array, told as one that is read. -/
mutual
def AV.low : AV → AV
  | .lit τ xs => .sl τ xs
  | .agg l => .agg (AV.lows l)
  | .tup l => .tup (AV.lows l)
  | v => v
def AV.lows : List AV → List AV
  | [] => []
  | v :: l => v.low :: AV.lows l
end

/-- An array that is owned, told as one that is read. -/
def viewF (hp : Hp) (v : AV) (k : AV → Prop) : Prop :=
  match v with
  | .own o => hget hp o fun
    | .arr τ xs => k (.sl τ xs)
    | .box _ => False
  | v => v.low.f k
def viewsF (hp : Hp) : List AV → (List AV → Prop) → Prop
  | [], k => k []
  | v :: l, k => viewF hp v fun v' => viewsF hp l fun l' => k (v' :: l')

def isOwn : AV → Bool
  | .own _ => true
  | _ => false
def anyOwn : List AV → Bool
  | [] => false
  | v :: l => match isOwn v with
    | true => true
    | false => anyOwn l
/-- No slice, no pointer inside. -/
def plainA : AV → Bool
  | .int _ _ => true
  | .bool _ => true
  | .str _ => true
  | _ => false
def plainL : List AV → Bool
  | [] => true
  | v :: l => match plainA v with
    | true => plainL l
    | false => false
def plain1 : AV → Bool
  | .agg l => plainL l
  | v => plainA v
def plainM : List AV → Bool
  | [] => true
  | v :: l => match plain1 v with
    | true => plainM l
    | false => false
def plainV : AV → Bool
  | .tup l => plainM l
  | v => plain1 v

/-- One cell each. -/
def oneC : AV → Bool
  | .agg _ | .tup _ | .skp | .opq _ | .undef => false
  | _ => true
def ones : List AV → Bool
  | [] => true
  | v :: l => match oneC v with
    | true => ones l
    | false => false

/- No pointer, no owned array: what a box may hold beside plain values and slices. -/
mutual
def AV.calm : AV → Bool
  | .int _ _ | .bool _ | .str _ | .sl _ _ | .lit _ _ | .nil | .fn _ | .undef => true
  | .agg l => AV.calms l
  | .tup l => AV.calms l
  | .kp l => AV.calms l
  | .clo _ l => AV.calms l
  | .ifc _ v => v.calm
  | _ => false
def AV.calms : List AV → Bool
  | [] => true
  | v :: l => match v.calm with
    | true => AV.calms l
    | false => false
end

/- No object is named. -/
mutual
def AV.free : AV → Bool
  | .ptr _ _ | .oep _ _ | .own _ => false
  | .clo _ l => AV.frees l
  | .kp l => AV.frees l
  | .mp _ l => AV.frees l
  | .agg l => AV.frees l
  | .tup l => AV.frees l
  | .ifc _ v => v.free
  | _ => true
def AV.frees : List AV → Bool
  | [] => true
  | v :: l => match v.free with
    | true => AV.frees l
    | false => false
end

def decF (τ : ET) (l : List AV) (k : τ.T → Prop) : Prop :=
  match τ, l with
  | .i64, [.int .i64 n] => k n
  | .u8, [.int .u8 n] => k n
  | .bl, [.bool b] => k b
  | .acc, [.int .i64 a, .int .i64 b, .int .i64 c, .int .i64 d, .str s] => k (⟨a, b, c, d, s⟩ : Acc)
  | .res, [.int .i64 a, .bool b] => k (⟨a, b⟩ : Res)
  | _, _ => False

/-- The elements of a literal, in their order. -/
def elemsF (τ : ET) (tm : List AV) : Nat → List (Nat × Operand) → (List τ.T → Prop) → Prop
  | _, [], k => k []
  | i, (j, x) :: l, k => match Nat.beq i j with
    | true => cellsF (evalV tm x) fun cs => decF τ cs fun e => elemsF τ tm (i + 1) l fun es => k (e :: es)
    | false => False

def fillF (fs : List (Nat × Nat × Bool)) (tm : List AV) : List (Nat × Operand) → List AV → (List AV → Prop) → Prop
  | [], cs, k => k cs
  | (i, x) :: l, cs, k => nthF fs i fun f => (evalV tm x).f fun v => cellsF v fun vs => match Nat.beq vs.length f.2.1 with
    | true => spliceF cs f.1 vs fun cs' => fillF fs tm l cs' k
    | false => False

/-- What a map holds under a key. -/
def lookF (n : Int) : List Int → List AV → (Option AV → Prop) → Prop
  | x :: ks, v :: vs, k => match n == x with
    | true => v.f fun v => k (some v)
    | false => lookF n ks vs k
  | _, _, k => k none

/-- Boxes of these types are never written once they are made. -/
def sealT (T : Nat) : Bool := match Nat.beq T 26, Nat.beq T 113, Nat.beq T 59, Nat.beq T 79, Nat.beq T 3 with
  | false, false, false, false, false => false
  | _, _, _, _, _ => true

/-- Operations that change no object: what they give. -/
def pop (E : Env) (op : Op) (tm : List AV) (hp : Hp) (k : AV → Prop) : Prop :=
  match op with
  | .move x => (evalV tm x).f k
  | .assign x => match evalV tm x with
    | .own _ => False
    | .nil => False
    | v => v.f k
  | .pick c a b => match evalV tm c with
    | .bool t => match t with
      | true => (evalV tm a).f k
      | false => (evalV tm b).f k
    | _ => False
  | .binOp op T x y _ => (evalV tm x).f fun vx => (evalV tm y).f fun vy => binF E op T vx vy k
  | .unOp op _ x => match op, evalV tm x with
    | .not, .bool b => k (.bool (!b))
    | .neg, .int κ n => k (.int κ (κ.wrap (0 - n)))
    | _, _ => False
  | .convert _ d x => match evalV tm x with
    | .int _ n => tiGet E.tys d fun ti => match ti.ik with
      | some κ => k (.int κ (κ.wrap n))
      | none => False
    | _ => False
  | .extract x i => match evalV tm x with
    | .tup l => nthA l i k
    | _ => False
  | .fieldAddr T x i => match evalV tm x with
    | .ptr o off => tiGet E.tys T fun ti => nthF ti.fields i fun f => k (.ptr o (off + f.1))
    | .ep cs => tiGet E.tys T fun ti => nthF ti.fields i fun f => dropC cs f.1 fun cs => k (.ep cs)
    | .kp cs => tiGet E.tys T fun ti => nthF ti.fields i fun f => dropF cs f.1 fun cs => k (.kp cs)
    | _ => False
  | .field T x i => match evalV tm x with
    | .agg l => tiGet E.tys T fun ti => nthF ti.fields i fun f => dropF l f.1 fun l => takeF l f.2.1 fun l => shapeF f.2.2 l k
    | _ => False
  | .load T x => match evalV tm x with
    | .ptr o off => tiGet E.tys T fun ti => hget hp o fun
      | .box cs => dropF cs off fun l => takeF l ti.size fun l => shapeF ti.agg l k
      | .arr _ _ => False
    | .ep cs => tiGet E.tys T fun ti => takeC cs ti.size fun l => shapeF ti.agg l k
    | .kp cs => tiGet E.tys T fun ti => takeF cs ti.size fun l => shapeF ti.agg l k
    | .oep o i => match Nat.beq T 3 with
      | true => hget hp o fun
        | .arr .i64 xs => i < xs.length ∧ k (.int .i64 (xs.getD i (0 : Int)))
        | _ => False
      | false => False
    | _ => False
  | .indexAddr T x i => match evalV tm i with
    | .int _ n => match evalV tm x with
      | .sl τ xs => tiGet E.tys T fun ti => match ti.has τ with
        | true => (0 ≤ n ∧ n < xs.length) ∧ k (.ep (τ.enc (xs.getD n.toNat τ.dflt)))
        | false => False
      | .lit τ xs => tiGet E.tys T fun ti => match ti.has τ with
        | true => (0 ≤ n ∧ n < xs.length) ∧ k (.ep (τ.enc (xs.getD n.toNat τ.dflt)))
        | false => False
      | .own o => tiGet E.tys T fun ti => hget hp o fun
        | .arr .i64 xs => match ti.has .i64 with
          | true => (0 ≤ n ∧ n < xs.length) ∧ k (.oep o n.toNat)
          | false => False
        | _ => False
      | .ptr o off => tiGet E.tys T fun ti => match ti.arr with
        | some (m, z, _) => (0 ≤ n ∧ n < (m : Int)) ∧ k (.ptr o (off + n.toNat * z))
        | none => False
      | .kp cs => tiGet E.tys T fun ti => match ti.arr with
        | some (m, z, _) => (0 ≤ n ∧ n < (m : Int)) ∧ dropF cs (n.toNat * z) fun cs => k (.kp cs)
        | none => False
      | _ => False
    | _ => False
  | .nilCheck x => match evalV tm x with
    | .ptr o off => k (.ptr o off)
    | .ep cs => k (.ep cs)
    | .kp cs => k (.kp cs)
    | .fn g => k (.fn g)
    | .clo g caps => k (.clo g caps)
    | _ => False
  | .build T parts => tiGet E.tys T fun ti => match ti.fields with
    | [] => match ti.arr, parts.toList with
      | some _, [] => constsF ti.zero fun cs => k (.agg cs)
      | _, _ => False
    | f :: fs => constsF ti.zero fun cs => fillF (f :: fs) tm parts.toList cs fun cs => k (.agg cs)
  | .slice T x lo hi mx => tiGet E.tys T fun ti => listF hp (evalV tm x) fun τ xs => match ti.has τ, mx with
      | false, _ => False
      | _, some _ => False
      | true, none =>
        match (match lo with | some l => evalV tm l | none => .int .i64 0), (match hi with | some h => evalV tm h | none => .int .i64 xs.length) with
        | .int _ a, .int _ b => match isOwn (evalV tm x) with
          | false => (0 ≤ a ∧ a ≤ b ∧ b ≤ xs.length) ∧ k (.sl τ ((xs.take b.toNat).drop a.toNat))
          | true => False
        | _, _ => False
  | .makeFunc fn first caps => match fn, first.toList with
    | .func g, [] => evs tm caps.toList fun vs => match anyOwn vs with
      | false => k (.clo g vs)
      | true => False
    | _, _ => False
  | .makeInterface T x => (evalV tm x).f fun v => match plain1 v with
    | true => k (.ifc T v)
    | false => False
  | .call c => match c.callee with
    | .builtin .len => match c.args.toList, c.argTypes.toList with
      | [x], [T] => match evalV tm x with
        | .nil => tiGet E.tys T fun ti => match ti.elem with
          | some _ => k (.int .i64 0)
          | none => False
        | v => tiGet E.tys T fun ti => listF hp v fun τ xs => match ti.has τ with
          | true => k (.int .i64 xs.length)
          | false => False
      | _, _ => False
    | .builtin .min => match c.args.toList with
      | [x, y] => match evalV tm x, evalV tm y with
        | .int .i64 a, .int .i64 b => k (.int .i64 (if b < a then b else a))
        | _, _ => False
      | _ => False
    | .builtin .max => match c.args.toList with
      | [x, y] => match evalV tm x, evalV tm y with
        | .int .i64 a, .int .i64 b => k (.int .i64 (if b > a then b else a))
        | _, _ => False
      | _ => False
    | .value f => match evalV tm f with
      | .fn g => spGet E.sp g fun
        | .pure h => evs tm c.args.toList fun vs => viewsF hp vs fun ws => match AV.calms ws with
          | false => False
          | true => match h ws with
            | some (p, r) => p ∧ r.f fun r => match r.calm, anyOwn vs, plainV r with
              | false, _, _ => False
              | true, true, false => False
              | true, _, _ => k r
            | none => False
        | .full _ => False
        | .tab _ => False
      | .clo g caps => spGet E.sp g fun
        | .pure h => evs tm c.args.toList fun vs => viewsF hp vs fun ws => match AV.calms (ws ++ caps) with
          | false => False
          | true => match h (ws ++ caps) with
            | some (p, r) => p ∧ r.f fun r => match r.calm, anyOwn vs, plainV r with
              | false, _, _ => False
              | true, true, false => False
              | true, _, _ => k r
            | none => False
        | .full _ => False
        | .tab _ => False
      | _ => False
    | _ => False
  | .buildSlice T n parts => tiGet E.tys T fun ti => match ti.elem with
    | some τ => match Nat.beq parts.toList.length n && Nat.ble n 100000 with
      | true => elemsF τ tm 0 parts.toList fun es => k (.lit τ es)
      | false => False
    | none => False
  | .box T x => match sealT T with
    | true => tiGet E.tys T fun ti => (evalV tm x).f fun v => cellsF v fun cs => match Nat.beq cs.length ti.size with
      | true => k (.kp cs)
      | false => False
    | false => False
  | .lookup T m i ok => match evalV tm m, evalV tm i, ok with
    | .mp ks vs, .int .i64 n, true => lookF n ks vs fun
      | some v => k (.tup [v, .bool true])
      | none => k (.tup [.undef, .bool false])
    | _, _, _ => False
  | _ => False

/-! ### Operations that make or change objects -/
def castF : (τ' τ : ET) → List τ'.T → (List τ.T → Prop) → Prop
  | .i64, .i64, ys, k => k ys
  | .u8, .u8, ys, k => k ys
  | .bl, .bl, ys, k => k ys
  | .acc, .acc, ys, k => k ys
  | .res, .res, ys, k => k ys
  | .i3, .i3, ys, k => k ys
  | .i2, .i2, ys, k => k ys
  | _, _, _, _ => False

mutual
def AV.frz (o : Nat) (τ : ET) (xs : List τ.T) : AV → AV
  | .ptr p off => match Nat.beq p o with | true => .undef | false => .ptr p off
  | .oep p i => match Nat.beq p o with | true => .undef | false => .oep p i
  | .own p => match Nat.beq p o with | true => .sl τ xs | false => .own p
  | .clo f caps => .clo f (AV.frzs o τ xs caps)
  | .kp cs => .kp (AV.frzs o τ xs cs)
  | .mp ks vs => .mp ks (AV.frzs o τ xs vs)
  | .agg l => .agg (AV.frzs o τ xs l)
  | .tup l => .tup (AV.frzs o τ xs l)
  | .ifc t v => .ifc t (AV.frz o τ xs v)
  | v => v
def AV.frzs (o : Nat) (τ : ET) (xs : List τ.T) : List AV → List AV
  | [] => []
  | v :: l => v.frz o τ xs :: AV.frzs o τ xs l
end

def frzsF (o : Nat) (τ : ET) (xs : List τ.T) : List AV → (List AV → Prop) → Prop
  | [], k => k []
  | v :: l, k => (v.frz o τ xs).f fun v' => frzsF o τ xs l fun l' => k (v' :: l')

def frzHpF (o : Nat) (τ : ET) (xs : List τ.T) : Hp → (Hp → Prop) → Prop
  | [], k => k []
  | (n, .box cs) :: h, k => frzsF o τ xs cs fun cs' => frzHpF o τ xs h fun h' => k ((n, .box cs') :: h')
  | (n, .arr τ' ys) :: h, k => frzHpF o τ xs h fun h' => k ((n, .arr τ' ys) :: h')

/-- From now on the array is read alone. -/
def freezeF (tm : List AV) (hp : Hp) (o : Nat) (k : List AV → Hp → Prop) : Prop :=
  hget hp o fun
    | .arr τ xs => hdelF hp o fun hp => frzsF o τ xs tm fun tm => frzHpF o τ xs hp fun hp => k tm hp
    | .box _ => False

def freezesF : List AV → List AV → Hp → (List AV → Hp → Prop) → Prop
  | [], tm, hp, k => k tm hp
  | v :: l, tm, hp, k => match v with
    | .own o => match hlive hp o with
      | true => freezeF tm hp o fun tm hp => freezesF l tm hp k
      | false => freezesF l tm hp k
    | _ => freezesF l tm hp k

/-- The owned arrays that an operation stores away. -/
def kept (op : Op) (tm : List AV) (k : List AV → Prop) : Prop :=
  match op with
  | .build _ parts => evs tm (parts.toList.map (·.2)) k
  | .box _ x => evs tm [x] k
  | .store _ a x => match evalV tm a with
    | .ptr _ off => match Nat.beq off 14 with
      | true => k []
      | false => evs tm [x] k
    | _ => evs tm [x] k
  | .makeFunc _ _ caps => evs tm caps.toList k
  | .slice _ x _ _ _ => evs tm [x] k
  | _ => k []

/-- The objects that arguments name, in their order; the arguments as the callee sees them (object i is 1000 + i). -/
def idxOf : List Nat → Nat → Nat → Nat
  | [], _, i => i
  | p :: l, o, i => match Nat.beq p o with
    | true => i
    | false => idxOf l o (i + 1)
def addId (ids : List Nat) (o : Nat) : List Nat := match Nat.blt (idxOf ids o 0) ids.length with | true => ids | false => ids ++ [o]

mutual
def AV.ids : AV → List Nat → List Nat
  | .ptr o _, l => addId l o
  | .clo _ caps, l => AV.idss caps l
  | .kp cs, l => AV.idss cs l
  | _, l => l
def AV.idss : List AV → List Nat → List Nat
  | [], l => l
  | v :: vs, l => AV.idss vs (v.ids l)
end
mutual
def AV.ren (ids : List Nat) : AV → AV
  | .ptr o off => .ptr (1000 + idxOf ids o 0) off
  | .clo f caps => .clo f (AV.rens ids caps)
  | .kp cs => .kp (AV.rens ids cs)
  | v => v
def AV.rens (ids : List Nat) : List AV → List AV
  | [] => []
  | v :: l => v.ren ids :: AV.rens ids l
end
/- Does the callee see all that the value names? -/
mutual
def AV.renok (ids : List Nat) : AV → Bool
  | .ptr o _ => Nat.blt (idxOf ids o 0) ids.length
  | .clo _ caps => AV.renoks ids caps
  | .kp cs => AV.renoks ids cs
  | v => v.free
def AV.renoks (ids : List Nat) : List AV → Bool
  | [] => true
  | v :: l => match v.renok ids with
    | true => AV.renoks ids l
    | false => false
end
def notIn : List Nat → Nat → Bool
  | [], _ => true
  | x :: l, n => match Nat.beq x n with
    | true => false
    | false => notIn l n
def nodupB : List Nat → Bool
  | [] => true
  | x :: l => match notIn l x with
    | true => nodupB l
    | false => false
def rensF (ids : List Nat) : List AV → (List AV → Prop) → Prop
  | [], k => k []
  | v :: l, k => (v.ren ids).f fun v' => rensF ids l fun l' => k (v' :: l')

def boxesF (hp : Hp) : List Nat → (List (List AV) → Prop) → Prop
  | [], k => k []
  | o :: l, k => hget hp o fun
    | .box cs => match AV.frees cs with
      | true => boxesF hp l fun bs => k (cs :: bs)
      | false => False
    | .arr _ _ => False
def unboxF : List Nat → List (List AV) → Hp → (Hp → Prop) → Prop
  | [], [], hp, k => k hp
  | o :: l, cs :: bs, hp, k => match AV.frees cs with
    | true => hputF hp o (.box cs) fun hp => unboxF l bs hp k
    | false => False
  | _, _, _, _ => False


def callP (E : Env) (h : List AV → Option (Prop × AV)) (vs caps : List AV) (tm : List AV) (hp : Hp) (dst : Option Nat) (k : List AV → Hp → Prop) : Prop :=
  viewsF hp vs fun ws => match AV.calms (ws ++ caps) with
    | false => False
    | true => match h (ws ++ caps) with
      | some (p, r) => p ∧ r.f fun r => match r.calm, anyOwn vs, plainV r with
        | false, _, _ => False
        | true, true, false => freezesF vs tm hp fun tm hp => putD tm dst r fun tm => k tm hp
        | true, _, _ => putD tm dst r fun tm => k tm hp
      | none => False

def callS (E : Env) (s : List AV → List (List AV) → (Out → List (List AV) → Prop) → Prop) (vs : List AV) (tm : List AV) (hp : Hp) (dst : Option Nat)
    (kp : AV → List AV → Hp → Prop) (k : List AV → Hp → Prop) : Prop :=
  viewsF hp vs fun ws => boxesF hp (AV.idss ws []) fun bs => rensF (AV.idss ws []) ws fun ws' => match anyOwn vs, AV.renoks (AV.idss ws []) ws && nodupB (AV.idss ws []) with
    | true, _ => False
    | false, false => False
    | false, true => s ws' bs fun out bs' => match out with
      | .ret r => r.f fun r => match r.calm with
        | true => unboxF (AV.idss ws []) bs' hp fun hp => putD tm dst r fun tm => k tm hp
        | false => False
      | .pan v => v.f fun v => match v.calm with
        | true => unboxF (AV.idss ws []) bs' hp fun hp => kp v tm hp
        | false => False

/-- Behind a call that was handed a table. -/
def backT (tm : List AV) (hp : Hp) (o : Nat) (cs : List AV) (ext : Option (List Int)) (dst : Option Nat) (k : List AV → Hp → Prop) : Prop :=
  match AV.frees (cs.set 14 .nil), ext with
  | false, _ => False
  | true, none => match (getV cs 14).free with
    | true => hputF hp o (.box cs) fun hp => putD tm dst (.tup []) fun tm => k tm hp
    | false => False
  | true, some xs => match getV cs 14 with
    | .own n => match Nat.beq n 1001 with
      | true => setF cs 14 .undef fun cs0 => hputF hp o (.box cs0) fun hp => dropObj tm hp 999 fun tm hp => hputF hp 999 (.arr .i64 xs) fun hp =>
          setF cs 14 (.own 999) fun cs => hputF hp o (.box cs) fun hp => putD tm dst (.tup []) fun tm => k tm hp
      | false => False
    | _ => False

/-- A call that is handed a box with an array of its own (cell 14). -/
def callT (h : List AV → List AV → Option (List Int) → Option (Prop × List AV × Option (List Int))) (vs : List AV) (tm : List AV) (hp : Hp) (dst : Option Nat) (k : List AV → Hp → Prop) : Prop :=
  match vs with
  | .ptr o 0 :: rest => viewsF hp rest fun ws => match AV.frees ws, anyOwn rest, Nat.beq o 999 with
    | true, false, false => hget hp o fun
      | .box cs => match AV.frees (cs.set 14 .nil) with
        | true => match getV cs 14 with
          | .own q => hget hp q fun
            | .arr .i64 xs => match h (.ptr 1000 0 :: ws) (cs.set 14 (.own 1001)) (some xs) with
              | some (p, cs', ext') => p ∧ dropObj tm hp q fun tm hp => backT tm hp o cs' ext' dst k
              | none => False
            | _ => False
          | v => match v.free, h (.ptr 1000 0 :: ws) cs none with
            | true, some (p, cs', ext') => p ∧ backT tm hp o cs' ext' dst k
            | _, _ => False
        | false => False
      | .arr _ _ => False
    | _, _, _ => False
  | _ => False

def callF (E : Env) (g : Nat) (vs caps : List AV) (tm : List AV) (hp : Hp) (dst : Option Nat) (kp : AV → List AV → Hp → Prop) (k : List AV → Hp → Prop) : Prop :=
  spGet E.sp g fun
    | .pure h => callP E h vs caps tm hp dst k
    | .full g => callS E (detS g) (vs ++ caps) tm hp dst kp k
    | .tab h => match caps with
      | [] => callT h vs tm hp dst k
      | _ => False

/-- One operation, once what it stores away is frozen. -/
def step1 (E : Env) (o : Oper) (tm : List AV) (hp : Hp) (kp : AV → List AV → Hp → Prop) (k : List AV → Hp → Prop) : Prop :=
  match o.op with
  | .alloc T => match o.dst with
    | some d => tiGet E.tys T fun ti => constsF ti.zero fun cs => match AV.frees cs with
      | true => newObj tm hp d (.box cs) (.ptr d 0) k
      | false => False
    | none => False
  | .box T x => match sealT T with
    | true => pop E o.op tm hp fun v => putD tm o.dst v fun tm => k tm hp
    | false => match o.dst with
      | some d => tiGet E.tys T fun ti => (evalV tm x).f fun v => cellsF v fun cs => match AV.frees cs, Nat.beq cs.length ti.size with
        | true, true => newObj tm hp d (.box cs) (.ptr d 0) k
        | _, _ => False
      | none => False
  | .store T a x => match evalV tm a with
    | .ptr p off => tiGet E.tys T fun ti => (evalV tm x).f fun v => cellsF v fun vs => match anyOwn vs && !Nat.beq off 14, Nat.beq vs.length ti.size && ones vs with
      | false, true => hget hp p fun
        | .box cs => spliceF cs off vs fun cs' => hputF hp p (.box cs') fun hp => putD tm o.dst .skp fun tm => k tm hp
        | .arr _ _ => False
      | _, _ => False
    | .oep p i => match Nat.beq T 3 with
      | true => match evalV tm x with
        | .int .i64 n => hget hp p fun
          | .arr .i64 xs => i < xs.length ∧ hputF hp p (.arr .i64 (xs.set i n)) fun hp => putD tm o.dst .skp fun tm => k tm hp
          | _ => False
        | _ => False
      | false => False
    | _ => False
  | .makeSlice T l c => match o.dst with
    | some d => match evalV tm l, evalV tm c with
      | .int .i64 n, .int .i64 m => tiGet E.tys T fun ti => match ti.has .i64 with
        | true => (n = m ∧ 0 ≤ n ∧ n ≤ 17592186044416) ∧ newObj tm hp d (.arr .i64 (List.replicate n.toNat (0 : Int))) (.own d) k
        | false => False
      | _, _ => False
    | none => False
  | .assign x => match evalV tm x with
    | .own p => match o.dst with
      | some d => match Nat.beq p d with
        | true => setF tm d (.own d) fun tm => k tm hp
        | false => match Nat.blt d 1000 with
          | true => dropObj tm hp d fun tm hp => hget hp p fun
            | .arr τ xs => dropObj tm hp p fun tm hp => hputF hp d (.arr τ xs) fun hp => setF tm d (.own d) fun tm => k tm hp
            | .box _ => False
          | false => False
      | none => False
    | .nil => match o.dst with
      | some d => tiGet E.tys o.type fun ti => match ti.elem with
        | some τ => newObj tm hp d (.arr τ []) (.own d) k
        | none => False
      | none => False
    | v => v.f fun v => putD tm o.dst v fun tm => k tm hp
  | .panic x => match evalV tm x with
    | .ifc t v => match v.calm with
      | true => kp (.ifc t v) tm hp
      | false => False
    | _ => False
  | .call c => match c.callee with
    | .builtin .append => match c.args.toList, c.argTypes.toList, o.dst with
      | [s, x], [T, T'], some d => match Nat.beq T T' with
        | true => tiGet E.tys T fun ti => match ti.elem with
          | some τ => listF hp (evalV tm x) fun τ' ys => castF τ' τ ys fun ys => match evalV tm s with
            | .own p => hget hp p fun
              | .arr τ'' xs => castF τ'' τ xs fun xs => (xs.length + ys.length) * τ.bytes ≤ 140737488355328 ∧
                  dropObj tm hp p fun tm hp => newObj tm hp d (.arr τ (xs ++ ys)) (.own d) k
              | .box _ => False
            | .lit τ'' xs => castF τ'' τ xs fun xs => (xs = [] ∨ ys ≠ []) ∧ (xs.length + ys.length) * τ.bytes ≤ 140737488355328 ∧ newObj tm hp d (.arr τ (xs ++ ys)) (.own d) k
            | _ => False
          | none => False
        | false => False
      | _, _, _ => False
    | .builtin .copy => match c.args.toList, c.argTypes.toList with
      | [s, x], [T, T'] => tiGet E.tys T fun ti => match ti.has .i64, evalV tm s with
        | true, .own p => hget hp p fun
          | .arr .i64 xs => listF hp (evalV tm x) fun τ' ys => castF τ' .i64 ys fun ys => (xs ≠ [] ∧ ys ≠ []) ∧
              hputF hp p (.arr .i64 (ys.take xs.length ++ xs.drop ys.length)) fun hp => putD tm o.dst (.int .i64 (min ys.length xs.length : Nat)) fun tm => k tm hp
          | _ => False
        | _, _ => False
      | _, _ => False
    | .value f => match evalV tm f with
      | .fn g => evs tm c.args.toList fun vs => callF E g vs [] tm hp o.dst kp k
      | .clo g caps => evs tm c.args.toList fun vs => callF E g vs caps tm hp o.dst kp k
      | _ => False
    | _ => pop E o.op tm hp fun v => putD tm o.dst v fun tm => k tm hp
  | op => pop E op tm hp fun v => putD tm o.dst v fun tm => k tm hp

def step (E : Env) (o : Oper) (tm : List AV) (hp : Hp) (kp : AV → List AV → Hp → Prop) (k : List AV → Hp → Prop) : Prop :=
  kept o.op tm fun vs => match anyOwn vs with
    | true => freezesF vs tm hp fun tm hp => step1 E o tm hp kp k
    | false => step1 E o tm hp kp k

/-! ### Regions -/
def dstOf : List Oper → Nat → Option Nat
  | [], _ => none
  | o :: _, 0 => o.dst
  | _ :: l, n + 1 => dstOf l n

/-- Is an operation performed? Its guard is decided, and told so. -/
def guardF (all : List Oper) (o : Oper) (tm : List AV) (yes no : List AV → Prop) : Prop :=
  match o.guard with
  | none => yes tm
  | some (j, want) => match dstOf all j with
    | none => False
    | some d => match getV tm d with
      | .bool b => match b with
        | true => setF tm d (.bool true) fun tm => match want with
          | true => yes tm
          | false => no tm
        | false => setF tm d (.bool false) fun tm => match want with
          | true => no tm
          | false => yes tm
      | .skp => no tm
      | _ => False

/- By the recursor itself, so that what the kernel reckons is what stands in the goal. -/
noncomputable def evOps (E : Env) (all l : List Oper) : List AV → Hp → (AV → List AV → Hp → Prop) → (List AV → Hp → Prop) → Prop :=
  @List.rec Oper (fun _ => List AV → Hp → (AV → List AV → Hp → Prop) → (List AV → Hp → Prop) → Prop)
    (fun tm hp _ k => k tm hp)
    (fun o _ ih tm hp kp k => guardF all o tm
      (fun tm => step E o tm hp kp fun tm hp => ih tm hp kp k)
      (fun tm => putD tm o.dst .skp fun tm => ih tm hp kp k)) l
theorem evOps_eq (E : Env) (all : List Oper) (o : Oper) (l : List Oper) (tm : List AV) (hp : Hp) (kp : AV → List AV → Hp → Prop) (k : List AV → Hp → Prop) : evOps E all (o :: l) tm hp kp k = guardF all o tm
      (fun tm => step E o tm hp kp fun tm hp => evOps E all l tm hp kp k)
      (fun tm => putD tm o.dst .skp fun tm => evOps E all l tm hp kp k) := rfl

/-- Operations that change nothing, in the order of the text. -/
noncomputable def evQ (E : Env) (all : List Oper) (hp : Hp) (l : List Oper) : List AV → (List AV → Prop) → Prop :=
  @List.rec Oper (fun _ => List AV → (List AV → Prop) → Prop)
    (fun tm k => k tm)
    (fun o _ ih tm k => guardF all o tm
      (fun tm => pop E o.op tm hp fun v => putD tm o.dst v fun tm => ih tm k)
      (fun tm => putD tm o.dst .skp fun tm => ih tm k)) l
theorem evQ_eq (E : Env) (all : List Oper) (hp : Hp) (o : Oper) (l : List Oper) (tm : List AV) (k : List AV → Prop) : evQ E all hp (o :: l) tm k = guardF all o tm
      (fun tm => pop E o.op tm hp fun v => putD tm o.dst v fun tm => evQ E all hp l tm k)
      (fun tm => putD tm o.dst .skp fun tm => evQ E all hp l tm k) := rfl

def getB : List Bool → Nat → Bool
  | [], _ => false
  | b :: _, 0 => b
  | _ :: l, n + 1 => getB l n
def setB : List Bool → Nat → List Bool
  | [], _ => []
  | _ :: l, 0 => true :: l
  | b :: l, n + 1 => b :: setB l n
def edgesOk (listed : List Bool) : List Edge → Bool
  | [] => true
  | e :: l => match Region.binds .any e with
    | true => match getB listed e.on with
      | true => edgesOk listed l
      | false => false
    | false => edgesOk listed l
def isReady (listed : List Bool) (i : Nat) (o : Oper) : Bool :=
  match getB listed i with
  | true => false
  | false => edgesOk listed o.after.toList
def noneReady (listed : List Bool) : Nat → List Oper → Bool
  | _, [] => true
  | i, o :: l => match isReady listed i o with
    | true => false
    | false => noneReady listed (i + 1) l
def eachReady (listed : List Bool) (f : Nat → Oper → Prop) : Nat → List Oper → Prop
  | _, [] => True
  | i, o :: l => match isReady listed i o with
    | true => f i o ∧ eachReady listed f (i + 1) l
    | false => eachReady listed f (i + 1) l

/-- Every order that the edges allow. -/
def evAny (E : Env) (all : List Oper) (kp : AV → List AV → Hp → Prop) (k : List AV → Hp → Prop) : Nat → List Bool → List AV → Hp → Prop
  | 0, listed, tm, hp => match noneReady listed 0 all with
    | true => k tm hp
    | false => False
  | n + 1, listed, tm, hp => match noneReady listed 0 all with
    | true => k tm hp
    | false => eachReady listed (fun i o => guardF all o tm
        (fun tm => step E o tm hp kp fun tm hp => evAny E all kp k n (setB listed i) tm hp)
        (fun tm => putD tm o.dst .skp fun tm => evAny E all kp k n (setB listed i) tm hp)) 0 all

/-- May the order of the text stand for all orders? Each slot that an operation looks at and another one writes: the two are bound by an edge. -/
def hasEdge : List Edge → Nat → Bool
  | [], _ => false
  | e :: l, j => match Region.binds .any e with
    | true => match Nat.beq e.on j with
      | true => true
      | false => hasEdge l j
    | false => hasEdge l j
def memN : List Nat → Nat → Bool
  | [], _ => false
  | x :: l, n => match Nat.beq x n with
    | true => true
    | false => memN l n
def opTmps : List Operand → List Nat
  | [] => []
  | .tmp t :: l => t :: opTmps l
  | _ :: l => opTmps l
def looks (all : List Oper) (o : Oper) : List Nat :=
  (match o.guard with
    | none => []
    | some (j, _) => match dstOf all j with
      | some d => [d]
      | none => []) ++ opTmps o.op.operands.toList
/-- Operation o, number i, against all others: whoever writes what it looks at stands before it by an edge if it stands before it in the text, and behind it by an edge else; nobody else writes what it writes. -/
def fitsAll (all : List Oper) (i : Nat) (o : Oper) : Nat → List Oper → Bool
  | _, [] => true
  | j, p :: l => match Nat.beq i j with
    | true => (match p.dst with
        | some d => !memN (looks all o) d
        | none => true) && fitsAll all i o (j + 1) l
    | false => (match p.dst with
        | some d => (!memN (looks all o) d || (match Nat.blt j i with
            | true => hasEdge o.after.toList j
            | false => hasEdge p.after.toList i)) && (match o.dst with
            | some d' => !Nat.beq d d'
            | none => true)
        | none => true) && fitsAll all i o (j + 1) l
def edgesBack (i : Nat) : List Edge → Bool
  | [] => true
  | e :: l => match Region.binds .any e with
    | true => Nat.blt e.on i && edgesBack i l
    | false => edgesBack i l
def quietL (all : List Oper) : Nat → List Oper → Bool
  | _, [] => true
  | i, o :: l => fitsAll all i o 0 all && o.dst.isSome && edgesBack i o.after.toList && quietL all (i + 1) l

/-! ### Operations that write objects, told as a value and the objects written -/
/-- The boxes that a call hands back. -/
def backF : List Nat → List (List AV) → (List (Nat × AO) → Prop) → Prop
  | [], [], k => k []
  | o :: l, cs :: bs, k => match AV.frees cs with
    | true => backF l bs fun ws => k ((o, .box cs) :: ws)
    | false => False
  | _, _, _ => False

def effS (g : List AV → List (List AV) → Option (Prop × Out × List (List AV))) (vs : List AV) (hp : Hp) (k : AV → List (Nat × AO) → Prop) : Prop :=
  viewsF hp vs fun ws => boxesF hp (AV.idss ws []) fun bs => rensF (AV.idss ws []) ws fun ws' => match anyOwn vs, AV.renoks (AV.idss ws []) ws && nodupB (AV.idss ws []) with
    | false, true => match g ws' bs with
      | some (p, .ret r, bs') => p ∧ r.f fun r => match r.calm with
        | true => backF (AV.idss ws []) bs' fun us => k r us
        | false => False
      | _ => False
    | _, _ => False

def effP (h : List AV → Option (Prop × AV)) (vs caps : List AV) (hp : Hp) (k : AV → List (Nat × AO) → Prop) : Prop :=
  viewsF hp vs fun ws => match AV.calms (ws ++ caps) with
    | false => False
    | true => match h (ws ++ caps) with
      | some (p, r) => p ∧ r.f fun r => match r.calm, anyOwn vs, plainV r with
        | false, _, _ => False
        | true, true, false => False
        | true, _, _ => k r []
      | none => False

def effC (E : Env) (g : Nat) (vs caps : List AV) (hp : Hp) (k : AV → List (Nat × AO) → Prop) : Prop :=
  spGet E.sp g fun
    | .pure h => effP h vs caps hp k
    | .full s => effS s (vs ++ caps) hp k
    | .tab _ => False

/-- A new object, if none lies there. -/
def newE (hp : Hp) (d : Option Nat) (x : AO) (v : Nat → AV) (k : AV → List (Nat × AO) → Prop) : Prop :=
  match d with
  | some d => match hlive hp d, Nat.blt d 1000 with
    | false, true => k (v d) [(d, x)]
    | _, _ => False
  | none => False

/-- An append to a literal. -/
def appE (E : Env) (xs : List Operand) (Ts : List Nat) (dst : Option Nat) (tm : List AV) (hp : Hp) (k : AV → List (Nat × AO) → Prop) : Prop :=
  match xs, Ts with
  | [s, x], [T, T'] => match Nat.beq T T' with
    | true => tiGet E.tys T fun ti => match ti.elem with
      | some τ => listF hp (evalV tm x) fun τ' ys => castF τ' τ ys fun ys => match evalV tm s with
        | .lit τ'' zs => castF τ'' τ zs fun zs => (zs = [] ∨ ys ≠ []) ∧ (zs.length + ys.length) * τ.bytes ≤ 140737488355328 ∧ newE hp dst (.arr τ (zs ++ ys)) (fun d => .own d) k
        | _ => False
      | none => False
    | false => False
  | _, _ => False

def eff1 (E : Env) (o : Oper) (tm : List AV) (hp : Hp) (k : AV → List (Nat × AO) → Prop) : Prop :=
  match o.op with
  | .alloc T => tiGet E.tys T fun ti => constsF ti.zero fun cs => match AV.frees cs with
    | true => newE hp o.dst (.box cs) (fun d => .ptr d 0) k
    | false => False
  | .box T x => match sealT T with
    | true => pop E o.op tm hp fun v => k v []
    | false => tiGet E.tys T fun ti => (evalV tm x).f fun v => cellsF v fun cs => match AV.frees cs, Nat.beq cs.length ti.size with
      | true, true => newE hp o.dst (.box cs) (fun d => .ptr d 0) k
      | _, _ => False
  | .store T a x => match evalV tm a with
    | .ptr p off => tiGet E.tys T fun ti => (evalV tm x).f fun v => cellsF v fun vs => match anyOwn vs, Nat.beq vs.length ti.size && ones vs with
      | false, true => hget hp p fun
        | .box cs => spliceF cs off vs fun cs' => k .skp [(p, .box cs')]
        | .arr _ _ => False
      | _, _ => False
    | .oep p i => match Nat.beq T 3 with
      | true => match evalV tm x with
        | .int .i64 n => hget hp p fun
          | .arr .i64 xs => i < xs.length ∧ k .skp [(p, .arr .i64 (xs.set i n))]
          | _ => False
        | _ => False
      | false => False
    | _ => False
  | .makeSlice T l c => match evalV tm l, evalV tm c with
    | .int .i64 n, .int .i64 m => tiGet E.tys T fun ti => match ti.has .i64 with
      | true => (n = m ∧ 0 ≤ n ∧ n ≤ 17592186044416) ∧ newE hp o.dst (.arr .i64 (List.replicate n.toNat (0 : Int))) (fun d => .own d) k
      | false => False
    | _, _ => False
  | .assign x => match evalV tm x with
    | .nil => tiGet E.tys o.type fun ti => match ti.elem with
      | some τ => newE hp o.dst (.arr τ []) (fun d => .own d) k
      | none => False
    | .own _ => False
    | v => v.f fun v => k v []
  | .call c => match c.callee with
    | .value f => match evalV tm f with
      | .fn g => evs tm c.args.toList fun vs => effC E g vs [] hp k
      | .clo g caps => evs tm c.args.toList fun vs => effC E g vs caps hp k
      | _ => False
    | .builtin .append => appE E c.args.toList c.argTypes.toList o.dst tm hp k
    | _ => pop E o.op tm hp fun v => k v []
  | op => pop E op tm hp fun v => k v []

def eff (E : Env) (o : Oper) (tm : List AV) (hp : Hp) (k : AV → List (Nat × AO) → Prop) : Prop :=
  kept o.op tm fun vs => match anyOwn vs with
    | true => False
    | false => eff1 E o tm hp k

def hputsF : Hp → List (Nat × AO) → (Hp → Prop) → Prop
  | h, [], k => k h
  | h, (o, x) :: l, k => hputF h o x fun h => hputsF h l k

/- The objects that a value names. -/
mutual
def AV.names : AV → List Nat
  | .ptr o _ => [o]
  | .oep o _ => [o]
  | .own o => [o]
  | .clo _ l => AV.namesL l
  | .kp l => AV.namesL l
  | _ => []
def AV.namesL : List AV → List Nat
  | [] => []
  | v :: l => v.names ++ AV.namesL l
end
def opNames (tm : List AV) : List Operand → List Nat
  | [] => []
  | x :: l => (evalV tm x).names ++ opNames tm l
/-- Does an operation look into memory? -/
def looksHp : Op → Bool
  | .load .. => true
  | .indexAddr .. => true
  | .slice .. => true
  | .call _ => true
  | .store .. => true
  | _ => false
def rdOf (tm : List AV) (op : Op) : List Nat := match looksHp op with
  | true => opNames tm op.operands.toList
  | false => []
def natsF : List Nat → (List Nat → Prop) → Prop
  | [], k => k []
  | x :: l, k => natsF l fun l' => k (x :: l')
def keysOf : List (Nat × AO) → List Nat
  | [] => []
  | (o, _) :: l => o :: keysOf l

/-- The objects that an operation looks at, and those that it writes. -/
structure Ft where
  rd : List Nat
  wr : List Nat

noncomputable def evM (E : Env) (all l : List Oper) : List AV → Hp → (List AV → Hp → List Ft → Prop) → Prop :=
  @List.rec Oper (fun _ => List AV → Hp → (List AV → Hp → List Ft → Prop) → Prop)
    (fun tm hp k => k tm hp [])
    (fun o _ ih tm hp k => guardF all o tm
      (fun tm => eff E o tm hp fun v ws => natsF (rdOf tm o.op) fun rd => natsF (keysOf ws) fun wr => putD tm o.dst v fun tm => hputsF hp ws fun hp =>
        ih tm hp fun tm hp fs => k tm hp (⟨rd, wr⟩ :: fs))
      (fun tm => putD tm o.dst .skp fun tm => ih tm hp fun tm hp fs => k tm hp (⟨[], []⟩ :: fs))) l
theorem evM_eq (E : Env) (all : List Oper) (o : Oper) (l : List Oper) (tm : List AV) (hp : Hp) (k : List AV → Hp → List Ft → Prop) : evM E all (o :: l) tm hp k = guardF all o tm
      (fun tm => eff E o tm hp fun v ws => natsF (rdOf tm o.op) fun rd => natsF (keysOf ws) fun wr => putD tm o.dst v fun tm => hputsF hp ws fun hp =>
        evM E all l tm hp fun tm hp fs => k tm hp (⟨rd, wr⟩ :: fs))
      (fun tm => putD tm o.dst .skp fun tm => evM E all l tm hp fun tm hp fs => k tm hp (⟨[], []⟩ :: fs)) := rfl

/-- Whom an operation's edges lead back to. -/
def getN : List (List Nat) → Nat → List Nat
  | [], _ => []
  | x :: _, 0 => x
  | _ :: l, n + 1 => getN l n
def addN (n : Nat) (l : List Nat) : List Nat := match memN l n with
  | true => l
  | false => n :: l
def addNs : List Nat → List Nat → List Nat
  | [], l => l
  | x :: m, l => addNs m (addN x l)
def ancOf (done : List (List Nat)) : List Edge → List Nat
  | [] => []
  | e :: l => match Region.binds .any e with
    | true => addN e.on (addNs (getN done e.on) (ancOf done l))
    | false => ancOf done l
def ancs : List (List Nat) → List Oper → List (List Nat)
  | done, [] => done
  | done, o :: l => ancs (done ++ [ancOf done o.after.toList]) l

def anyIn (l : List Nat) : List Nat → Bool
  | [] => false
  | x :: m => match memN l x with
    | true => true
    | false => anyIn l m
def optIn (l : List Nat) : Option Nat → Bool
  | none => false
  | some d => memN l d
def optNe : Option Nat → Option Nat → Bool
  | some a, some b => !Nat.beq a b
  | _, _ => true
def confM (all : List Oper) (o p : Oper) (f g : Ft) : Bool :=
  optIn (looks all o) p.dst || optIn (looks all p) o.dst || anyIn g.wr f.rd || anyIn g.wr f.wr || anyIn g.rd f.wr
/-- Operation i (o, f) against those before it in the text. -/
def rowM (all : List Oper) (i : Nat) (o : Oper) (f : Ft) (A : List Nat) : Nat → List Oper → List Ft → Bool
  | _, [], [] => true
  | j, p :: l, g :: gs => (match Nat.blt j i with
      | true => optNe o.dst p.dst && (!confM all o p f g || memN A j)
      | false => true) && rowM all i o f A (j + 1) l gs
  | _, _, _ => false
def rowsM (all front : List Oper) (fs : List Ft) (acs : List (List Nat)) : Nat → List Oper → List Ft → Bool
  | _, [], [] => true
  | i, o :: l, f :: gs => rowM all i o f (getN acs i) 0 front fs && !optIn (looks all o) o.dst && rowsM all front fs acs (i + 1) l gs
  | _, _, _ => false
/-- Is every number below among these? -/
def belowB : Nat → List Nat → Bool
  | 0, _ => true
  | n + 1, A => match memN A n with
    | true => belowB n A
    | false => false
/-- Each operation from number n on stands behind all before it in the text. -/
def tailB (acs : List (List Nat)) (n : Nat) : Nat → List Oper → Bool
  | _, [] => true
  | i, o :: l => (match Nat.blt i n with
      | true => true
      | false => belowB i (getN acs i)) && edgesBack i o.after.toList && tailB acs n (i + 1) l
def dstsB (all : List Oper) : List Oper → Bool
  | [] => true
  | o :: l => dstsC o.dst l && dstsB all l
where dstsC (d : Option Nat) : List Oper → Bool
  | [] => true
  | p :: l => optNe d p.dst && dstsC d l
/-- The first n operations may come in any order, and the others come after them, one by one. -/
def fitsM (all : List Oper) (n : Nat) (fs : List Ft) : Bool :=
  rowsM all (all.take n) fs (ancs [] all) 0 (all.take n) fs && tailB (ancs [] all) n 0 all && dstsB all all && Nat.ble n all.length

@[irreducible] noncomputable def DrawVC (E : Env) (ops : Array Oper) (tm : List AV) (hp : Hp) (kp : AV → List AV → Hp → Prop) (k : List AV → Hp → Prop) : Prop :=
  (quietL ops.toList 0 ops.toList = true ∧ evQ E ops.toList hp ops.toList tm fun tm => k tm hp) ∨
    (∃ n, evM E ops.toList (ops.toList.take n) tm hp fun tm hp fs => fitsM ops.toList n fs = true ∧ evOps E ops.toList (ops.toList.drop n) tm hp kp k) ∨
    ∃ tm' hp', evAny E ops.toList kp (fun tm hp => tm = tm' ∧ hp = hp') ops.size (List.replicate ops.size false) tm hp ∧ k tm' hp'

theorem DrawVC.quiet {E : Env} {ops : Array Oper} {tm : List AV} {hp : Hp} {kp : AV → List AV → Hp → Prop} {k : List AV → Hp → Prop} (hq : quietL ops.toList 0 ops.toList = true)
    (h : evQ E ops.toList hp ops.toList tm fun tm => k tm hp) : DrawVC E ops tm hp kp k := by unfold DrawVC; exact .inl ⟨hq, h⟩
theorem DrawVC.any {E : Env} {ops : Array Oper} {tm : List AV} {hp : Hp} {kp : AV → List AV → Hp → Prop} {k : List AV → Hp → Prop} {tm' : List AV} {hp' : Hp}
    (h : evAny E ops.toList kp (fun tm hp => tm = tm' ∧ hp = hp') ops.size (List.replicate ops.size false) tm hp) (hk : k tm' hp') : DrawVC E ops tm hp kp k := by unfold DrawVC; exact .inr (.inr ⟨tm', hp', h, hk⟩)
theorem DrawVC.mix {E : Env} {ops : Array Oper} {tm : List AV} {hp : Hp} {kp : AV → List AV → Hp → Prop} {k : List AV → Hp → Prop}
    (h : evM E ops.toList (ops.toList.take ops.size) tm hp fun tm hp fs => fitsM ops.toList ops.size fs = true ∧ evOps E ops.toList (ops.toList.drop ops.size) tm hp kp k) : DrawVC E ops tm hp kp k := by unfold DrawVC; exact .inr (.inl ⟨_, h⟩)
theorem DrawVC.tail {E : Env} {ops : Array Oper} {tm : List AV} {hp : Hp} {kp : AV → List AV → Hp → Prop} {k : List AV → Hp → Prop} (n : Nat)
    (h : evM E ops.toList (ops.toList.take n) tm hp fun tm hp fs => fitsM ops.toList n fs = true ∧ evOps E ops.toList (ops.toList.drop n) tm hp kp k) : DrawVC E ops tm hp kp k := by unfold DrawVC; exact .inr (.inl ⟨n, h⟩)

/-! ### Code -/
inductive Ex where
  | normal
  | exit (id : Nat)
  | ret
  | pan (v : AV)

abbrev Post := Ex → List AV → Hp → Prop

def loopN (body : List AV → Hp → Post → Prop) : Nat → List AV → Hp → Post → Prop
  | 0, _, _, _ => False
  | n + 1, tm, hp, k => body tm hp fun e tm hp => match e with
    | .normal => loopN body n tm hp k
    | e => k e tm hp

/-- Slots and objects that say no more than these do. -/
inductive Weak1 : AV → AV → Prop where
  | same (v : AV) : Weak1 v v
  | undef (v : AV) : Weak1 .undef v
  | lit (τ : ET) (xs : List τ.T) : Weak1 (.sl τ xs) (.lit τ xs)
  | nil (τ : ET) : Weak1 (.sl τ []) .nil
inductive WeakL : List AV → List AV → Prop where
  | nil : WeakL [] []
  | cons {a b : AV} {l m : List AV} : Weak1 a b → WeakL l m → WeakL (a :: l) (b :: m)
inductive WeakA : AO → AO → Prop where
  | same (x : AO) : WeakA x x
  | box {l m : List AV} : WeakL l m → WeakA (.box l) (.box m)
inductive WeakH : Hp → Hp → Prop where
  | nil : WeakH [] []
  | cons {x y : AO} {h g : Hp} (n : Nat) : WeakA x y → WeakH h g → WeakH ((n, x) :: h) ((n, y) :: g)
theorem WeakH.rfl : ∀ (h : Hp), WeakH h h
  | [] => .nil
  | (n, x) :: h => .cons n (.same x) (WeakH.rfl h)

/-- Forgets objects. -/
def drops : List Nat → List AV → Hp → (List AV → Hp → Prop) → Prop
  | [], tm, hp, k => k tm hp
  | d :: ds, tm, hp, k => dropObj tm hp d fun tm hp => drops ds tm hp k

@[irreducible] def LoopVC (body : List AV → Hp → Post → Prop) (tm : List AV) (hp : Hp) (k : Post) : Prop :=
  ∃ (J : List AV → Hp → Nat → Prop) (n : Nat), J tm hp n ∧ ∀ tm hp n, J tm hp n → ∃ ds, drops ds tm hp fun tm hp => ∃ tm' hp', WeakL tm' tm ∧ WeakH hp' hp ∧
    body tm' hp' fun e tm hp => match e with
      | .normal => ∃ m, m < n ∧ J tm hp m
      | e => k e tm hp

theorem dropObj_mono {tm : List AV} {hp : Hp} {d : Nat} {k k' : List AV → Hp → Prop} (hk : ∀ tm hp, k tm hp → k' tm hp) (h : dropObj tm hp d k) : dropObj tm hp d k' := by
  have h1 : ∀ (h : Hp) (n : Nat) (k k' : Hp → Prop), (∀ x, k x → k' x) → hdelF h n k → hdelF h n k' := by
    intro h n
    induction h with
    | nil => intro k k' hk h; exact hk _ h
    | cons p h ih =>
      intro k k' hk hh
      obtain ⟨o, y⟩ := p
      simp only [hdelF] at hh ⊢
      cases e : Nat.beq o n with
      | true => rw [e] at hh; exact hk _ hh
      | false => rw [e] at hh; exact ih _ _ (fun x => hk _) hh
  have h2 : ∀ (o : Nat) (l : List AV) (k k' : List AV → Prop), (∀ x, k x → k' x) → killsF o l k → killsF o l k' := by
    intro o l
    induction l with
    | nil => intro k k' hk h; exact hk _ h
    | cons v l ih =>
      intro k k' hk h
      simp only [killsF, AV.f_eq] at h ⊢
      exact ih _ _ (fun x => hk _) h
  have h3 : ∀ (o : Nat) (l : Hp) (k k' : Hp → Prop), (∀ x, k x → k' x) → killHpF o l k → killHpF o l k' := by
    intro o l
    induction l with
    | nil => intro k k' hk h; exact hk _ h
    | cons p l ih =>
      intro k k' hk h
      obtain ⟨n, x⟩ := p
      cases x with
      | box cs => simp only [killHpF] at h ⊢; exact h2 _ _ _ _ (fun cs' h => ih _ _ (fun x => hk _) h) h
      | arr τ xs => simp only [killHpF] at h ⊢; exact ih _ _ (fun x => hk _) h
  unfold dropObj at h ⊢
  split at h
  · exact hk _ _ h
  · exact h1 _ _ _ _ (fun hp h => h2 _ _ _ _ (fun tm h => h3 _ _ _ _ (fun hp h => hk _ _ h) h) h) h
theorem drops_mono {ds : List Nat} : ∀ {tm : List AV} {hp : Hp} {k k' : List AV → Hp → Prop} (hk : ∀ tm hp, k tm hp → k' tm hp) (h : drops ds tm hp k), drops ds tm hp k' := by
  induction ds with
  | nil => intro tm hp k k' hk h; exact hk _ _ h
  | cons d ds ih => intro tm hp k k' hk h; exact dropObj_mono (fun tm hp h => ih hk h) h

theorem LoopVC.introW {body : List AV → Hp → Post → Prop} {tm : List AV} {hp : Hp} {k : Post} {ι : Type} (ds : List Nat) (pat : ι → List AV) (heap : ι → Hp) (inv : ι → Prop) (μ : ι → Nat) (i0 : ι) (h0 : inv i0)
    (hw : drops ds tm hp fun tm hp => WeakL (pat i0) tm ∧ WeakH (heap i0) hp)
    (round : ∀ i, inv i → body (pat i) (heap i) fun e tm hp => match e with | .normal => ∃ j, μ j < μ i ∧ inv j ∧ drops ds tm hp fun tm hp => WeakL (pat j) tm ∧ WeakH (heap j) hp | e => k e tm hp) : LoopVC body tm hp k := by
  unfold LoopVC
  refine ⟨fun tm hp n => ∃ i, inv i ∧ (drops ds tm hp fun tm hp => WeakL (pat i) tm ∧ WeakH (heap i) hp) ∧ n = μ i, μ i0, ⟨i0, h0, hw, rfl⟩, ?_⟩
  rintro tm hp n ⟨i, h1, h2, rfl⟩
  refine ⟨ds, drops_mono ?_ h2⟩
  rintro tm hp ⟨h3, h4⟩
  refine ⟨pat i, heap i, h3, h4, ?_⟩
  have e : (fun (e : Ex) (tm : List AV) (hp : Hp) => match e with | .normal => ∃ m, m < μ i ∧ ∃ j, inv j ∧ (drops ds tm hp fun tm hp => WeakL (pat j) tm ∧ WeakH (heap j) hp) ∧ m = μ j | e => k e tm hp) =
      fun (e : Ex) (tm : List AV) (hp : Hp) => match e with | .normal => ∃ j, μ j < μ i ∧ inv j ∧ drops ds tm hp fun tm hp => WeakL (pat j) tm ∧ WeakH (heap j) hp | e => k e tm hp := by
    funext e tm hp
    cases e <;> simp only
    refine propext ⟨?_, ?_⟩
    · rintro ⟨m, h1, j, h2, h3, rfl⟩; exact ⟨j, h1, h2, h3⟩
    · rintro ⟨j, h1, h2, h3⟩; exact ⟨_, h1, j, h2, h3, rfl⟩
  rw [e]
  exact round i h1

theorem LoopVC.intro {body : List AV → Hp → Post → Prop} {tm : List AV} {hp : Hp} {k : Post} {ι : Type} (ds : List Nat) (pat : ι → List AV) (heap : ι → Hp) (inv : ι → Prop) (μ : ι → Nat) (i0 : ι) (h0 : inv i0)
    (hw : drops ds tm hp fun tm hp => WeakL (pat i0) tm ∧ hp = heap i0)
    (round : ∀ i, inv i → body (pat i) (heap i) fun e tm hp => match e with | .normal => ∃ j, μ j < μ i ∧ inv j ∧ drops ds tm hp fun tm hp => WeakL (pat j) tm ∧ hp = heap j | e => k e tm hp) : LoopVC body tm hp k := by
  unfold LoopVC
  refine ⟨fun tm hp n => ∃ i, inv i ∧ (drops ds tm hp fun tm hp => WeakL (pat i) tm ∧ hp = heap i) ∧ n = μ i, μ i0, ⟨i0, h0, hw, rfl⟩, ?_⟩
  rintro tm hp n ⟨i, h1, h2, rfl⟩
  refine ⟨ds, drops_mono ?_ h2⟩
  rintro tm hp ⟨h3, rfl⟩
  refine ⟨pat i, heap i, h3, WeakH.rfl _, ?_⟩
  have e : (fun (e : Ex) (tm : List AV) (hp : Hp) => match e with | .normal => ∃ m, m < μ i ∧ ∃ j, inv j ∧ (drops ds tm hp fun tm hp => WeakL (pat j) tm ∧ hp = heap j) ∧ m = μ j | e => k e tm hp) =
      fun (e : Ex) (tm : List AV) (hp : Hp) => match e with | .normal => ∃ j, μ j < μ i ∧ inv j ∧ drops ds tm hp fun tm hp => WeakL (pat j) tm ∧ hp = heap j | e => k e tm hp := by
    funext e tm hp
    cases e <;> simp only
    refine propext ⟨?_, ?_⟩
    · rintro ⟨m, h1, j, h2, h3, rfl⟩; exact ⟨j, h1, h2, h3⟩
    · rintro ⟨j, h1, h2, h3⟩; exact ⟨_, h1, j, h2, h3, rfl⟩
  rw [e]
  exact round i h1

def seqK (f : List AV → Hp → Post → Prop) (k : Post) : Post := fun e tm hp => match e with
  | .normal => f tm hp k
  | e => k e tm hp
def blockK (id : Nat) (k : Post) : Post := fun e tm hp => match e with
  | .exit j => match Nat.beq j id with
    | true => k .normal tm hp
    | false => k (.exit j) tm hp
  | e => k e tm hp
def condF (tm : List AV) (c : Operand) (a b : Prop) : Prop := match evalV tm c with
  | .bool t => match t with
    | true => a
    | false => b
  | _ => False
/-! A map written out, with functions for its values: known by its text. -/
def mlTail (T d0 : Nat) : List Oper → Option (List (Nat × Nat × List Operand × Int) × Nat × Nat)
  | [] => none
  | [_] => none
  | c :: i :: l => match c.op, c.dst, c.guard, i.op, i.dst, i.guard with
    | .move (.tmp a), some e, none, .assign (.tmp b), some f, none => match Nat.beq a d0, Nat.beq b e, l with
      | true, true, [] => some ([], e, f)
      | _, _, _ => none
    | .makeFunc (.func g) first caps, some d, none, .insert T' (.tmp m) (.const (.int .i64 n)) (.tmp x), none, none =>
      match Nat.beq T' T, Nat.beq m d0, Nat.beq x d, Nat.beq d d0, first.toList, mlTail T d0 l with
      | true, true, true, false, [], some (r, e, f) => some ((d, g, caps.toList, n) :: r, e, f)
      | _, _, _, _, _, _ => none
    | _, _, _, _, _, _ => none
def mapLit : List Oper → Option (Nat × List (Nat × Nat × List Operand × Int) × Nat × Nat)
  | [] => none
  | o :: l => match o.op, o.dst, o.guard with
    | .makeMap T none, some d0, none => match mlTail T d0 l with
      | some (r, e, f) => some (d0, r, e, f)
      | none => none
    | _, _, _ => none
def memI : List Int → Int → Bool
  | [], _ => false
  | x :: l, n => match n == x with
    | true => true
    | false => memI l n
def known (v : AV) : Bool := match v with
  | .undef => false
  | _ => true
def mlF : List (Nat × Nat × List Operand × Int) → List AV → List Int → List AV → (List AV → List Int → List AV → Prop) → Prop
  | [], tm, ks, vs, k => k tm ks vs
  | (d, g, caps, n) :: l, tm, ks, vs, k => evs tm caps fun cv => match anyOwn cv, memI ks n, known (getV tm d) with
    | false, false, true => setF tm d (.clo g cv) fun tm => mlF l tm (ks ++ [n]) (vs ++ [.clo g cv]) k
    | _, _, _ => False
def mapF (d0 : Nat) (r : List (Nat × Nat × List Operand × Int)) (e f : Nat) (tm : List AV) (k : List AV → Prop) : Prop :=
  match known (getV tm d0) with
  | true => setF tm d0 .undef fun tm => mlF r tm [] [] fun tm ks vs => match known (getV tm e) with
    | true => setF tm e .undef fun tm => setF tm f (.mp ks vs) k
    | false => False
  | false => False

noncomputable def regF (E : Env) (ops : Array Oper) (draw : Bool) (tm : List AV) (hp : Hp) (k : Post) : Prop := match draw with
  | false => match mapLit ops.toList with
    | none => evOps E ops.toList ops.toList tm hp (fun v tm hp => k (.pan v) tm hp) fun tm hp => k .normal tm hp
    | some (d0, r, e, f) => mapF d0 r e f tm fun tm => k .normal tm hp
  | true => DrawVC E ops tm hp (fun v tm hp => k (.pan v) tm hp) fun tm hp => k .normal tm hp

/- By the recursor itself, as evOps. -/
noncomputable def ev (E : Env) (c : Code) : List AV → Hp → Post → Prop :=
  @Code.rec (fun _ => List AV → Hp → Post → Prop)
    (fun tm hp k => k .normal tm hp)
    (fun _ ops draw tm hp k => regF E ops draw tm hp k)
    (fun _ _ a b tm hp k => a tm hp (seqK b k))
    (fun c _ _ a b tm hp k => condF tm c (a tm hp k) (b tm hp k))
    (fun id _ c tm hp k => c tm hp (blockK id k))
    (fun _ c tm hp k => LoopVC c tm hp k)
    (fun _ _ _ _ _ _ _ _ _ => False)
    (fun id tm hp k => k (.exit id) tm hp)
    (fun _ _ _ _ _ => False)
    (fun _ tm hp k => k .normal tm hp)
    (fun _ _ _ _ => False)
    (fun tm hp k => k .ret tm hp)
    (fun _ _ _ _ => False) c

/-! ### Functions -/
/-- A result: a pointer to a box of the call's own is told by what the box holds. -/
def viewR (hp : Hp) (v : AV) (k : AV → Prop) : Prop :=
  match v with
  | .ptr o off => match Nat.beq off 0, Nat.blt o 1000 with
    | true, true => hget hp o fun
      | .box cs => match AV.frees (cs.set 14 .nil) with
        | true => viewsF hp cs fun cs => k (.kp cs)
        | false => False
      | .arr _ _ => False
    | _, _ => False
  | v => viewF hp v k
def resF (E : Env) (tm : List AV) (hp : Hp) : List ResultVar → (List AV → Prop) → Prop
  | [], k => k []
  | .tmp t :: l, k => viewR hp (getV tm t) fun v => v.f fun v => resF E tm hp l fun vs => k (v :: vs)
  | .cell a T :: l, k => match getV tm a with
    | .ptr o off => tiGet E.tys T fun ti => hget hp o fun
      | .box cs => dropF cs off fun cs => takeF cs ti.size fun cs => shapeF ti.agg cs fun v => resF E tm hp l fun vs => k (v :: vs)
      | .arr _ _ => False
    | _ => False

def skpsF : Nat → (List AV → Prop) → Prop
  | 0, k => k []
  | n + 1, k => skpsF n fun l => k (.skp :: l)
def initF : List AV → Nat → (List AV → Prop) → Prop
  | [], n, k => skpsF n k
  | v :: l, n, k => v.f fun v => initF l (n - 1) fun l' => k (v :: l')

def extF : Nat → List (List AV) → (Hp → Prop) → Prop
  | _, [], k => k []
  | i, cs :: l, k => extF (i + 1) l fun h => k ((1000 + i, .box cs) :: h)
def extOut (hp : Hp) : Nat → Nat → (List (List AV) → Prop) → Prop
  | 0, _, k => k []
  | n + 1, i, k => hget hp (1000 + i) fun
    | .box cs => match AV.frees cs with
      | true => extOut hp n (i + 1) fun l => k (cs :: l)
      | false => False
    | .arr _ _ => False

/-- A function's body at arguments and at the boxes that they lead to. -/
noncomputable def evFn (E : Env) (fn : Func) (args : List AV) (bs : List (List AV)) (Q : Out → List (List AV) → Prop) : Prop :=
  match fn.body with
  | none => False
  | some c => initF args fn.ntmps fun tm => extF 0 bs fun hp => ev E c tm hp fun e tm hp => match e with
    | .normal => resF E tm hp fn.results.toList fun vs => extOut hp bs.length 0 fun bs' => match vs with
      | [v] => match v.calm with
        | true => Q (.ret v) bs'
        | false => False
      | vs => match AV.calms vs with
        | true => Q (.ret (.tup vs)) bs'
        | false => False
    | .ret => resF E tm hp fn.results.toList fun vs => extOut hp bs.length 0 fun bs' => match vs with
      | [v] => match v.calm with
        | true => Q (.ret v) bs'
        | false => False
      | vs => match AV.calms vs with
        | true => Q (.ret (.tup vs)) bs'
        | false => False
    | .pan v => extOut hp bs.length 0 fun bs' => Q (.pan v) bs'
    | _ => False

/-- At the end of a function that was handed a table. -/
def endT (hp : Hp) (Q : List AV → Option (List Int) → Prop) : Prop := hget hp 1000 fun
  | .box cs => match AV.frees (cs.set 14 .nil) with
    | true => match getV cs 14 with
      | .own q => hget hp q fun
        | .arr .i64 xs => setF cs 14 (.own 1001) fun cs => Q cs (some xs)
        | _ => False
      | v => match v.free with
        | true => Q cs none
        | false => False
    | false => False
  | .arr _ _ => False

def tabHp (cs : List AV) : Option (List Int) → Hp
  | none => [(1000, .box cs)]
  | some xs => [(1000, .box cs), (1001, .arr .i64 xs)]
/-- A function's body at arguments, at a table and at its array. -/
noncomputable def evFnT (E : Env) (fn : Func) (args cs : List AV) (ext : Option (List Int)) (Q : List AV → Option (List Int) → Prop) : Prop :=
  match fn.body with
  | none => False
  | some c => initF args fn.ntmps fun tm => ev E c tm (tabHp cs ext) fun e _ hp => match e with
    | .normal => endT hp Q
    | .ret => endT hp Q
    | _ => False

end Go.Proofs.Ythakgbecpkfeoaa.Ev

/- What abstract values, objects and states mean in the model's world; what keeps that meaning. -/
set_option linter.unusedVariables false
set_option linter.unusedSimpArgs false
namespace Go.Proofs.Ythakgbecpkfeoaa.Ev

def cellsOf (τ : ET) (xs : List τ.T) : List Value := xs.flatMap fun x => (τ.enc x).map CV.v

theorem enc_length (τ : ET) (x : τ.T) : (τ.enc x).length = τ.size := by cases τ <;> rfl
theorem size_pos (τ : ET) : 0 < τ.size := by cases τ <;> decide

theorem cellsOf_length (τ : ET) (xs : List τ.T) : (cellsOf τ xs).length = xs.length * τ.size := by
  induction xs with
  | nil => simp [cellsOf]
  | cons x xs ih =>
    simp only [cellsOf, List.flatMap_cons, List.length_append, List.length_map, enc_length, List.length_cons] at ih ⊢
    rw [ih, Nat.add_mul]
    omega
theorem cellsOf_append (τ : ET) (xs ys : List τ.T) : cellsOf τ (xs ++ ys) = cellsOf τ xs ++ cellsOf τ ys := by simp [cellsOf]
theorem cellsOf_cons (τ : ET) (x : τ.T) (xs : List τ.T) : cellsOf τ (x :: xs) = (τ.enc x).map CV.v ++ cellsOf τ xs := by simp [cellsOf]

theorem cellsOf_at (τ : ET) (xs : List τ.T) (i j : Nat) (c : CV) (hi : i < xs.length) (hj : (τ.enc (xs.getD i τ.dflt))[j]? = some c) :
    (cellsOf τ xs)[i * τ.size + j]? = some c.v := by
  induction xs generalizing i with
  | nil => simp at hi
  | cons x xs ih =>
    rw [cellsOf_cons]
    have hjl : j < τ.size := by rw [← enc_length τ]; exact (List.getElem?_eq_some_iff.1 hj).1
    cases i with
    | zero =>
      simp only [List.getD_cons_zero, Nat.zero_mul, Nat.zero_add] at hj ⊢
      rw [List.getElem?_append_left (by simp [enc_length, hjl]), List.getElem?_map, hj]
      rfl
    | succ i =>
      simp only [List.getD_cons_succ] at hj
      have h := ih i (by simpa using hi) hj
      rw [List.getElem?_append_right (by simp [enc_length, Nat.add_mul]; omega)]
      simp only [List.length_map, enc_length]
      rw [show (i + 1) * τ.size + j - τ.size = i * τ.size + j by rw [Nat.add_mul]; omega]
      exact h

theorem cv_one (c : CV) : c.v.oneCell' = true := by cases c <;> rfl
theorem cellsOf_one (τ : ET) (xs : List τ.T) : ∀ u ∈ cellsOf τ xs, u.oneCell' = true := by
  intro u hu
  simp only [cellsOf, List.mem_flatMap, List.mem_map] at hu
  obtain ⟨x, _, c, _, rfl⟩ := hu
  exact cv_one c

theorem add_add (a : Addr) (m j : Nat) : (a.add m).add j = a.add (m + j) := by
  obtain ⟨b, o, s⟩ := a
  unfold Addr.add
  split
  · rename_i h; subst h; simp
  · split
    · rename_i h h2; subst h2; simp [h]
    · rename_i h h2
      simp [h, h2, Nat.add_assoc]
theorem add_block (a : Addr) (m : Nat) : (a.add m).block = a.block := by unfold Addr.add; split <;> rfl
theorem add_zero' (g m : Nat) : (⟨g, 0, none⟩ : Addr).add m = ⟨g, m, none⟩ := by unfold Addr.add; split <;> simp_all
theorem add_off (g o m : Nat) : (⟨g, o, none⟩ : Addr).add m = ⟨g, o + m, none⟩ := by unfold Addr.add; split <;> simp_all

/-! ### Values -/
def Reads (S : Nat → Prop) (w : World) (A : Option Addr) (cs : List Value) : Prop :=
  cs ≠ [] → ∃ a, A = some a ∧ S a.block ∧ ∀ j u, cs[j]? = some u → w.cell? (a.add j) = some u

abbrev maxI : Nat := 9223372036854775807

def KeysI (ks : List Int) (es : List MapEntry) : Prop := es.map (·.key) = ks.map fun k => Value.int .i64 k

mutual
def RelV (β : Nat → Option Value) (S : Nat → Prop) (w : World) : AV → Value → Prop
  | .int k n, v => v = .int k n
  | .bool b, v => v = .bool b
  | .str s, v => v = .string s
  | .ptr o off, v => ∃ g, β o = some (.pointer (some ⟨g, 0, none⟩)) ∧ v = .pointer (some ⟨g, off, none⟩)
  | .ep cs, v => ∃ a, v = .pointer (some a) ∧ S a.block ∧ ∀ j c, cs[j]? = some c → w.cell? (a.add j) = some c.v
  | .mp ks vs, v => ∃ (g : Nat) (es : Array MapEntry) (c : Nat), v = .map (some g) ∧ S g ∧ w.heap[g]? = some (.map es c) ∧ KeysI ks es.toList ∧ RelVs β S w vs (es.toList.map (·.val))
  | .kp cs, v => ∃ (a : Addr) (us : List Value), v = .pointer (some a) ∧ S a.block ∧ (∀ j u, us[j]? = some u → w.cell? (a.add j) = some u) ∧ RelVs β S w cs us
  | .oep o i, v => ∃ g n c, β o = some (.slice (some ⟨g, 0, none⟩) n c) ∧ v = .pointer (some ⟨g, i, none⟩)
  | .sl τ xs, v => ∃ A c, v = .slice A xs.length c ∧ xs.length ≤ c ∧ xs.length ≤ maxI ∧ Reads S w A (cellsOf τ xs)
  | .lit τ xs, v => ∃ g, v = .slice (some ⟨g, 0, none⟩) xs.length xs.length ∧ S g ∧ w.heap[g]? = some (.cells (cellsOf τ xs).toArray τ.tid (0, 0)) ∧ xs.length ≤ maxI
  | .own o, v => β o = some v ∧ ∃ A n c, v = .slice A n c
  | .nil, v => v = .slice none 0 0
  | .fn f, v => v = .func (.func f) #[] #[]
  | .clo f caps, v => ∃ cs : List Value, v = .func (.func f) #[] cs.toArray ∧ RelVs β S w caps cs
  | .agg l, v => ∃ vs : List Value, v = .agg vs.toArray ∧ RelVs β S w l vs
  | .tup l, v => ∃ vs : List Value, v = .tuple vs.toArray ∧ RelVs β S w l vs
  | .ifc t x, v => ∃ u, v = .iface t u ∧ RelV β S w x u
  | .opq x, v => v = x
  | .skp, v => v = undef
  | .undef, _ => True
def RelVs (β : Nat → Option Value) (S : Nat → Prop) (w : World) : List AV → List Value → Prop
  | [], vs => vs = []
  | a :: l, vs => ∃ v us, vs = v :: us ∧ RelV β S w a v ∧ RelVs β S w l us
end

section mono
variable {β β' : Nat → Option Value} {S S' : Nat → Prop} {w w' : World}

theorem Reads.mono {A : Option Addr} {cs : List Value} (h : Reads S w A cs) (hS : ∀ b, S b → S' b) (hw : ∀ b, S b → w'.heap[b]? = w.heap[b]?) : Reads S' w' A cs := by
  intro hne
  obtain ⟨a, e, hs, hc⟩ := h hne
  exact ⟨a, e, hS _ hs, fun j u hj => (World.cell?_of_block (by rw [add_block]; exact hw _ hs)).trans (hc j u hj)⟩

mutual
theorem RelV.mono (hβ : ∀ o v, β o = some v → β' o = some v) (hS : ∀ b, S b → S' b) (hw : ∀ b, S b → w'.heap[b]? = w.heap[b]?) :
    ∀ (a : AV) (v : Value), RelV β S w a v → RelV β' S' w' a v
  | .int .., _, h => h
  | .bool .., _, h => h
  | .str .., _, h => h
  | .ptr .., _, ⟨g, h1, h2⟩ => ⟨g, hβ _ _ h1, h2⟩
  | .ep cs, _, ⟨a, h1, h2, h3⟩ => ⟨a, h1, hS _ h2, fun j c hj => (World.cell?_of_block (by rw [add_block]; exact hw _ h2)).trans (h3 j c hj)⟩
  | .oep .., _, ⟨g, n, c, h1, h2⟩ => ⟨g, n, c, hβ _ _ h1, h2⟩
  | .sl .., _, ⟨A, c, h1, h2, h3, h4⟩ => ⟨A, c, h1, h2, h3, h4.mono hS hw⟩
  | .lit .., _, ⟨g, h1, h2, h3, h4⟩ => ⟨g, h1, hS _ h2, (hw _ h2).trans h3, h4⟩
  | .own .., _, ⟨h1, h2⟩ => ⟨hβ _ _ h1, h2⟩
  | .nil, _, h => h
  | .fn .., _, h => h
  | .clo _ l, _, ⟨cs, h1, h2⟩ => ⟨cs, h1, RelVs.mono hβ hS hw l cs h2⟩
  | .mp _ l, _, ⟨g, es, c, h1, h2, h3, h4, h5⟩ => ⟨g, es, c, h1, hS _ h2, (hw _ h2).trans h3, h4, RelVs.mono hβ hS hw l _ h5⟩
  | .kp l, _, ⟨a, us, h1, h2, h3, h4⟩ => ⟨a, us, h1, hS _ h2, fun j u hj => (World.cell?_of_block (by rw [add_block]; exact hw _ h2)).trans (h3 j u hj), RelVs.mono hβ hS hw l us h4⟩
  | .agg l, _, ⟨cs, h1, h2⟩ => ⟨cs, h1, RelVs.mono hβ hS hw l cs h2⟩
  | .tup l, _, ⟨cs, h1, h2⟩ => ⟨cs, h1, RelVs.mono hβ hS hw l cs h2⟩
  | .ifc _ x, _, ⟨u, h1, h2⟩ => ⟨u, h1, RelV.mono hβ hS hw x u h2⟩
  | .opq .., _, h => h
  | .skp, _, h => h
  | .undef, _, _ => trivial
theorem RelVs.mono (hβ : ∀ o v, β o = some v → β' o = some v) (hS : ∀ b, S b → S' b) (hw : ∀ b, S b → w'.heap[b]? = w.heap[b]?) :
    ∀ (l : List AV) (vs : List Value), RelVs β S w l vs → RelVs β' S' w' l vs
  | [], _, h => h
  | a :: l, _, ⟨v, us, h1, h2, h3⟩ => ⟨v, us, h1, RelV.mono hβ hS hw a v h2, RelVs.mono hβ hS hw l us h3⟩
end

/- What an object named is forgotten. -/
mutual
theorem RelV.kill (o : Nat) (hβ : ∀ p v, p ≠ o → β p = some v → β' p = some v) : ∀ (a : AV) (v : Value), RelV β S w a v → RelV β' S w (a.kill o) v
  | .int .., _, h => h
  | .bool .., _, h => h
  | .str .., _, h => h
  | .ptr p off, _, h => by
    simp only [AV.kill]
    cases e : Nat.beq p o with
    | true => trivial
    | false =>
      obtain ⟨g, h1, h2⟩ := h
      exact ⟨g, hβ _ _ (Nat.ne_of_beq_eq_false e) h1, h2⟩
  | .ep cs, _, h => h
  | .oep p i, _, h => by
    simp only [AV.kill]
    cases e : Nat.beq p o with
    | true => trivial
    | false =>
      obtain ⟨g, n, c, h1, h2⟩ := h
      exact ⟨g, n, c, hβ _ _ (Nat.ne_of_beq_eq_false e) h1, h2⟩
  | .sl .., _, h => h
  | .lit .., _, h => h
  | .own p, _, h => by
    simp only [AV.kill]
    cases e : Nat.beq p o with
    | true => trivial
    | false => exact ⟨hβ _ _ (Nat.ne_of_beq_eq_false e) h.1, h.2⟩
  | .nil, _, h => h
  | .fn .., _, h => h
  | .clo _ l, _, ⟨cs, h1, h2⟩ => ⟨cs, h1, RelVs.kill o hβ l cs h2⟩
  | .mp _ l, _, ⟨g, es, c, h1, h2, h3, h4, h5⟩ => ⟨g, es, c, h1, h2, h3, h4, RelVs.kill o hβ l _ h5⟩
  | .kp l, _, ⟨a, us, h1, h2, h3, h4⟩ => ⟨a, us, h1, h2, h3, RelVs.kill o hβ l us h4⟩
  | .agg l, _, ⟨cs, h1, h2⟩ => ⟨cs, h1, RelVs.kill o hβ l cs h2⟩
  | .tup l, _, ⟨cs, h1, h2⟩ => ⟨cs, h1, RelVs.kill o hβ l cs h2⟩
  | .ifc _ x, _, ⟨u, h1, h2⟩ => ⟨u, h1, RelV.kill o hβ x u h2⟩
  | .opq .., _, h => h
  | .skp, _, h => h
  | .undef, _, _ => trivial
theorem RelVs.kill (o : Nat) (hβ : ∀ p v, p ≠ o → β p = some v → β' p = some v) : ∀ (l : List AV) (vs : List Value), RelVs β S w l vs → RelVs β' S w (AV.kills o l) vs
  | [], _, h => h
  | a :: l, _, ⟨v, us, h1, h2, h3⟩ => ⟨v, us, h1, RelV.kill o hβ a v h2, RelVs.kill o hβ l us h3⟩
end

/- An array is read alone from now on. -/
mutual
theorem RelV.frz (o : Nat) (τ : ET) (xs : List τ.T) (hβ : ∀ p v, p ≠ o → β p = some v → β' p = some v) (hS : ∀ b, S b → S' b)
    (ho : ∀ v, β o = some v → RelV β' S' w (.sl τ xs) v) : ∀ (a : AV) (v : Value), RelV β S w a v → RelV β' S' w (a.frz o τ xs) v
  | .int .., _, h => h
  | .bool .., _, h => h
  | .str .., _, h => h
  | .ptr p off, _, h => by
    simp only [AV.frz]
    cases e : Nat.beq p o with
    | true => trivial
    | false =>
      obtain ⟨g, h1, h2⟩ := h
      exact ⟨g, hβ _ _ (Nat.ne_of_beq_eq_false e) h1, h2⟩
  | .ep cs, _, ⟨a, h1, h2, h3⟩ => ⟨a, h1, hS _ h2, h3⟩
  | .oep p i, _, h => by
    simp only [AV.frz]
    cases e : Nat.beq p o with
    | true => trivial
    | false =>
      obtain ⟨g, n, c, h1, h2⟩ := h
      exact ⟨g, n, c, hβ _ _ (Nat.ne_of_beq_eq_false e) h1, h2⟩
  | .sl .., _, ⟨A, c, h1, h2, h3, h4⟩ => ⟨A, c, h1, h2, h3, h4.mono hS fun _ _ => rfl⟩
  | .lit .., _, ⟨g, h1, h2, h3⟩ => ⟨g, h1, hS _ h2, h3⟩
  | .own p, v, h => by
    simp only [AV.frz]
    cases e : Nat.beq p o with
    | true => exact ho v (by rw [← Nat.eq_of_beq_eq_true e]; exact h.1)
    | false => exact ⟨hβ _ _ (Nat.ne_of_beq_eq_false e) h.1, h.2⟩
  | .nil, _, h => h
  | .fn .., _, h => h
  | .clo _ l, _, ⟨cs, h1, h2⟩ => ⟨cs, h1, RelVs.frz o τ xs hβ hS ho l cs h2⟩
  | .mp _ l, _, ⟨g, es, c, h1, h2, h3, h4, h5⟩ => ⟨g, es, c, h1, hS _ h2, h3, h4, RelVs.frz o τ xs hβ hS ho l _ h5⟩
  | .kp l, _, ⟨a, us, h1, h2, h3, h4⟩ => ⟨a, us, h1, hS _ h2, h3, RelVs.frz o τ xs hβ hS ho l us h4⟩
  | .agg l, _, ⟨cs, h1, h2⟩ => ⟨cs, h1, RelVs.frz o τ xs hβ hS ho l cs h2⟩
  | .tup l, _, ⟨cs, h1, h2⟩ => ⟨cs, h1, RelVs.frz o τ xs hβ hS ho l cs h2⟩
  | .ifc _ x, _, ⟨u, h1, h2⟩ => ⟨u, h1, RelV.frz o τ xs hβ hS ho x u h2⟩
  | .opq .., _, h => h
  | .skp, _, h => h
  | .undef, _, _ => trivial
theorem RelVs.frz (o : Nat) (τ : ET) (xs : List τ.T) (hβ : ∀ p v, p ≠ o → β p = some v → β' p = some v) (hS : ∀ b, S b → S' b)
    (ho : ∀ v, β o = some v → RelV β' S' w (.sl τ xs) v) : ∀ (l : List AV) (vs : List Value), RelVs β S w l vs → RelVs β' S' w (AV.frzs o τ xs l) vs
  | [], _, h => h
  | a :: l, _, ⟨v, us, h1, h2, h3⟩ => ⟨v, us, h1, RelV.frz o τ xs hβ hS ho a v h2, RelVs.frz o τ xs hβ hS ho l us h3⟩
end

end mono
end Go.Proofs.Ythakgbecpkfeoaa.Ev

/- States: what an abstract state says of the model's; how it goes on from one operation to the next. -/
set_option linter.unusedVariables false
set_option linter.unusedSimpArgs false
namespace Go.Proofs.Ythakgbecpkfeoaa.Ev

/-! ### The words in continuation form, plainly -/
theorem getV_eq (l : List AV) (n : Nat) : getV l n = l.getD n .undef := by
  induction l generalizing n with
  | nil => simp [getV]
  | cons x l ih => cases n <;> simp [getV, ih]
theorem nthA_of {l : List AV} {n : Nat} {k : AV → Prop} (h : nthA l n k) : n < l.length ∧ k (l.getD n .undef) := by
  induction l generalizing n with
  | nil => exact h.elim
  | cons x l ih =>
    cases n with
    | zero => simpa [nthA, AV.f_eq] using h
    | succ n => obtain ⟨h1, h2⟩ := ih h; exact ⟨by simpa using h1, by simpa using h2⟩
theorem setF_eq (l : List AV) (n : Nat) (v : AV) (k : List AV → Prop) : setF l n v k = k (l.set n v) := by
  induction l generalizing n k with
  | nil => simp [setF]
  | cons x l ih => cases n <;> simp [setF, ih]
theorem putF_eq (tm : List AV) (d : Nat) (v : AV) (k : List AV → Prop) : putF tm d v k = k (tm.set d v) := by simp [putF, AV.f_eq, setF_eq]
def putL (tm : List AV) (d : Option Nat) (v : AV) : List AV := match d with | some d => tm.set d v | none => tm
theorem putD_eq (tm : List AV) (d : Option Nat) (v : AV) (k : List AV → Prop) : putD tm d v k = k (putL tm d v) := by cases d <;> simp [putD, putL, putF_eq]
theorem takeF_of {l : List AV} {n : Nat} {k : List AV → Prop} (h : takeF l n k) : n ≤ l.length ∧ k (l.take n) := by
  induction l generalizing n k with
  | nil => cases n <;> simp_all [takeF]
  | cons x l ih =>
    cases n with
    | zero => simpa [takeF] using h
    | succ n => obtain ⟨h1, h2⟩ := ih h; exact ⟨by simpa using h1, by simpa using h2⟩
theorem dropF_of {l : List AV} {n : Nat} {k : List AV → Prop} (h : dropF l n k) : n ≤ l.length ∧ k (l.drop n) := by
  induction l generalizing n k with
  | nil => cases n <;> simp_all [dropF]
  | cons x l ih =>
    cases n with
    | zero => simpa [dropF] using h
    | succ n => obtain ⟨h1, h2⟩ := ih h; exact ⟨by simpa using h1, by simpa using h2⟩
theorem spliceF_of {l : List AV} {n : Nat} {vs : List AV} {k : List AV → Prop} (h : spliceF l n vs k) : n + vs.length ≤ l.length ∧ k (l.take n ++ vs ++ l.drop (n + vs.length)) := by
  induction l generalizing n vs k with
  | nil => cases n <;> cases vs <;> simp_all [spliceF]
  | cons x l ih =>
    cases n with
    | zero =>
      cases vs with
      | nil => simpa [spliceF] using h
      | cons v vs => obtain ⟨h1, h2⟩ := ih h; exact ⟨by simpa using h1, by simpa using h2⟩
    | succ n =>
      obtain ⟨h1, h2⟩ := ih (n := n) (vs := vs) (by simpa [spliceF] using h)
      exact ⟨by simp; omega, by rw [show n + 1 + vs.length = n + vs.length + 1 by omega]; simpa using h2⟩
theorem takeC_of {l : List CV} {n : Nat} {k : List AV → Prop} (h : takeC l n k) : n ≤ l.length ∧ k ((l.take n).map CV.av) := by
  induction l generalizing n k with
  | nil => cases n <;> simp_all [takeC]
  | cons x l ih =>
    cases n with
    | zero => simpa [takeC] using h
    | succ n => rw [takeC, AV.f_eq] at h; obtain ⟨h1, h2⟩ := ih h; exact ⟨by simpa using h1, by simpa using h2⟩
theorem dropC_of {l : List CV} {n : Nat} {k : List CV → Prop} (h : dropC l n k) : n ≤ l.length ∧ k (l.drop n) := by
  induction l generalizing n k with
  | nil => cases n <;> simp_all [dropC]
  | cons x l ih =>
    cases n with
    | zero => simpa [dropC] using h
    | succ n => obtain ⟨h1, h2⟩ := ih h; exact ⟨by simpa using h1, by simpa using h2⟩
theorem hget_of {h : Hp} {n : Nat} {k : AO → Prop} (hh : hget h n k) : ∃ x, (n, x) ∈ h ∧ k x := by
  induction h with
  | nil => exact hh.elim
  | cons p h ih =>
    obtain ⟨o, x⟩ := p
    simp only [hget] at hh
    cases e : Nat.beq o n with
    | true => rw [e] at hh; obtain rfl := Nat.eq_of_beq_eq_true e; exact ⟨x, by simp, hh⟩
    | false => rw [e] at hh; obtain ⟨y, h1, h2⟩ := ih hh; exact ⟨y, by simp [h1], h2⟩
theorem tiGet_of {h : List (Nat × TI)} {n : Nat} {k : TI → Prop} (hh : tiGet h n k) : ∃ x, (n, x) ∈ h ∧ k x := by
  induction h with
  | nil => exact hh.elim
  | cons p h ih =>
    obtain ⟨o, x⟩ := p
    simp only [tiGet] at hh
    cases e : Nat.beq o n with
    | true => rw [e] at hh; obtain rfl := Nat.eq_of_beq_eq_true e; exact ⟨x, by simp, hh⟩
    | false => rw [e] at hh; obtain ⟨y, h1, h2⟩ := ih hh; exact ⟨y, by simp [h1], h2⟩
theorem spGet_of {h : List (Nat × Spec)} {n : Nat} {k : Spec → Prop} (hh : spGet h n k) : ∃ x, (n, x) ∈ h ∧ k x := by
  induction h with
  | nil => exact hh.elim
  | cons p h ih =>
    obtain ⟨o, x⟩ := p
    simp only [spGet] at hh
    cases e : Nat.beq o n with
    | true => rw [e] at hh; obtain rfl := Nat.eq_of_beq_eq_true e; exact ⟨x, by simp, hh⟩
    | false => rw [e] at hh; obtain ⟨y, h1, h2⟩ := ih hh; exact ⟨y, by simp [h1], h2⟩
theorem nthF_of {l : List (Nat × Nat × Bool)} {i : Nat} {k : Nat × Nat × Bool → Prop} (h : nthF l i k) : ∃ x, l[i]? = some x ∧ k x := by
  induction l generalizing i with
  | nil => exact h.elim
  | cons y l ih => cases i with
    | zero => exact ⟨y, rfl, h⟩
    | succ i => obtain ⟨x, h1, h2⟩ := ih h; exact ⟨x, by simpa using h1, h2⟩

def hput : Hp → Nat → AO → Hp
  | [], n, x => [(n, x)]
  | (o, y) :: h, n, x => if o = n then (n, x) :: h else (o, y) :: hput h n x
theorem hputF_eq (h : Hp) (n : Nat) (x : AO) (k : Hp → Prop) : hputF h n x k = k (hput h n x) := by
  induction h generalizing k with
  | nil => rfl
  | cons p h ih =>
    obtain ⟨o, y⟩ := p
    simp only [hputF, hput]
    cases e : Nat.beq o n with
    | true => simp [Nat.eq_of_beq_eq_true e]
    | false => simp [Nat.ne_of_beq_eq_false e, ih]
theorem hput_keys (h : Hp) (n : Nat) (x : AO) : (hput h n x).map (·.1) = if n ∈ h.map (·.1) then h.map (·.1) else h.map (·.1) ++ [n] := by
  induction h with
  | nil => simp [hput]
  | cons p h ih =>
    obtain ⟨o, y⟩ := p
    simp only [hput]
    by_cases e : o = n
    · subst e; simp
    · have e' : ¬ n = o := fun z => e z.symm
      simp only [e, if_false, List.map_cons, List.mem_cons, e', false_or, ih]
      split <;> simp
theorem hput_nodup {h : Hp} (hn : (h.map (·.1)).Nodup) (n : Nat) (x : AO) : ((hput h n x).map (·.1)).Nodup := by
  rw [hput_keys]
  split
  · exact hn
  · rename_i hm
    rw [List.nodup_append]
    refine ⟨hn, by simp, ?_⟩
    intro a ha b hb
    simp at hb
    subst hb
    intro e
    subst e
    exact hm ha
theorem hput_mem {h : Hp} (hn : (h.map (·.1)).Nodup) {n : Nat} {x : AO} {o : Nat} {y : AO} (hm : (o, y) ∈ hput h n x) : (o = n ∧ y = x) ∨ (o ≠ n ∧ (o, y) ∈ h) := by
  induction h with
  | nil => simp [hput] at hm; exact .inl hm
  | cons p h ih =>
    obtain ⟨q, z⟩ := p
    simp only [List.map_cons, List.nodup_cons] at hn
    simp only [hput] at hm
    by_cases e : q = n
    · subst e
      simp only [if_true, List.mem_cons, Prod.mk.injEq] at hm
      rcases hm with ⟨rfl, rfl⟩ | hm
      · exact .inl ⟨rfl, rfl⟩
      · refine .inr ⟨?_, by simp [hm]⟩
        rintro rfl
        exact hn.1 (List.mem_map.2 ⟨_, hm, rfl⟩)
    · simp only [e, if_false, List.mem_cons, Prod.mk.injEq] at hm
      rcases hm with ⟨rfl, rfl⟩ | hm
      · exact .inr ⟨e, by simp⟩
      · rcases ih hn.2 hm with h1 | ⟨h1, h2⟩
        · exact .inl h1
        · exact .inr ⟨h1, by simp [h2]⟩
theorem hput_self (h : Hp) (n : Nat) (x : AO) : (n, x) ∈ hput h n x := by
  induction h with
  | nil => simp [hput]
  | cons p h ih => obtain ⟨q, z⟩ := p; simp only [hput]; split <;> simp [ih]
theorem hput_keep {h : Hp} {n : Nat} {x : AO} {o : Nat} {y : AO} (ho : o ≠ n) (hm : (o, y) ∈ h) : (o, y) ∈ hput h n x := by
  induction h with
  | nil => simp at hm
  | cons p h ih =>
    obtain ⟨q, z⟩ := p
    simp only [hput]
    simp only [List.mem_cons, Prod.mk.injEq] at hm
    split
    · rename_i e
      rcases hm with ⟨rfl, rfl⟩ | hm
      · exact absurd e ho
      · simp [hm]
    · rcases hm with ⟨rfl, rfl⟩ | hm
      · simp
      · simp [ih hm]

def hdel : Hp → Nat → Hp
  | [], _ => []
  | (o, y) :: h, n => if o = n then h else (o, y) :: hdel h n
theorem hdelF_eq (h : Hp) (n : Nat) (k : Hp → Prop) : hdelF h n k = k (hdel h n) := by
  induction h generalizing k with
  | nil => rfl
  | cons p h ih =>
    obtain ⟨o, y⟩ := p
    simp only [hdelF, hdel]
    cases e : Nat.beq o n with
    | true => simp [Nat.eq_of_beq_eq_true e]
    | false => simp [Nat.ne_of_beq_eq_false e, ih]
theorem hdel_mem {h : Hp} (hn : (h.map (·.1)).Nodup) {n o : Nat} {y : AO} : (o, y) ∈ hdel h n ↔ o ≠ n ∧ (o, y) ∈ h := by
  induction h with
  | nil => simp [hdel]
  | cons p h ih =>
    obtain ⟨q, z⟩ := p
    simp only [List.map_cons, List.nodup_cons] at hn
    simp only [hdel]
    by_cases e : q = n
    · subst e
      simp only [if_true, List.mem_cons, Prod.mk.injEq]
      constructor
      · intro hm
        refine ⟨?_, .inr hm⟩
        rintro rfl
        exact hn.1 (List.mem_map.2 ⟨_, hm, rfl⟩)
      · rintro ⟨h1, ⟨rfl, rfl⟩ | h2⟩
        · exact absurd rfl h1
        · exact h2
    · simp only [e, if_false, List.mem_cons, Prod.mk.injEq, ih hn.2]
      constructor
      · rintro (⟨rfl, rfl⟩ | ⟨h1, h2⟩)
        · exact ⟨e, .inl ⟨rfl, rfl⟩⟩
        · exact ⟨h1, .inr h2⟩
      · rintro ⟨h1, ⟨rfl, rfl⟩ | h2⟩
        · exact .inl ⟨rfl, rfl⟩
        · exact .inr ⟨h1, h2⟩
theorem hdel_nodup {h : Hp} (hn : (h.map (·.1)).Nodup) (n : Nat) : ((hdel h n).map (·.1)).Nodup := by
  induction h with
  | nil => simp [hdel]
  | cons p h ih =>
    obtain ⟨q, z⟩ := p
    simp only [List.map_cons, List.nodup_cons] at hn
    simp only [hdel]
    split
    · exact hn.2
    · simp only [List.map_cons, List.nodup_cons]
      refine ⟨?_, ih hn.2⟩
      intro hm
      obtain ⟨⟨a, b⟩, h1, h2⟩ := List.mem_map.1 hm
      simp only at h2
      subst h2
      exact hn.1 (List.mem_map.2 ⟨_, ((hdel_mem hn.2).1 h1).2, rfl⟩)
theorem hlive_iff (h : Hp) (n : Nat) : hlive h n = true ↔ ∃ x, (n, x) ∈ h := by
  induction h with
  | nil => simp [hlive]
  | cons p h ih =>
    obtain ⟨q, z⟩ := p
    simp only [hlive]
    cases e : Nat.beq q n with
    | true => obtain rfl := Nat.eq_of_beq_eq_true e; simp
    | false =>
      have hne := Nat.ne_of_beq_eq_false e
      simp only [ih, List.mem_cons, Prod.mk.injEq]
      constructor
      · rintro ⟨x, hx⟩; exact ⟨x, .inr hx⟩
      · rintro ⟨x, ⟨rfl, rfl⟩ | hx⟩
        · exact absurd rfl hne
        · exact ⟨x, hx⟩

theorem kills_eq (o : Nat) (l : List AV) (k : List AV → Prop) : killsF o l k = k (AV.kills o l) := by
  induction l generalizing k with
  | nil => rfl
  | cons v l ih => simp [killsF, AV.f_eq, ih, AV.kills]
theorem frzs_eq (o : Nat) (τ : ET) (xs : List τ.T) (l : List AV) (k : List AV → Prop) : frzsF o τ xs l k = k (AV.frzs o τ xs l) := by
  induction l generalizing k with
  | nil => rfl
  | cons v l ih => simp [frzsF, AV.f_eq, ih, AV.frzs]
def AO.kill (o : Nat) : AO → AO
  | .box cs => .box (AV.kills o cs)
  | .arr τ xs => .arr τ xs
def AO.frz (o : Nat) (τ : ET) (xs : List τ.T) : AO → AO
  | .box cs => .box (AV.frzs o τ xs cs)
  | .arr τ' ys => .arr τ' ys
def killHp (o : Nat) (h : Hp) : Hp := h.map fun p => (p.1, p.2.kill o)
def frzHp (o : Nat) (τ : ET) (xs : List τ.T) (h : Hp) : Hp := h.map fun p => (p.1, p.2.frz o τ xs)
theorem killHp_eq (o : Nat) (h : Hp) (k : Hp → Prop) : killHpF o h k = k (killHp o h) := by
  induction h generalizing k with
  | nil => rfl
  | cons p h ih => obtain ⟨n, x⟩ := p; cases x <;> simp [killHpF, killHp, AO.kill, kills_eq, ih]
theorem frzHp_eq (o : Nat) (τ : ET) (xs : List τ.T) (h : Hp) (k : Hp → Prop) : frzHpF o τ xs h k = k (frzHp o τ xs h) := by
  induction h generalizing k with
  | nil => rfl
  | cons p h ih => obtain ⟨n, x⟩ := p; cases x <;> simp [frzHpF, frzHp, AO.frz, frzs_eq, ih]

theorem evs_eq (tm : List AV) (l : List Operand) (k : List AV → Prop) : evs tm l k = k (l.map (evalV tm)) := by
  induction l generalizing k with
  | nil => rfl
  | cons x l ih => simp [evs, AV.f_eq, ih]
theorem constsF_eq (l : List Value) (k : List AV → Prop) : constsF l k = k (l.map constV) := by
  induction l generalizing k with
  | nil => rfl
  | cons x l ih => simp [constsF, AV.f_eq, ih]

/-! ### Lists of values -/
section rel
variable {β β' : Nat → Option Value} {S S' : Nat → Prop} {w w' : World}
theorem RelVs.length : ∀ {l : List AV} {vs : List Value}, RelVs β S w l vs → l.length = vs.length
  | [], _, h => by simp only [RelVs] at h; subst h; rfl
  | _ :: _, _, ⟨_, _, rfl, _, h⟩ => by simp [RelVs.length h]
theorem RelVs.append : ∀ {l m : List AV} {vs us : List Value}, RelVs β S w l vs → RelVs β S w m us → RelVs β S w (l ++ m) (vs ++ us)
  | [], _, _, _, h, k => by simp only [RelVs] at h; subst h; exact k
  | _ :: _, _, _, _, ⟨v, us, rfl, h1, h2⟩, k => ⟨v, _, rfl, h1, h2.append k⟩
theorem RelVs.take (n : Nat) : ∀ {l : List AV} {vs : List Value}, RelVs β S w l vs → RelVs β S w (l.take n) (vs.take n) := by
  induction n with
  | zero => intro l vs _; simp [RelVs]
  | succ n ih =>
    intro l vs h
    cases l with
    | nil => simp only [RelVs] at h; subst h; simp [RelVs]
    | cons a l => obtain ⟨v, us, rfl, h1, h2⟩ := h; exact ⟨v, _, rfl, h1, ih h2⟩
theorem RelVs.drop (n : Nat) : ∀ {l : List AV} {vs : List Value}, RelVs β S w l vs → RelVs β S w (l.drop n) (vs.drop n) := by
  induction n with
  | zero => intro l vs h; simpa using h
  | succ n ih =>
    intro l vs h
    cases l with
    | nil => simp only [RelVs] at h; subst h; simp [RelVs]
    | cons a l => obtain ⟨v, us, rfl, h1, h2⟩ := h; simpa using ih h2
theorem RelVs.get {l : List AV} {vs : List Value} (h : RelVs β S w l vs) (n : Nat) (hn : n < l.length) : ∃ v, vs[n]? = some v ∧ RelV β S w (l.getD n .undef) v := by
  induction l generalizing vs n with
  | nil => simp at hn
  | cons a l ih =>
    obtain ⟨v, us, rfl, h1, h2⟩ := h
    cases n with
    | zero => exact ⟨v, rfl, h1⟩
    | succ n => obtain ⟨u, h3, h4⟩ := ih h2 n (by simpa using hn); exact ⟨u, by simpa using h3, by simpa using h4⟩
theorem RelVs.set {l : List AV} {vs : List Value} (h : RelVs β S w l vs) (n : Nat) {a : AV} {v : Value} (hv : RelV β S w a v) : RelVs β S w (l.set n a) (vs.set n v) := by
  induction l generalizing vs n with
  | nil => simp only [RelVs] at h; subst h; simp [RelVs]
  | cons b l ih =>
    obtain ⟨u, us, rfl, h1, h2⟩ := h
    cases n with
    | zero => exact ⟨v, us, rfl, hv, h2⟩
    | succ n => exact ⟨u, _, rfl, h1, ih h2 n⟩
theorem RelV.cv (c : CV) : RelV β S w c.av c.v := by cases c <;> simp [CV.av, CV.v, RelV]
theorem RelVs.cvs (l : List CV) : RelVs β S w (l.map CV.av) (l.map CV.v) := by
  induction l with
  | nil => simp [RelVs]
  | cons c l ih => exact ⟨c.v, _, rfl, RelV.cv c, ih⟩
end rel

theorem RelV.const {β : Nat → Option Value} {S : Nat → Prop} {w : World} (v : Value) : RelV β S w (constV v) v := by
  unfold constV
  split <;> simp [RelV]
theorem RelVs.consts {β : Nat → Option Value} {S : Nat → Prop} {w : World} (l : List Value) : RelVs β S w (l.map constV) l := by
  induction l with
  | nil => simp [RelVs]
  | cons c l ih => exact ⟨c, _, rfl, RelV.const c, ih⟩

/-! ### States -/
def blk : Value → Option Nat
  | .pointer (some a) => some a.block
  | .slice (some a) _ _ => some a.block
  | _ => none

/-- An array that the call owns. -/
def OwnR (S : Nat → Prop) (w : World) (B : Nat → Prop) (τ : ET) (xs : List τ.T) (v : Value) : Prop :=
  (xs = [] ∧ (v = .slice none 0 0 ∨ ∃ g, v = .slice (some ⟨g, 0, none⟩) 0 0 ∧ S g ∧ w.heap[g]? = some (.cells #[] τ.tid (0, 0)))) ∨
  ∃ g cap cur, v = .slice (some ⟨g, 0, none⟩) xs.length cap ∧ B g ∧ ¬ S g ∧ w.heap[g]? = some (.cells cur τ.tid (0, 0)) ∧ xs.length ≤ cap ∧ cap ≤ maxI ∧
    cur.size = cap * τ.size ∧ cur.toList.take (xs.length * τ.size) = cellsOf τ xs

/-- The blocks of old memory that the call may write, and those that it may read. -/
structure XR where
  x : Nat → Prop
  r : Nat → Prop
  e : Nat → Option Value
  d : List Deferred
instance : CoeFun XR fun _ => Nat → Prop := ⟨XR.x⟩

/-- The blocks that the call may write. -/
def Mine (X : XR) (w0 : World) (g : Nat) : Prop := w0.heap.size ≤ g ∨ X g

structure Inv (X : XR) (w0 : World) (β : Nat → Option Value) (S : Nat → Prop) (tm : List AV) (hp : Hp) (a : Act) (w : World) : Prop where
  os : w.os = w0.os
  tape : w.tape = w0.tape
  output : w.output = w0.output
  size : w0.heap.size ≤ w.heap.size
  old : ∀ b, b < w0.heap.size → ¬ X b → w.heap[b]? = w0.heap[b]?
  ext : ∀ b, X b → b < w0.heap.size
  sb : ∀ b, S b → b < w.heap.size
  box : ∀ o cs, (o, .box cs) ∈ hp → ∃ g T vs, β o = some (.pointer (some ⟨g, 0, none⟩)) ∧ (w0.heap.size ≤ g ∨ X g) ∧ ¬ S g ∧ w.heap[g]? = some (.cells vs T (0, 0)) ∧ RelVs β S w cs vs.toList
  arr : ∀ o τ xs, (o, .arr τ xs) ∈ hp → ∃ v, β o = some v ∧ OwnR S w (Mine X w0) τ xs v
  live : ∀ o v, β o = some v → ∃ x, (o, x) ∈ hp
  nodup : (hp.map (·.1)).Nodup
  apart : ∀ o o' v v' g, o ≠ o' → β o = some v → β o' = some v' → blk v = some g → ¬ S g → blk v' ≠ some g
  rel : RelVs β S w tm a.tmps.toList
  defs : a.defers = X.d
  grew : ∀ b, S b → b < w0.heap.size → X.r b ∨ X.x b
  keep : ∀ o v u, X.e o = some v → β o = some u → u = v
  far : ∀ o v, X.e o = some v → 1000 ≤ o

theorem OwnR.mono {S S' : Nat → Prop} {w w' : World} {B : Nat → Prop} {τ : ET} {xs : List τ.T} {v : Value} (h : OwnR S w B τ xs v) (hS : ∀ b, S b → S' b)
    (hn : ∀ b, blk v = some b → ¬ S b → ¬ S' b) (hw : ∀ b, blk v = some b → w'.heap[b]? = w.heap[b]?) : OwnR S' w' B τ xs v := by
  rcases h with ⟨h1, h2⟩ | ⟨g, cap, cur, rfl, h1, h2, h3, h4⟩
  · refine .inl ⟨h1, ?_⟩
    rcases h2 with h2 | ⟨g, rfl, h3, h4⟩
    · exact .inl h2
    · exact .inr ⟨g, rfl, hS _ h3, (hw g rfl).trans h4⟩
  · exact .inr ⟨g, cap, cur, rfl, h1, hn g rfl h2, (hw g rfl).trans h3, h4⟩

section inv
variable {X : XR} {w0 : World} {β : Nat → Option Value} {S : Nat → Prop} {tm : List AV} {hp : Hp} {a : Act} {w : World}

/-- The same memory under another count of draws. -/
theorem Inv.same (h : Inv X w0 β S tm hp a w) {w' : World} (ho : w'.os = w.os) (ht : w'.tape = w.tape) (hu : w'.output = w.output) (hh : w'.heap = w.heap) : Inv X w0 β S tm hp a w' := by
  have hw : ∀ b, S b → w'.heap[b]? = w.heap[b]? := fun b _ => by rw [hh]
  have hm : ∀ (l : List AV) vs, RelVs β S w l vs → RelVs β S w' l vs := fun l vs => RelVs.mono (fun _ _ x => x) (fun _ x => x) hw l vs
  refine ⟨ho.trans h.os, ht.trans h.tape, hu.trans h.output, by rw [hh]; exact h.size, fun b h1 h2 => by rw [hh]; exact h.old b h1 h2, h.ext, fun b hb => by rw [hh]; exact h.sb b hb, ?_, ?_, h.live, h.nodup, h.apart, hm _ _ h.rel, h.defs, h.grew, h.keep, h.far⟩
  · intro o cs ho
    obtain ⟨g, T, vs, h1, h2, h3, h4, h5⟩ := h.box o cs ho
    exact ⟨g, T, vs, h1, h2, h3, by rw [hh]; exact h4, hm _ _ h5⟩
  · intro o τ xs ho
    obtain ⟨v, h1, h2⟩ := h.arr o τ xs ho
    exact ⟨v, h1, h2.mono (fun _ x => x) (fun _ _ x => x) (fun b _ => by rw [hh])⟩

theorem Inv.put (h : Inv X w0 β S tm hp a w) {v : AV} {u : Value} (hv : RelV β S w v u) (d : Option Nat) : Inv X w0 β S (putL tm d v) hp (a.put d u) w := by
  cases d with
  | none => exact h
  | some d =>
    refine { h with rel := ?_, defs := h.defs }
    simp only [putL, Act.put, Array.toList_setIfInBounds]
    exact h.rel.set d hv

theorem Inv.eval (h : Inv X w0 β S tm hp a w) (x : Operand) : RelV β S w (evalV tm x) (a.eval x) := by
  cases x with
  | tmp t =>
    simp only [evalV, Act.eval, getV_eq]
    by_cases ht : t < tm.length
    · obtain ⟨v, h1, h2⟩ := h.rel.get t ht
      rw [Array.getD_eq_getD_getElem?, ← Array.getElem?_toList, h1]
      exact h2
    · have e : tm.getD t .undef = .undef := by simp [List.getD, List.getElem?_eq_none (Nat.le_of_not_lt ht)]
      rw [e]
      simp [RelV]
  | const v => exact RelV.const v
  | global g => simp [evalV, RelV]
  | func f => simp [evalV, RelV, Act.eval]

theorem Inv.evals (h : Inv X w0 β S tm hp a w) (l : List Operand) : RelVs β S w (l.map (evalV tm)) (l.map a.eval) := by
  induction l with
  | nil => simp [RelVs]
  | cons x l ih => exact ⟨_, _, rfl, h.eval x, ih⟩

/-- A slot is told as nothing, or as it is. -/
theorem Weak1.rel {b c : AV} (h : Weak1 b c) {v : Value} (hv : RelV β S w c v) : RelV β S w b v := by
  cases h with
  | same => exact hv
  | undef => simp [RelV]
  | nil τ =>
    simp only [RelV] at hv
    subst hv
    exact ⟨none, 0, rfl, by simp, by simp, fun hne => absurd rfl hne⟩
  | lit τ xs =>
    obtain ⟨g, rfl, h1, h2, h3⟩ := hv
    refine ⟨_, _, rfl, Nat.le_refl _, h3, fun _ => ⟨⟨g, 0, none⟩, rfl, h1, fun j u hj => ?_⟩⟩
    rw [add_zero']
    simp only [World.cell?, h2]
    simpa using hj
theorem WeakL.rel {l m : List AV} (h : WeakL l m) : ∀ {vs : List Value}, RelVs β S w m vs → RelVs β S w l vs := by
  induction h with
  | nil => exact fun h => h
  | cons h1 _ ih => rintro vs ⟨v, us, rfl, h2, h3⟩; exact ⟨v, us, rfl, h1.rel h2, ih h3⟩
theorem Inv.weak (h : Inv X w0 β S tm hp a w) {tm' : List AV} (hl : WeakL tm' tm) : Inv X w0 β S tm' hp a w := { h with rel := hl.rel h.rel }
theorem WeakH.mem {h g : Hp} (hw : WeakH h g) : h.map (·.1) = g.map (·.1) ∧ (∀ o x, (o, x) ∈ h → ∃ y, (o, y) ∈ g ∧ WeakA x y) ∧ ∀ o y, (o, y) ∈ g → ∃ x, (o, x) ∈ h := by
  induction hw with
  | nil => simp
  | cons n hx _ ih =>
    obtain ⟨h1, h2, h3⟩ := ih
    refine ⟨by simp [h1], fun o x hm => ?_, fun o y hm => ?_⟩
    · simp only [List.mem_cons, Prod.mk.injEq] at hm
      rcases hm with ⟨rfl, rfl⟩ | hm
      · exact ⟨_, by simp, hx⟩
      · obtain ⟨y, h4, h5⟩ := h2 o x hm; exact ⟨y, by simp [h4], h5⟩
    · simp only [List.mem_cons, Prod.mk.injEq] at hm
      rcases hm with ⟨rfl, rfl⟩ | hm
      · exact ⟨_, List.mem_cons_self ..⟩
      · obtain ⟨x, h4⟩ := h3 o y hm; exact ⟨x, by simp [h4]⟩
theorem Inv.weakH (h : Inv X w0 β S tm hp a w) {hp' : Hp} (hw : WeakH hp' hp) : Inv X w0 β S tm hp' a w := by
  obtain ⟨h1, h2, h3⟩ := hw.mem
  refine { h with box := fun o cs ho => ?_, arr := fun o τ xs ho => ?_, live := fun o v hv => ?_, nodup := by rw [h1]; exact h.nodup, apart := h.apart, rel := h.rel, defs := h.defs }
  · obtain ⟨y, hy, hxy⟩ := h2 o _ ho
    cases hxy with
    | same => exact h.box o cs hy
    | box hl =>
      obtain ⟨g, T, vs, q1, q2, q3, q4, q5⟩ := h.box o _ hy
      exact ⟨g, T, vs, q1, q2, q3, q4, hl.rel q5⟩
  · obtain ⟨y, hy, hxy⟩ := h2 o _ ho
    cases hxy with
    | same => exact h.arr o τ xs hy
  · obtain ⟨x, hx⟩ := h.live o v hv
    exact h3 o x hx

end inv
end Go.Proofs.Ythakgbecpkfeoaa.Ev

/- What the tables of types say of the program; the operations that change no object are told rightly. -/
set_option linter.unusedVariables false
set_option linter.unusedSimpArgs false
namespace Go.Proofs.Ythakgbecpkfeoaa.Ev

def aggD : TypeDesc → Bool
  | .struct _ => true
  | .array _ _ => true
  | _ => false
def etOf : Nat → Option ET
  | 3 => some .i64
  | 5 => some .u8
  | 4 => some .bl
  | 51 => some .acc
  | 53 => some .res
  | 160 => some .i3
  | 162 => some .i2
  | _ => none

def sizeP (P : Program) (t : Nat) : Nat := ((P.info? t).map (·.size)).getD 0
def fieldP (P : Program) (f : Field) : Nat × Nat × Bool := (f.offset, sizeP P f.type, ((P.underlying f.type).map aggD).getD false)
def elemP (P : Program) (e : Nat) : Option ET :=
  match etOf e, P.info? e with
  | some τ, some i => match i.zero with
    | some z => if i.size = τ.size ∧ i.bytes = τ.bytes ∧ z.cells.size = τ.size ∧ e = τ.tid then some τ else none
    | none => none
  | _, _ => none
/-- A type's row, out of the program. -/
def tiOf (P : Program) (T : Nat) : Option TI :=
  match P.info? T, P.underlying T with
  | some i, some d => match i.zero with
    | some z => some {
        agg := aggD d, size := i.size, zero := z.cells.toList,
        fields := match d with | .struct fs => if fs.toList.all (fun f => decide (0 < sizeP P f.type) && (P.info? f.type).isSome && (P.underlying f.type).isSome) then fs.toList.map (fieldP P) else [] | _ => [],
        elem := match d with | .slice e => elemP P e | _ => none,
        arr := match d with | .array n e => if (P.info? e).isSome then some (n, sizeP P e, false) else none | _ => none,
        ik := match d with | .int κ => some κ | _ => none,
        eqk := [] }
    | none => none
  | _, _ => none

def CKm : CK → CV → Bool
  | .int κ, .int κ' _ => kindEq κ κ'
  | .bool, .bool _ => true
  | .str, .str _ => true
  | _, _ => false
def CKms : List CK → List CV → Bool
  | [], [] => true
  | k :: ks, c :: cs => CKm k c && CKms ks cs
  | _, _ => false
def eqCV : CV → CV → Bool
  | .int _ a, .int _ b => a == b
  | .bool a, .bool b => a == b
  | .str a, .str b => a.toList == b.toList
  | _, _ => false
def eqCVs : List CV → List CV → Bool
  | [], [] => true
  | c :: cs, d :: ds => eqCV c d && eqCVs cs ds
  | _, _ => false

/-- '==' of two values of struct type T goes cell by cell. -/
def EqOK (P : Program) (T : Nat) (ks : List CK) : Prop :=
  ∀ (l m : List CV) (w : World), CKms ks l = true → CKms ks m = true →
    (Op.equal T (.agg (l.map CV.v).toArray) (.agg (m.map CV.v).toArray)).run P w = .ok (eqCVs l m) w ∧ P.eqGuardType P.depth T = false

def SpecPure (P : Program) (f : Nat) (h : List AV → Option (Prop × AV)) : Prop :=
  ∀ (S : Nat → Prop) (w : World) (args : List AV) (vals : List Value) (p : Prop) (r : AV), (∀ b, S b → b < w.heap.size) → RelVs (fun _ => none) S w args vals →
    h args = some (p, r) → p → Calls P f vals.toArray w fun (e : Ending) (w' : World) => ∃ v, e = .returned v ∧ RelV (fun _ => none) (fun b => b < w'.heap.size ∧ (S b ∨ w.heap.size ≤ b)) w' r v ∧
      w'.os = w.os ∧ w'.tape = w.tape ∧ w'.output = w.output ∧ w.heap.size ≤ w'.heap.size ∧ ∀ b, b < w.heap.size → w'.heap[b]? = w.heap[b]?

def extβ (gs : List Nat) (o : Nat) : Option Value := if 1000 ≤ o then (gs[o - 1000]?).map fun g => .pointer (some ⟨g, 0, none⟩) else none

def SpecFull (P : Program) (f : Nat) (s : List AV → List (List AV) → (Out → List (List AV) → Prop) → Prop) : Prop :=
  ∀ (S : Nat → Prop) (w : World) (args : List AV) (vals : List Value) (bs : List (List AV)) (gs : List Nat) (Q : Out → List (List AV) → Prop), (∀ b, S b → b < w.heap.size) →
    gs.length = bs.length → gs.Nodup → (∀ g ∈ gs, ¬ S g ∧ g < w.heap.size) →
    (∀ (i : Nat) (cs : List AV), bs[i]? = some cs → ∃ (g T : Nat) (vs : Array Value), gs[i]? = some g ∧ w.heap[g]? = some (Obj.cells vs T (0, 0)) ∧ RelVs (extβ gs) S w cs vs.toList) →
    RelVs (extβ gs) S w args vals → s args bs Q →
    Calls P f vals.toArray w fun (e : Ending) (w' : World) => ∃ (out : Out) (bs' : List (List AV)) (S' : Nat → Prop), Q out bs' ∧
      (match out with | .ret r => ∃ v, e = .returned v ∧ RelV (extβ gs) S' w' r v | .pan r => ∃ v, e = .panicked [{ v, recovered := false }] ∧ RelV (extβ gs) S' w' r v) ∧
      bs'.length = bs.length ∧ (∀ (i : Nat) (cs : List AV), bs'[i]? = some cs → ∃ (g T : Nat) (vs : Array Value), gs[i]? = some g ∧ w'.heap[g]? = some (Obj.cells vs T (0, 0)) ∧ RelVs (extβ gs) S' w' cs vs.toList) ∧
      w'.os = w.os ∧ w'.tape = w.tape ∧ w'.output = w.output ∧ w.heap.size ≤ w'.heap.size ∧ (∀ b, b < w.heap.size → b ∉ gs → w'.heap[b]? = w.heap[b]?) ∧
      (∀ b, S b → S' b) ∧ (∀ b, S' b → b < w'.heap.size ∧ (S b ∨ w.heap.size ≤ b))

/-- The names under which a function sees the table that it is handed, and the table's array. -/
def tabβ (g : Nat) (ext : Option (List Int)) (va : Value) (o : Nat) : Option Value :=
  if o = 1000 then some (.pointer (some ⟨g, 0, none⟩)) else if o = 1001 ∧ ext.isSome = true then some va else none

/-- The block of the table's own array. -/
def Its (S : Nat → Prop) (ext : Option (List Int)) (va : Value) (b : Nat) : Prop := ext.isSome = true ∧ blk va = some b ∧ ¬ S b

def SpecTab (P : Program) (f : Nat) (h : List AV → List AV → Option (List Int) → Option (Prop × List AV × Option (List Int))) : Prop :=
  ∀ (S : Nat → Prop) (w : World) (args : List AV) (vals : List Value) (g T : Nat) (vs : Array Value) (cs : List AV) (ext : Option (List Int)) (va : Value) (p : Prop) (cs' : List AV) (ext' : Option (List Int)),
    (∀ b, S b → b < w.heap.size) → ¬ S g → w.heap[g]? = some (Obj.cells vs T (0, 0)) → RelVs (tabβ g ext va) S w cs vs.toList →
    (∀ xs, ext = some xs → (∃ A n c, va = .slice A n c) ∧ OwnR S w (fun b => b < w.heap.size ∧ b ≠ g) .i64 xs va) →
    RelVs (tabβ g ext va) S w args vals → h args cs ext = some (p, cs', ext') → p →
    Calls P f vals.toArray w fun (e : Ending) (w' : World) => ∃ (S' : Nat → Prop) (va' : Value) (T' : Nat) (vs' : Array Value), e = .returned (.tuple #[]) ∧
      w'.heap[g]? = some (Obj.cells vs' T' (0, 0)) ∧ ¬ S' g ∧ RelVs (tabβ g ext' va') S' w' cs' vs'.toList ∧
      (∀ xs, ext' = some xs → OwnR S' w' (fun b => Its S ext va b ∨ w.heap.size ≤ b) .i64 xs va') ∧
      w'.os = w.os ∧ w'.tape = w.tape ∧ w'.output = w.output ∧ w.heap.size ≤ w'.heap.size ∧ (∀ b, b < w.heap.size → b ≠ g → ¬ Its S ext va b → w'.heap[b]? = w.heap[b]?) ∧
      (∀ b, S b → S' b) ∧ (∀ b, S' b → b < w'.heap.size ∧ (S b ∨ w.heap.size ≤ b ∨ Its S ext va b))

structure EnvOK (P : Program) (E : Env) : Prop where
  ty : ∀ T ti, (T, ti) ∈ E.tys → tiOf P T = some { ti with eqk := [] }
  eq : ∀ T ti, (T, ti) ∈ E.tys → ti.eqk ≠ [] → EqOK P T ti.eqk
  pure : ∀ f h, (f, Spec.pure h) ∈ E.sp → SpecPure P f h ∧ ∀ w args, (callFunc f args).run P w = .ok (.enter f args) w
  full : ∀ f s, (f, Spec.full s) ∈ E.sp → SpecFull P f (detS s) ∧ ∀ w args, (callFunc f args).run P w = .ok (.enter f args) w
  tab : ∀ f s, (f, Spec.tab s) ∈ E.sp → SpecTab P f s ∧ ∀ w args, (callFunc f args).run P w = .ok (.enter f args) w
  z3 : ∃ i, P.info? 3 = some i ∧ i.zero = some (.int .i64 0) ∧ i.size = 1 ∧ i.bytes = 8
  u3 : P.underlying 3 = some (.int .i64)
  u4 : P.underlying 4 = some .bool

section tables
variable {P : Program} {T : Nat} {ti : TI}

theorem tiOf_info (h : tiOf P T = some ti) : ∃ i z d, P.info? T = some i ∧ i.zero = some z ∧ P.underlying T = some d ∧ i.size = ti.size ∧ z.cells.toList = ti.zero ∧ aggD d = ti.agg := by
  unfold tiOf at h
  split at h
  · rename_i i d hi hd
    split at h
    · rename_i z hz
      simp only [Option.some.injEq] at h
      subst h
      exact ⟨i, z, d, hi, hz, hd, rfl, rfl, rfl⟩
    · exact absurd h (by simp)
  · exact absurd h (by simp)

theorem tiOf_field (h : tiOf P T = some ti) {i : Nat} {f : Nat × Nat × Bool} (hf : ti.fields[i]? = some f) :
    ∃ fs g, P.underlying T = some (.struct fs) ∧ fs.toList.map (fieldP P) = ti.fields ∧ fs[i]? = some g ∧ g.offset = f.1 ∧ (∃ j, P.info? g.type = some j ∧ j.size = f.2.1) ∧ 0 < f.2.1 ∧ ∃ d, P.underlying g.type = some d ∧ aggD d = f.2.2 := by
  unfold tiOf at h
  split at h
  · rename_i i' d hi hd
    split at h
    · rename_i z hz
      simp only [Option.some.injEq] at h
      subst h
      simp only at hf
      split at hf
      · rename_i fs
        split at hf
        · rename_i hall
          rw [List.getElem?_map] at hf
          obtain ⟨g, hg, rfl⟩ := Option.map_eq_some_iff.1 hf
          have hm := List.all_eq_true.1 hall g (List.mem_of_getElem? hg)
          simp only [Bool.and_eq_true, decide_eq_true_eq] at hm
          obtain ⟨⟨h1, h2⟩, h3⟩ := hm
          obtain ⟨j, hj⟩ := Option.isSome_iff_exists.1 h2
          obtain ⟨d, hd'⟩ := Option.isSome_iff_exists.1 h3
          refine ⟨fs, g, hd, by simp [hall], by rw [← Array.getElem?_toList]; exact hg, rfl, ⟨j, hj, by simp [fieldP, sizeP, hj]⟩, h1, d, hd', by simp [fieldP, hd']⟩
        · simp at hf
      · simp at hf
    · exact absurd h (by simp)
  · exact absurd h (by simp)

theorem tiOf_struct (h : tiOf P T = some ti) (hf : ti.fields ≠ []) :
    ∃ fs, P.underlying T = some (.struct fs) ∧ fs.toList.map (fieldP P) = ti.fields ∧ ∀ g ∈ fs.toList, ∃ j, P.info? g.type = some j := by
  unfold tiOf at h
  split at h
  · rename_i i' d hi hd
    split at h
    · rename_i z hz
      simp only [Option.some.injEq] at h
      subst h
      simp only at hf
      split at hf
      · rename_i fs
        split at hf
        · rename_i hall
          refine ⟨fs, hd, by simp [hall], fun g hg => ?_⟩
          have hm := List.all_eq_true.1 hall g hg
          simp only [Bool.and_eq_true, decide_eq_true_eq] at hm
          exact Option.isSome_iff_exists.1 hm.1.2
        · exact absurd rfl hf
      · exact absurd rfl hf
    · exact absurd h (by simp)
  · exact absurd h (by simp)

theorem tiOf_elem (h : tiOf P T = some ti) {τ : ET} (hf : ti.elem = some τ) :
    ∃ j z, P.underlying T = some (.slice τ.tid) ∧ P.info? τ.tid = some j ∧ j.zero = some z ∧ j.size = τ.size ∧ j.bytes = τ.bytes ∧ z.cells.size = τ.size := by
  unfold tiOf at h
  split at h
  · rename_i i' d hi hd
    split at h
    · rename_i z hz
      simp only [Option.some.injEq] at h
      subst h
      simp only at hf
      split at hf
      · rename_i e
        unfold elemP at hf
        split at hf
        · rename_i τ' j h1 h2
          split at hf
          · rename_i z' hz'
            split at hf
            · rename_i hc
              simp only [Option.some.injEq] at hf
              subst hf
              obtain ⟨c1, c2, c3, rfl⟩ := hc
              exact ⟨j, z', hd, h2, hz', c1, c2, c3⟩
            · simp at hf
          · simp at hf
        · simp at hf
      · simp at hf
    · exact absurd h (by simp)
  · exact absurd h (by simp)

theorem tiOf_arr (h : tiOf P T = some ti) {n z : Nat} {b : Bool} (hf : ti.arr = some (n, z, b)) :
    ∃ e j, P.underlying T = some (.array n e) ∧ P.info? e = some j ∧ j.size = z := by
  unfold tiOf at h
  split at h
  · rename_i i' d hi hd
    split at h
    · rename_i z hz
      simp only [Option.some.injEq] at h
      subst h
      simp only at hf
      split at hf
      · rename_i n' e
        split at hf
        · rename_i hs
          simp only [Option.some.injEq, Prod.mk.injEq] at hf
          obtain ⟨rfl, rfl, _⟩ := hf
          obtain ⟨j, hj⟩ := Option.isSome_iff_exists.1 hs
          exact ⟨e, j, hd, hj, by simp [sizeP, hj]⟩
        · simp at hf
      · simp at hf
    · exact absurd h (by simp)
  · exact absurd h (by simp)

theorem tiOf_ik (h : tiOf P T = some ti) {κ : IntKind} (hf : ti.ik = some κ) : P.underlying T = some (.int κ) := by
  unfold tiOf at h
  split at h
  · rename_i i' d hi hd
    split at h
    · rename_i z hz
      simp only [Option.some.injEq] at h
      subst h
      simp only at hf
      split at hf
      · simp only [Option.some.injEq] at hf; subst hf; exact hd
      · simp at hf
    · exact absurd h (by simp)
  · exact absurd h (by simp)
end tables

theorem kindEq_of {κ κ' : IntKind} (h : kindEq κ κ' = true) : κ = κ' := by cases κ <;> cases κ' <;> first | rfl | simp [kindEq] at h
theorem ETeq_of {τ τ' : ET} (h : ETeq τ τ' = true) : τ = τ' := by cases τ <;> cases τ' <;> first | rfl | simp [ETeq] at h
theorem has_of {ti : TI} {τ : ET} (h : ti.has τ = true) : ti.elem = some τ := by
  unfold TI.has at h
  split at h
  · rename_i σ hσ; rw [hσ, ETeq_of h]
  · simp at h

end Go.Proofs.Ythakgbecpkfeoaa.Ev

/- The operations that change no object are told rightly: one lemma an operation. -/
set_option linter.unusedVariables false
set_option linter.unusedSimpArgs false
namespace Go.Proofs.Ythakgbecpkfeoaa.Ev

theorem wp_value {P : Program} {o : Oper} {a : Act} {w w' : World} {K : Act → World → Prop} {Q : Exit → Act → World → Prop} {u : Value}
    (h : (execOp a.eval o).run P w = .ok (.value u) w') (hk : K (a.put o.dst u) w') : o.wp P a w K Q := by
  unfold Oper.wp
  rw [h]
  exact hk

section pops
variable {P : Program} {E : Env} {X : XR} {w0 : World} {β : Nat → Option Value} {S : Nat → Prop} {tm : List AV} {hp : Hp} {a : Act} {w : World}
variable {o : Oper} {K : Act → World → Prop} {Q : Exit → Act → World → Prop} {k : AV → Prop}

/-- What an operation's answer must serve. -/
def Serves (X : XR) (w0 : World) (β : Nat → Option Value) (S : Nat → Prop) (tm : List AV) (hp : Hp) (a : Act) (o : Oper) (k : AV → Prop) (K : Act → World → Prop) : Prop :=
  ∀ r u w' S', k r → Inv X w0 β S' tm hp a w' → (∀ b, S b → S' b) → RelV β S' w' r u → K (a.put o.dst u) w'

theorem pop_plain (hI : Inv X w0 β S tm hp a w) (hK : Serves X w0 β S tm hp a o k K) {r : AV} {u : Value} (hk : k r) (hr : RelV β S w r u)
    (h : (execOp a.eval o).run P w = .ok (.value u) w) : o.wp P a w K Q :=
  wp_value h (hK r u w S hk hI (fun _ x => x) hr)

theorem int_of {κ : IntKind} {n : Int} {x : Operand} (hI : Inv X w0 β S tm hp a w) (h : evalV tm x = .int κ n) : a.eval x = .int κ n := by
  have := hI.eval x; rw [h] at this; exact this
theorem bool_of {b : Bool} {x : Operand} (hI : Inv X w0 β S tm hp a w) (h : evalV tm x = .bool b) : a.eval x = .bool b := by
  have := hI.eval x; rw [h] at this; exact this
theorem str_of {s : ByteArray} {x : Operand} (hI : Inv X w0 β S tm hp a w) (h : evalV tm x = .str s) : a.eval x = .string s := by
  have := hI.eval x; rw [h] at this; exact this

theorem pop_move {x : Operand} (hop : o.op = .move x) (hI : Inv X w0 β S tm hp a w) (hK : Serves X w0 β S tm hp a o k K) (h : pop E o.op tm hp k) : o.wp P a w K Q := by
  rw [hop, pop, AV.f_eq] at h
  exact pop_plain hI hK h (hI.eval x) (by simp [execOp, hop])

theorem pop_assign {x : Operand} (hop : o.op = .assign x) (hI : Inv X w0 β S tm hp a w) (hK : Serves X w0 β S tm hp a o k K) (h : pop E o.op tm hp k) : o.wp P a w K Q := by
  rw [hop] at h
  have h' : k (evalV tm x) := by
    simp only [pop] at h
    split at h
    · exact h.elim
    · exact h.elim
    · rwa [AV.f_eq] at h
  exact pop_plain hI hK h' (hI.eval x) (by simp [execOp, hop])

theorem pop_pick {c x y : Operand} (hop : o.op = .pick c x y) (hI : Inv X w0 β S tm hp a w) (hK : Serves X w0 β S tm hp a o k K) (h : pop E o.op tm hp k) : o.wp P a w K Q := by
  rw [hop] at h
  simp only [pop] at h
  split at h
  · rename_i t ht
    have hc := bool_of hI ht
    cases t with
    | true =>
      simp only [AV.f_eq] at h
      exact pop_plain hI hK h (hI.eval x) (by simp [execOp, hop, hc, asBool])
    | false =>
      simp only [AV.f_eq] at h
      exact pop_plain hI hK h (hI.eval y) (by simp [execOp, hop, hc, asBool])
  · exact h.elim

/-- Cells of plain values. -/
theorem fitsK_cvs : ∀ {ks : List CK} {l : List AV}, fitsK ks l = true → ∃ cs : List CV, l = cs.map CV.av ∧ CKms ks cs = true
  | [], [], _ => ⟨[], rfl, rfl⟩
  | [], _ :: _, h => by simp [fitsK] at h
  | k :: ks, [], h => by cases k <;> simp [fitsK] at h
  | k :: ks, v :: l, h => by
    cases k with
    | int κ =>
      cases v with
      | int κ' n =>
        simp only [fitsK] at h
        cases e : kindEq κ κ' with
        | true =>
          rw [e] at h
          obtain ⟨cs, h1, h2⟩ := fitsK_cvs h
          exact ⟨.int κ' n :: cs, by simp [h1, CV.av], by simp [CKms, CKm, e, h2]⟩
        | false => rw [e] at h; simp at h
      | _ => simp [fitsK] at h
    | bool =>
      cases v with
      | bool b =>
        obtain ⟨cs, h1, h2⟩ := fitsK_cvs (ks := ks) (l := l) (by simpa [fitsK] using h)
        exact ⟨.bool b :: cs, by simp [h1, CV.av], by simp [CKms, CKm, h2]⟩
      | _ => simp [fitsK] at h
    | str =>
      cases v with
      | str b =>
        obtain ⟨cs, h1, h2⟩ := fitsK_cvs (ks := ks) (l := l) (by simpa [fitsK] using h)
        exact ⟨.str b :: cs, by simp [h1, CV.av], by simp [CKms, CKm, h2]⟩
      | _ => simp [fitsK] at h

theorem RelVs.cvs_inv {cs : List CV} {vs : List Value} (h : RelVs β S w (cs.map CV.av) vs) : vs = cs.map CV.v := by
  induction cs generalizing vs with
  | nil => simpa [RelVs] using h
  | cons c cs ih =>
    obtain ⟨v, us, rfl, h1, h2⟩ := h
    rw [ih h2]
    cases c <;> simp only [CV.av, RelV] at h1 <;> subst h1 <;> rfl

theorem eqCs_of : ∀ {ks : List CK} {cs ds : List CV} {k : Bool → Prop}, CKms ks cs = true → CKms ks ds = true → eqCs (cs.map CV.av) (ds.map CV.av) k → k (eqCVs cs ds)
  | [], [], [], _, _, _, h => h
  | [], _ :: _, _, _, h, _, _ => by simp [CKms] at h
  | [], [], _ :: _, _, _, h, _ => by simp [CKms] at h
  | _ :: _, [], _, _, h, _, _ => by simp [CKms] at h
  | _ :: _, _ :: _, [], _, _, h, _ => by simp [CKms] at h
  | q :: ks, c :: cs, d :: ds, k, h1, h2, h => by
    simp only [CKms, Bool.and_eq_true] at h1 h2
    cases c <;> cases d <;> cases q <;> simp only [CKm, Bool.false_eq_true, false_and] at h1 h2 <;>
      (simp only [List.map_cons, CV.av, eqCs, eqC] at h
       have := eqCs_of h1.2 h2.2 h
       simpa [eqCVs, eqCV] using this)

theorem eqGuard_agg {op : BinOp} {T : Nat} {x y : Operand} {vs us : Array Value} (hg : P.eqGuardType P.depth T = false) :
    (eqGuard op T x y (.agg vs) (.agg us)).run P w = .ok () w := by
  unfold eqGuard
  cases op <;> simp [hg]

theorem binF_run (hE : EnvOK P E) {op : BinOp} {T : Nat} {x y : Operand} {vx vy : AV} {ux uy : Value} (hx : RelV β S w vx ux) (hy : RelV β S w vy uy) {k : AV → Prop} (h : binF E op T vx vy k) :
    ∃ r u, k r ∧ RelV β S w r u ∧ (eqGuard op T x y ux uy).run P w = .ok () w ∧ (binOp op T ux uy).run P w = .ok u w := by
  unfold binF at h
  split at h
  · rename_i κ m κ' n
    simp only [RelV] at hx hy
    subst hx hy
    have hg : (eqGuard op T x y (.int κ m) (.int κ' n)).run P w = .ok () w := by unfold eqGuard; cases op <;> simp
    split at h
    · refine ⟨_, _, h.2, rfl, hg, ?_⟩
      have : ¬ n < 0 := by omega
      simp [binOp, Op.shift, this, shlV]
    · refine ⟨_, _, h.2, rfl, hg, ?_⟩
      have : ¬ n < 0 := by omega
      simp [binOp, Op.shift, this, shrV]
    · rename_i hn1 hn2
      split at h
      · rename_i he
        obtain rfl := kindEq_of he
        unfold intBin at h
        split at h
        case h_4 => exact ⟨_, _, h.2, rfl, hg, by simp [binOp, Op.intDiv, h.1]⟩
        case h_5 => exact ⟨_, _, h.2, rfl, hg, by simp [binOp, Op.intDiv, h.1]⟩
        case h_6 => exact ⟨_, _, h, rfl, hg, by simp [binOp, Op.intBits, bitsV]⟩
        case h_7 => exact ⟨_, _, h, rfl, hg, by simp [binOp, Op.intBits, bitsV]⟩
        case h_14 => exact h.elim
        all_goals exact ⟨_, _, h, rfl, hg, by simp [binOp, Op.intArith, Op.intCmp]⟩
      · exact h.elim
  · rename_i m n
    simp only [RelV] at hx hy
    subst hx hy
    have hg : (eqGuard op T x y (.bool m) (.bool n)).run P w = .ok () w := by unfold eqGuard; cases op <;> simp
    split at h
    · rename_i e
      obtain rfl := Nat.eq_of_beq_eq_true e
      exact ⟨_, _, h, rfl, hg, by simp [binOp, Op.equal, Op.maxDepth, run_equalIn_bool' w 9999 4 m n hE.u4]⟩
    · rename_i e
      obtain rfl := Nat.eq_of_beq_eq_true e
      exact ⟨_, _, h, rfl, hg, by simp [binOp, Op.equal, Op.maxDepth, run_equalIn_bool' w 9999 4 m n hE.u4]⟩
    · exact h.elim
  · rename_i m n
    simp only [RelV] at hx hy
    subst hx hy
    have hg : (eqGuard op T x y (.string m) (.string n)).run P w = .ok () w := by unfold eqGuard; cases op <;> simp
    split at h
    · exact ⟨_, _, h, rfl, hg, by simp [binOp, Op.stringOp]⟩
    · exact ⟨_, _, h, rfl, hg, by simp [binOp, Op.stringOp]⟩
    · exact h.elim
  · rename_i l m
    obtain ⟨ti, hti, h⟩ := tiGet_of h
    split at h
    · rename_i hl hm ks
      obtain ⟨cs, rfl, hcs⟩ := fitsK_cvs hl
      obtain ⟨ds, rfl, hds⟩ := fitsK_cvs hm
      obtain ⟨vs, rfl, hvs⟩ := hx
      obtain ⟨us, rfl, hus⟩ := hy
      obtain rfl := RelVs.cvs_inv hvs
      obtain rfl := RelVs.cvs_inv hus
      obtain ⟨h1, h2⟩ := hE.eq T ti hti (by simp [ks]) cs ds w hcs hds
      split at h
      · have h' := eqCs_of hcs hds h
        exact ⟨_, _, h', rfl, eqGuard_agg h2, by simp [binOp, h1]⟩
      · have h' := eqCs_of hcs hds h
        exact ⟨_, _, h', rfl, eqGuard_agg h2, by simp [binOp, h1]⟩
      · exact h.elim
    · exact h.elim
  · exact h.elim

theorem pop_binOp (hE : EnvOK P E) {op : BinOp} {T : Nat} {x y : Operand} {T' : Nat} (hop : o.op = .binOp op T x y T') (hI : Inv X w0 β S tm hp a w) (hK : Serves X w0 β S tm hp a o k K) (h : pop E o.op tm hp k) : o.wp P a w K Q := by
  rw [hop] at h
  simp only [pop, AV.f_eq] at h
  obtain ⟨r, u, hk, hr, h1, h2⟩ := binF_run hE (x := x) (y := y) (hI.eval x) (hI.eval y) h
  exact pop_plain hI hK hk hr (by simp [execOp, hop, h1, h2])

theorem pop_unOp {op : UnOp} {T : Nat} {x : Operand} (hop : o.op = .unOp op T x) (hI : Inv X w0 β S tm hp a w) (hK : Serves X w0 β S tm hp a o k K) (h : pop E o.op tm hp k) : o.wp P a w K Q := by
  rw [hop] at h
  simp only [pop] at h
  split at h
  · rename_i b hb
    exact pop_plain hI hK h rfl (by simp [execOp, hop, bool_of hI hb, Op.unary])
  · rename_i κ n hn
    exact pop_plain hI hK h rfl (by simp [execOp, hop, int_of hI hn, Op.unary, Op.intArith])
  · exact h.elim

theorem pop_convert (hE : EnvOK P E) {s d : Nat} {x : Operand} (hs : ∃ D, P.underlying s = some D) (hop : o.op = .convert s d x) (hI : Inv X w0 β S tm hp a w) (hK : Serves X w0 β S tm hp a o k K) (h : pop E o.op tm hp k) : o.wp P a w K Q := by
  rw [hop] at h
  simp only [pop] at h
  split at h
  · rename_i κ n hn
    obtain ⟨ti, hti, h⟩ := tiGet_of h
    split at h
    · rename_i κ' hκ
      have hu := tiOf_ik (hE.ty _ _ hti) (κ := κ') (by simpa using hκ)
      obtain ⟨D, hD⟩ := hs
      exact pop_plain hI hK h rfl (by simp [execOp, hop, int_of hI hn, convert, run_underlying hD, run_underlying hu, Conv.intToInt])
    · exact h.elim
  · exact h.elim

theorem pop_extract {x : Operand} {i : Nat} (hop : o.op = .extract x i) (hI : Inv X w0 β S tm hp a w) (hK : Serves X w0 β S tm hp a o k K) (h : pop E o.op tm hp k) : o.wp P a w K Q := by
  rw [hop] at h
  simp only [pop] at h
  split at h
  · rename_i l hl
    obtain ⟨hi, h⟩ := nthA_of h
    have hx := hI.eval x
    rw [hl] at hx
    obtain ⟨vs, hv, hr⟩ := hx
    obtain ⟨u, h1, h2⟩ := hr.get i hi
    exact pop_plain hI hK h h2 (by simp [execOp, hop, hv, Instr.extract, h1])
  · exact h.elim

/-- A box's cells, in memory. -/
theorem box_cells (hI : Inv X w0 β S tm hp a w) {p : Nat} {cs : List AV} (hm : (p, .box cs) ∈ hp) {g : Nat} (hg : β p = some (.pointer (some ⟨g, 0, none⟩))) :
    ∃ T vs, w.heap[g]? = some (.cells vs T (0, 0)) ∧ RelVs β S w cs vs.toList := by
  obtain ⟨g', T, vs, h1, _, _, h4, h5⟩ := hI.box p cs hm
  rw [hg] at h1
  simp only [Option.some.injEq, Value.pointer.injEq, Addr.mk.injEq, and_true] at h1
  subst h1
  exact ⟨T, vs, h4, h5⟩

theorem load_run {T : Nat} {ti : TI} (ht : tiOf P T = some ti) {b : Addr} {vs : List Value} (hl : vs.length = ti.size) (hc : ∀ j v, vs[j]? = some v → w.cell? (b.add j) = some v) {l : List AV} (hr : RelVs β S w l vs)
    {k : AV → Prop} (h : shapeF ti.agg l k) : ∃ r u, k r ∧ RelV β S w r u ∧ (Instr.loadAt T (.pointer (some b))).run P w = .ok u w := by
  obtain ⟨i, z, d, h1, h2, h3, h4, h5, h6⟩ := tiOf_info ht
  have hsz : (loadCells b ti.size).run P w = .ok vs.toArray w := by rw [← hl]; exact run_loadCells_list w b vs hc
  have hagg : (isAgg T).run P w = .ok ti.agg w := by
    unfold isAgg
    simp only [Sem.run_bind, run_underlying h3, Result.andThen_ok]
    rw [← h6]
    cases d <;> rfl
  unfold shapeF at h
  split at h
  · rename_i hb
    refine ⟨.agg l, .agg vs.toArray, h, ⟨vs, rfl, hr⟩, ?_⟩
    simp [Instr.loadAt, Instr.sureAddr, loadVar, hagg, hb, sizeOf, typeInfo, h1, h4, hsz]
  · rename_i hb
    split at h
    · rename_i x
      obtain ⟨v, us, rfl, hx, hn⟩ := hr
      simp only [RelVs] at hn
      subst hn
      rw [AV.f_eq] at h
      have h0 := hc 0 v rfl
      have e : b.add 0 = b := by simp [Addr.add]
      rw [e] at h0
      exact ⟨x, v, h, hx, by simp [Instr.loadAt, Instr.sureAddr, loadVar, hagg, hb, h0]⟩
    · exact h.elim

theorem cells_at {g off n : Nat} {T : Nat} {vs : Array Value} (hg : w.heap[g]? = some (.cells vs T (0, 0))) (j : Nat) (v : Value) (h : ((vs.toList.drop off).take n)[j]? = some v) :
    w.cell? ((⟨g, off, none⟩ : Addr).add j) = some v := by
  rw [add_off]
  simp only [World.cell?, hg, Option.isSome_none, Bool.false_eq_true, if_false]
  rw [List.getElem?_take] at h
  split at h
  · rw [List.getElem?_drop] at h
    rw [← Array.getElem?_toList]
    exact h
  · simp at h

theorem pop_load (hE : EnvOK P E) {T : Nat} {x : Operand} (hop : o.op = .load T x) (hI : Inv X w0 β S tm hp a w) (hK : Serves X w0 β S tm hp a o k K) (h : pop E o.op tm hp k) : o.wp P a w K Q := by
  rw [hop] at h
  simp only [pop] at h
  have hx := hI.eval x
  split at h
  · rename_i p off hv
    rw [hv] at hx
    obtain ⟨g, hg, hxv⟩ := hx
    obtain ⟨ti, hti, h⟩ := tiGet_of h
    obtain ⟨ao, hao, h⟩ := hget_of h
    split at h
    · rename_i cs
      obtain ⟨T', vs, hh, hr⟩ := box_cells hI hao hg
      obtain ⟨hd1, h⟩ := dropF_of h
      obtain ⟨hd2, h⟩ := takeF_of h
      have hr' := (hr.drop off).take ti.size
      have hl : ((vs.toList.drop off).take ti.size).length = ti.size := by rw [← hr'.length]; simp at hd2 ⊢; omega
      obtain ⟨r, u, hk, hru, hrun⟩ := load_run (hE.ty _ _ hti) (b := ⟨g, off, none⟩) hl (fun j v hj => cells_at hh j v hj) hr' h
      exact pop_plain hI hK hk hru (by simp [execOp, hop, hxv, hrun])
    · exact h.elim
  · rename_i cs hv
    rw [hv] at hx
    obtain ⟨b, hb, _, hc⟩ := hx
    obtain ⟨ti, hti, h⟩ := tiGet_of h
    obtain ⟨hl, h⟩ := takeC_of h
    obtain ⟨r, u, hk, hru, hrun⟩ := load_run (hE.ty _ _ hti) (b := b) (vs := (cs.take ti.size).map CV.v) (by simp; omega) (fun j v hj => by
      rw [List.getElem?_map] at hj
      obtain ⟨c, hc1, rfl⟩ := Option.map_eq_some_iff.1 hj
      rw [List.getElem?_take] at hc1
      split at hc1
      · exact hc j c hc1
      · simp at hc1) (RelVs.cvs (β := β) (S := S) (w := w) (cs.take ti.size)) h
    exact pop_plain hI hK hk hru (by simp [execOp, hop, hb, hrun])
  · rename_i cs hv
    rw [hv] at hx
    obtain ⟨b, us, hb, _, hc, hr⟩ := hx
    obtain ⟨ti, hti, h⟩ := tiGet_of h
    obtain ⟨hl, h⟩ := takeF_of h
    have hr' := hr.take ti.size
    have hl' : (us.take ti.size).length = ti.size := by rw [← hr'.length, List.length_take]; omega
    obtain ⟨r, u, hk, hru, hrun⟩ := load_run (hE.ty _ _ hti) (b := b) hl' (fun j v hj => by
      rw [List.getElem?_take] at hj
      split at hj
      · exact hc j v hj
      · simp at hj) hr' h
    exact pop_plain hI hK hk hru (by simp [execOp, hop, hb, hrun])
  · rename_i p i hv
    rw [hv] at hx
    obtain ⟨g, n, c, hg, hxv⟩ := hx
    split at h
    · rename_i e
      obtain rfl := Nat.eq_of_beq_eq_true e
      obtain ⟨ao, hao, h⟩ := hget_of h
      split at h
      · rename_i xs
        obtain ⟨hi, h⟩ := h
        obtain ⟨v, hv1, hv2⟩ := hI.arr p _ _ hao
        rw [hg] at hv1
        obtain rfl : Value.slice (some ⟨g, 0, none⟩) n c = v := by simpa using hv1
        rcases hv2 with ⟨rfl, _⟩ | ⟨g', cap, cur, he, _, _, hh, _, _, _, htake⟩
        · simp at hi
        · simp only [Value.slice.injEq, Option.some.injEq, Addr.mk.injEq, and_true] at he
          obtain ⟨rfl, rfl, rfl⟩ := he
          have hcell : w.cell? ⟨g, i, none⟩ = some (.int .i64 (xs.getD i (0 : Int))) := by
            have h1 := cellsOf_at .i64 xs i 0 (.int .i64 (xs.getD i (0 : Int))) hi rfl
            rw [← htake] at h1
            simp only [ET.size, Nat.mul_one, Nat.add_zero] at h1
            rw [List.getElem?_take] at h1
            split at h1
            · simp only [World.cell?, hh, Option.isSome_none, Bool.false_eq_true, if_false]
              rw [← Array.getElem?_toList]
              exact h1
            · rename_i hni; exact absurd hi hni
          have hagg : (isAgg 3).run P w = .ok false w := by
            unfold isAgg
            simp only [Sem.run_bind, run_underlying hE.u3, Result.andThen_ok]
            rfl
          exact pop_plain hI hK h rfl (by simp [execOp, hop, hxv, Instr.loadAt, Instr.sureAddr, loadVar, hagg, hcell])
      · exact h.elim
    · exact h.elim
  · exact h.elim

theorem field_run {T : Nat} {ti : TI} (ht : tiOf P T = some ti) {i : Nat} {f : Nat × Nat × Bool} (hf : ti.fields[i]? = some f) (b : Addr) :
    (Instr.fieldAt T (.pointer (some b)) i).run P w = .ok (.pointer (some (b.add f.1))) w := by
  obtain ⟨fs, g, h1, _, h2, h3, ⟨j, h4, h5⟩, h6, _⟩ := tiOf_field ht hf
  have : ¬ f.2.1 = 0 := by omega
  simp [Instr.fieldAt, run_underlying h1, h2, Instr.sureAddr, fieldPlace, sizeOf, typeInfo, h4, h5, this, h3]

theorem pop_fieldAddr (hE : EnvOK P E) {T i : Nat} {x : Operand} (hop : o.op = .fieldAddr T x i) (hI : Inv X w0 β S tm hp a w) (hK : Serves X w0 β S tm hp a o k K) (h : pop E o.op tm hp k) : o.wp P a w K Q := by
  rw [hop] at h
  simp only [pop] at h
  have hx := hI.eval x
  split at h
  · rename_i p off hv
    rw [hv] at hx
    obtain ⟨g, hg, hxv⟩ := hx
    obtain ⟨ti, hti, h⟩ := tiGet_of h
    obtain ⟨f, hf, h⟩ := nthF_of h
    have := field_run (w := w) (hE.ty _ _ hti) (i := i) (f := f) (by simpa using hf) ⟨g, off, none⟩
    rw [add_off] at this
    exact pop_plain hI hK h ⟨g, hg, rfl⟩ (by simp [execOp, hop, hxv, this])
  · rename_i cs hv
    rw [hv] at hx
    obtain ⟨b, hb, hs, hc⟩ := hx
    obtain ⟨ti, hti, h⟩ := tiGet_of h
    obtain ⟨f, hf, h⟩ := nthF_of h
    obtain ⟨hd, h⟩ := dropC_of h
    have := field_run (w := w) (hE.ty _ _ hti) (i := i) (f := f) (by simpa using hf) b
    refine pop_plain hI hK h ⟨b.add f.1, rfl, by rw [add_block]; exact hs, fun j c hj => ?_⟩ (by simp [execOp, hop, hb, this])
    rw [add_add]
    exact hc _ _ (by rw [List.getElem?_drop] at hj; exact hj)
  · rename_i cs hv
    rw [hv] at hx
    obtain ⟨b, us, hb, hs, hc, hr⟩ := hx
    obtain ⟨ti, hti, h⟩ := tiGet_of h
    obtain ⟨f, hf, h⟩ := nthF_of h
    obtain ⟨hd, h⟩ := dropF_of h
    have := field_run (w := w) (hE.ty _ _ hti) (i := i) (f := f) (by simpa using hf) b
    refine pop_plain hI hK h ⟨b.add f.1, us.drop f.1, rfl, by rw [add_block]; exact hs, fun j c hj => ?_, hr.drop f.1⟩ (by simp [execOp, hop, hb, this])
    rw [add_add]
    exact hc _ _ (by rw [List.getElem?_drop] at hj; exact hj)
  · exact h.elim

theorem part_run {T : Nat} {d : TypeDesc} {n : Nat} (hu : P.underlying T = some d) {j : TypeInfo} (hj : P.info? T = some j) (hn : j.size = n) {vs : List Value} {off : Nat} {l : List AV} (hlen : off + n ≤ vs.length) (hr : RelVs β S w l ((vs.drop off).take n))
    {k : AV → Prop} (h : shapeF (aggD d) l k) : ∃ r u, k r ∧ RelV β S w r u ∧ (part T vs.toArray off).run P w = .ok u w := by
  have hagg : (isAgg T).run P w = .ok (aggD d) w := by
    unfold isAgg
    simp only [Sem.run_bind, run_underlying hu, Result.andThen_ok]
    cases d <;> rfl
  unfold shapeF at h
  split at h
  · rename_i hb
    refine ⟨.agg l, .agg ((vs.drop off).take n).toArray, h, ⟨_, rfl, hr⟩, ?_⟩
    simp only [part, Sem.run_bind, hagg, hb, Result.andThen_ok, if_true, sizeOf, typeInfo, run_program, hj, Sem.run_pure, hn]
    congr 2
    simp [List.extract_eq_take_drop]
  · rename_i hb
    split at h
    · rename_i x
      obtain ⟨v, us, he, hx, hn'⟩ := hr
      rw [AV.f_eq] at h
      have h0 : vs[off]? = some v := by
        have : ((vs.drop off).take n)[0]? = some v := by rw [he]; rfl
        rw [List.getElem?_take] at this
        split at this
        · rw [List.getElem?_drop] at this; simpa using this
        · simp at this
      exact ⟨x, v, h, hx, by simp [part, hagg, hb, h0]⟩
    · exact h.elim

theorem pop_field (hE : EnvOK P E) {T i : Nat} {x : Operand} (hop : o.op = .field T x i) (hI : Inv X w0 β S tm hp a w) (hK : Serves X w0 β S tm hp a o k K) (h : pop E o.op tm hp k) : o.wp P a w K Q := by
  rw [hop] at h
  simp only [pop] at h
  have hx := hI.eval x
  split at h
  · rename_i l hl
    rw [hl] at hx
    obtain ⟨vs, hv, hr⟩ := hx
    obtain ⟨ti, hti, h⟩ := tiGet_of h
    obtain ⟨f, hf, h⟩ := nthF_of h
    obtain ⟨fs, g, h1, _, h2, h3, ⟨j, h4, h5⟩, h6, d, h7, h8⟩ := tiOf_field (hE.ty _ _ hti) (i := i) (f := f) (by simpa using hf)
    obtain ⟨hd1, h⟩ := dropF_of h
    obtain ⟨hd2, h⟩ := takeF_of h
    rw [← h8] at h
    have hl2 := hr.length
    obtain ⟨r, u, hk, hru, hrun⟩ := part_run h7 h4 h5 (vs := vs) (off := f.1) (by simp at hd2; omega) ((hr.drop f.1).take f.2.1) h
    exact pop_plain hI hK hk hru (by simp [execOp, hop, hv, Instr.field, run_underlying h1, h2, asAgg, h3, hrun])
  · exact h.elim

theorem pop_nilCheck {x : Operand} (hop : o.op = .nilCheck x) (hI : Inv X w0 β S tm hp a w) (hK : Serves X w0 β S tm hp a o k K) (h : pop E o.op tm hp k) : o.wp P a w K Q := by
  rw [hop] at h
  simp only [pop] at h
  have hx := hI.eval x
  split at h
  · rename_i hv
    rw [hv] at hx
    obtain ⟨g, h1, h2⟩ := hx
    exact pop_plain hI hK h ⟨g, h1, h2⟩ (by simp [execOp, hop, h2])
  · rename_i hv
    rw [hv] at hx
    obtain ⟨g, h1, h2⟩ := hx
    exact pop_plain hI hK h ⟨g, h1, h2⟩ (by simp [execOp, hop, h1])
  · rename_i hv
    rw [hv] at hx
    obtain ⟨g, us, h1, h2⟩ := hx
    exact pop_plain hI hK h ⟨g, us, h1, h2⟩ (by simp [execOp, hop, h1])
  · rename_i hv
    rw [hv] at hx
    exact pop_plain hI hK h hx (by simp only [RelV] at hx; simp [execOp, hop, hx])
  · rename_i hv
    rw [hv] at hx
    obtain ⟨cs, h1, h2⟩ := hx
    exact pop_plain hI hK h ⟨cs, h1, h2⟩ (by simp [execOp, hop, h1])
  · exact h.elim

theorem index_run (hE : EnvOK P E) {T : Nat} {ti : TI} (hti : (T, ti) ∈ E.tys) {τ : ET} (he : ti.elem = some τ) {b : Addr} {len cap : Nat} {κ : IntKind} {n : Int} (h0 : 0 ≤ n) (h1 : n < len) :
    (Instr.indexAt T (.slice (some b) len cap) (.int κ n)).run P w = .ok (.pointer (some (b.add (n.toNat * τ.size)))) w := by
  obtain ⟨j, z, h2, h3, h4, h5, h6, h7⟩ := tiOf_elem (hE.ty _ _ hti) (τ := τ) (by simpa using he)
  simp [Instr.indexAt, asIntOf, run_underlying h2, h0, h1, sizeOf, typeInfo, h3, h5]

theorem pop_indexAddr (hE : EnvOK P E) {T : Nat} {x i : Operand} (hop : o.op = .indexAddr T x i) (hI : Inv X w0 β S tm hp a w) (hK : Serves X w0 β S tm hp a o k K) (h : pop E o.op tm hp k) : o.wp P a w K Q := by
  rw [hop] at h
  simp only [pop] at h
  have hx := hI.eval x
  split at h
  · rename_i κ n hn
    have hi := int_of hI hn
    split at h
    · rename_i τ xs hv
      rw [hv] at hx
      obtain ⟨A, c, hxv, hc, _, hr⟩ := hx
      obtain ⟨ti, hti, h⟩ := tiGet_of h
      split at h
      · rename_i he
        obtain ⟨⟨h0, h1⟩, h⟩ := h
        have hlt : n.toNat < xs.length := by omega
        have hne : cellsOf τ xs ≠ [] := by
          intro e
          have := cellsOf_length τ xs
          rw [e] at this
          have hs := size_pos τ
          have : 0 < xs.length * τ.size := Nat.mul_pos (by omega) hs
          simp at *
          omega
        obtain ⟨b, rfl, hs, hcell⟩ := hr hne
        refine pop_plain hI hK h ⟨b.add (n.toNat * τ.size), rfl, by rw [add_block]; exact hs, fun j c hj => ?_⟩ (by simp [execOp, hop, hi, hxv, index_run hE hti (has_of he) h0 h1])
        rw [add_add]
        exact hcell _ _ (cellsOf_at τ xs n.toNat j c hlt hj)
      · exact h.elim
    · rename_i τ xs hv
      rw [hv] at hx
      obtain ⟨g, hxv, hs, hh, _⟩ := hx
      obtain ⟨ti, hti, h⟩ := tiGet_of h
      split at h
      · rename_i he
        obtain ⟨⟨h0, h1⟩, h⟩ := h
        have hlt : n.toNat < xs.length := by omega
        refine pop_plain hI hK h ⟨(⟨g, 0, none⟩ : Addr).add (n.toNat * τ.size), rfl, by rw [add_block]; exact hs, fun j c hj => ?_⟩ (by simp [execOp, hop, hi, hxv, index_run hE hti (has_of he) h0 h1])
        rw [add_add, add_zero']
        have := cellsOf_at τ xs n.toNat j c hlt hj
        simp only [World.cell?, hh, Option.isSome_none, Bool.false_eq_true, if_false]
        simpa using this
      · exact h.elim
    · rename_i p hv
      rw [hv] at hx
      obtain ⟨hb, A, len, c, hxv⟩ := hx
      obtain ⟨ti, hti, h⟩ := tiGet_of h
      obtain ⟨ao, hao, h⟩ := hget_of h
      split at h
      · rename_i xs
        split at h
        · rename_i he
          obtain ⟨⟨h0, h1⟩, h⟩ := h
          obtain ⟨v, hv1, hv2⟩ := hI.arr p _ _ hao
          rw [hb] at hv1
          obtain rfl : a.eval x = v := by simpa using hv1
          rcases hv2 with ⟨rfl, _⟩ | ⟨g', cap, cur, hsl, _, _, hh, _, _, _, htake⟩
          · simp at h1; omega
          · rw [hsl] at hb
            refine pop_plain hI hK h ⟨g', _, _, hb, rfl⟩ ?_
            have := index_run (w := w) hE hti (has_of he) (b := ⟨g', 0, none⟩) (len := xs.length) (cap := cap) (κ := κ) h0 h1
            rw [add_zero'] at this
            simp [execOp, hop, hi, hsl, this, ET.size]
        · exact h.elim
      · exact h.elim
    · rename_i p off hv
      rw [hv] at hx
      obtain ⟨g, hg, hxv⟩ := hx
      obtain ⟨ti, hti, h⟩ := tiGet_of h
      split at h
      · rename_i m z b harr
        obtain ⟨⟨h0, h1⟩, h⟩ := h
        obtain ⟨e, j, h2, h3, h4⟩ := tiOf_arr (hE.ty _ _ hti) (n := m) (z := z) (b := b) (by simpa using harr)
        refine pop_plain hI hK h ⟨g, hg, rfl⟩ ?_
        have e2 : (⟨g, off, none⟩ : Addr).add (n.toNat * z) = ⟨g, off + n.toNat * z, none⟩ := add_off _ _ _
        simp [execOp, hop, hi, hxv, Instr.indexAt, asIntOf, run_underlying h2, h0, h1, Instr.sureAddr, sizeOf, typeInfo, h3, h4, e2]
      · exact h.elim
    · rename_i cs hv
      rw [hv] at hx
      obtain ⟨ad, us, hxv, hs, hcell, hr⟩ := hx
      obtain ⟨ti, hti, h⟩ := tiGet_of h
      split at h
      · rename_i m z b harr
        obtain ⟨⟨h0, h1⟩, h⟩ := h
        obtain ⟨hd, h⟩ := dropF_of h
        obtain ⟨e, j, h2, h3, h4⟩ := tiOf_arr (hE.ty _ _ hti) (n := m) (z := z) (b := b) (by simpa using harr)
        refine pop_plain hI hK h ⟨ad.add (n.toNat * z), us.drop (n.toNat * z), rfl, by rw [add_block]; exact hs, fun j u hj => ?_, hr.drop _⟩ ?_
        · rw [List.getElem?_drop] at hj
          rw [add_add]
          exact hcell _ _ hj
        · simp [execOp, hop, hi, hxv, Instr.indexAt, asIntOf, run_underlying h2, h0, h1, Instr.sureAddr, sizeOf, typeInfo, h3, h4]
      · exact h.elim
    · exact h.elim
  · exact h.elim

theorem pop_makeInterface {T : Nat} {x : Operand} (hmk : ∀ v w, (Instr.makeInterface T v).run P w = .ok (.iface T v) w) (hop : o.op = .makeInterface T x) (hI : Inv X w0 β S tm hp a w) (hK : Serves X w0 β S tm hp a o k K) (h : pop E o.op tm hp k) : o.wp P a w K Q := by
  rw [hop] at h
  simp only [pop, AV.f_eq] at h
  split at h
  · exact pop_plain hI hK h ⟨_, rfl, hI.eval x⟩ (by simp [execOp, hop, hmk])
  · exact h.elim

theorem pop_makeFunc {fn : Fn} {first caps : Array Operand} (hop : o.op = .makeFunc fn first caps) (hI : Inv X w0 β S tm hp a w) (hK : Serves X w0 β S tm hp a o k K) (h : pop E o.op tm hp k) : o.wp P a w K Q := by
  rw [hop] at h
  simp only [pop] at h
  split at h
  · rename_i g hfirst
    rw [evs_eq] at h
    split at h
    · refine pop_plain hI hK h ⟨_, rfl, hI.evals caps.toList⟩ ?_
      have e : first = #[] := by simpa using hfirst
      have e2 : Array.map a.eval caps = (List.map a.eval caps.toList).toArray := by rw [← Array.toList_map]
      simp [execOp, hop, Instr.makeFunc, e, e2]
    · exact h.elim
  · exact h.elim

mutual
theorem RelV.low {β : Nat → Option Value} {S : Nat → Prop} {w : World} : ∀ (v : AV) (u : Value), RelV β S w v u → RelV β S w v.low u
  | .int .., _, h => h
  | .bool .., _, h => h
  | .str .., _, h => h
  | .ptr .., _, h => h
  | .ep .., _, h => h
  | .oep .., _, h => h
  | .sl .., _, h => h
  | .lit τ xs, _, ⟨g, h1, h2, h3, h4⟩ => ⟨some ⟨g, 0, none⟩, xs.length, h1, Nat.le_refl _, h4, fun _ => ⟨_, rfl, h2, fun j u hj => by
      rw [add_zero']
      simp only [World.cell?, h3, Option.isSome_none, Bool.false_eq_true, if_false]
      simpa using hj⟩⟩
  | .own .., _, h => h
  | .nil, _, h => h
  | .fn .., _, h => h
  | .clo .., _, h => h
  | .kp .., _, h => h
  | .mp .., _, h => h
  | .agg l, _, ⟨cs, h1, h2⟩ => ⟨cs, h1, RelVs.low l cs h2⟩
  | .tup l, _, ⟨cs, h1, h2⟩ => ⟨cs, h1, RelVs.low l cs h2⟩
  | .ifc .., _, h => h
  | .opq .., _, h => h
  | .skp, _, h => h
  | .undef, _, h => h
theorem RelVs.low {β : Nat → Option Value} {S : Nat → Prop} {w : World} : ∀ (l : List AV) (us : List Value), RelVs β S w l us → RelVs β S w (AV.lows l) us
  | [], _, h => h
  | v :: l, _, ⟨u, us, h1, h2, h3⟩ => ⟨u, us, h1, RelV.low v u h2, RelVs.low l us h3⟩
end

theorem viewF_of (hI : Inv X w0 β S tm hp a w) {v : AV} {u : Value} (hr : RelV β S w v u) {k : AV → Prop} (h : viewF hp v k) :
    ∃ v', k v' ∧ ((isOwn v = false ∧ v' = v.low) ∨ ∃ p τ xs, v = .own p ∧ (p, .arr τ xs) ∈ hp ∧ v' = .sl τ xs) := by
  cases v with
  | own p =>
    obtain ⟨ao, hao, h⟩ := hget_of h
    split at h
    · rename_i τ xs
      exact ⟨_, h, .inr ⟨p, τ, xs, rfl, hao, rfl⟩⟩
    · exact h.elim
  | _ => simp only [viewF, AV.f_eq] at h; exact ⟨_, h, .inl ⟨rfl, rfl⟩⟩

/-- An owned array reads as its list, while its block may be looked at. -/
theorem own_sl {B : Nat → Prop} {τ : ET} {xs : List τ.T} {v : Value} (h : OwnR S w B τ xs v) {S' : Nat → Prop} (hS : ∀ b, S b → S' b) (hb : ∀ b, blk v = some b → S' b) {β' : Nat → Option Value} :
    RelV β' S' w (.sl τ xs) v := by
  rcases h with ⟨rfl, rfl | ⟨g, rfl, _, _⟩⟩ | ⟨g, cap, cur, rfl, _, _, hh, h1, h2, h3, h4⟩
  · exact ⟨none, 0, rfl, by simp, by simp, fun hne => absurd rfl hne⟩
  · exact ⟨some ⟨g, 0, none⟩, 0, rfl, by simp, by simp, fun hne => absurd rfl hne⟩
  · refine ⟨some ⟨g, 0, none⟩, cap, rfl, h1, Nat.le_trans h1 h2, fun _ => ⟨_, rfl, hb g rfl, fun j u hj => ?_⟩⟩
    rw [add_zero']
    rw [← h4, List.getElem?_take] at hj
    split at hj
    · simp only [World.cell?, hh, Option.isSome_none, Bool.false_eq_true, if_false]
      rw [← Array.getElem?_toList]
      exact hj
    · simp at hj

end pops
end Go.Proofs.Ythakgbecpkfeoaa.Ev

/- Calls of functions that only compute; literals, lengths, parts of slices; all operations that change no object together. -/
set_option linter.unusedVariables false
set_option linter.unusedSimpArgs false
namespace Go.Proofs.Ythakgbecpkfeoaa.Ev

section calm
variable {β β' : Nat → Option Value} {S S' : Nat → Prop} {w w' : World}
mutual
theorem RelV.calm : ∀ (v : AV) (u : Value), v.calm = true → RelV β S w v u → RelV β' S w v u
  | .int .., _, _, h => h
  | .bool .., _, _, h => h
  | .str .., _, _, h => h
  | .ptr .., _, hc, _ => by simp [AV.calm] at hc
  | .ep .., _, hc, _ => by simp [AV.calm] at hc
  | .oep .., _, hc, _ => by simp [AV.calm] at hc
  | .sl .., _, _, h => h
  | .lit .., _, _, h => h
  | .own .., _, hc, _ => by simp [AV.calm] at hc
  | .nil, _, _, h => h
  | .fn .., _, _, h => h
  | .mp .., _, hc, _ => by simp [AV.calm] at hc
  | .kp l, _, hc, ⟨a, us, h1, h2, h3, h4⟩ => ⟨a, us, h1, h2, h3, RelVs.calm l us (by simpa [AV.calm] using hc) h4⟩
  | .clo _ l, _, hc, ⟨cs, h1, h2⟩ => ⟨cs, h1, RelVs.calm l cs (by simpa [AV.calm] using hc) h2⟩
  | .agg l, _, hc, ⟨cs, h1, h2⟩ => ⟨cs, h1, RelVs.calm l cs (by simpa [AV.calm] using hc) h2⟩
  | .tup l, _, hc, ⟨cs, h1, h2⟩ => ⟨cs, h1, RelVs.calm l cs (by simpa [AV.calm] using hc) h2⟩
  | .ifc _ x, _, hc, ⟨u, h1, h2⟩ => ⟨u, h1, RelV.calm x u (by simpa [AV.calm] using hc) h2⟩
  | .opq .., _, hc, _ => by simp [AV.calm] at hc
  | .skp, _, hc, _ => by simp [AV.calm] at hc
  | .undef, _, _, _ => by simp [RelV]
theorem RelVs.calm : ∀ (l : List AV) (us : List Value), AV.calms l = true → RelVs β S w l us → RelVs β' S w l us
  | [], _, _, h => h
  | v :: l, _, hc, ⟨u, us, h1, h2, h3⟩ => by
    simp only [AV.calms] at hc
    cases e : v.calm with
    | true => rw [e] at hc; exact ⟨u, us, h1, RelV.calm v u e h2, RelVs.calm l us hc h3⟩
    | false => rw [e] at hc; simp at hc
end

theorem plainA_rel {v : AV} {u : Value} (hp : plainA v = true) (h : RelV β S w v u) : RelV β' S' w' v u := by
  cases v <;> first | exact h | simp [plainA] at hp
theorem plainL_rel : ∀ {l : List AV} {us : List Value}, plainL l = true → RelVs β S w l us → RelVs β' S' w' l us
  | [], _, _, h => h
  | v :: l, _, hc, ⟨u, us, h1, h2, h3⟩ => by
    simp only [plainL] at hc
    cases e : plainA v with
    | true => rw [e] at hc; exact ⟨u, us, h1, plainA_rel e h2, plainL_rel hc h3⟩
    | false => rw [e] at hc; simp at hc
theorem plain1_rel {v : AV} {u : Value} (hp : plain1 v = true) (h : RelV β S w v u) : RelV β' S' w' v u := by
  cases v with
  | agg l => obtain ⟨vs, h1, h2⟩ := h; exact ⟨vs, h1, plainL_rel hp h2⟩
  | _ => exact plainA_rel hp h
theorem plainM_rel : ∀ {l : List AV} {us : List Value}, plainM l = true → RelVs β S w l us → RelVs β' S' w' l us
  | [], _, _, h => h
  | v :: l, _, hc, ⟨u, us, h1, h2, h3⟩ => by
    simp only [plainM] at hc
    cases e : plain1 v with
    | true => rw [e] at hc; exact ⟨u, us, h1, plain1_rel e h2, plainM_rel hc h3⟩
    | false => rw [e] at hc; simp at hc
theorem plainV_rel {v : AV} {u : Value} (hp : plainV v = true) (h : RelV β S w v u) : RelV β' S' w' v u := by
  cases v with
  | tup l => obtain ⟨vs, h1, h2⟩ := h; exact ⟨vs, h1, plainM_rel hp h2⟩
  | _ => exact plain1_rel hp h
end calm

/-- Behind a call: what was stable, and all that is new. -/
def after (S : Nat → Prop) (w w' : World) (b : Nat) : Prop := b < w'.heap.size ∧ (S b ∨ w.heap.size ≤ b)

section calls
variable {P : Program} {E : Env} {X : XR} {w0 : World} {β : Nat → Option Value} {S : Nat → Prop} {tm : List AV} {hp : Hp} {a : Act} {w : World}
variable {o : Oper} {K : Act → World → Prop} {Q : Exit → Act → World → Prop} {k : AV → Prop}

theorem heap_lt {w : World} {g : Nat} {x : Obj} (h : w.heap[g]? = some x) : g < w.heap.size := (Array.getElem?_eq_some_iff.1 h).1

theorem blk_lt (hI : Inv X w0 β S tm hp a w) {p : Nat} {v : Value} (h : β p = some v) {g : Nat} (hg : blk v = some g) : g < w.heap.size := by
  obtain ⟨x, hx⟩ := hI.live p v h
  cases x with
  | box cs =>
    obtain ⟨g', T, vs, h1, _, _, h4, _⟩ := hI.box p cs hx
    rw [h] at h1
    simp only [Option.some.injEq] at h1
    subst h1
    simp only [blk, Option.some.injEq] at hg
    subst hg
    exact heap_lt h4
  | arr τ xs =>
    obtain ⟨v', h1, h2⟩ := hI.arr p τ xs hx
    rw [h] at h1
    simp only [Option.some.injEq] at h1
    subst h1
    rcases h2 with ⟨_, rfl | ⟨g', rfl, h3, _⟩⟩ | ⟨g', cap, cur, rfl, _, _, h3, _⟩
    · simp [blk] at hg
    · simp only [blk, Option.some.injEq] at hg; subst hg; exact hI.sb _ h3
    · simp only [blk, Option.some.injEq] at hg; subst hg; exact heap_lt h3

/-- New blocks alone. -/
theorem Inv.grow (hI : Inv X w0 β S tm hp a w) {w' : World} (ho : w'.os = w.os) (ht : w'.tape = w.tape) (hu : w'.output = w.output) (hz : w.heap.size ≤ w'.heap.size)
    (hb : ∀ b, b < w.heap.size → w'.heap[b]? = w.heap[b]?) : Inv X w0 β (after S w w') tm hp a w' := by
  have hS : ∀ b, S b → after S w w' b := fun b h => ⟨Nat.lt_of_lt_of_le (hI.sb b h) hz, .inl h⟩
  have hw : ∀ b, S b → w'.heap[b]? = w.heap[b]? := fun b h => hb b (hI.sb b h)
  have hm : ∀ (l : List AV) vs, RelVs β S w l vs → RelVs β (after S w w') w' l vs := fun l vs => RelVs.mono (fun _ _ x => x) hS hw l vs
  have hn : ∀ b, b < w.heap.size → ¬ S b → ¬ after S w w' b := fun b h1 h2 h3 => h3.2.elim h2 (by omega)
  refine ⟨ho.trans hI.os, ht.trans hI.tape, hu.trans hI.output, Nat.le_trans hI.size hz, fun b h1 h2 => (hb b (Nat.lt_of_lt_of_le h1 hI.size)).trans (hI.old b h1 h2), hI.ext, fun b h => h.1, ?_, ?_, hI.live, hI.nodup, ?_, hm _ _ hI.rel, hI.defs, fun b hb hlt => hb.2.elim (fun h => hI.grew b h hlt) (fun h => by have := hI.size; omega), hI.keep, hI.far⟩
  · intro p cs hp'
    obtain ⟨g, T, vs, h1, h2, h3, h4, h5⟩ := hI.box p cs hp'
    exact ⟨g, T, vs, h1, h2, hn g (heap_lt h4) h3, (hb g (heap_lt h4)).trans h4, hm _ _ h5⟩
  · intro p τ xs hp'
    obtain ⟨v, h1, h2⟩ := hI.arr p τ xs hp'
    exact ⟨v, h1, h2.mono hS (fun b hv => hn b (blk_lt hI h1 hv)) (fun b hv => hb b (blk_lt hI h1 hv))⟩
  · intro p p' v v' g hne h1 h2 h3 h4 h5
    exact hI.apart p p' v v' g hne h1 h2 h3 (fun h6 => h4 (hS g h6)) h5

theorem viewsF_of (hI : Inv X w0 β S tm hp a w) : ∀ {vs : List AV} {us : List Value} {k : List AV → Prop}, RelVs β S w vs us → viewsF hp vs k →
    ∃ ws, k ws ∧ (anyOwn vs = false → RelVs β S w ws us) ∧ RelVs β (fun b => b < w.heap.size) w ws us
  | [], us, k, hr, h => ⟨[], h, fun _ => by simpa [RelVs] using hr, by simpa [RelVs] using hr⟩
  | v :: vs, us, k, ⟨u, us', h1, h2, h3⟩, h => by
    simp only [viewsF] at h
    obtain ⟨v', h, hv⟩ := viewF_of hI h2 h
    obtain ⟨ws, hk, hws, hrs⟩ := viewsF_of hI h3 h
    refine ⟨_, hk, ?_, ?_⟩
    · intro ha
      simp only [anyOwn] at ha
      rcases hv with ⟨hv1, rfl⟩ | ⟨p, τ, xs, rfl, hv2, rfl⟩
      · rw [hv1] at ha
        exact ⟨u, us', h1, RelV.low _ _ h2, hws ha⟩
      · simp [isOwn] at ha
    · refine ⟨u, us', h1, ?_, hrs⟩
      rcases hv with ⟨hv1, rfl⟩ | ⟨p, τ, xs, rfl, hv2, rfl⟩
      · exact RelV.mono (fun _ _ x => x) (fun b hb => hI.sb b hb) (fun _ _ => rfl) _ _ (RelV.low _ _ h2)
      · obtain ⟨hb, _⟩ := h2
        obtain ⟨v, h4, h5⟩ := hI.arr p τ xs hv2
        rw [hb] at h4
        obtain rfl : u = v := by simpa using h4
        exact own_sl h5 (fun b h => hI.sb b h) (fun b h => blk_lt hI hb h)

/-- A call of a function that only computes. -/
theorem call_pure (hE : EnvOK P E) (hI : Inv X w0 β S tm hp a w) {g : Nat} {h : List AV → Option (Prop × AV)} (hg : (g, Spec.pure h) ∈ E.sp)
    {vs ws : List AV} {us : List Value} {p : Prop} {r : AV} (hws : anyOwn vs = false → RelVs β S w ws us) (hrs : RelVs β (fun b => b < w.heap.size) w ws us)
    (hcalm : AV.calms ws = true) (hh : h ws = some (p, r)) (hp' : p) (hr : r.calm = true) :
    Calls P g us.toArray w fun e w' => ∃ u, e = .returned u ∧ w'.os = w.os ∧ w'.tape = w.tape ∧ w'.output = w.output ∧ w.heap.size ≤ w'.heap.size ∧ (∀ b, b < w.heap.size → w'.heap[b]? = w.heap[b]?) ∧
      (anyOwn vs = false → RelV β (after S w w') w' r u) ∧ RelV β (fun b => b < w'.heap.size) w' r u := by
  have hspec := (hE.pure g h hg).1
  cases hown : anyOwn vs with
  | false =>
    refine (hspec S w ws us p r hI.sb (RelVs.calm ws us hcalm (hws hown)) hh hp').mono fun e w' ⟨u, h1, h2, h3, h4, h5, h6, h7⟩ => ?_
    have h8 : RelV β (after S w w') w' r u := RelV.calm r u hr h2
    exact ⟨u, h1, h3, h4, h5, h6, h7, fun _ => h8, RelV.mono (fun _ _ x => x) (fun b hb => hb.1) (fun _ _ => rfl) _ _ h8⟩
  | true =>
    refine (hspec (fun b => b < w.heap.size) w ws us p r (fun _ x => x) (RelVs.calm ws us hcalm hrs) hh hp').mono fun e w' ⟨u, h1, h2, h3, h4, h5, h6, h7⟩ => ?_
    exact ⟨u, h1, h3, h4, h5, h6, h7, fun hf => by simp at hf, RelV.mono (fun _ _ x => x) (fun b hb => hb.1) (fun _ _ => rfl) _ _ (RelV.calm (β' := β) r u hr h2)⟩

theorem exec_fn (hI : Inv X w0 β S tm hp a w) {c : Call} {f : Operand} (hop : o.op = .call c) (hc : c.callee = .value f) {g : Nat} (hf : a.eval f = .func (.func g) #[] #[])
    (hgo : ∀ w args, (callFunc g args).run P w = .ok (.enter g args) w) : (execOp a.eval o).run P w = .ok (.enter g (c.args.toList.map a.eval).toArray) w := by
  have e : c.args.map a.eval = (c.args.toList.map a.eval).toArray := by rw [← Array.toList_map]
  simp [execOp, hop, resolve, hc, hf, Deferred.ofValue, invoke, hgo, e]

theorem exec_clo (hI : Inv X w0 β S tm hp a w) {c : Call} {f : Operand} (hop : o.op = .call c) (hc : c.callee = .value f) {g : Nat} {cs : List Value} (hf : a.eval f = .func (.func g) #[] cs.toArray)
    (hgo : ∀ w args, (callFunc g args).run P w = .ok (.enter g args) w) : (execOp a.eval o).run P w = .ok (.enter g (c.args.toList.map a.eval ++ cs).toArray) w := by
  have e : c.args.map a.eval = (c.args.toList.map a.eval).toArray := by rw [← Array.toList_map]
  simp [execOp, hop, resolve, hc, hf, Deferred.ofValue, invoke, hgo, e]

theorem wp_enter {g : Nat} {args : Array Value} (h : (execOp a.eval o).run P w = .ok (.enter g args) w) {R : Ending → World → Prop} (hc : Calls P g args w R)
    (hR : ∀ e w', R e w' → match e with | .returned v => K (a.put o.dst v) w' | .panicked chain => Q (.panic chain) a w' | .outgrown => LetsOut Q) : o.wp P a w K Q := by
  unfold Oper.wp
  rw [h, Oper.upon_enter]
  refine hc.mono fun e w' he => ?_
  have := hR e w' he
  cases e <;> exact this

theorem anyOwn_append (l m : List AV) : anyOwn (l ++ m) = (anyOwn l || anyOwn m) := by
  induction l with
  | nil => simp [anyOwn]
  | cons v l ih => simp only [List.cons_append, anyOwn]; cases isOwn v <;> simp [ih]
theorem calms_append (l m : List AV) : AV.calms (l ++ m) = (AV.calms l && AV.calms m) := by
  induction l with
  | nil => simp [AV.calms]
  | cons v l ih => simp only [List.cons_append, AV.calms]; cases v.calm <;> simp [ih]
theorem calm_own : ∀ {l : List AV}, AV.calms l = true → anyOwn l = false
  | [], _ => rfl
  | v :: l, h => by
    simp only [AV.calms] at h
    cases e : v.calm with
    | true =>
      rw [e] at h
      simp only [anyOwn]
      cases v <;> first | exact calm_own h | simp [AV.calm] at e
    | false => rw [e] at h; simp at h

end calls
end Go.Proofs.Ythakgbecpkfeoaa.Ev

/- Structs and slices written out; parts of slices; the operations that change no object, all together. -/
set_option linter.unusedVariables false
set_option linter.unusedSimpArgs false
namespace Go.Proofs.Ythakgbecpkfeoaa.Ev

theorem fold_cells : ∀ (vs : List Value) (off j : Nat) (cells : Array Value), off + j + vs.length ≤ cells.size →
    ((vs.zipIdx j).foldl (fun cs p => cs.setIfInBounds (off + p.2) p.1) cells).toList = cells.toList.take (off + j) ++ vs ++ cells.toList.drop (off + j + vs.length)
  | [], off, j, cells, _ => by simp
  | v :: vs, off, j, cells, h => by
    simp only [List.length_cons] at h
    simp only [List.zipIdx_cons, List.foldl_cons]
    rw [fold_cells vs off (j + 1) _ (by simp; omega)]
    have := list_seg_step cells.toList (off + j) v vs (by simp; omega)
    simp only [Array.toList_setIfInBounds]
    rw [show off + (j + 1) = off + j + 1 by omega]
    rw [this]
    simp

theorem fold_arr (c : Array Value) (off : Nat) (cells : Array Value) (h : off + c.size ≤ cells.size) :
    (c.zipIdx.foldl (fun cs p => cs.setIfInBounds (off + p.2) p.1) cells).toList = cells.toList.take off ++ c.toList ++ cells.toList.drop (off + c.size) := by
  have := fold_cells c.toList off 0 cells (by simpa using h)
  rw [← Array.foldl_toList]
  simpa using this

section ops
variable {P : Program} {E : Env} {X : XR} {w0 : World} {β : Nat → Option Value} {S : Nat → Prop} {tm : List AV} {hp : Hp} {a : Act} {w : World}
variable {o : Oper} {K : Act → World → Prop} {Q : Exit → Act → World → Prop} {k : AV → Prop}

theorem cellsF_of {v : AV} {u : Value} (hr : RelV β S w v u) {k : List AV → Prop} (h : cellsF v k) : ∃ l, k l ∧ RelVs β S w l u.cells.toList := by
  cases v with
  | agg l => obtain ⟨vs, rfl, h2⟩ := hr; exact ⟨l, h, by simpa [Value.cells] using h2⟩
  | tup l => exact h.elim
  | undef => exact h.elim
  | opq x => exact h.elim
  | int κ n => simp only [RelV] at hr; subst hr; exact ⟨_, h, _, _, rfl, rfl, rfl⟩
  | bool b => simp only [RelV] at hr; subst hr; exact ⟨_, h, _, _, rfl, rfl, rfl⟩
  | str b => simp only [RelV] at hr; subst hr; exact ⟨_, h, _, _, rfl, rfl, rfl⟩
  | ptr p off => obtain ⟨g, h1, rfl⟩ := hr; exact ⟨_, h, _, _, rfl, ⟨g, h1, rfl⟩, rfl⟩
  | ep cs => obtain ⟨g, rfl, h2⟩ := hr; exact ⟨_, h, _, _, rfl, ⟨g, rfl, h2⟩, rfl⟩
  | mp ks vs => obtain ⟨g, es, c, rfl, h2⟩ := hr; exact ⟨_, h, _, _, rfl, ⟨g, es, c, rfl, h2⟩, rfl⟩
  | kp cs => obtain ⟨g, us, rfl, h2⟩ := hr; exact ⟨_, h, _, _, rfl, ⟨g, us, rfl, h2⟩, rfl⟩
  | oep p i => obtain ⟨g, n, c, h1, rfl⟩ := hr; exact ⟨_, h, _, _, rfl, ⟨g, n, c, h1, rfl⟩, rfl⟩
  | sl τ xs => obtain ⟨A, c, rfl, h2⟩ := hr; exact ⟨_, h, _, _, rfl, ⟨A, c, rfl, h2⟩, rfl⟩
  | lit τ xs => obtain ⟨g, rfl, h2⟩ := hr; exact ⟨_, h, _, _, rfl, ⟨g, rfl, h2⟩, rfl⟩
  | own p => obtain ⟨h1, A, n, c, rfl⟩ := hr; exact ⟨_, h, _, _, rfl, ⟨h1, A, n, c, rfl⟩, rfl⟩
  | nil => simp only [RelV] at hr; subst hr; exact ⟨_, h, _, _, rfl, rfl, rfl⟩
  | fn f => simp only [RelV] at hr; subst hr; exact ⟨_, h, _, _, rfl, rfl, rfl⟩
  | clo f caps => obtain ⟨cs, rfl, h2⟩ := hr; exact ⟨_, h, _, _, rfl, ⟨cs, rfl, h2⟩, rfl⟩
  | ifc t x => obtain ⟨u', rfl, h2⟩ := hr; exact ⟨_, h, _, _, rfl, ⟨u', rfl, h2⟩, rfl⟩
  | skp => simp only [RelV] at hr; subst hr; exact ⟨_, h, _, _, rfl, rfl, rfl⟩

theorem RelVs.splice {cs vs : List AV} {us zs : List Value} (h : RelVs β S w cs zs) (h2 : RelVs β S w vs us) (off : Nat) :
    RelVs β S w (cs.take off ++ vs ++ cs.drop (off + vs.length)) (zs.take off ++ us ++ zs.drop (off + us.length)) := by
  rw [h2.length]
  exact ((h.take off).append h2).append (h.drop _)

theorem fill_of (hI : Inv X w0 β S tm hp a w) {fs : List (Nat × Nat × Bool)} {pl : Nat → Option (Nat × Nat)} (hpl : ∀ i f, fs[i]? = some f → pl i = some (f.1, f.2.1)) :
    ∀ (l : List (Nat × Operand)) (cs : List AV) (zs : Array Value) (k : List AV → Prop), RelVs β S w cs zs.toList → fillF fs tm l cs k →
      ∃ cs' zs', k cs' ∧ Instr.fill pl zs (l.map fun p => (p.1, a.eval p.2)) = some zs' ∧ RelVs β S w cs' zs'.toList
  | [], cs, zs, k, hr, h => ⟨cs, zs, h, rfl, hr⟩
  | (i, x) :: l, cs, zs, k, hr, h => by
    simp only [fillF, AV.f_eq] at h
    obtain ⟨f, hf, h⟩ := nthF_of h
    obtain ⟨vs, h, hvs⟩ := cellsF_of (hI.eval x) h
    cases e : Nat.beq vs.length f.2.1 with
    | false => rw [e] at h; exact h.elim
    | true =>
      rw [e] at h
      have hlen := Nat.eq_of_beq_eq_true e
      obtain ⟨hsp, h⟩ := spliceF_of h
      have hl2 := hvs.length
      have hl3 := hr.length
      simp only [Array.length_toList] at hl2 hl3
      have hfold := fold_arr (a.eval x).cells f.1 zs (by omega)
      have hr' := hr.splice hvs f.1
      simp only [Array.length_toList] at hr'
      rw [← hfold] at hr'
      obtain ⟨cs', zs', h1, h2, h3⟩ := fill_of hI hpl l _ _ k hr' h
      refine ⟨cs', zs', h1, ?_, h3⟩
      simp only [List.map_cons, Instr.fill, hpl i f hf]
      have c1 : ¬ ((a.eval x).cells.size ≠ f.2.1 || decide (f.1 + (a.eval x).cells.size > zs.size)) = true := by
        simp only [ne_eq, Bool.or_eq_true, decide_eq_true_eq]
        omega
      rw [if_neg c1]
      exact h2

theorem places_run : ∀ (fs : List Field), (∀ f ∈ fs, ∃ j, P.info? f.type = some j) →
    ((fs.mapM fun f => (do pure (f.offset, ← sizeOf f.type) : Sem (Nat × Nat)))).run P w = .ok (fs.map fun f => (f.offset, sizeP P f.type)) w
  | [], _ => by simp
  | f :: fs, h => by
    obtain ⟨j, hj⟩ := h f (by simp)
    have ih := places_run fs (fun g hg => h g (by simp [hg]))
    simp only [List.mapM_cons, Sem.run_bind, sizeOf, typeInfo, run_program, Result.andThen_ok, hj, Sem.run_pure, sizeP, Option.map_some, Option.getD_some, List.map_cons] at ih ⊢
    rw [ih]
    rfl

theorem pop_build (hE : EnvOK P E) {T : Nat} {parts : Array (Nat × Operand)} (hop : o.op = .build T parts) (hI : Inv X w0 β S tm hp a w) (hK : Serves X w0 β S tm hp a o k K) (h : pop E o.op tm hp k) : o.wp P a w K Q := by
  rw [hop] at h
  simp only [pop] at h
  obtain ⟨ti, hti, h⟩ := tiGet_of h
  have ht := hE.ty _ _ hti
  obtain ⟨i, z, d, h1, h2, h3, h4, h5, h6⟩ := tiOf_info ht
  split at h
  · split at h
    · rename_i t harr hpa
      obtain ⟨n, q, b⟩ := t
      obtain ⟨e, j, g1, g2, g3⟩ := tiOf_arr ht (n := n) (z := q) (b := b) (by simpa using harr)
      rw [constsF_eq] at h
      simp only at h5
      refine pop_plain (u := .agg z.cells.toList.toArray) hI hK h ⟨z.cells.toList, rfl, by rw [h5]; exact RelVs.consts _⟩ ?_
      have hparts : (parts.map fun (i, x) => (i, a.eval x)).toList = [] := by simp [hpa]
      simp only [execOp, hop, Sem.run_bind, Instr.build, zeroValue, typeInfo, run_program, Result.andThen_ok, h1, Sem.run_pure, h2, run_underlying g1, sizeOf, g2]
      rw [hparts]
      simp [Instr.fill]
    · exact h.elim
  · rename_i f fs hfs
    rw [constsF_eq] at h
    obtain ⟨gs, g1, g2, g3⟩ := tiOf_struct ht (by simp [hfs])
    simp only at g2 h5
    have hpl : ∀ (i : Nat) (f' : Nat × Nat × Bool), (f :: fs)[i]? = some f' → (fun i : Nat => (gs.map fun g : Field => (g.offset, sizeP P g.type))[i]?) i = some (f'.1, f'.2.1) := by
      intro i f' hf'
      rw [← hfs, ← g2, List.getElem?_map] at hf'
      obtain ⟨g, hg, rfl⟩ := Option.map_eq_some_iff.1 hf'
      simp only [Array.getElem?_map]
      rw [← Array.getElem?_toList, hg]
      rfl
    have hz : RelVs β S w (ti.zero.map constV) z.cells.toList := by rw [h5]; exact RelVs.consts _
    obtain ⟨cs', zs', k1, k2, k3⟩ := fill_of hI hpl parts.toList _ z.cells _ hz h
    refine pop_plain (u := .agg zs'.toList.toArray) hI hK k1 ⟨zs'.toList, rfl, k3⟩ ?_
    have hm : (gs.mapM fun f => (do pure (f.offset, ← sizeOf f.type) : Sem (Nat × Nat))).run P w = .ok (gs.map fun f => (f.offset, sizeP P f.type)) w := by
      have := places_run (P := P) (w := w) gs.toList g3
      obtain ⟨gl⟩ := gs
      rw [List.mapM_toArray]
      simp only [Sem.run_map] at this ⊢
      rw [this]
      simp
    have hparts : (parts.map fun (i, x) => (i, a.eval x)).toList = parts.toList.map fun p => (p.1, a.eval p.2) := by simp
    simp only [execOp, hop, Sem.run_bind, Instr.build, zeroValue, typeInfo, run_program, Result.andThen_ok, h1, Sem.run_pure, h2, run_underlying g1, hm]
    rw [hparts, k2]
    simp

theorem decF_of {τ : ET} {cs : List AV} {us : List Value} (hr : RelVs β S w cs us) {k : τ.T → Prop} (h : decF τ cs k) : ∃ e, k e ∧ us = (τ.enc e).map CV.v := by
  unfold decF at h
  split at h
  · obtain ⟨u, us, rfl, h1, h2⟩ := hr; simp only [RelV] at h1; simp only [RelVs] at h2; subst h1 h2; exact ⟨_, h, rfl⟩
  · obtain ⟨u, us, rfl, h1, h2⟩ := hr; simp only [RelV] at h1; simp only [RelVs] at h2; subst h1 h2; exact ⟨_, h, rfl⟩
  · obtain ⟨u, us, rfl, h1, h2⟩ := hr; simp only [RelV] at h1; simp only [RelVs] at h2; subst h1 h2; exact ⟨_, h, rfl⟩
  · obtain ⟨u1, us, rfl, h1, u2, us, rfl, h2, u3, us, rfl, h3, u4, us, rfl, h4, u5, us, rfl, h5, h6⟩ := hr
    simp only [RelV] at h1 h2 h3 h4 h5; simp only [RelVs] at h6; subst h1 h2 h3 h4 h5 h6; exact ⟨_, h, rfl⟩
  · obtain ⟨u1, us, rfl, h1, u2, us, rfl, h2, h6⟩ := hr
    simp only [RelV] at h1 h2; simp only [RelVs] at h6; subst h1 h2 h6; exact ⟨_, h, rfl⟩
  · exact h.elim

theorem elems_of (hI : Inv X w0 β S tm hp a w) {τ : ET} : ∀ (l : List (Nat × Operand)) (i : Nat) (cells : Array Value) (k : List τ.T → Prop),
    cells.size = (i + l.length) * τ.size → elemsF τ tm i l k →
      ∃ es cells', k es ∧ es.length = l.length ∧ Instr.fill (fun i => some (i * τ.size, τ.size)) cells (l.map fun p => (p.1, a.eval p.2)) = some cells' ∧
        cells'.toList = cells.toList.take (i * τ.size) ++ cellsOf τ es
  | [], i, cells, k, hs, h => ⟨[], cells, h, rfl, rfl, by
      have : cells.toList.take (i * τ.size) = cells.toList := List.take_of_length_le (by simp [hs])
      simp [cellsOf, this]⟩
  | (j, x) :: l, i, cells, k, hs, h => by
    simp only [elemsF] at h
    cases e : Nat.beq i j with
    | false => rw [e] at h; exact h.elim
    | true =>
      rw [e] at h
      obtain rfl := Nat.eq_of_beq_eq_true e
      obtain ⟨cs, h, hcs⟩ := cellsF_of (hI.eval x) h
      obtain ⟨el, h, hel⟩ := decF_of hcs h
      have hsz : (a.eval x).cells.size = τ.size := by
        have := congrArg List.length hel
        simpa [enc_length] using this
      have hroom : i * τ.size + (a.eval x).cells.size ≤ cells.size := by
        rw [hsz, hs, List.length_cons, ← Nat.succ_mul]
        exact Nat.mul_le_mul_right _ (by omega)
      have hfold := fold_arr (a.eval x).cells (i * τ.size) cells hroom
      have hsize : ((a.eval x).cells.zipIdx.foldl (fun cs p => cs.setIfInBounds (i * τ.size + p.2) p.1) cells).size = (i + 1 + l.length) * τ.size := by
        have h1 := congrArg List.length hfold
        simp only [Array.length_toList, List.length_append, List.length_take, List.length_drop] at h1
        rw [h1, hs] at *
        simp only [List.length_cons] at *
        rw [show i + 1 + l.length = i + (l.length + 1) by omega]
        omega
      obtain ⟨es, cells', h1, h2, h3, h4⟩ := elems_of hI l (i + 1) _ _ hsize h
      refine ⟨el :: es, cells', h1, by simp [h2], ?_, ?_⟩
      · simp only [List.map_cons, Instr.fill]
        have c1 : ¬ ((a.eval x).cells.size ≠ τ.size || decide (i * τ.size + (a.eval x).cells.size > cells.size)) = true := by
          simp only [ne_eq, Bool.or_eq_true, decide_eq_true_eq]
          omega
        rw [if_neg c1]
        exact h3
      · rw [h4, hfold, cellsOf_cons, ← hel]
        have hl : (cells.toList.take (i * τ.size) ++ (a.eval x).cells.toList).length = (i + 1) * τ.size := by
          rw [List.length_append, List.length_take, Array.length_toList, Array.length_toList, Nat.succ_mul]
          omega
        rw [List.take_append_of_le_length (by omega), List.take_of_length_le (by omega)]
        simp

theorem cells_range (zero : Array Value) (n : Nat) : ((Array.range n).map (zero[· % zero.size]!)).size = n := by simp

theorem Inv.alloc_new (hI : Inv X w0 β S tm hp a w) (ob : Obj) : Inv X w0 β (after S w (w.alloc ob)) tm hp a (w.alloc ob) :=
  hI.grow rfl rfl rfl (by simp) (fun b hb => Go.RowKit.Below.heap_alloc w ob b hb)

theorem alloc_at (w : World) (ob : Obj) : (w.alloc ob).heap[w.heap.size]? = some ob := by
  show (w.heap.push ob)[w.heap.size]? = _
  simp

theorem pop_buildSlice (hE : EnvOK P E) {T n : Nat} {parts : Array (Nat × Operand)} (hop : o.op = .buildSlice T n parts) (hI : Inv X w0 β S tm hp a w) (hK : Serves X w0 β S tm hp a o k K) (h : pop E o.op tm hp k) : o.wp P a w K Q := by
  rw [hop] at h
  simp only [pop] at h
  obtain ⟨ti, hti, h⟩ := tiGet_of h
  split at h
  · rename_i τ hτ
    split at h
    · rename_i hn
      simp only [Bool.and_eq_true] at hn
      obtain ⟨hn1, hn2⟩ := hn
      have hn1 := Nat.eq_of_beq_eq_true hn1
      have hn2 := Nat.le_of_ble_eq_true hn2
      obtain ⟨j, z, h1, h2, h3, h4, h5, h6⟩ := tiOf_elem (hE.ty _ _ hti) (τ := τ) (by simpa using hτ)
      let cells : Array Value := (Array.range (n * τ.size)).map (z.cells[· % z.cells.size]!)
      obtain ⟨es, cells', k1, k2, k3, k4⟩ := elems_of (τ := τ) hI parts.toList 0 cells _ (by simp only [cells, cells_range]; rw [hn1, Nat.zero_add]) h
      have hce : cells' = (cellsOf τ es).toArray := by
        apply Array.ext'
        rw [k4]
        simp
      have hlim : ¬ n * τ.size > 2 ^ 24 := by
        have : τ.size ≤ 5 := by cases τ <;> decide
        have : n * τ.size ≤ 100000 * 5 := Nat.mul_le_mul hn2 this
        omega
      have hp1 : (parts.map fun x => (x.1, a.eval x.2)).toList = parts.toList.map fun p => (p.1, a.eval p.2) := by simp
      rw [← hp1] at k3
      have hrun : (execOp a.eval o).run P w = .ok (.value (.slice (some ⟨w.heap.size, 0, none⟩) n n)) (w.alloc (.cells cells' τ.tid)) := by
        simp only [execOp, hop, Sem.run_bind, Instr.buildSlice, run_underlying h1, Result.andThen_ok, sizeOf, typeInfo, run_program, h2, Sem.run_pure, h4, Sem.run_ite, if_neg hlim]
        split
        · rename_i h0
          have e0 : cells = (Array.range (n * τ.size)).map ((#[] : Array Value)[· % (#[] : Array Value).size]!) := by simp [cells, h0]
          rw [e0] at k3
          simp only [Sem.run_pure, Result.andThen_ok, k3]
          rfl
        · simp only [cells] at k3
          simp only [zeroValue, typeInfo, Sem.run_bind, run_program, Result.andThen_ok, h2, Sem.run_pure, h3, k3]
          rfl
      refine wp_value hrun (hK _ _ _ _ k1 (hI.alloc_new _) (fun b hb => ⟨by simp; have := hI.sb b hb; omega, .inl hb⟩) ?_)
      have hlen : es.length = n := by rw [k2, hn1]
      refine ⟨w.heap.size, by rw [hlen], ⟨by simp, .inr (Nat.le_refl _)⟩, by rw [alloc_at, hce], ?_⟩
      rw [hlen]
      exact Nat.le_trans hn2 (by decide)
    · exact h.elim
  · exact h.elim

theorem pop_box (hE : EnvOK P E) {T : Nat} {x : Operand} (hop : o.op = .box T x) (hI : Inv X w0 β S tm hp a w) (hK : Serves X w0 β S tm hp a o k K) (h : pop E o.op tm hp k) : o.wp P a w K Q := by
  rw [hop] at h
  simp only [pop] at h
  split at h
  · obtain ⟨ti, hti, h⟩ := tiGet_of h
    rw [AV.f_eq] at h
    obtain ⟨cs, h, hcs⟩ := cellsF_of (hI.eval x) h
    split at h
    · have hrun : (execOp a.eval o).run P w = .ok (.value (.pointer (some ⟨w.heap.size, 0, none⟩))) (w.alloc (.cells (a.eval x).cells T)) := by
        simp [execOp, hop, Instr.box, newVar, newRow]
      refine wp_value hrun (hK _ _ _ _ h (hI.alloc_new _) (fun b hb => ⟨by simp; have := hI.sb b hb; omega, .inl hb⟩) ?_)
      refine ⟨⟨w.heap.size, 0, none⟩, (a.eval x).cells.toList, rfl, ⟨by simp, .inr (Nat.le_refl _)⟩, fun j u hj => ?_, ?_⟩
      · rw [add_zero']
        simp only [World.cell?, alloc_at]
        simpa using hj
      · exact RelVs.mono (fun _ _ x => x) (fun b hb => ⟨by simp; have := hI.sb b hb; omega, .inl hb⟩) (fun b hb => Go.RowKit.Below.heap_alloc w _ b (hI.sb b hb)) _ _ hcs
    · exact h.elim
  · exact h.elim

end ops

def findI (n : Int) : List Int → List MapEntry → Nat → Option (Nat × Value)
  | k :: ks, e :: es, i => if (n == k) = true then some (i, e.val) else findI n ks es (i + 1)
  | _, _, _ => none
theorem findNow_int (n : Int) : ∀ (ks : List Int) (es : List MapEntry) (i : Nat), KeysI ks es → Instr.findNow (.int .i64) (.int .i64 n) es i = some (findI n ks es i)
  | [], [], i, _ => rfl
  | [], e :: es, i, h => by simp [KeysI] at h
  | k :: ks, [], i, h => by simp [KeysI] at h
  | k :: ks, e :: es, i, h => by
    simp only [KeysI, List.map_cons, List.cons.injEq] at h
    have ih := findNow_int n ks es (i + 1) h.2
    simp only [Instr.findNow, h.1, Instr.sameNow, if_true, findI]
    cases e1 : (n == k)
    · simp [ih]
    · simp
theorem findI_none (n : Int) : ∀ (ks : List Int) (es : List MapEntry) (i : Nat), n ∉ ks → findI n ks es i = none
  | [], es, i, _ => by cases es <;> rfl
  | k :: ks, [], i, _ => rfl
  | k :: ks, e :: es, i, h => by
    simp only [List.mem_cons, not_or] at h
    simp only [findI]
    rw [if_neg (by simpa using h.1), findI_none n ks es _ h.2]

section runs
variable {P : Program} {w : World}
theorem run_key {k : TypeId} (hk : P.underlying k = some (.int .i64)) (b : Bool) (n : Int) : (Instr.checkKey b 10000 k (.int .i64 n)).run P w = .ok () w := by
  rw [show (10000 : Nat) = 9999 + 1 from rfl, Instr.checkKey]
  simp [Sem.run_bind, run_underlying hk]
theorem run_find {k : TypeId} (hk : P.underlying k = some (.int .i64)) {n : Int} {ks : List Int} {es : List MapEntry} (h : KeysI ks es) : (Instr.findKey k (.int .i64 n) es).run P w = .ok (findI n ks es 0) w := by
  simp [Instr.findKey, Sem.run_bind, run_underlying hk, findNow_int n ks es 0 h]
theorem run_getM {r : Nat} {es : Array MapEntry} {c : Nat} (hb : w.heap[r]? = some (.map es c)) : (getObj r).run P w = .ok (.map es c) w := by simp [getObj, Sem.run, hb]
theorem run_setM {r : Nat} {es : Array MapEntry} {c : Nat} (ob : Obj) (hb : w.heap[r]? = some (.map es c)) : (setObj r ob).run P w = .ok () { w with heap := w.heap.setIfInBounds r ob } := by
  have := (Array.getElem?_eq_some_iff.1 hb).1
  simp [setObj, Sem.run, hb]
theorem run_insert {T k e : TypeId} (hT : P.underlying T = some (.map k e)) (hk : P.underlying k = some (.int .i64)) {es : Array MapEntry} {c : Nat} {n : Int} {ks : List Int} {v : Value} (h : KeysI ks es.toList) (hn : n ∉ ks) :
    (Instr.mapUpdate T (.map (some w.heap.size)) (.int .i64 n) v).run P (w.alloc (.map es c)) = .ok () (w.alloc (.map (es.push { key := .int .i64 n, val := v, born := c }) (c + 1))) := by
  have hat : (w.alloc (.map es c)).heap[w.heap.size]? = some (.map es c) := alloc_at w _
  simp only [Instr.mapUpdate, Sem.run_bind, run_underlying hT, Result.andThen_ok, run_getM hat, run_key hk, run_find hk h, findI_none n ks es.toList 0 hn]
  rw [run_setM _ hat]
  show Result.ok () ({ w with heap := (w.heap.push _).setIfInBounds w.heap.size _ } : World) = Result.ok () ({ w with heap := w.heap.push _ } : World)
  congr 2
  apply Array.ext'
  simp
end runs

section ops
variable {P : Program} {E : Env} {X : XR} {w0 : World} {β : Nat → Option Value} {S : Nat → Prop} {tm : List AV} {hp : Hp} {a : Act} {w : World}
variable {o : Oper} {K : Act → World → Prop} {Q : Exit → Act → World → Prop} {k : AV → Prop}
theorem lookF_of {n : Int} : ∀ {ks : List Int} {vs : List AV} {es : List MapEntry} {i : Nat} {k : Option AV → Prop}, KeysI ks es → RelVs β S w vs (es.map (·.val)) → lookF n ks vs k →
    (∃ j v u, k (some v) ∧ findI n ks es i = some (j, u) ∧ RelV β S w v u) ∨ (k none ∧ findI n ks es i = none)
  | [], vs, es, i, k, hk, hr, h => .inr ⟨by cases vs <;> exact h, by cases es <;> rfl⟩
  | x :: ks, [], es, i, k, hk, hr, h => by
    simp only [RelVs] at hr
    cases es with
    | nil => exact .inr ⟨h, rfl⟩
    | cons e es => simp at hr
  | x :: ks, v :: vs, [], i, k, hk, hr, h => by simp [KeysI] at hk
  | x :: ks, v :: vs, e :: es, i, k, hk, hr, h => by
    simp only [KeysI, List.map_cons, List.cons.injEq] at hk
    obtain ⟨u, us, he, h1, h2⟩ := hr
    simp only [List.map_cons, List.cons.injEq] at he
    obtain ⟨rfl, rfl⟩ := he
    simp only [lookF] at h
    simp only [findI]
    cases e1 : (n == x) with
    | true =>
      rw [e1] at h
      simp only [AV.f_eq] at h
      exact .inl ⟨i, v, _, h, by simp, h1⟩
    | false =>
      rw [e1] at h
      simp only [Bool.false_eq_true, if_false]
      exact lookF_of hk.2 h2 h

def mapOK (P : Program) (T : TypeId) : Prop := ∃ k e j z, P.underlying T = some (.map k e) ∧ P.underlying k = some (.int .i64) ∧ P.info? e = some j ∧ j.zero = some z
theorem pop_lookup {T : Nat} {m i : Operand} {ok : Bool} (hT : mapOK P T) (hop : o.op = .lookup T m i ok) (hI : Inv X w0 β S tm hp a w) (hK : Serves X w0 β S tm hp a o k K) (h : pop E o.op tm hp k) : o.wp P a w K Q := by
  rw [hop] at h
  simp only [pop] at h
  have hm := hI.eval m
  have hi := hI.eval i
  split at h
  · rename_i ks vs n e1 e2
    rw [e1] at hm
    rw [e2] at hi
    simp only [RelV] at hi
    obtain ⟨g, es, c, hg, _, hh, hk, hr⟩ := hm
    obtain ⟨kt, et, j, z, h1, h2, h3, h4⟩ := hT
    have hzero : (zeroValue et).run P w = .ok z w := by
      simp [zeroValue, typeInfo, Sem.run_bind, run_program, h3, h4]
    rcases lookF_of (i := 0) hk hr h with ⟨q, v, u, hkk, hf, hru⟩ | ⟨hkk, hf⟩
    · refine pop_plain hI hK hkk (u := .tuple #[u, .bool true]) ⟨[u, .bool true], rfl, u, _, rfl, hru, .bool true, [], rfl, rfl, rfl⟩ ?_
      simp [execOp, hop, hg, hi, Instr.lookup, Sem.run_bind, run_underlying h1, run_getM hh, run_key h2, run_find h2 hk, hf]
    · refine pop_plain hI hK hkk (u := .tuple #[z, .bool false]) ⟨[z, .bool false], rfl, z, _, rfl, by simp [RelV], .bool false, [], rfl, rfl, rfl⟩ ?_
      simp [execOp, hop, hg, hi, Instr.lookup, Sem.run_bind, run_underlying h1, run_getM hh, run_key h2, run_find h2 hk, hf, hzero]
  · exact h.elim
end ops

end Go.Proofs.Ythakgbecpkfeoaa.Ev

/- Parts of slices, lengths, calls; the operations that change no object, all together. -/
set_option linter.unusedVariables false
set_option linter.unusedSimpArgs false
namespace Go.Proofs.Ythakgbecpkfeoaa.Ev

section ops
variable {P : Program} {E : Env} {X : XR} {w0 : World} {β : Nat → Option Value} {S : Nat → Prop} {tm : List AV} {hp : Hp} {a : Act} {w : World}
variable {o : Oper} {K : Act → World → Prop} {Q : Exit → Act → World → Prop} {k : AV → Prop}

/-- A slice's content, read where it lies. -/
theorem listF_of (hI : Inv X w0 β S tm hp a w) {v : AV} {u : Value} (hr : RelV β S w v u) {k : (τ : ET) → List τ.T → Prop} (h : listF hp v k) :
    ∃ τ xs, k τ xs ∧ ∃ A c, u = .slice A xs.length c ∧ xs.length ≤ c ∧ xs.length ≤ maxI ∧ Reads (fun b => b < w.heap.size) w A (cellsOf τ xs) ∧ (isOwn v = false → Reads S w A (cellsOf τ xs)) := by
  unfold listF at h
  split at h
  · rename_i τ xs
    obtain ⟨A, c, h1, h2, h3, h4⟩ := hr
    exact ⟨τ, xs, h, A, c, h1, h2, h3, h4.mono (fun b hb => hI.sb b hb) (fun _ _ => rfl), fun _ => h4⟩
  · rename_i τ xs
    obtain ⟨g, h1, h2, h3, h4⟩ := hr
    have hrd : Reads S w (some ⟨g, 0, none⟩) (cellsOf τ xs) := fun _ => ⟨_, rfl, h2, fun j u hj => by
      rw [add_zero']
      simp only [World.cell?, h3, Option.isSome_none, Bool.false_eq_true, if_false]
      simpa using hj⟩
    exact ⟨τ, xs, h, _, _, h1, Nat.le_refl _, h4, hrd.mono (fun b hb => hI.sb b hb) (fun _ _ => rfl), fun _ => hrd⟩
  · rename_i p
    obtain ⟨ao, hao, h⟩ := hget_of h
    split at h
    · rename_i τ xs
      obtain ⟨hb, _⟩ := hr
      obtain ⟨v, h4, h5⟩ := hI.arr p τ xs hao
      rw [hb] at h4
      obtain rfl : u = v := by simpa using h4
      obtain ⟨A, c, h1, h2, h3, h4⟩ := own_sl (β' := β) h5 (S' := fun b => b < w.heap.size) (fun b h => hI.sb b h) (fun b h => blk_lt hI hb h)
      exact ⟨τ, xs, h, A, c, h1, h2, h3, h4, fun hf => by simp [isOwn] at hf⟩
    · exact h.elim
  · exact h.elim

theorem len_run {T : Nat} {e : Nat} (hu : P.underlying T = some (.slice e)) {A : Option Addr} {n c : Nat} {ty : Nat} : (Builtin.len_ #[T] ty #[.slice A n c]).run P w = .ok (.int .i64 n) w := by
  simp [Builtin.len_, run_underlying hu, goInt]

theorem exec_builtin {c : Call} {b : Builtin} (hop : o.op = .call c) (hc : c.callee = .builtin b) {v : Value}
    (h : ∀ cs, (builtin b c.argTypes o.type cs (c.args.map a.eval)).run P w = .ok (.value v) w) : (execOp a.eval o).run P w = .ok (.value v) w := by
  simp [execOp, hop, resolve, hc, invoke, h]

theorem pop_len (hE : EnvOK P E) {c : Call} (hop : o.op = .call c) (hc : c.callee = .builtin .len) (hI : Inv X w0 β S tm hp a w) (hK : Serves X w0 β S tm hp a o k K) (h : pop E o.op tm hp k) : o.wp P a w K Q := by
  rw [hop] at h
  simp only [pop, hc] at h
  split at h
  · rename_i x T hx hT
    have e1 : c.args = #[x] := by simpa using congrArg List.toArray hx
    have e2 : c.argTypes = #[T] := by simpa using congrArg List.toArray hT
    have hxv := hI.eval x
    split at h
    · rename_i hv
      obtain ⟨ti, hti, h⟩ := tiGet_of h
      split at h
      · rename_i τ hτ
        obtain ⟨j, z, h1, _⟩ := tiOf_elem (hE.ty _ _ hti) (τ := τ) (by simpa using hτ)
        rw [hv] at hxv
        simp only [RelV] at hxv
        refine pop_plain hI hK h (u := .int .i64 0) rfl (exec_builtin hop hc fun cs => ?_)
        simp only [builtin, Sem.run_bind, e1, e2, List.map_toArray, List.map_cons, List.map_nil, hxv, len_run h1, Result.andThen_ok, Sem.run_pure]
        rfl
      · exact h.elim
    · rename_i v hne
      obtain ⟨ti, hti, h⟩ := tiGet_of h
      obtain ⟨τ, xs, h, A, c', hu, _⟩ := listF_of hI hxv h
      split at h
      · rename_i hhas
        obtain ⟨j, z, h1, _⟩ := tiOf_elem (hE.ty _ _ hti) (τ := τ) (by simpa using has_of hhas)
        refine pop_plain hI hK h (u := .int .i64 xs.length) rfl (exec_builtin hop hc fun cs => ?_)
        simp only [builtin, Sem.run_bind, e1, e2, List.map_toArray, List.map_cons, List.map_nil, hu, len_run h1, Result.andThen_ok, Sem.run_pure]
      · exact h.elim
  · exact h.elim

theorem pop_minmax {c : Call} {b : Builtin} (hb : b = .min ∨ b = .max) (hop : o.op = .call c) (hc : c.callee = .builtin b) (hI : Inv X w0 β S tm hp a w) (hK : Serves X w0 β S tm hp a o k K) (h : pop E o.op tm hp k) : o.wp P a w K Q := by
  rw [hop] at h
  rcases hb with rfl | rfl
  · simp only [pop, hc] at h
    split at h
    · rename_i x y hx
      have e1 : c.args = #[x, y] := by simpa using congrArg List.toArray hx
      split at h
      · rename_i m n hm hn
        refine pop_plain hI hK h (u := .int .i64 (if n < m then n else m)) rfl (exec_builtin hop hc fun cs => ?_)
        simp [builtin, e1, int_of hI hm, int_of hI hn, Builtin.min_, Builtin.min2]
      · exact h.elim
    · exact h.elim
  · simp only [pop, hc] at h
    split at h
    · rename_i x y hx
      have e1 : c.args = #[x, y] := by simpa using congrArg List.toArray hx
      split at h
      · rename_i m n hm hn
        refine pop_plain hI hK h (u := .int .i64 (if n > m then n else m)) rfl (exec_builtin hop hc fun cs => ?_)
        simp [builtin, e1, int_of hI hm, int_of hI hn, Builtin.max_, Builtin.max2]
      · exact h.elim
    · exact h.elim

theorem cellsOf_take (τ : ET) (xs : List τ.T) (n : Nat) : cellsOf τ (xs.take n) = (cellsOf τ xs).take (n * τ.size) := by
  induction xs generalizing n with
  | nil => simp [cellsOf]
  | cons x xs ih =>
    cases n with
    | zero => simp [cellsOf]
    | succ n =>
      rw [List.take_succ_cons, cellsOf_cons, cellsOf_cons, ih, Nat.succ_mul, Nat.add_comm, List.take_append]
      simp [enc_length]
      exact (List.take_of_length_le (by simp [enc_length])).symm
theorem cellsOf_drop (τ : ET) (xs : List τ.T) (n : Nat) : cellsOf τ (xs.drop n) = (cellsOf τ xs).drop (n * τ.size) := by
  induction xs generalizing n with
  | nil => simp [cellsOf]
  | cons x xs ih =>
    cases n with
    | zero => simp
    | succ n =>
      rw [List.drop_succ_cons, cellsOf_cons, ih, Nat.succ_mul, Nat.add_comm, List.drop_append]
      simp [enc_length]

theorem sl_part {A : Option Addr} {τ : ET} {xs : List τ.T} {c l h : Nat} (hr : Reads S w A (cellsOf τ xs)) (hl : xs.length ≤ maxI) (hc : xs.length ≤ c) (h1 : l ≤ h) (h2 : h ≤ xs.length) :
    RelV β S w (.sl τ ((xs.take h).drop l)) (.slice (if c = l then A else A.map (·.add (l * τ.size))) (h - l) (c - l)) := by
  have hlen : ((xs.take h).drop l).length = h - l := by simp; omega
  refine ⟨_, c - l, by rw [hlen], by rw [hlen]; omega, by rw [hlen]; omega, ?_⟩
  intro hne
  have hpos : l < h := by
    have h3 := cellsOf_length τ ((xs.take h).drop l)
    rw [hlen] at h3
    by_cases h4 : l < h
    · exact h4
    · have : h - l = 0 := by omega
      rw [this] at h3
      exact absurd (List.eq_nil_of_length_eq_zero (by simpa using h3)) hne
  have hx : cellsOf τ xs ≠ [] := by
    intro e
    have h3 := cellsOf_length τ xs
    rw [e] at h3
    have := size_pos τ
    have : 0 < xs.length * τ.size := Nat.mul_pos (by omega) this
    simp at h3
    omega
  obtain ⟨b, rfl, hs, hcell⟩ := hr hx
  rw [if_neg (by omega)]
  refine ⟨b.add (l * τ.size), rfl, by rw [add_block]; exact hs, fun j u hj => ?_⟩
  rw [add_add]
  apply hcell
  rw [cellsOf_drop, cellsOf_take, List.getElem?_drop, List.getElem?_take] at hj
  split at hj
  · exact hj
  · simp at hj

theorem pop_slice (hE : EnvOK P E) {T : Nat} {x : Operand} {lo hi mx : Option Operand} (hop : o.op = .slice T x lo hi mx) (hI : Inv X w0 β S tm hp a w) (hK : Serves X w0 β S tm hp a o k K) (h : pop E o.op tm hp k) : o.wp P a w K Q := by
  rw [hop] at h
  simp only [pop] at h
  obtain ⟨ti, hti, h⟩ := tiGet_of h
  obtain ⟨τ, xs, h, A, c, hu, hc, hmax, _, hrd⟩ := listF_of hI (hI.eval x) h
  split at h
  · exact h.elim
  · exact h.elim
  · have hhas : ti.has τ = true := by assumption
    obtain ⟨j, z, h1, h2, h3, h4, _⟩ := tiOf_elem (hE.ty _ _ hti) (τ := τ) (by simpa using has_of hhas)
    have hel : P.elem T = τ.tid := by simp [Program.elem, h1]
    have h1' : P.underlying T = some (.slice (P.elem T)) := by rw [hel]; exact h1
    have hsz : ∀ w, (sizeOf (P.elem T)).run P w = .ok τ.size w := by intro w; rw [hel]; simp [sizeOf, typeInfo, h2, h4]
    split at h
    · rename_i κl l κh r hl hr
      split at h
      · rename_i hown
        obtain ⟨⟨b0, b1, b2⟩, h⟩ := h
        have hcast : (r.toNat : Int) = r := Int.toNat_of_nonneg (by omega)
        refine pop_plain hI hK h (sl_part (hrd hown) hmax hc (l := l.toNat) (h := r.toNat) (by omega) (by omega)) ?_
        have key : (Instr.slice T (.slice A xs.length c) (lo.map a.eval) (hi.map a.eval) none).run P w = .ok (sliced A l.toNat r.toNat c τ.size) w := by
          cases lo with
          | none =>
            obtain rfl : (0 : Int) = l := by simp only [AV.int.injEq] at hl; exact hl.2
            cases hi with
            | none =>
              have hr' : (xs.length : Int) = r := by simp only [AV.int.injEq] at hr; exact hr.2
              have : r.toNat = xs.length := by omega
              rw [this]
              simp only [Option.map_none, run_slice_all w T A xs.length c h1', hsz, Result.andThen_ok]
              rfl
            | some y =>
              simp only at hr
              simp only [Option.map_none, Option.map_some, int_of hI hr, run_slice_h w T A xs.length c h1' κh r (by omega) (by omega), hsz, Result.andThen_ok]
              rfl
          | some x' =>
            simp only at hl
            cases hi with
            | none =>
              have hr' : (xs.length : Int) = r := by simp only [AV.int.injEq] at hr; exact hr.2
              have : r.toNat = xs.length := by omega
              rw [this]
              simp only [Option.map_none, Option.map_some, int_of hI hl, run_slice_l w T A xs.length c h1' κl l b0 (by omega), hsz, Result.andThen_ok]
            | some y =>
              simp only at hr
              simp only [Option.map_some, int_of hI hl, int_of hI hr, run_slice_lh w T A xs.length c h1' κl κh l r b0 b1 (by omega), hsz, Result.andThen_ok]
        simp only [execOp, hop, hu, Sem.run_bind, run_sliceAt_slice w T _ _ _ _ h1', Option.map_none, key, Result.andThen_ok, Sem.run_pure]
        rfl
      · exact h.elim
    · exact h.elim

theorem pop_callv (hE : EnvOK P E) {c : Call} {f : Operand} (hop : o.op = .call c) (hc : c.callee = .value f) (hI : Inv X w0 β S tm hp a w) (hK : Serves X w0 β S tm hp a o k K) (h : pop E o.op tm hp k) : o.wp P a w K Q := by
  rw [hop] at h
  simp only [pop, hc] at h
  have hf := hI.eval f
  have hargs := hI.evals c.args.toList
  split at h
  · rename_i g hv
    rw [hv] at hf
    simp only [RelV] at hf
    obtain ⟨s, hs, h⟩ := spGet_of h
    split at h
    · rename_i hh
      rw [evs_eq] at h
      obtain ⟨ws, h, hws, hrs⟩ := viewsF_of hI hargs h
      split at h
      · exact h.elim
      · rename_i hcalm
        split at h
        · rename_i p r hpr
          obtain ⟨hp', h⟩ := h
          rw [AV.f_eq] at h
          have hcall := fun hr => call_pure hE hI hs (vs := c.args.toList.map (evalV tm)) hws hrs hcalm hpr hp' hr
          have hent := exec_fn hI hop hc hf (hE.pure g hh hs).2
          split at h
          · exact h.elim
          · exact h.elim
          · rename_i hr hno
            refine wp_enter hent (hcall hr) ?_
            rintro e w' ⟨u, rfl, h1, h2, h3, h4, h5, h6, h7⟩
            refine hK r u w' _ h (hI.grow h1 h2 h3 h4 h5) (fun b hb => ⟨Nat.lt_of_lt_of_le (hI.sb b hb) h4, .inl hb⟩) ?_
            cases hown : anyOwn (c.args.toList.map (evalV tm)) with
            | false => exact h6 hown
            | true =>
              cases hpl : plainV r with
              | true => exact plainV_rel hpl h7
              | false => exact (hno hown hpl).elim
        · exact h.elim
    · exact h.elim
    · exact h.elim
  · rename_i g caps hv
    rw [hv] at hf
    obtain ⟨cs, hf, hcs⟩ := hf
    obtain ⟨s, hs, h⟩ := spGet_of h
    split at h
    · rename_i hh
      rw [evs_eq] at h
      obtain ⟨ws, h, hws, hrs⟩ := viewsF_of hI hargs h
      split at h
      · exact h.elim
      · rename_i hcalm
        have hcc : AV.calms caps = true := by rw [calms_append] at hcalm; simp at hcalm; exact hcalm.2
        have hoc := calm_own hcc
        split at h
        · rename_i p r hpr
          obtain ⟨hp', h⟩ := h
          rw [AV.f_eq] at h
          have hcall := fun hr => call_pure hE hI hs (vs := c.args.toList.map (evalV tm) ++ caps) (ws := ws ++ caps) (by rw [anyOwn_append, hoc, Bool.or_false]; intro hno; exact (hws hno).append hcs)
            (hrs.append (RelVs.mono (fun _ _ x => x) (fun b hb => hI.sb b hb) (fun _ _ => rfl) _ _ hcs)) hcalm hpr hp' hr
          have hent := exec_clo hI hop hc hf (hE.pure g hh hs).2
          split at h
          · exact h.elim
          · exact h.elim
          · rename_i hr hno
            refine wp_enter hent (hcall hr) ?_
            rintro e w' ⟨u, rfl, h1, h2, h3, h4, h5, h6, h7⟩
            refine hK r u w' _ h (hI.grow h1 h2 h3 h4 h5) (fun b hb => ⟨Nat.lt_of_lt_of_le (hI.sb b hb) h4, .inl hb⟩) ?_
            cases hown : anyOwn (c.args.toList.map (evalV tm)) with
            | false => exact h6 (by rw [anyOwn_append, hown, hoc]; rfl)
            | true =>
              cases hpl : plainV r with
              | true => exact plainV_rel hpl h7
              | false => exact (hno hown hpl).elim
        · exact h.elim
    · exact h.elim
    · exact h.elim
  · exact h.elim

/-- What the program must say beside the tables: conversions and values put into an interface are of types that it has. -/
structure MoreOK (P : Program) (o : Oper) : Prop where
  conv : ∀ s d x, o.op = .convert s d x → ∃ D, P.underlying s = some D
  ifc : ∀ T x, o.op = .makeInterface T x → P.concrete T = true
  look : ∀ T m i ok, o.op = .lookup T m i ok → mapOK P T
  ins : ∀ T m i x, o.op = .insert T m i x → mapOK P T

/-- EVERY OPERATION THAT CHANGES NO OBJECT IS TOLD RIGHTLY. -/
theorem pop_wp (hE : EnvOK P E) (hM : MoreOK P o) (hI : Inv X w0 β S tm hp a w) (hK : Serves X w0 β S tm hp a o k K) (h : pop E o.op tm hp k) : o.wp P a w K Q := by
  cases hop : o.op with
  | move x => exact pop_move hop hI hK h
  | assign x => exact pop_assign hop hI hK h
  | pick c x y => exact pop_pick hop hI hK h
  | binOp op T x y T' => exact pop_binOp hE hop hI hK h
  | unOp op T x => exact pop_unOp hop hI hK h
  | convert s d x => exact pop_convert hE (hM.conv s d x hop) hop hI hK h
  | extract x i => exact pop_extract hop hI hK h
  | fieldAddr T x i => exact pop_fieldAddr hE hop hI hK h
  | field T x i => exact pop_field hE hop hI hK h
  | load T x => exact pop_load hE hop hI hK h
  | indexAddr T x i => exact pop_indexAddr hE hop hI hK h
  | nilCheck x => exact pop_nilCheck hop hI hK h
  | build T parts => exact pop_build hE hop hI hK h
  | slice T x lo hi mx => exact pop_slice hE hop hI hK h
  | makeFunc fn first caps => exact pop_makeFunc hop hI hK h
  | makeInterface T x => exact pop_makeInterface (fun v w => run_makeInterface w T v (hM.ifc T x hop)) hop hI hK h
  | buildSlice T n parts => exact pop_buildSlice hE hop hI hK h
  | box T x => exact pop_box hE hop hI hK h
  | lookup T m i ok => exact pop_lookup (hM.look T m i ok hop) hop hI hK h
  | call c =>
    cases hc : c.callee with
    | builtin b =>
      cases b with
      | len => exact pop_len hE hop hc hI hK h
      | min => exact pop_minmax (.inl rfl) hop hc hI hK h
      | max => exact pop_minmax (.inr rfl) hop hc hI hK h
      | _ => rw [hop] at h; simp only [pop, hc] at h
    | value f => exact pop_callv hE hop hc hI hK h
    | invoke r m => rw [hop] at h; simp only [pop, hc] at h
  | _ => rw [hop] at h; exact h.elim

end ops
end Go.Proofs.Ythakgbecpkfeoaa.Ev

/- How a state goes on where an object is made, written, forgotten, or read alone from then on. -/
set_option linter.unusedVariables false
set_option linter.unusedSimpArgs false
namespace Go.Proofs.Ythakgbecpkfeoaa.Ev

def delβ (β : Nat → Option Value) (o : Nat) (p : Nat) : Option Value := if p = o then none else β p
def updβ (β : Nat → Option Value) (o : Nat) (v : Value) (p : Nat) : Option Value := if p = o then some v else β p

section trans
variable {X : XR} {w0 : World} {β : Nat → Option Value} {S : Nat → Prop} {tm : List AV} {hp : Hp} {a : Act} {w : World}

theorem killHp_mem {o : Nat} {h : Hp} {p : Nat} {y : AO} (hm : (p, y) ∈ killHp o h) : ∃ x, (p, x) ∈ h ∧ y = x.kill o := by
  obtain ⟨⟨q, x⟩, h1, h2⟩ := List.mem_map.1 hm
  simp only [Prod.mk.injEq] at h2
  obtain ⟨rfl, rfl⟩ := h2
  exact ⟨x, h1, rfl⟩
theorem killHp_keys (o : Nat) (h : Hp) : (killHp o h).map (·.1) = h.map (·.1) := by simp [killHp]
theorem frzHp_mem {o : Nat} {τ : ET} {xs : List τ.T} {h : Hp} {p : Nat} {y : AO} (hm : (p, y) ∈ frzHp o τ xs h) : ∃ x, (p, x) ∈ h ∧ y = x.frz o τ xs := by
  obtain ⟨⟨q, x⟩, h1, h2⟩ := List.mem_map.1 hm
  simp only [Prod.mk.injEq] at h2
  obtain ⟨rfl, rfl⟩ := h2
  exact ⟨x, h1, rfl⟩
theorem frzHp_keys (o : Nat) (τ : ET) (xs : List τ.T) (h : Hp) : (frzHp o τ xs h).map (·.1) = h.map (·.1) := by simp [frzHp]

/-- An object is forgotten. -/
theorem Inv.drop (hI : Inv X w0 β S tm hp a w) (o : Nat) : Inv X w0 (delβ β o) S (AV.kills o tm) (killHp o (hdel hp o)) a w := by
  have hβ : ∀ p v, p ≠ o → β p = some v → delβ β o p = some v := fun p v h1 h2 => by simp [delβ, h1, h2]
  have hinv : ∀ p v, delβ β o p = some v → p ≠ o ∧ β p = some v := fun p v h => by
    unfold delβ at h; split at h
    · simp at h
    · exact ⟨by assumption, h⟩
  refine ⟨hI.os, hI.tape, hI.output, hI.size, hI.old, hI.ext, hI.sb, ?_, ?_, ?_, ?_, ?_, RelVs.kill o hβ _ _ hI.rel, hI.defs, hI.grew, fun p u u' he hu => hI.keep p u u' he (hinv p u' hu).2, hI.far⟩
  · intro p cs hm
    obtain ⟨x, hx, he⟩ := killHp_mem hm
    obtain ⟨hne, hx⟩ := (hdel_mem hI.nodup).1 hx
    cases x with
    | arr τ xs => simp [AO.kill] at he
    | box ds =>
      simp only [AO.kill, AO.box.injEq] at he
      subst he
      obtain ⟨g, T, vs, h1, h2, h3, h4, h5⟩ := hI.box p ds hx
      exact ⟨g, T, vs, hβ _ _ hne h1, h2, h3, h4, RelVs.kill o hβ _ _ h5⟩
  · intro p τ xs hm
    obtain ⟨x, hx, he⟩ := killHp_mem hm
    obtain ⟨hne, hx⟩ := (hdel_mem hI.nodup).1 hx
    cases x with
    | box ds => simp [AO.kill] at he
    | arr τ' ys =>
      simp only [AO.kill] at he
      rw [← he] at hx
      obtain ⟨v, h1, h2⟩ := hI.arr p τ xs hx
      exact ⟨v, hβ _ _ hne h1, h2⟩
  · intro p v h
    obtain ⟨h1, h2⟩ := hinv p v h
    obtain ⟨x, hx⟩ := hI.live p v h2
    exact ⟨x.kill o, List.mem_map.2 ⟨(p, x), (hdel_mem hI.nodup).2 ⟨h1, hx⟩, rfl⟩⟩
  · rw [killHp_keys]; exact hdel_nodup hI.nodup o
  · intro p p' v v' g hne h1 h2
    exact hI.apart p p' v v' g hne (hinv p v h1).2 (hinv p' v' h2).2

theorem dropObj_of (hI : Inv X w0 β S tm hp a w) {o : Nat} {k : List AV → Hp → Prop} (h : dropObj tm hp o k) :
    ∃ tm' hp', k tm' hp' ∧ Inv X w0 (delβ β o) S tm' hp' a w := by
  unfold dropObj at h
  split at h
  · rename_i hl
    refine ⟨tm, hp, h, ?_⟩
    have hn : β o = none := by
      cases e : β o with
      | none => rfl
      | some v =>
        obtain ⟨x, hx⟩ := hI.live o v e
        have := (hlive_iff hp o).2 ⟨x, hx⟩
        rw [hl] at this
        simp at this
    have : delβ β o = β := by
      funext p
      unfold delβ
      split
      · rename_i e; subst e; exact hn.symm
      · rfl
    rw [this]
    exact hI
  · rw [hdelF_eq, kills_eq, killHp_eq] at h
    exact ⟨_, _, h, hI.drop o⟩

/-- What an object is, in memory. -/
def ObjR (X : XR) (w0 : World) (β : Nat → Option Value) (S : Nat → Prop) (w : World) (v : Value) : AO → Prop
  | .box cs => ∃ g T vs, v = .pointer (some ⟨g, 0, none⟩) ∧ (w0.heap.size ≤ g ∨ X g) ∧ ¬ S g ∧ w.heap[g]? = some (.cells vs T (0, 0)) ∧ RelVs β S w cs vs.toList
  | .arr τ xs => OwnR S w (Mine X w0) τ xs v

/-- An object more; memory that nobody names may have changed. -/
theorem Inv.add (hI : Inv X w0 β S tm hp a w) {o : Nat} (hlo : o < 1000) (ho : β o = none) {x : AO} {v : Value} {w' : World} {S' : Nat → Prop} (M : Nat → Prop)
    (hos : w'.os = w.os) (htape : w'.tape = w.tape) (hout : w'.output = w.output) (hsz : w.heap.size ≤ w'.heap.size)
    (hb : ∀ b, b < w.heap.size → ¬ M b → w'.heap[b]? = w.heap[b]?)
    (hM : ∀ b, M b → ¬ S b ∧ Mine X w0 b ∧ ∀ p u, β p = some u → blk u ≠ some b)
    (hS : ∀ b, S b → S' b) (hS2 : ∀ b, S' b → b < w'.heap.size ∧ (S b ∨ w.heap.size ≤ b))
    (hx : ObjR X w0 β S' w' v x) (hf : ∀ p u g, β p = some u → blk v = some g → ¬ S' g → blk u ≠ some g) :
    Inv X w0 (updβ β o v) S' tm (hput hp o x) a w' := by
  have hβ : ∀ p u, β p = some u → updβ β o v p = some u := fun p u h => by
    unfold updβ
    split
    · rename_i e; subst e; rw [ho] at h; simp at h
    · exact h
  have hinv : ∀ p u, updβ β o v p = some u → (p = o ∧ u = v) ∨ (p ≠ o ∧ β p = some u) := fun p u h => by
    unfold updβ at h; split at h
    · rename_i e; exact .inl ⟨e, by simpa using h.symm⟩
    · exact .inr ⟨by assumption, h⟩
  have hw : ∀ b, S b → w'.heap[b]? = w.heap[b]? := fun b h => hb b (hI.sb b h) (fun hm => (hM b hm).1 h)
  have hm : ∀ (l : List AV) vs, RelVs β S w l vs → RelVs (updβ β o v) S' w' l vs := fun l vs => RelVs.mono hβ hS hw l vs
  have hm2 : ∀ (l : List AV) vs, RelVs β S' w' l vs → RelVs (updβ β o v) S' w' l vs := fun l vs => RelVs.mono hβ (fun _ x => x) (fun _ _ => rfl) l vs
  have hn : ∀ b, b < w.heap.size → ¬ S b → ¬ S' b := fun b h1 h2 h3 => (hS2 b h3).2.elim h2 (by omega)
  have hblk : ∀ p u b, β p = some u → blk u = some b → w'.heap[b]? = w.heap[b]? := fun p u b h1 h2 => hb b (blk_lt hI h1 h2) (fun hmb => (hM b hmb).2.2 p u h1 h2)
  refine ⟨hos.trans hI.os, htape.trans hI.tape, hout.trans hI.output, Nat.le_trans hI.size hsz, ?_, hI.ext, fun b h => (hS2 b h).1, ?_, ?_, ?_, hput_nodup hI.nodup o x, ?_, hm _ _ hI.rel, hI.defs, fun b hb hlt => (hS2 b hb).2.elim (fun h => hI.grew b h hlt) (fun h => by have := hI.size; omega), fun p u u' he hu => ?_, hI.far⟩
  · intro b h1 h2
    refine (hb b (Nat.lt_of_lt_of_le h1 hI.size) (fun hmb => ?_)).trans (hI.old b h1 h2)
    rcases (hM b hmb).2.1 with h | h
    · omega
    · exact h2 h
  · intro p cs hmem
    rcases hput_mem hI.nodup hmem with ⟨rfl, rfl⟩ | ⟨hne, hmem⟩
    · obtain ⟨g, T, vs, rfl, h2, h3, h4, h5⟩ := hx
      exact ⟨g, T, vs, by simp [updβ], h2, h3, h4, hm2 _ _ h5⟩
    · obtain ⟨g, T, vs, h1, h2, h3, h4, h5⟩ := hI.box p cs hmem
      exact ⟨g, T, vs, hβ _ _ h1, h2, hn g (heap_lt h4) h3, (hblk p _ g h1 rfl).trans h4, hm _ _ h5⟩
  · intro p τ xs hmem
    rcases hput_mem hI.nodup hmem with ⟨rfl, rfl⟩ | ⟨hne, hmem⟩
    · exact ⟨v, by simp [updβ], hx⟩
    · obtain ⟨u, h1, h2⟩ := hI.arr p τ xs hmem
      exact ⟨u, hβ _ _ h1, h2.mono hS (fun b hv => hn b (blk_lt hI h1 hv)) (fun b hv => hblk p u b h1 hv)⟩
  · intro p u h
    rcases hinv p u h with ⟨rfl, rfl⟩ | ⟨hne, h⟩
    · exact ⟨x, hput_self _ _ _⟩
    · obtain ⟨y, hy⟩ := hI.live p u h
      exact ⟨y, hput_keep hne hy⟩
  · intro p p' u u' g hne h1 h2 h3 h4
    rcases hinv p u h1 with ⟨e1, e2⟩ | ⟨hp1, q1⟩
    · rcases hinv p' u' h2 with ⟨e3, e4⟩ | ⟨hp2, q2⟩
      · exact absurd (e1.trans e3.symm) hne
      · exact hf p' u' g q2 (e2 ▸ h3) h4
    · rcases hinv p' u' h2 with ⟨e3, e4⟩ | ⟨hp2, q2⟩
      · intro h5
        exact hf p u g q1 (e4 ▸ h5) h4 h3
      · exact hI.apart p p' u u' g hne q1 q2 h3 (fun h6 => h4 (hS g h6))
  · rcases hinv p u' hu with ⟨e1, e2⟩ | ⟨_, q1⟩
    · have := hI.far p u he
      omega
    · exact hI.keep p u u' he q1

/-- An object is written where it lies. -/
theorem Inv.write (hI : Inv X w0 β S tm hp a w) {o : Nat} {y x : AO} (hy : (o, y) ∈ hp) {v : Value} (hv : β o = some v) {g : Nat} (hg : blk v = some g) (hgS : ¬ S g) (hgX : w0.heap.size ≤ g ∨ X g) {w' : World}
    (hos : w'.os = w.os) (htape : w'.tape = w.tape) (hout : w'.output = w.output) (hsz : w'.heap.size = w.heap.size)
    (hb : ∀ b, b ≠ g → w'.heap[b]? = w.heap[b]?) (hx : ObjR X w0 β S w' v x) : Inv X w0 β S tm (hput hp o x) a w' := by
  have hw : ∀ b, S b → w'.heap[b]? = w.heap[b]? := fun b h => hb b (fun e => hgS (e ▸ h))
  have hm : ∀ (l : List AV) vs, RelVs β S w l vs → RelVs β S w' l vs := fun l vs => RelVs.mono (fun _ _ x => x) (fun _ x => x) hw l vs
  have hblk : ∀ p u b, p ≠ o → β p = some u → blk u = some b → w'.heap[b]? = w.heap[b]? := fun p u b h0 h1 h2 => hb b (fun e => by
    subst e
    exact hI.apart o p v u b (fun z => h0 z.symm) hv h1 hg hgS h2)
  refine ⟨hos.trans hI.os, htape.trans hI.tape, hout.trans hI.output, by rw [hsz]; exact hI.size, ?_, hI.ext, fun b h => by rw [hsz]; exact hI.sb b h, ?_, ?_, ?_, hput_nodup hI.nodup o x, hI.apart, hm _ _ hI.rel, hI.defs, hI.grew, hI.keep, hI.far⟩
  · intro b h1 h2
    refine (hb b (fun e => ?_)).trans (hI.old b h1 h2)
    subst e
    rcases hgX with h | h
    · omega
    · exact h2 h
  · intro p cs hmem
    rcases hput_mem hI.nodup hmem with ⟨rfl, rfl⟩ | ⟨hne, hmem⟩
    · obtain ⟨g', T, vs, rfl, h2, h3, h4, h5⟩ := hx
      exact ⟨g', T, vs, hv, h2, h3, h4, h5⟩
    · obtain ⟨g', T, vs, h1, h2, h3, h4, h5⟩ := hI.box p cs hmem
      exact ⟨g', T, vs, h1, h2, h3, (hblk p _ g' hne h1 rfl).trans h4, hm _ _ h5⟩
  · intro p τ xs hmem
    rcases hput_mem hI.nodup hmem with ⟨rfl, rfl⟩ | ⟨hne, hmem⟩
    · exact ⟨v, hv, hx⟩
    · obtain ⟨u, h1, h2⟩ := hI.arr p τ xs hmem
      exact ⟨u, h1, h2.mono (fun _ x => x) (fun _ _ x => x) (fun b hv => hblk p u b hne h1 hv)⟩
  · intro p u h
    by_cases hne : p = o
    · subst hne; exact ⟨x, hput_self _ _ _⟩
    · obtain ⟨z, hz⟩ := hI.live p u h
      exact ⟨z, hput_keep hne hz⟩

/-- An array is read alone from now on. -/
theorem Inv.freeze (hI : Inv X w0 β S tm hp a w) {o : Nat} {τ : ET} {xs : List τ.T} (ho : (o, .arr τ xs) ∈ hp) :
    ∃ S', (∀ b, S b → S' b) ∧ (∀ v, β o = some v → RelV (delβ β o) S' w (.sl τ xs) v) ∧ Inv X w0 (delβ β o) S' (AV.frzs o τ xs tm) (frzHp o τ xs (hdel hp o)) a w := by
  obtain ⟨v, hv, hown⟩ := hI.arr o τ xs ho
  have hβ : ∀ p u, p ≠ o → β p = some u → delβ β o p = some u := fun p u h1 h2 => by simp [delβ, h1, h2]
  have hinv : ∀ p u, delβ β o p = some u → p ≠ o ∧ β p = some u := fun p u h => by
    unfold delβ at h; split at h
    · simp at h
    · exact ⟨by assumption, h⟩
  let S' : Nat → Prop := fun b => S b ∨ blk v = some b
  have hS : ∀ b, S b → S' b := fun b h => .inl h
  have hsl : RelV (delβ β o) S' w (.sl τ xs) v := own_sl hown hS (fun b h => .inr h)
  have hn : ∀ p u g, p ≠ o → β p = some u → blk u = some g → ¬ S g → ¬ S' g := fun p u g h1 h2 h3 h4 h5 => by
    rcases h5 with h5 | h5
    · exact h4 h5
    · exact hI.apart o p v u g (fun z => h1 z.symm) hv h2 h5 h4 h3
  have hr : ∀ (l : List AV) vs, RelVs β S w l vs → RelVs (delβ β o) S' w (AV.frzs o τ xs l) vs := fun l vs => RelVs.frz o τ xs hβ hS (fun u hu => by
    rw [hv] at hu
    obtain rfl : v = u := by simpa using hu
    exact hsl) l vs
  refine ⟨S', hS, fun v' hv' => ?_, hI.os, hI.tape, hI.output, hI.size, hI.old, hI.ext, ?_, ?_, ?_, ?_, ?_, ?_, hr _ _ hI.rel, hI.defs, fun b hb hlt => ?_, fun p u u' he hu => hI.keep p u u' he (hinv p u' hu).2, hI.far⟩
  · rw [hv] at hv'
    obtain rfl : v = v' := by simpa using hv'
    exact hsl
  · intro b h
    rcases h with h | h
    · exact hI.sb b h
    · exact blk_lt hI hv h
  · intro p cs hm
    obtain ⟨x, hx, he⟩ := frzHp_mem hm
    obtain ⟨hne, hx⟩ := (hdel_mem hI.nodup).1 hx
    cases x with
    | arr τ xs => simp [AO.frz] at he
    | box ds =>
      simp only [AO.frz, AO.box.injEq] at he
      subst he
      obtain ⟨g, T, vs, h1, h2, h3, h4, h5⟩ := hI.box p ds hx
      exact ⟨g, T, vs, hβ _ _ hne h1, h2, hn p _ g hne h1 rfl h3, h4, hr _ _ h5⟩
  · intro p τ' ys hm
    obtain ⟨x, hx, he⟩ := frzHp_mem hm
    obtain ⟨hne, hx⟩ := (hdel_mem hI.nodup).1 hx
    cases x with
    | box ds => simp [AO.frz] at he
    | arr τ2 zs =>
      simp only [AO.frz] at he
      rw [← he] at hx
      obtain ⟨u, h1, h2⟩ := hI.arr p τ' ys hx
      exact ⟨u, hβ _ _ hne h1, h2.mono hS (fun b hb => hn p u b hne h1 hb) (fun _ _ => rfl)⟩
  · intro p u h
    obtain ⟨h1, h2⟩ := hinv p u h
    obtain ⟨x, hx⟩ := hI.live p u h2
    exact ⟨x.frz o τ xs, List.mem_map.2 ⟨(p, x), (hdel_mem hI.nodup).2 ⟨h1, hx⟩, rfl⟩⟩
  · rw [frzHp_keys]; exact hdel_nodup hI.nodup o
  · intro p p' u u' g hne h1 h2 h3 h4
    exact hI.apart p p' u u' g hne (hinv p u h1).2 (hinv p' u' h2).2 h3 (fun h5 => h4 (hS g h5))
  · rcases hb with hb | hb
    · exact hI.grew b hb hlt
    · rcases hown with ⟨_, rfl | ⟨g, rfl, h3, _⟩⟩ | ⟨g, cap, cur, rfl, h3, _⟩
      · simp [blk] at hb
      · simp only [blk, Option.some.injEq] at hb; subst hb; exact hI.grew _ h3 hlt
      · simp only [blk, Option.some.injEq] at hb; subst hb; exact h3.elim (fun h => by omega) .inr

theorem freezeF_of (hI : Inv X w0 β S tm hp a w) {o : Nat} {k : List AV → Hp → Prop} (h : freezeF tm hp o k) :
    ∃ tm' hp' β' S', k tm' hp' ∧ (∀ b, S b → S' b) ∧ Inv X w0 β' S' tm' hp' a w := by
  unfold freezeF at h
  obtain ⟨x, hx, h⟩ := hget_of h
  split at h
  · rename_i τ xs
    rw [hdelF_eq, frzs_eq, frzHp_eq] at h
    obtain ⟨S', hS, _, hI'⟩ := hI.freeze hx
    exact ⟨_, _, _, S', h, hS, hI'⟩
  · exact h.elim

theorem freezesF_of : ∀ {vs : List AV} {β : Nat → Option Value} {S : Nat → Prop} {tm : List AV} {hp : Hp} {k : List AV → Hp → Prop}, Inv X w0 β S tm hp a w → freezesF vs tm hp k →
    ∃ tm' hp' β' S', k tm' hp' ∧ (∀ b, S b → S' b) ∧ Inv X w0 β' S' tm' hp' a w
  | [], β, S, tm, hp, k, hI, h => ⟨tm, hp, β, S, h, fun _ x => x, hI⟩
  | v :: vs, β, S, tm, hp, k, hI, h => by
    simp only [freezesF] at h
    split at h
    · split at h
      · obtain ⟨tm', hp', β', S', h, hS, hI'⟩ := freezeF_of hI h
        obtain ⟨tm2, hp2, β2, S2, h2, hS2, hI2⟩ := freezesF_of hI' h
        exact ⟨tm2, hp2, β2, S2, h2, fun b hb => hS2 b (hS b hb), hI2⟩
      · exact freezesF_of hI h
    · exact freezesF_of hI h

end trans
end Go.Proofs.Ythakgbecpkfeoaa.Ev

/- The operations that make or change objects are told rightly. -/
set_option linter.unusedVariables false
set_option linter.unusedSimpArgs false
namespace Go.Proofs.Ythakgbecpkfeoaa.Ev

section free
variable {β β' : Nat → Option Value} {S S' : Nat → Prop} {w w' : World}
mutual
theorem RelV.free : ∀ (v : AV) (u : Value), v.free = true → RelV β S w v u → RelV β' S w v u
  | .int .., _, _, h => h
  | .bool .., _, _, h => h
  | .str .., _, _, h => h
  | .ptr .., _, hc, _ => by simp [AV.free] at hc
  | .ep .., _, _, h => h
  | .oep .., _, hc, _ => by simp [AV.free] at hc
  | .sl .., _, _, h => h
  | .lit .., _, _, h => h
  | .own .., _, hc, _ => by simp [AV.free] at hc
  | .nil, _, _, h => h
  | .fn .., _, _, h => h
  | .clo _ l, _, hc, ⟨cs, h1, h2⟩ => ⟨cs, h1, RelVs.free l cs (by simpa [AV.free] using hc) h2⟩
  | .mp _ l, _, hc, ⟨g, es, c, h1, h2, h3, h4, h5⟩ => ⟨g, es, c, h1, h2, h3, h4, RelVs.free l _ (by simpa [AV.free] using hc) h5⟩
  | .kp l, _, hc, ⟨a, us, h1, h2, h3, h4⟩ => ⟨a, us, h1, h2, h3, RelVs.free l us (by simpa [AV.free] using hc) h4⟩
  | .agg l, _, hc, ⟨cs, h1, h2⟩ => ⟨cs, h1, RelVs.free l cs (by simpa [AV.free] using hc) h2⟩
  | .tup l, _, hc, ⟨cs, h1, h2⟩ => ⟨cs, h1, RelVs.free l cs (by simpa [AV.free] using hc) h2⟩
  | .ifc _ x, _, hc, ⟨u, h1, h2⟩ => ⟨u, h1, RelV.free x u (by simpa [AV.free] using hc) h2⟩
  | .opq .., _, _, h => h
  | .skp, _, _, h => h
  | .undef, _, _, h => h
theorem RelVs.free : ∀ (l : List AV) (us : List Value), AV.frees l = true → RelVs β S w l us → RelVs β' S w l us
  | [], _, _, h => h
  | v :: l, _, hc, ⟨u, us, h1, h2, h3⟩ => by
    simp only [AV.frees] at hc
    cases e : v.free with
    | true => rw [e] at hc; exact ⟨u, us, h1, RelV.free v u e h2, RelVs.free l us hc h3⟩
    | false => rw [e] at hc; simp at hc
end
end free

section ops
variable {P : Program} {E : Env} {X : XR} {w0 : World} {β : Nat → Option Value} {S : Nat → Prop} {tm : List AV} {hp : Hp} {a : Act} {w : World}
variable {o : Oper} {K : Act → World → Prop} {Q : Exit → Act → World → Prop} {k : List AV → Hp → Prop} {kp : AV → List AV → Hp → Prop}

/-- What an operation's end must serve. -/
def Goes (X : XR) (w0 : World) (k : List AV → Hp → Prop) (K : Act → World → Prop) : Prop :=
  ∀ β S tm hp a w, k tm hp → Inv X w0 β S tm hp a w → K a w
/-- What a panic must serve. -/
def Falls (X : XR) (w0 : World) (kp : AV → List AV → Hp → Prop) (Q : Exit → Act → World → Prop) : Prop :=
  ∀ β S tm hp a w v u, kp v tm hp → v.calm = true → Inv X w0 β S tm hp a w → RelV β S w v u → Q (.panic [{ v := u, recovered := false }]) a w

theorem wp_skips {w' : World} (h : (execOp a.eval o).run P w = .ok .skip w') (hk : K (a.put o.dst undef) w') : o.wp P a w K Q := by
  unfold Oper.wp
  rw [h]
  exact hk

theorem del_self (β : Nat → Option Value) (d : Nat) : delβ β d d = none := by simp [delβ]

theorem newObj_of (hI : Inv X w0 β S tm hp a w) {d : Nat} {x : AO} {v : AV} {k : List AV → Hp → Prop} (h : newObj tm hp d x v k) :
    ∃ tm1 hp1, k (tm1.set d v) (hput hp1 d x) ∧ Inv X w0 (delβ β d) S tm1 hp1 a w ∧ d < 1000 := by
  unfold newObj at h
  split at h
  · rename_i hlt
    obtain ⟨tm1, hp1, h, hI1⟩ := dropObj_of hI h
    rw [hputF_eq, setF_eq] at h
    exact ⟨tm1, hp1, h, hI1, by rw [Nat.blt_eq] at hlt; exact hlt⟩
  · exact h.elim

/-- A new block that holds a new object. -/
theorem Inv.fresh (hI : Inv X w0 β S tm hp a w) {d : Nat} (hdl : d < 1000) (hd : β d = none) {x : AO} {v : Value} {w' : World} {g : Nat} (hg : blk v = some g) (hgw : w.heap.size ≤ g)
    (hos : w'.os = w.os) (htape : w'.tape = w.tape) (hout : w'.output = w.output) (hsz : w.heap.size ≤ w'.heap.size)
    (hb : ∀ b, b < w.heap.size → w'.heap[b]? = w.heap[b]?) (hx : ObjR X w0 β S w' v x) : Inv X w0 (updβ β d v) S tm (hput hp d x) a w' := by
  refine hI.add hdl hd (fun _ => False) hos htape hout hsz (fun b h _ => hb b h) (fun b h => h.elim) (fun _ h => h) (fun b h => ⟨Nat.lt_of_lt_of_le (hI.sb b h) hsz, .inl h⟩) hx ?_
  intro p u g' h1 h2 h3 h4
  rw [hg] at h2
  simp only [Option.some.injEq] at h2
  subst h2
  have := blk_lt hI h1 h4
  omega

theorem push_at (w : World) (b : Obj) : ({ w with heap := w.heap.push b } : World).heap[w.heap.size]? = some b := by simp
theorem push_old (w : World) (ob : Obj) (b : Nat) (h : b < w.heap.size) : ({ w with heap := w.heap.push ob } : World).heap[b]? = w.heap[b]? := by
  simp only [Array.getElem?_push]
  rw [if_neg (by omega)]

theorem new_box (hI : Inv X w0 β S tm hp a w) {d : Nat} (hd : o.dst = some d) {T : Nat} {cs : List AV} {vs : Array Value} (hr : RelVs β S w cs vs.toList) (hfree : AV.frees cs = true)
    (hrun : (execOp a.eval o).run P w = .ok (.value (.pointer (some ⟨w.heap.size, 0, none⟩))) { w with heap := w.heap.push (.cells vs T) })
    (h : newObj tm hp d (.box cs) (.ptr d 0) k) (hK : Goes X w0 k K) : o.wp P a w K Q := by
  obtain ⟨tm1, hp1, h, hI1, hdl⟩ := newObj_of hI h
  have hS : ∀ b, S b → ({ w with heap := w.heap.push (.cells vs T) } : World).heap[b]? = w.heap[b]? := fun b hb => push_old w _ b (hI.sb b hb)
  have hI2 := hI1.fresh hdl (del_self β d) (x := .box cs) (v := .pointer (some ⟨w.heap.size, 0, none⟩)) (w' := { w with heap := w.heap.push (.cells vs T) }) (g := w.heap.size) rfl (Nat.le_refl _) rfl rfl rfl (by simp) (fun b hb => push_old w _ b hb)
    ⟨w.heap.size, T, vs, rfl, .inl hI.size, fun hs => by have := hI.sb _ hs; omega, push_at w _, RelVs.mono (fun _ _ x => x) (fun _ x => x) hS _ _ (RelVs.free _ _ hfree hr)⟩
  have hI3 := hI2.put (v := .ptr d 0) (u := .pointer (some ⟨w.heap.size, 0, none⟩)) ⟨w.heap.size, by simp [updβ], rfl⟩ (some d)
  exact wp_value hrun (by rw [hd]; exact hK _ _ _ _ _ _ h hI3)

theorem step_alloc (hE : EnvOK P E) {T : Nat} (hop : o.op = .alloc T) (hI : Inv X w0 β S tm hp a w) (hK : Goes X w0 k K) (h : step1 E o tm hp kp k) : o.wp P a w K Q := by
  unfold step1 at h
  rw [hop] at h
  simp only at h
  split at h
  · rename_i d hd
    obtain ⟨ti, hti, h⟩ := tiGet_of h
    rw [constsF_eq] at h
    split at h
    · rename_i hfree
      obtain ⟨i, z, dd, h1, h2, h3, h4, h5, h6⟩ := tiOf_info (hE.ty _ _ hti)
      simp only at h5
      refine new_box (T := T) (vs := z.cells) hI hd (by rw [h5]; exact RelVs.consts _) hfree ?_ h hK
      simp [execOp, hop, Instr.alloc, zeroValue, typeInfo, h1, h2, newVar, newRow]
    · exact h.elim
  · exact h.elim

theorem step_box (hE : EnvOK P E) {T : Nat} {x : Operand} (hop : o.op = .box T x) (hns : sealT T = false) (hI : Inv X w0 β S tm hp a w) (hK : Goes X w0 k K) (h : step1 E o tm hp kp k) : o.wp P a w K Q := by
  unfold step1 at h
  rw [hop] at h
  simp only [hns] at h
  split at h
  · rename_i d hd
    obtain ⟨ti, hti, h⟩ := tiGet_of h
    rw [AV.f_eq] at h
    obtain ⟨cs, h, hcs⟩ := cellsF_of (hI.eval x) h
    split at h
    · rename_i hfree hlen
      refine new_box (T := T) (vs := (a.eval x).cells) hI hd hcs hfree ?_ h hK
      simp [execOp, hop, Instr.box, newVar, newRow]
    · exact h.elim
  · exact h.elim

theorem ones_of : ∀ {l : List AV} {us : List Value}, ones l = true → RelVs β S w l us → ∀ u ∈ us, u.oneCell' = true
  | [], _, _, h, u, hu => by simp only [RelVs] at h; subst h; simp at hu
  | v :: l, _, ho, ⟨u', us, rfl, h1, h2⟩, u, hu => by
    simp only [ones] at ho
    cases e : oneC v with
    | false => rw [e] at ho; simp at ho
    | true =>
      rw [e] at ho
      rcases List.mem_cons.1 hu with rfl | hu
      · cases v with
        | int κ n => simp only [RelV] at h1; subst h1; rfl
        | bool b => simp only [RelV] at h1; subst h1; rfl
        | str b => simp only [RelV] at h1; subst h1; rfl
        | ptr p off => obtain ⟨g, _, rfl⟩ := h1; rfl
        | ep cs => obtain ⟨g, rfl, _⟩ := h1; rfl
        | kp cs => obtain ⟨g, us, rfl, _⟩ := h1; rfl
        | mp ks vs => obtain ⟨g, es, c, rfl, _⟩ := h1; rfl
        | oep p i => obtain ⟨g, n, c, _, rfl⟩ := h1; rfl
        | sl τ xs => obtain ⟨A, c, rfl, _⟩ := h1; rfl
        | lit τ xs => obtain ⟨g, rfl, _⟩ := h1; rfl
        | own p => obtain ⟨_, A, n, c, rfl⟩ := h1; rfl
        | nil => simp only [RelV] at h1; subst h1; rfl
        | fn f => simp only [RelV] at h1; subst h1; rfl
        | clo f caps => obtain ⟨cs, rfl, _⟩ := h1; rfl
        | ifc t x => obtain ⟨u', rfl, _⟩ := h1; rfl
        | agg l => simp [oneC] at e
        | tup l => simp [oneC] at e
        | opq x => simp [oneC] at e
        | skp => simp [oneC] at e
        | undef => simp [oneC] at e
      · exact ones_of ho h2 u hu

theorem store_run {T n : Nat} {i : TypeInfo} (hi : P.info? T = some i) (hn : i.size = n) {g off T' : Nat} {cur : Array Value} (hg : w.heap[g]? = some (.cells cur T' (0, 0))) {v : Value} (hv : v.cells.size = n) (hroom : off + n ≤ cur.size)
    (h1 : ∀ u ∈ v.cells.toList, u.oneCell' = true) : (Instr.storeAt T (.pointer (some ⟨g, off, none⟩)) v).run P w = .ok () (w.setRow g (cur.toList.take off ++ v.cells.toList ++ cur.toList.drop (off + n)).toArray) := by
  have := run_storeCells_at (P := P) g off T' v.cells.toList 0 cur w hg (by simp [hv]; omega) h1
  simp only [Nat.add_zero, Array.length_toList, hv] at this
  simp only [Instr.storeAt, Instr.sureAddr, Sem.run_bind, Sem.run_pure, Result.andThen_ok, storeVar, sizeOf, typeInfo, run_program, hi, hn, hv, ne_eq, not_true, if_false]
  simpa using this

theorem step_store (hE : EnvOK P E) {T : Nat} {x y : Operand} (hop : o.op = .store T x y) (hI : Inv X w0 β S tm hp a w) (hK : Goes X w0 k K) (h : step1 E o tm hp kp k) : o.wp P a w K Q := by
  unfold step1 at h
  rw [hop] at h
  simp only at h
  have hx := hI.eval x
  split at h
  · rename_i p off hv
    rw [hv] at hx
    obtain ⟨g, hg, hxv⟩ := hx
    obtain ⟨ti, hti, h⟩ := tiGet_of h
    rw [AV.f_eq] at h
    obtain ⟨vs, h, hvs⟩ := cellsF_of (hI.eval y) h
    split at h
    · rename_i hno hlen
      simp only [Bool.and_eq_true] at hlen
      obtain ⟨hlen, hones⟩ := hlen
      have hlen := Nat.eq_of_beq_eq_true hlen
      obtain ⟨ao, hao, h⟩ := hget_of h
      split at h
      · rename_i cs
        obtain ⟨hsp, h⟩ := spliceF_of h
        rw [hputF_eq, putD_eq] at h
        obtain ⟨i, z, dd, h1, h2, h3, h4, h5, h6⟩ := tiOf_info (hE.ty _ _ hti)
        simp only at h4
        obtain ⟨g', T', cur, k1, k2, k3, k4, k5⟩ := hI.box p cs hao
        rw [hg] at k1
        obtain rfl : g = g' := by simpa using k1
        have hl2 := hvs.length
        have hl3 := k5.length
        simp only [Array.length_toList] at hl2 hl3
        have hrun := store_run h1 (n := ti.size) h4 (off := off) k4 (v := a.eval y) (by omega) (by omega) (ones_of hones hvs)
        have hsplice := k5.splice hvs off
        simp only [Array.length_toList] at hsplice
        rw [show (a.eval y).cells.size = ti.size by omega] at hsplice
        have hI2 := hI.write hao hg (g := g) rfl k3 k2 (w' := w.setRow g (cur.toList.take off ++ (a.eval y).cells.toList ++ cur.toList.drop (off + ti.size)).toArray) rfl rfl rfl (by simp) (fun b hb => setRow_other _ _ _ _ hb)
          (x := .box (cs.take off ++ vs ++ cs.drop (off + vs.length)))
          ⟨g, T', _, rfl, k2, k3, setRow_heap w g cur _ T' _ k4, RelVs.mono (fun _ _ x => x) (fun _ x => x) (fun b hb => setRow_other w g b _ (fun e => k3 (by rw [← e]; exact hb))) _ _ (by simpa using hsplice)⟩
        refine wp_skips (w' := w.setRow g (cur.toList.take off ++ (a.eval y).cells.toList ++ cur.toList.drop (off + ti.size)).toArray) (by simp only [execOp, hop, Sem.run_bind, hxv, hrun, Result.andThen_ok, Sem.run_pure]) ?_
        exact hK _ _ _ _ _ _ h (hI2.put (v := .skp) (u := undef) rfl o.dst)
      · exact h.elim
    · exact h.elim
  · rename_i p i hv
    rw [hv] at hx
    obtain ⟨g, n, c, hg, hxv⟩ := hx
    split at h
    · rename_i e
      obtain rfl := Nat.eq_of_beq_eq_true e
      split at h
      · rename_i m hm
        obtain ⟨ao, hao, h⟩ := hget_of h
        split at h
        · rename_i xs
          obtain ⟨hi, h⟩ := h
          rw [hputF_eq, putD_eq] at h
          obtain ⟨v, hv1, hv2⟩ := hI.arr p _ _ hao
          rw [hg] at hv1
          obtain rfl : Value.slice (some ⟨g, 0, none⟩) n c = v := by simpa using hv1
          rcases hv2 with ⟨rfl, _⟩ | ⟨g', cap, cur, he, k1, k2, hh, k3, k4, k5, htake⟩
          · simp at hi
          · simp only [Value.slice.injEq, Option.some.injEq, Addr.mk.injEq, and_true] at he
            obtain ⟨rfl, rfl, rfl⟩ := he
            obtain ⟨ii, z1, z2, z3, z4⟩ := hE.z3
            simp only [ET.size, Nat.mul_one] at k5 htake
            have hrun := store_run (w := w) z1 (n := 1) z3 (off := i) hh (v := .int .i64 m) rfl (by omega) (by intro u hu; simp [Value.cells] at hu; subst hu; rfl)
            have hcur : (cur.toList.take i ++ (Value.int .i64 m).cells.toList ++ cur.toList.drop (i + 1)).toArray = cur.setIfInBounds i (.int .i64 m) := by
              apply Array.ext'
              simp only [Value.cells, Array.toList_setIfInBounds, List.set_eq_take_append_cons_drop, Array.length_toList]
              rw [if_pos (by omega)]
              simp
            rw [hcur] at hrun
            have hI2 := hI.write hao hg (g := g) rfl k2 k1 (w' := w.setRow g (cur.setIfInBounds i (.int .i64 m))) rfl rfl rfl (by simp) (fun b hb => setRow_other _ _ _ _ hb)
              (x := .arr .i64 (xs.set i m)) (.inr ⟨g, c, cur.setIfInBounds i (.int .i64 m), by simp, k1, k2, setRow_heap w g cur _ _ _ hh, by simpa using k3, k4, by simp [ET.size, k5], by
                have h1 : cellsOf .i64 (xs.set i m) = (cellsOf .i64 xs).set i (.int .i64 m) := by
                  have : ∀ ys : List Int, cellsOf .i64 ys = ys.map (Value.int .i64) := fun ys => by induction ys <;> simp_all [cellsOf, ET.enc, CV.v]
                  rw [this, this, List.map_set]
                rw [h1, ← htake]
                simp only [ET.size, Nat.mul_one, List.length_set, Array.toList_setIfInBounds]
                rw [List.take_set]⟩)
            refine wp_skips (w' := w.setRow g (cur.setIfInBounds i (.int .i64 m))) (by simp only [execOp, hop, Sem.run_bind, hxv, int_of hI hm, hrun, Result.andThen_ok, Sem.run_pure]) ?_
            exact hK _ _ _ _ _ _ h (hI2.put (v := .skp) (u := undef) rfl o.dst)
        · exact h.elim
      · exact h.elim
    · exact h.elim
  · exact h.elim

end ops
end Go.Proofs.Ythakgbecpkfeoaa.Ev
