/- DEFINITIONS: the abstract machine's operations. -/
import Derived.Test.YtaaliglpbjjclaaA0
namespace Go.AI

/-! ### memory -/

/-- the cells that lie at an address, n of them -/
def St.cells (s : St) (n : Nat) : AV → Option (List AV)
  | .cp cs => cond (Nat.ble n cs.length) (some (cs.take n)) none
  | .ptr h i f => match getH s.hp h with
    | .box cs => cond (Nat.ble (f + n) cs.length) (some ((cs.drop f).take n)) none
    | .arr e l => cond (Nat.ble (f + n) e.sz) (some (((cellsI e (l.getD i e.d0)).drop f).take n)) none
    | .imm e l => cond (Nat.ble (f + n) e.sz) (some (((cellsI e (l.getD i e.d0)).drop f).take n)) none
    | _ => none
  | _ => none

def replAt {α : Type} : List α → Nat → List α → List α
  | l, 0, xs => xs ++ l.drop xs.length
  | [], _ + 1, xs => xs
  | a :: l, n + 1, xs => a :: replAt l n xs

/-- a store of cells -/
def St.store (s : St) (cs : List AV) (k : St → R) : AV → R
  | .ptr h i f => match getH s.hp h with
    | .box old => cond (Nat.ble (f + cs.length) old.length) (k (s.setH h (.box (replAt old f cs)))) none
    | .arr e l => match setCs e s (l.getD i e.d0) f cs with
      | some (s1, x) => (match getH s1.hp h with
        | .arr _ _ => k (s1.setH h (.arr e (l.set i x)))
        | _ => none)
      | none => none
    | _ => none
  | _ => none

/-- is the size of a slice's elements this? -/
def St.szOk (s : St) (n : Nat) : AV → Bool
  | .sl e _ _ => Nat.beq e.sz n
  | .ref h _ _ => match getH s.hp h with
    | .arr e _ | .imm e _ => Nat.beq e.sz n
    | .box _ => Nat.beq 1 n
    | _ => false
  | _ => false

/-- the address of element n of a slice -/
def idxAddr (s : St) (x : AV) (n : Nat) : Option AV :=
  match x with
  | .sl e l _ => some (.cp (cellsI e (l.getD n e.d0)))
  | .ref h lo _ => match getH s.hp h with
    | .box _ => some (.ptr h 0 (n + lo))
    | _ => some (.ptr h (n + lo) 0)
  | _ => none

def fldAddr (s : St) (x : AV) (off : Nat) : Option AV :=
  match x with
  | .cp cs => cond (Nat.ble off cs.length) (some (.cp (cs.drop off))) none
  | .ptr h i f => match getH s.hp h with
    | .gone => none
    | _ => some (.ptr h i (f + off))
  | _ => none

def intOf? : AV → Option Int
  | .val (.int _ n) => some n
  | _ => none

def subL {α : Type} (l : List α) (lo : Nat) : Option Nat → List α
  | none => l.drop lo
  | some b => (l.take b).drop lo
def subN (lo : Nat) : Option Nat → Option Nat → Option Nat
  | none, none => none
  | none, some n => some (n - lo)
  | some b, _ => some (b - lo)

/-- a part of a slice value: from low on; up to high -/
def subV (x : AV) (lo : Nat) (hi : Option Nat) : Option AV :=
  match x with
  | .sl e l nn => some (.sl e (subL l lo hi) nn)
  | .ref h l0 len => some (.ref h (lo + l0) (subN lo hi len))
  | _ => none

/-! ### operators on plain values -/

def intOp (op : BinOp) (k : IntKind) (a b : Int) (K : Value → R) : R :=
  match op with
  | .add => K (.int k (k.wrap (a + b)))
  | .sub => K (.int k (k.wrap (a - b)))
  | .mul => K (.int k (k.wrap (a * b)))
  | .quo => chk (decide (b ≠ 0)) (K (.int k (k.wrap (a.tdiv b))))
  | .rem => chk (decide (b ≠ 0)) (K (.int k (a.tmod b)))
  | .and => K (.int k (k.wrap (BitVec.ofInt k.bits a &&& BitVec.ofInt k.bits b).toNat))
  | .or => K (.int k (k.wrap (BitVec.ofInt k.bits a ||| BitVec.ofInt k.bits b).toNat))
  | .xor => K (.int k (k.wrap (BitVec.ofInt k.bits a ^^^ BitVec.ofInt k.bits b).toNat))
  | .eql => K (.bool (a == b))
  | .neq => K (.bool (a != b))
  | .lss => K (.bool (decide (a < b)))
  | .leq => K (.bool (decide (a ≤ b)))
  | .gtr => K (.bool (decide (a > b)))
  | .geq => K (.bool (decide (a ≥ b)))
  | _ => none

def strOp (op : BinOp) (a b : ByteArray) (K : Value → R) : R :=
  match op with
  | .add => chk (decide (a.size + b.size ≤ 4611686018427387904)) (K (.string (a ++ b)))
  | .eql => K (.bool (a.toList == b.toList))
  | .neq => K (.bool (!(a.toList == b.toList)))
  | _ => none

/-- equality of the cells of structs of whole numbers, bools and strings, field by field (the fields have their cells one behind the other) -/
def eqFs (P : Program) : Nat → List Field → List AV → List AV → Option Bool
  | _, [], [], [] => some true
  | n, f :: fs, .val x :: a, .val y :: b => cond (!(f.name == "_") && Nat.beq f.offset n) (match P.underlying f.type, x, y with
    | some (.int _), .int k p, .int k' q => cond (decide (k = k')) (match eqFs P (n + 1) fs a b with | some t => some ((p == q) && t) | none => none) none
    | some .bool, .bool p, .bool q => (match eqFs P (n + 1) fs a b with | some t => some ((p == q) && t) | none => none)
    | some .string, .string p, .string q => (match eqFs P (n + 1) fs a b with | some t => some ((p.toList == q.toList) && t) | none => none)
    | _, _, _ => none) none
  | _, _, _, _ => none

def eqNe (op : BinOp) (b : Bool) (K : AV → R) : R := match op with
  | .eql => K (.val (.bool b))
  | .neq => K (.val (.bool (!b)))
  | _ => none

/-- a binary operator; yc: is the second operand a constant? -/
def binA (P : Program) (t : TypeId) (op : BinOp) (yc : Bool) (a b : AV) (K : AV → R) : R :=
  match a, b with
  | .val (.int k x), .val (.int k' y) =>
    match op with
    | .shl => chk (decide (0 ≤ y)) (K (.val (.int k (k.wrap (x * 2 ^ min y.toNat k.bits)))))
    | .shr => chk (decide (0 ≤ y)) (K (.val (.int k (x.fdiv (2 ^ min y.toNat k.bits)))))
    | _ => cond (decide (k = k')) (intOp op k x y fun v => K (.val v)) none
  | .val (.string x), .val (.string y) => strOp op x y fun v => K (.val v)
  | .val (.bool x), .val (.bool y) => (match P.underlying t with | some .bool => eqNe op (x == y) K | _ => none)
  | .ifc n, .val .nilIface => (match P.underlying t with | some (.interface _) => cond yc (eqNe op n K) none | _ => none)
  | .val (.slice none 0 0), .val (.slice none 0 0) => (match P.underlying t with | some (.slice _) => eqNe op true K | _ => none)
  | .sl _ _ (some nn), .val (.slice none 0 0) => (match P.underlying t with | some (.slice _) => eqNe op (!nn) K | _ => none)
  | .agg x, .agg y => (match P.underlying t with
    | some (.struct fs) => cond (!P.stoodInHeld t && !P.eqGuardType P.depth t) (match eqFs P 0 fs.toList x y with
      | some b => eqNe op b K
      | none => none) none
    | _ => none)
  | _, _ => none

def unA (op : UnOp) (a : AV) : Option AV :=
  match op, a with
  | .neg, .val (.int k n) => some (.val (.int k (k.wrap (0 - n))))
  | .not, .val (.bool b) => some (.val (.bool (!b)))
  | _, _ => none

/-- a zero value's cells, of a value as the table of types has it -/
def zeroCs (v : Value) : List AV := v.cells.toList.map .val

def fitBytes (n b : Nat) : Bool := decide (n * b ≤ 140737488355328)

/-- is this the zero of a type? -/
def isZero (e : Ty) (v : Value) : Bool :=
  match takeZ e v.cells.toList with
  | some [] => true
  | _ => false
where
  takeZ : Ty → List Value → Option (List Value)
  | .unit => fun cs => some cs
  | .int k => fun cs => match cs with
    | .int k' n :: r => cond (decide (k' = k) && decide (n = 0)) (some r) none
    | _ => none
  | .bool => fun cs => match cs with
    | .bool false :: r => some r
    | _ => none
  | .str => fun cs => match cs with
    | .string s :: r => cond (Nat.beq s.size 0) (some r) none
    | _ => none
  | .sl _ => fun cs => match cs with
    | .slice none 0 0 :: r => some r
    | _ => none
  | .pair a b => fun cs => match takeZ a cs with
    | some cs1 => takeZ b cs1
    | none => none

end Go.AI
