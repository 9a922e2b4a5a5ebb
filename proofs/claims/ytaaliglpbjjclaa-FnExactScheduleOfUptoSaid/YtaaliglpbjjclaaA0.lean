/- DEFINITIONS: an abstract machine over the model's own code. -/
import Derived.Calls
import Derived.KernelRfl
namespace Go.AI

inductive Ty where
  | unit | int (k : IntKind) | bool | str | sl (e : Ty) | pair (a b : Ty)
  deriving DecidableEq

@[reducible] def Ty.D : Ty → Type
  | .unit => Unit
  | .int _ => Int
  | .bool => Bool
  | .str => ByteArray
  | .sl e => List e.D
  | .pair a b => a.D × b.D

def Ty.sz : Ty → Nat
  | .unit => 0
  | .int _ | .bool | .str | .sl _ => 1
  | .pair a b => a.sz + b.sz

def Ty.d0 : (t : Ty) → t.D
  | .unit => ()
  | .int _ => (0 : Int)
  | .bool => false
  | .str => ByteArray.empty
  | .sl _ => []
  | .pair a b => (a.d0, b.d0)

/-- does it hold no slice? -/
def Ty.flat : Ty → Bool
  | .unit | .int _ | .bool | .str => true
  | .sl _ => false
  | .pair a b => a.flat && b.flat

inductive AV where
  | any
  | val (v : Value)
  | agg (cs : List AV)
  | tup (vs : List AV)
  | fn (f : FuncId) (caps : List AV)
  | ifc (isNil : Bool)
  | sl (e : Ty) (l : List e.D) (nn : Option Bool)
  | cp (cs : List AV)
  | ref (h lo : Nat) (len : Option Nat)
  | ptr (h i f : Nat)

/-- a root: a box of cells; an array that is owned (what its elements lead to is immutable); an array that is immutable -/
inductive Root where
  | gone
  | box (cs : List AV)
  | arr (e : Ty) (l : List e.D)
  | imm (e : Ty) (l : List e.D)

structure St where
  tm : List (Nat × AV)
  hp : List (Nat × Root)

abbrev Res := AV × List Root
abbrev R := Option Res

def chk (b : Bool) (k : R) : R := cond b k none

def getT : List (Nat × AV) → Nat → AV
  | [], _ => .any
  | (j, v) :: r, i => cond (Nat.beq j i) v (getT r i)

def getH : List (Nat × Root) → Nat → Root
  | [], _ => .gone
  | (j, v) :: r, i => cond (Nat.beq j i) v (getH r i)

def St.setT (s : St) (i : Nat) (v : AV) : St := ⟨(i, v) :: s.tm, s.hp⟩
def St.setH (s : St) (i : Nat) (v : Root) : St := ⟨s.tm, (i, v) :: s.hp⟩
def St.put (s : St) (d : Option Nat) (v : AV) : St := match d with | some i => s.setT i v | none => s

/-- is the handle one that has been given out? -/
def hasH : List (Nat × Root) → Nat → Bool
  | [], _ => false
  | (j, _) :: r, i => Nat.beq j i || hasH r i

def oneC : Value → Bool
  | .agg _ | .tuple _ => false
  | _ => true

def ofConst : Value → AV
  | .agg cs => cond (cs.toList.all oneC) (.agg (cs.toList.map .val)) .any
  | v => .val v

def St.ev (s : St) : Operand → AV
  | .tmp t => getT s.tm t
  | .const v => ofConst v
  | .global _ => .any
  | .func f => .fn f []

/-! ### types -/

def combine : List (Option Ty) → Option Ty
  | [] => some .unit
  | [t] => t
  | t :: r => match t, combine r with
    | some a, some b => some (.pair a b)
    | _, _ => none

def tyF (P : Program) : Nat → TypeId → Option Ty
  | 0, _ => none
  | d + 1, t => match P.underlying t with
    | some .bool => some .bool
    | some (.int k) => some (.int k)
    | some .string => some .str
    | some (.slice e) => match tyF P d e with | some e' => some (.sl e') | none => none
    | some (.struct fs) => combine (fs.toList.map fun f => tyF P d f.type)
    | _ => none

def tyOf (P : Program) (t : TypeId) : Option Ty := tyF P 12 t

def isAggT (P : Program) (t : TypeId) : Bool := match P.underlying t with | some (.struct _) | some (.array _ _) => true | _ => false
def szT (P : Program) (t : TypeId) : Nat := match P.info? t with | some i => i.size | none => 0
def bytesT (P : Program) (t : TypeId) : Nat := match P.info? t with | some i => i.bytes | none => 0
/-- is it a struct or an array; how many cells has it? -/
def ldT (P : Program) (t : TypeId) : Option (Bool × Nat) := match P.underlying t, P.info? t with
  | some (.struct _), some i | some (.array _ _), some i => some (true, i.size)
  | some _, some i => some (false, i.size)
  | _, _ => none
def fieldT (P : Program) (t : TypeId) (f : Nat) : Option Field := match P.underlying t with | some (.struct fs) => fs[f]? | _ => none
def elemT (P : Program) (t : TypeId) : Option TypeId := match P.underlying t with | some (.slice e) => some e | _ => none

/-! ### data as abstract values -/

/-- the cells of a datum whose slices are immutable -/
def cellsI : (t : Ty) → t.D → List AV
  | .unit, _ => []
  | .int k, n => [.val (.int k n)]
  | .bool, b => [.val (.bool b)]
  | .str, s => [.val (.string s)]
  | .sl e, l => [.sl e l none]
  | .pair a b, x => cellsI a x.1 ++ cellsI b x.2

def castL (a b : Ty) (l : List a.D) : Option (List b.D) :=
  if h : a = b then some (h ▸ l) else none

def takeL {α : Type} (l : List α) (lo : Nat) (len : Option Nat) : List α :=
  match len with
  | none => l.drop lo
  | some n => (l.drop lo).take n

/-- what a slice value reads as: its element type, its elements -/
def St.slice (s : St) : AV → Option ((e : Ty) × List e.D)
  | .sl e l _ => some ⟨e, l⟩
  | .ref h lo len => match getH s.hp h with
    | .arr e l => some ⟨e, takeL l lo len⟩
    | .imm e l => some ⟨e, takeL l lo len⟩
    | _ => none
  | _ => none

def lenL (n lo : Nat) : Option Nat → Nat
  | none => n - lo
  | some k => k

/-- the length of a slice value -/
def St.len (s : St) : AV → Option Nat
  | .sl _ l _ => some l.length
  | .val (.slice none 0 0) => some 0
  | .ref h lo len => match getH s.hp h with
    | .arr _ l => some (lenL l.length lo len)
    | .imm _ l => some (lenL l.length lo len)
    | .box cs => some (lenL cs.length lo len)
    | _ => none
  | _ => none

/-! ### cells into data: an array that is owned is frozen when a datum leads to it -/

/-- takes a slice out of cells -/
def takeS (e : Ty) (s : St) (cs : List AV) : Option (St × List e.D × List AV) :=
  match cs with
  | .val (.slice none 0 0) :: cs => some (s, ([] : List e.D), cs)
  | .sl e' l _ :: cs => match castL e' e l with
    | some l' => some (s, l', cs)
    | none => none
  | .ref h lo len :: cs => match getH s.hp h with
    | .arr e' l => match castL e' e (takeL l lo len) with
      | some l' => some (s.setH h (.imm e' l), l', cs)
      | none => none
    | .imm e' l => match castL e' e (takeL l lo len) with
      | some l' => some (s, l', cs)
      | none => none
    | _ => none
  | _ => none

/-- takes a datum out of cells: the state, the datum, the cells left -/
def takeD : (t : Ty) → St → List AV → Option (St × t.D × List AV)
  | .unit => fun s cs => some (s, (), cs)
  | .int k => fun s cs => match cs with
    | .val (.int k' n) :: r => cond (decide (k' = k)) (some (s, n, r)) none
    | _ => none
  | .bool => fun s cs => match cs with
    | .val (.bool b) :: r => some (s, b, r)
    | _ => none
  | .str => fun s cs => match cs with
    | .val (.string b) :: r => some (s, b, r)
    | _ => none
  | .sl e => fun s cs => takeS e s cs
  | .pair a b => fun s cs => match takeD a s cs with
    | some (s1, x, cs1) => match takeD b s1 cs1 with
      | some (s2, y, cs2) => some (s2, (x, y), cs2)
      | none => none
    | none => none

def takeW (t : Ty) (s : St) (cs : List AV) : Option (St × t.D) := match takeD t s cs with
  | some (s1, y, []) => some (s1, y)
  | _ => none

/-- sets the cells of a datum from cell f on -/
def setCs : (t : Ty) → St → t.D → Nat → List AV → Option (St × t.D)
  | .pair a b => fun s x f cs => cond (Nat.beq f 0 && Nat.beq cs.length (a.sz + b.sz))
      (takeW (.pair a b) s cs)
      (cond (Nat.ble (f + cs.length) a.sz)
        (match setCs a s x.1 f cs with | some (s1, y) => some (s1, (y, x.2)) | none => none)
        (cond (Nat.ble a.sz f)
          (match setCs b s x.2 (f - a.sz) cs with | some (s1, y) => some (s1, (x.1, y)) | none => none) none))
  | t => fun s _ f cs => cond (Nat.beq f 0) (takeW t s cs) none

end Go.AI
