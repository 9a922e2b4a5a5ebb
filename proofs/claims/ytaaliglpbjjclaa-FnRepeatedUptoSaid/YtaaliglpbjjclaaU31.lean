/- PART 1 of the texts on which the proof rests: an abstract machine, the equations of the functions, plain words on them. -/
import Derived.Calls
import Derived.KernelRfl
import Derived.Laws.Sem
import Derived.Laws.Cells
import Derived.Laws.World
import Derived.Laws.Rows
import Derived.Laws.Append
import Derived.Laws.StructEq
import Derived.Laws.CopyRow
import Derived.Laws.Tables
import Derived.Laws.BytesString
import Derived.Laws.MakeOwn

section
/- DEFINITIONS: an abstract machine over the model's own code. -/
namespace Go.AI

inductive Ty where
  | unit | int (k : IntKind) | bool | str | sl (e : Ty) | pair (a b : Ty)
  deriving DecidableEq

@[reducible] def Ty.D : Ty → Type
  | .unit => Unit
  | .int _ => Int
  | .bool => Bool
  | .str => ByteArray
  | .sl e => List e.D
  | .pair a b => a.D × b.D

def Ty.sz : Ty → Nat
  | .unit => 0
  | .int _ | .bool | .str | .sl _ => 1
  | .pair a b => a.sz + b.sz

def Ty.d0 : (t : Ty) → t.D
  | .unit => ()
  | .int _ => (0 : Int)
  | .bool => false
  | .str => ByteArray.empty
  | .sl _ => []
  | .pair a b => (a.d0, b.d0)

/-- does it hold no slice? -/
def Ty.flat : Ty → Bool
  | .unit | .int _ | .bool | .str => true
  | .sl _ => false
  | .pair a b => a.flat && b.flat

inductive AV where
  | any
  | val (v : Value)
  | agg (cs : List AV)
  | tup (vs : List AV)
  | fn (f : FuncId) (caps : List AV)
  | ifc (isNil : Bool)
  | sl (e : Ty) (l : List e.D) (nn : Option Bool)
  | cp (cs : List AV)
  | ref (h lo : Nat) (len : Option Nat)
  | ptr (h i f : Nat)

/-- a root: a box of cells; an array that is owned (what its elements lead to is immutable); an array that is immutable -/
inductive Root where
  | gone
  | box (cs : List AV)
  | arr (e : Ty) (l : List e.D)
  | imm (e : Ty) (l : List e.D)

structure St where
  tm : List (Nat × AV)
  hp : List (Nat × Root)

abbrev Res := AV × List Root
abbrev R := Option Res

def chk (b : Bool) (k : R) : R := cond b k none

def getT : List (Nat × AV) → Nat → AV
  | [], _ => .any
  | (j, v) :: r, i => cond (Nat.beq j i) v (getT r i)

def getH : List (Nat × Root) → Nat → Root
  | [], _ => .gone
  | (j, v) :: r, i => cond (Nat.beq j i) v (getH r i)

def St.setT (s : St) (i : Nat) (v : AV) : St := ⟨(i, v) :: s.tm, s.hp⟩
def St.setH (s : St) (i : Nat) (v : Root) : St := ⟨s.tm, (i, v) :: s.hp⟩
def St.put (s : St) (d : Option Nat) (v : AV) : St := match d with | some i => s.setT i v | none => s

/-- is the handle one that has been given out? -/
def hasH : List (Nat × Root) → Nat → Bool
  | [], _ => false
  | (j, _) :: r, i => Nat.beq j i || hasH r i

def oneC : Value → Bool
  | .agg _ | .tuple _ => false
  | _ => true

def ofConst : Value → AV
  | .agg cs => cond (cs.toList.all oneC) (.agg (cs.toList.map .val)) .any
  | v => .val v

def St.ev (s : St) : Operand → AV
  | .tmp t => getT s.tm t
  | .const v => ofConst v
  | .global _ => .any
  | .func f => .fn f []

/-! ### types -/

def combine : List (Option Ty) → Option Ty
  | [] => some .unit
  | [t] => t
  | t :: r => match t, combine r with
    | some a, some b => some (.pair a b)
    | _, _ => none

def tyF (P : Program) : Nat → TypeId → Option Ty
  | 0, _ => none
  | d + 1, t => match P.underlying t with
    | some .bool => some .bool
    | some (.int k) => some (.int k)
    | some .string => some .str
    | some (.slice e) => match tyF P d e with | some e' => some (.sl e') | none => none
    | some (.struct fs) => combine (fs.toList.map fun f => tyF P d f.type)
    | _ => none

def tyOf (P : Program) (t : TypeId) : Option Ty := tyF P 12 t

def isAggT (P : Program) (t : TypeId) : Bool := match P.underlying t with | some (.struct _) | some (.array _ _) => true | _ => false
def szT (P : Program) (t : TypeId) : Nat := match P.info? t with | some i => i.size | none => 0
def bytesT (P : Program) (t : TypeId) : Nat := match P.info? t with | some i => i.bytes | none => 0
/-- is it a struct or an array; how many cells has it? -/
def ldT (P : Program) (t : TypeId) : Option (Bool × Nat) := match P.underlying t, P.info? t with
  | some (.struct _), some i | some (.array _ _), some i => some (true, i.size)
  | some _, some i => some (false, i.size)
  | _, _ => none
def fieldT (P : Program) (t : TypeId) (f : Nat) : Option Field := match P.underlying t with | some (.struct fs) => fs[f]? | _ => none
def elemT (P : Program) (t : TypeId) : Option TypeId := match P.underlying t with | some (.slice e) => some e | _ => none

/-! ### data as abstract values -/

/-- the cells of a datum whose slices are immutable -/
def cellsI : (t : Ty) → t.D → List AV
  | .unit, _ => []
  | .int k, n => [.val (.int k n)]
  | .bool, b => [.val (.bool b)]
  | .str, s => [.val (.string s)]
  | .sl e, l => [.sl e l none]
  | .pair a b, x => cellsI a x.1 ++ cellsI b x.2

def castL (a b : Ty) (l : List a.D) : Option (List b.D) :=
  if h : a = b then some (h ▸ l) else none

def takeL {α : Type} (l : List α) (lo : Nat) (len : Option Nat) : List α :=
  match len with
  | none => l.drop lo
  | some n => (l.drop lo).take n

/-- what a slice value reads as: its element type, its elements -/
def St.slice (s : St) : AV → Option ((e : Ty) × List e.D)
  | .sl e l _ => some ⟨e, l⟩
  | .ref h lo len => match getH s.hp h with
    | .arr e l => some ⟨e, takeL l lo len⟩
    | .imm e l => some ⟨e, takeL l lo len⟩
    | _ => none
  | _ => none

def lenL (n lo : Nat) : Option Nat → Nat
  | none => n - lo
  | some k => k

/-- the length of a slice value -/
def St.len (s : St) : AV → Option Nat
  | .sl _ l _ => some l.length
  | .val (.slice none 0 0) => some 0
  | .ref h lo len => match getH s.hp h with
    | .arr _ l => some (lenL l.length lo len)
    | .imm _ l => some (lenL l.length lo len)
    | .box cs => some (lenL cs.length lo len)
    | _ => none
  | _ => none

/-! ### cells into data: an array that is owned is frozen when a datum leads to it -/

/-- takes a slice out of cells -/
def takeS (e : Ty) (s : St) (cs : List AV) : Option (St × List e.D × List AV) :=
  match cs with
  | .val (.slice none 0 0) :: cs => some (s, ([] : List e.D), cs)
  | .sl e' l _ :: cs => match castL e' e l with
    | some l' => some (s, l', cs)
    | none => none
  | .ref h lo len :: cs => match getH s.hp h with
    | .arr e' l => match castL e' e (takeL l lo len) with
      | some l' => some (s.setH h (.imm e' l), l', cs)
      | none => none
    | .imm e' l => match castL e' e (takeL l lo len) with
      | some l' => some (s, l', cs)
      | none => none
    | _ => none
  | _ => none

/-- takes a datum out of cells: the state, the datum, the cells left -/
def takeD : (t : Ty) → St → List AV → Option (St × t.D × List AV)
  | .unit => fun s cs => some (s, (), cs)
  | .int k => fun s cs => match cs with
    | .val (.int k' n) :: r => cond (decide (k' = k)) (some (s, n, r)) none
    | _ => none
  | .bool => fun s cs => match cs with
    | .val (.bool b) :: r => some (s, b, r)
    | _ => none
  | .str => fun s cs => match cs with
    | .val (.string b) :: r => some (s, b, r)
    | _ => none
  | .sl e => fun s cs => takeS e s cs
  | .pair a b => fun s cs => match takeD a s cs with
    | some (s1, x, cs1) => match takeD b s1 cs1 with
      | some (s2, y, cs2) => some (s2, (x, y), cs2)
      | none => none
    | none => none

def takeW (t : Ty) (s : St) (cs : List AV) : Option (St × t.D) := match takeD t s cs with
  | some (s1, y, []) => some (s1, y)
  | _ => none

/-- sets the cells of a datum from cell f on -/
def setCs : (t : Ty) → St → t.D → Nat → List AV → Option (St × t.D)
  | .pair a b => fun s x f cs => cond (Nat.beq f 0 && Nat.beq cs.length (a.sz + b.sz))
      (takeW (.pair a b) s cs)
      (cond (Nat.ble (f + cs.length) a.sz)
        (match setCs a s x.1 f cs with | some (s1, y) => some (s1, (y, x.2)) | none => none)
        (cond (Nat.ble a.sz f)
          (match setCs b s x.2 (f - a.sz) cs with | some (s1, y) => some (s1, (x.1, y)) | none => none) none))
  | t => fun s _ f cs => cond (Nat.beq f 0) (takeW t s cs) none

end Go.AI
end

section
/- DEFINITIONS: the abstract machine's operations. -/
namespace Go.AI

/-! ### memory -/

/-- the cells that lie at an address, n of them -/
def St.cells (s : St) (n : Nat) : AV → Option (List AV)
  | .cp cs => cond (Nat.ble n cs.length) (some (cs.take n)) none
  | .ptr h i f => match getH s.hp h with
    | .box cs => cond (Nat.ble (f + n) cs.length) (some ((cs.drop f).take n)) none
    | .arr e l => cond (Nat.ble (f + n) e.sz) (some (((cellsI e (l.getD i e.d0)).drop f).take n)) none
    | .imm e l => cond (Nat.ble (f + n) e.sz) (some (((cellsI e (l.getD i e.d0)).drop f).take n)) none
    | _ => none
  | _ => none

def replAt {α : Type} : List α → Nat → List α → List α
  | l, 0, xs => xs ++ l.drop xs.length
  | [], _ + 1, xs => xs
  | a :: l, n + 1, xs => a :: replAt l n xs

/-- a store of cells -/
def St.store (s : St) (cs : List AV) (k : St → R) : AV → R
  | .ptr h i f => match getH s.hp h with
    | .box old => cond (Nat.ble (f + cs.length) old.length) (k (s.setH h (.box (replAt old f cs)))) none
    | .arr e l => match setCs e s (l.getD i e.d0) f cs with
      | some (s1, x) => (match getH s1.hp h with
        | .arr _ _ => k (s1.setH h (.arr e (l.set i x)))
        | _ => none)
      | none => none
    | _ => none
  | _ => none

/-- is the size of a slice's elements this? -/
def St.szOk (s : St) (n : Nat) : AV → Bool
  | .sl e _ _ => Nat.beq e.sz n
  | .ref h _ _ => match getH s.hp h with
    | .arr e _ | .imm e _ => Nat.beq e.sz n
    | .box _ => Nat.beq 1 n
    | _ => false
  | _ => false

/-- the address of element n of a slice -/
def idxAddr (s : St) (x : AV) (n : Nat) : Option AV :=
  match x with
  | .sl e l _ => some (.cp (cellsI e (l.getD n e.d0)))
  | .ref h lo _ => match getH s.hp h with
    | .box _ => some (.ptr h 0 (n + lo))
    | _ => some (.ptr h (n + lo) 0)
  | _ => none

def fldAddr (s : St) (x : AV) (off : Nat) : Option AV :=
  match x with
  | .cp cs => cond (Nat.ble off cs.length) (some (.cp (cs.drop off))) none
  | .ptr h i f => match getH s.hp h with
    | .gone => none
    | _ => some (.ptr h i (f + off))
  | _ => none

def intOf? : AV → Option Int
  | .val (.int _ n) => some n
  | _ => none

def subL {α : Type} (l : List α) (lo : Nat) : Option Nat → List α
  | none => l.drop lo
  | some b => (l.take b).drop lo
def subN (lo : Nat) : Option Nat → Option Nat → Option Nat
  | none, none => none
  | none, some n => some (n - lo)
  | some b, _ => some (b - lo)

/-- a part of a slice value: from low on; up to high -/
def subV (x : AV) (lo : Nat) (hi : Option Nat) : Option AV :=
  match x with
  | .sl e l nn => some (.sl e (subL l lo hi) nn)
  | .ref h l0 len => some (.ref h (lo + l0) (subN lo hi len))
  | _ => none

/-! ### operators on plain values -/

def intOp (op : BinOp) (k : IntKind) (a b : Int) (K : Value → R) : R :=
  match op with
  | .add => K (.int k (k.wrap (a + b)))
  | .sub => K (.int k (k.wrap (a - b)))
  | .mul => K (.int k (k.wrap (a * b)))
  | .quo => chk (decide (b ≠ 0)) (K (.int k (k.wrap (a.tdiv b))))
  | .rem => chk (decide (b ≠ 0)) (K (.int k (a.tmod b)))
  | .and => K (.int k (k.wrap (BitVec.ofInt k.bits a &&& BitVec.ofInt k.bits b).toNat))
  | .or => K (.int k (k.wrap (BitVec.ofInt k.bits a ||| BitVec.ofInt k.bits b).toNat))
  | .xor => K (.int k (k.wrap (BitVec.ofInt k.bits a ^^^ BitVec.ofInt k.bits b).toNat))
  | .eql => K (.bool (a == b))
  | .neq => K (.bool (a != b))
  | .lss => K (.bool (decide (a < b)))
  | .leq => K (.bool (decide (a ≤ b)))
  | .gtr => K (.bool (decide (a > b)))
  | .geq => K (.bool (decide (a ≥ b)))
  | _ => none

def strOp (op : BinOp) (a b : ByteArray) (K : Value → R) : R :=
  match op with
  | .add => chk (decide (a.size + b.size ≤ 4611686018427387904)) (K (.string (a ++ b)))
  | .eql => K (.bool (a.toList == b.toList))
  | .neq => K (.bool (!(a.toList == b.toList)))
  | _ => none

/-- equality of the cells of structs of whole numbers, bools and strings, field by field (the fields have their cells one behind the other) -/
def eqFs (P : Program) : Nat → List Field → List AV → List AV → Option Bool
  | _, [], [], [] => some true
  | n, f :: fs, .val x :: a, .val y :: b => cond (!(f.name == "_") && Nat.beq f.offset n) (match P.underlying f.type, x, y with
    | some (.int _), .int k p, .int k' q => cond (decide (k = k')) (match eqFs P (n + 1) fs a b with | some t => some ((p == q) && t) | none => none) none
    | some .bool, .bool p, .bool q => (match eqFs P (n + 1) fs a b with | some t => some ((p == q) && t) | none => none)
    | some .string, .string p, .string q => (match eqFs P (n + 1) fs a b with | some t => some ((p.toList == q.toList) && t) | none => none)
    | _, _, _ => none) none
  | _, _, _, _ => none

def eqNe (op : BinOp) (b : Bool) (K : AV → R) : R := match op with
  | .eql => K (.val (.bool b))
  | .neq => K (.val (.bool (!b)))
  | _ => none

/-- a binary operator; yc: is the second operand a constant? -/
def binA (P : Program) (t : TypeId) (op : BinOp) (yc : Bool) (a b : AV) (K : AV → R) : R :=
  match a, b with
  | .val (.int k x), .val (.int k' y) =>
    match op with
    | .shl => chk (decide (0 ≤ y)) (K (.val (.int k (k.wrap (x * 2 ^ min y.toNat k.bits)))))
    | .shr => chk (decide (0 ≤ y)) (K (.val (.int k (x.fdiv (2 ^ min y.toNat k.bits)))))
    | _ => cond (decide (k = k')) (intOp op k x y fun v => K (.val v)) none
  | .val (.string x), .val (.string y) => strOp op x y fun v => K (.val v)
  | .val (.bool x), .val (.bool y) => (match P.underlying t with | some .bool => eqNe op (x == y) K | _ => none)
  | .ifc n, .val .nilIface => (match P.underlying t with | some (.interface _) => cond yc (eqNe op n K) none | _ => none)
  | .val (.slice none 0 0), .val (.slice none 0 0) => (match P.underlying t with | some (.slice _) => eqNe op true K | _ => none)
  | .sl _ _ (some nn), .val (.slice none 0 0) => (match P.underlying t with | some (.slice _) => eqNe op (!nn) K | _ => none)
  | .agg x, .agg y => (match P.underlying t with
    | some (.struct fs) => cond (!P.stoodInHeld t && !P.eqGuardType P.depth t) (match eqFs P 0 fs.toList x y with
      | some b => eqNe op b K
      | none => none) none
    | _ => none)
  | _, _ => none

def unA (op : UnOp) (a : AV) : Option AV :=
  match op, a with
  | .neg, .val (.int k n) => some (.val (.int k (k.wrap (0 - n))))
  | .not, .val (.bool b) => some (.val (.bool (!b)))
  | _, _ => none

/-- a zero value's cells, of a value as the table of types has it -/
def zeroCs (v : Value) : List AV := v.cells.toList.map .val

def fitBytes (n b : Nat) : Bool := decide (n * b ≤ 140737488355328)

/-- is this the zero of a type? -/
def isZero (e : Ty) (v : Value) : Bool :=
  match takeZ e v.cells.toList with
  | some [] => true
  | _ => false
where
  takeZ : Ty → List Value → Option (List Value)
  | .unit => fun cs => some cs
  | .int k => fun cs => match cs with
    | .int k' n :: r => cond (decide (k' = k) && decide (n = 0)) (some r) none
    | _ => none
  | .bool => fun cs => match cs with
    | .bool false :: r => some r
    | _ => none
  | .str => fun cs => match cs with
    | .string s :: r => cond (Nat.beq s.size 0) (some r) none
    | _ => none
  | .sl _ => fun cs => match cs with
    | .slice none 0 0 :: r => some r
    | _ => none
  | .pair a b => fun cs => match takeZ a cs with
    | some cs1 => takeZ b cs1
    | none => none

end Go.AI
end

section
/- DEFINITIONS: the abstract machine: calls, regions, code. -/
namespace Go.AI

/-! ### handles: which occur, how they are named anew -/

def hsF : Nat → AV → List Nat
  | 0, _ => []
  | n + 1, v => match v with
    | .ref h _ _ | .ptr h _ _ => [h]
    | .agg cs => cs.flatMap (hsF n)
    | .tup cs => cs.flatMap (hsF n)
    | .fn _ cs => cs.flatMap (hsF n)
    | .cp cs => cs.flatMap (hsF n)
    | _ => []
def hs (v : AV) : List Nat := hsF 6 v

def memN (x : Nat) : List Nat → Bool
  | [] => false
  | y :: r => Nat.beq y x || memN x r

def idxN (x : Nat) : List Nat → Nat
  | [] => 0
  | y :: r => cond (Nat.beq y x) 0 (idxN x r + 1)

def rootHs : Root → List Nat
  | .box cs => cs.flatMap hs
  | _ => []

/-- the handles in order of their first occurrence, those that the boxes hold too -/
def collect (hp : List (Nat × Root)) : Nat → List Nat → List Nat → List Nat
  | 0, _, acc => acc
  | _, [], acc => acc
  | n + 1, h :: r, acc => cond (memN h acc) (collect hp n r acc) (match getH hp h with
      | .gone => collect hp n r acc
      | x => collect hp n (r ++ rootHs x) (acc ++ [h]))

/-- names handles anew; what gets no name is unknown -/
def renG (g : Nat → Option Nat) : Nat → AV → AV
  | 0, _ => .any
  | n + 1, v => match v with
    | .ref h a b => (match g h with | some k => .ref k a b | none => .any)
    | .ptr h a b => (match g h with | some k => .ptr k a b | none => .any)
    | .agg cs => .agg (cs.map (renG g n))
    | .tup cs => .tup (cs.map (renG g n))
    | .fn f cs => .fn f (cs.map (renG g n))
    | .cp cs => .cp (cs.map (renG g n))
    | v => v
def ren (g : Nat → Option Nat) (v : AV) : AV := renG g 6 v

def renRoot (g : Nat → Option Nat) : Root → Root
  | .box cs => .box (cs.map (ren g))
  | x => x

/-- where a handle stands in a list -/
def idxG : List Nat → Nat → Nat → Option Nat
  | [], _, _ => none
  | y :: r, i, h => cond (Nat.beq y h) (some i) (idxG r (i + 1) h)
def idxO (l : List Nat) (h : Nat) : Option Nat := idxG l 0 h
def nthO (l : List Nat) (h : Nat) : Option Nat := l[h]?
def shiftO (n base h : Nat) : Option Nat := cond (Nat.blt h n) (some (base + h)) none

def numbered (base : Nat) : List Root → List (Nat × Root)
  | [] => []
  | x :: r => (base, x) :: numbered (base + 1) r

def gather (s : St) (keep : Nat) (more : List Nat) : List Nat :=
  let k := List.range keep
  k ++ (collect s.hp 200 (k ++ more) []).filter fun h => !memN h k

/-- the state with the live slots alone, its handles numbered from 0 on (those below keep stay) -/
def St.canon (s : St) (keep : Nat) (live : List Nat) : St :=
  let vs := live.map fun i => (i, getT s.tm i)
  let l := gather s keep (vs.flatMap fun p => hs p.2)
  ⟨vs.map fun p => (p.1, ren (idxO l) p.2), numbered 0 (l.map fun h => renRoot (idxO l) (getH s.hp h))⟩

/-! ### calls -/

abbrev Sm := List AV → List Root → (Res → R) → R
/-- a meaning comes to a result, whatever follows -/
def Det (S : Sm) : Prop := ∀ (args : List AV) (roots : List Root) (K : Res → R) (r : Res), S args roots K = some r → ∃ x, K x = some r ∧ ∀ K', S args roots K' = K' x
structure Ent where
  f : FuncId
  mv : Bool
  S : Sm
  det : Det S

def find (tab : List Ent) (f : FuncId) : Option Ent :=
  match tab with
  | [] => none
  | e :: r => cond (Nat.beq e.f f) (some e) (find r f)

def snapL (f : AV → Option (AV × List Nat)) : List AV → Option (List AV × List Nat)
  | [] => some ([], [])
  | v :: r => match f v with
    | some (v', a) => (match snapL f r with
      | some (r', b) => some (v' :: r', a ++ b)
      | none => none)
    | none => none

/-- a value as it reads now, as an immutable one; the roots that it shows -/
def St.snapF (s : St) : Nat → AV → Option (AV × List Nat)
  | 0, _ => none
  | n + 1, v => match v with
    | .ref h lo len => (match getH s.hp h with
      | .arr e l => some (.sl e (takeL l lo len) none, [h])
      | .imm e l => some (.sl e (takeL l lo len) none, [])
      | _ => none)
    | .ptr h i f => (match getH s.hp h with
      | .box cs => cond (Nat.ble f cs.length) (match snapL (s.snapF n) (cs.drop f) with
        | some (cs', a) => some (.cp cs', h :: a)
        | none => none) none
      | .arr e l => cond (Nat.ble f e.sz) (some (.cp ((cellsI e (l.getD i e.d0)).drop f), [h])) none
      | .imm e l => cond (Nat.ble f e.sz) (some (.cp ((cellsI e (l.getD i e.d0)).drop f), [])) none
      | _ => none)
    | .agg cs => (match snapL (s.snapF n) cs with | some (cs', a) => some (.agg cs', a) | none => none)
    | .tup cs => (match snapL (s.snapF n) cs with | some (cs', a) => some (.tup cs', a) | none => none)
    | .fn f cs => (match snapL (s.snapF n) cs with | some (cs', a) => some (.fn f cs', a) | none => none)
    | .any => some (.any, [])
    | .val v => some (.val v, [])
    | .ifc b => some (.ifc b, [])
    | .sl e l nn => some (.sl e l nn, [])
    | .cp cs => (match snapL (s.snapF n) cs with | some (cs', a) => some (.cp cs', a) | none => none)

/-- does a value hold immutable memory? -/
def immF : Nat → AV → Bool
  | 0, _ => true
  | n + 1, v => match v with
    | .sl .. | .cp .. => true
    | .agg cs => cs.any (immF n)
    | .tup cs => cs.any (immF n)
    | .fn _ cs => cs.any (immF n)
    | _ => false
def immR : Root → Bool
  | .box cs => cs.any (immF 6)
  | .arr e _ => !e.flat
  | .imm .. => true
  | .gone => false

/-- freezes roots; a box can't be -/
def St.freeze (s : St) : List Nat → Option St
  | [] => some s
  | h :: r => match getH s.hp h with
    | .arr e l => (s.setH h (.imm e l)).freeze r
    | .imm .. => s.freeze r
    | _ => none

def putBack : List Nat → List Root → St → Option St
  | h :: r, x :: xs, s => putBack r xs (s.setH h x)
  | [], _, s => some s
  | _, _, _ => none

/-- what a call has made becomes the caller's -/
def St.impS (s : St) (base : Nat) (roots : List Root) : St := ⟨s.tm, numbered base (roots.map (renRoot (shiftO roots.length base))) ++ s.hp⟩
def St.imp (s : St) (base : Nat) (r : AV) (roots : List Root) (K : St → AV → R) : R :=
  cond ((List.range roots.length).any fun j => hasH s.hp (base + j)) none (K (s.impS base roots) (ren (shiftO roots.length base) r))

/-- a call that borrows: the callee sees what is owned as immutable -/
def callB (e : Ent) (args : List AV) (base : Nat) (s : St) (K : St → AV → R) : R :=
  match snapL (s.snapF 6) args with
  | none => none
  | some (args', vis) => e.S args' [] fun x => cond (immF 6 x.1 || x.2.any immR)
        (match s.freeze vis with
          | some s1 => s1.imp base x.1 x.2 K
          | none => none)
        (s.imp base x.1 x.2 K)

/-- the names that a callee's roots have with the caller -/
def homes (l : List Nat) (base n : Nat) : List Nat := l ++ (List.range (n - l.length)).map (base + ·)

/-- a call that is handed what is owned, and gives it back -/
def callM (e : Ent) (args : List AV) (base : Nat) (s : St) (K : St → AV → R) : R :=
  let l := collect s.hp 200 (args.flatMap hs) []
  e.S (args.map (ren (idxO l))) (l.map fun h => renRoot (idxO l) (getH s.hp h)) fun x =>
    cond ((List.range (x.2.length - l.length)).any fun j => hasH s.hp (base + j)) none
      (match putBack (homes l base x.2.length) (x.2.map (renRoot (nthO (homes l base x.2.length)))) s with
      | some s1 => K s1 (ren (nthO (homes l base x.2.length)) x.1)
      | none => none)

def callA (P : Program) (tab : List Ent) (f : FuncId) (args : List AV) (base : Nat) (s : St) (K : St → AV → R) : R :=
  match find tab f with
  | none => none
  | some e => cond e.mv (callM e args base s K) (callB e args base s K)

/-! ### operations -/

def cellsOfV : AV → Option (List AV)
  | .agg cs => some cs
  | .tup _ | .any => none
  | .val v => cond (oneC v) (some [.val v]) none
  | v => some [v]

def elemSz (P : Program) (t : TypeId) : Option Nat := match elemT P t with
  | some et => match P.info? et with
    | some i => some i.size
    | none => none
  | none => none

/-- fills parts into cells -/
def fillC (size : Nat → Option (Nat × Nat)) : List AV → List (Nat × AV) → Option (List AV)
  | cs, [] => some cs
  | cs, (i, v) :: r => match size i, cellsOfV v with
    | some (off, n), some xs => cond (Nat.beq xs.length n && Nat.ble (off + n) cs.length) (fillC size (replAt cs off xs) r) none
    | _, _ => none

def chunk (n : Nat) : Nat → List AV → List (List AV)
  | 0, _ => []
  | k + 1, cs => cs.take n :: chunk n k (cs.drop n)

/-- takes elements out of cells -/
def takeAll (e : Ty) : St → Nat → List AV → Option (St × List e.D)
  | s, 0, _ => some (s, [])
  | s, n + 1, cs => match takeD e s cs with
    | some (s1, x, cs1) => match takeAll e s1 n cs1 with
      | some (s2, l) => some (s2, x :: l)
      | none => none
    | none => none

/-- a new root -/
def St.new (s : St) (id : Nat) (x : Root) (k : St → R) : R := cond (hasH s.hp id) none (k (s.setH id x))

/-- what append appends -/
def St.appSrc (s : St) (e : Ty) (x : AV) : Option (List e.D) :=
  match x with
  | .val (.slice none 0 0) => some []
  | x => match s.slice x with
    | some ⟨e', l'⟩ => castL e' e l'
    | none => none

/-- may a value of this type be appended: a slice -/
def srcTy (P : Program) (u : TypeId) : Bool := match P.underlying u with
  | some (.slice _) => true
  | _ => false

/-- an element type: its number, its kind, its cells and bytes -/
def elemI (P : Program) (t : TypeId) : Option (TypeId × Ty × Nat) := match elemT P t with
  | none => none
  | some et => match tyOf P et, P.info? et with
    | some e, some i => match i.zero with
      | some z => cond (Nat.beq e.sz i.size && Nat.blt 0 e.sz && Nat.blt 0 i.bytes && Nat.beq z.cells.size e.sz) (some (et, e, i.bytes)) none
      | none => none
    | _, _ => none

def appendA (P : Program) (t u : TypeId) (x y : AV) (id : Nat) (s : St) (K : St → AV → R) : R :=
  match elemI P t with
  | none => none
  | some (_, e, bytes) => cond (srcTy P u) (match s.appSrc e y with
      | none => none
      | some xs => match x with
        | .val (.slice none 0 0) => chk (fitBytes xs.length bytes) (s.new id (.arr e xs) fun s1 => K s1 (.ref id 0 none))
        | .ref h lo none => match getH s.hp h with
          | .arr e' l => match castL e' e (l.drop lo) with
            | some l' => chk (fitBytes (l'.length + xs.length) bytes) ((s.setH h .gone).new id (.arr e (l' ++ xs)) fun s1 => K s1 (.ref id 0 none))
            | none => none
          | _ => none
        | _ => none) none

def asStr : AV → Option ByteArray
  | .val (.string s) => some s
  | _ => none

def bytesStr (l : List Int) : ByteArray := l.foldl (fun r n => r.push (UInt8.ofNat n.toNat)) ByteArray.empty

def zeroV (P : Program) (t : TypeId) : Option Value := match P.info? t with
  | some i => i.zero
  | none => none
/-- the cells of a type's zero value -/
def zeroOf (P : Program) (t : TypeId) : Option (List AV) := match zeroV P t with
  | some z => cond (z.cells.toList.all oneC) (some (zeroCs z)) none
  | none => none

/-- an element type of one cell that is a pointer: its zero value -/
def elemP (P : Program) (t : TypeId) : Option AV := match elemT P t with
  | none => none
  | some et => match P.underlying et, P.info? et with
    | some (.pointer _), some i => (match i.zero with
      | some (.pointer none) => cond (Nat.beq i.size 1 && Nat.blt 0 i.bytes) (some (.val (.pointer none))) none
      | _ => none)
    | _, _ => none

def builtA (P : Program) (b : Builtin) (ts : List TypeId) (args : List AV) (id : Nat) (s : St) (K : St → AV → R) : R :=
  match b, ts, args with
  | .len, [t], [x] => (match x, P.underlying t with
    | .val (.string b), some .string => K s (.val (.int .i64 (b.size : Nat)))
    | v, some (.slice _) => (match s.len v with
      | some n => K s (.val (.int .i64 (n : Nat)))
      | none => none)
    | _, _ => none)
  | .append, [t, u], [x, y] => appendA P t u x y id s K
  | .max, _, [.val (.int k p), .val (.int _ q)] => K s (.val (.int k (cond (decide (p < q)) q p)))
  | .min, _, [.val (.int k p), .val (.int _ q)] => K s (.val (.int k (cond (decide (q < p)) q p)))
  | _, _, _ => none

/-- a bound of a slice expression -/
def St.bnd (s : St) (d : Int) : Option Operand → Int
  | some y => (match intOf? (s.ev y) with | some n => n | none => -1)
  | none => d

def opA (P : Program) (tab : List Ent) (o : Oper) (s : St) (K : St → AV → R) : R :=
  let id := 100 * ((match o.dst with | some d => d | none => 0) + 1)
  match o.op with
  | .move x | .assign x => K s (s.ev x)
  | .pick c a b => match s.ev c with
    | .val (.bool v) => match s.ev a, s.ev b with
      | .val (.bool x), .val (.bool y) => K s (.val (.bool (cond v x y)))
      | x, y => cond v (K s x) (K s y)
    | _ => none
  | .alloc t => match zeroOf P t with
    | some cs => s.new id (.box cs) fun s1 => K s1 (.ptr id 0 0)
    | none => none
  | .box _ x => match cellsOfV (s.ev x) with
    | some cs => s.new id (.box cs) fun s1 => K s1 (.ptr id 0 0)
    | none => none
  | .build t parts => match zeroOf P t, P.underlying t with
    | some z, some (.struct fs) => (match fs.toList.mapM (fun f => (P.info? f.type).map fun i => (f.offset, i.size)) with
      | some places => (match fillC (fun i => places.toArray[i]?) z (parts.toList.map fun p => (p.1, s.ev p.2)) with
        | some cs => K s (.agg cs)
        | none => none)
      | none => none)
    | _, _ => none
  | .buildSlice t n parts => match elemI P t with
    | none => match elemP P t with
      | some z => cond (Nat.ble n 16777216)
          (match fillC (fun i => some (i * 1, 1)) (List.replicate n [z]).flatten (parts.toList.map fun p => (p.1, s.ev p.2)) with
            | some cs => s.new id (.box cs) fun s2 => K s2 (.ref id 0 none)
            | none => none) none
      | none => none
    | some (et, e, _) => match zeroOf P et with
      | some z => cond (Nat.ble (n * e.sz) 16777216)
          (match fillC (fun i => some (i * e.sz, e.sz)) (List.replicate n z).flatten (parts.toList.map fun p => (p.1, s.ev p.2)) with
            | some cs => match takeAll e s n cs with
              | some (s1, l) => s1.new id (.arr e l) fun s2 => K s2 (.ref id 0 none)
              | none => none
            | none => none) none
      | none => none
  | .load t a => match ldT P t with
    | some (true, n) => (match s.cells n (s.ev a) with | some cs => K s (.agg cs) | none => none)
    | some (false, _) => (match s.cells 1 (s.ev a) with | some [v] => K s v | _ => none)
    | none => none
  | .store t a x => match cellsOfV (s.ev x), ldT P t with
    | some cs, some (_, n) => cond (Nat.beq cs.length n) (s.store cs (fun s1 => K s1 .any) (s.ev a)) none
    | _, _ => none
  | .nilCheck x => match s.ev x with
    | .cp cs => K s (.cp cs)
    | .ptr h i f => (match getH s.hp h with | .gone => none | _ => K s (.ptr h i f))
    | .fn f cs => K s (.fn f cs)
    | _ => none
  | .binOp op t x y _ => binA P t op (match y with | .const _ => true | _ => false) (s.ev x) (s.ev y) (K s)
  | .unOp op _ x => match unA op (s.ev x) with | some v => K s v | none => none
  | .convert src dst x => match s.ev x, P.underlying src, P.underlying dst with
    | .val (.int _ n), some (.int _), some (.int k) => K s (.val (.int k (k.wrap n)))
    | .val (.string b), some .string, some .string => K s (.val (.string b))
    | v, some (.slice e), some .string => (match P.underlying e, s.slice v with
      | some (.int .u8), some ⟨.int .u8, l⟩ => K s (.val (.string (bytesStr l)))
      | _, _ => none)
    | _, _, _ => none
  | .makeFunc (.func f) first caps => cond (Nat.beq first.size 0) (K s (.fn f (caps.toList.map s.ev))) none
  | .makeSlice t l c => match elemI P t with
    | none => none
    | some (et, e, bytes) => match zeroV P et, s.ev l, s.ev c with
      | some z, .val (.int .i64 n), .val (.int .i64 m) => cond (isZero e z)
            (chk (decide (n = m)) (chk (decide (0 ≤ n)) (chk (fitBytes n.toNat bytes) (s.new id (.arr e (List.replicate n.toNat e.d0)) fun s1 => K s1 (.ref id 0 none))))) none
      | _, _, _ => none
  | .slice t x lo hi mx => match mx with
    | some y => match lo, hi, intOf? (s.ev y) with
      | none, some b, some k => (match intOf? (s.ev b), elemI P t, s.len (s.ev x) with
        | some j, some (_, e, _), some _ => chk (decide (j = 0) && decide (k = 0)) (s.new id (.arr e []) fun s1 => K s1 (.ref id 0 none))
        | _, _, _ => none)
      | _, _, _ => none
    | none => match asStr (s.ev x) with
      | some b => (match P.underlying t with
        | some .string =>
          chk (decide (0 ≤ s.bnd 0 lo)) (chk (decide (s.bnd 0 lo ≤ s.bnd (b.size : Nat) hi)) (chk (decide (s.bnd (b.size : Nat) hi ≤ (b.size : Nat))) (K s (.val (.string (b.extract (s.bnd 0 lo).toNat (s.bnd (b.size : Nat) hi).toNat))))))
        | _ => none)
      | none => match s.len (s.ev x), elemSz P t with
        | some n, some sz => cond (s.szOk sz (s.ev x)) (match lo, hi with
          | none, none => match subV (s.ev x) 0 none with | some w => K s w | none => none
          | some a, none => match intOf? (s.ev a) with
            | some a => chk (decide (0 ≤ a)) (chk (decide (a ≤ (n : Nat))) (match subV (s.ev x) a.toNat none with | some w => K s w | none => none))
            | none => none
          | none, some b => match intOf? (s.ev b) with
            | some b => chk (decide (0 ≤ b)) (chk (decide (b ≤ (n : Nat))) (match subV (s.ev x) 0 (some b.toNat) with | some w => K s w | none => none))
            | none => none
          | some a, some b => match intOf? (s.ev a), intOf? (s.ev b) with
            | some a, some b => chk (decide (0 ≤ a)) (chk (decide (a ≤ b)) (chk (decide (b ≤ (n : Nat))) (match subV (s.ev x) a.toNat (some b.toNat) with | some w => K s w | none => none)))
            | _, _ => none) none
        | _, _ => none
  | .fieldAddr t x f => match fieldT P t f with
    | some fd => cond (Nat.blt 0 (szT P fd.type)) (match fldAddr s (s.ev x) fd.offset with | some v => K s v | none => none) none
    | none => none
  | .field t x f => match fieldT P t f, s.ev x with
    | some fd, .agg cs => (match ldT P fd.type with
      | some (true, n) => cond (Nat.ble (fd.offset + n) cs.length) (K s (.agg ((cs.drop fd.offset).take n))) none
      | some (false, _) => (match (cs.drop fd.offset).take 1 with | [v] => K s v | _ => none)
      | none => none)
    | _, _ => none
  | .indexAddr t x i => match elemSz P t, intOf? (s.ev i), s.len (s.ev x) with
    | some sz, some n, some len => cond (s.szOk sz (s.ev x)) (chk (decide (0 ≤ n)) (chk (decide (n < (len : Nat))) (match idxAddr s (s.ev x) n.toNat with | some v => K s v | none => none))) none
    | _, _, _ => none
  | .index t x i => match s.ev x, intOf? (s.ev i), P.underlying t with
    | .val (.string b), some n, some .string => chk (decide (0 ≤ n)) (chk (decide (n < (b.size : Nat))) (K s (.val (.int .u8 (b.data.getD n.toNat 0).toNat))))
    | _, _, _ => none
  | .extract x i => match s.ev x with
    | .tup vs => match vs[i]? with | some v => K s v | none => none
    | _ => none
  | .call c => match c.callee with
    | .builtin b => builtA P b c.argTypes.toList (c.args.toList.map s.ev) id s K
    | .value f => match s.ev f with
      | .fn g caps => callA P tab g (c.args.toList.map s.ev ++ caps) id s K
      | _ => none
    | _ => none
  | _ => none

/-- is an operation wanted? -/
def wantA (ops : Array Oper) (o : Oper) (s : St) (k : Bool → St → R) : R :=
  match o.guard with
  | none => k true s
  | some (j, want) => match ops[j]? with
    | some oj => match oj.dst with
      | some d => match getT s.tm d with
        | .val (.bool b) => cond b (k want (s.setT d (.val (.bool true)))) (k (!want) (s.setT d (.val (.bool false))))
        | .tup [] => k false s
        | _ => none
      | none => none
    | none => none

/-- a value into a slot, of which there are nt -/
def St.putK (nt : Nat) (s : St) (d : Option Nat) (v : AV) (k : St → R) : R := match d with
  | some i => cond (Nat.blt i nt) (k (s.setT i v)) none
  | none => k s

def oneA (P : Program) (tab : List Ent) (nt : Nat) (ops : Array Oper) (o : Oper) (s : St) (k : St → R) : R :=
  wantA ops o s fun w s1 => cond w (opA P tab o s1 fun s2 v => s2.putK nt o.dst v k) (s1.putK nt o.dst (.tup []) k)

def opsA (P : Program) (tab : List Ent) (nt : Nat) (ops : Array Oper) : List Oper → St → (St → R) → R
  | [], s, k => k s
  | o :: r, s, k => oneA P tab nt ops o s fun s1 => opsA P tab nt ops r s1 k

/-! ### a region that draws its order -/

/-- the handles that collecting looks at -/
def looked (hp : List (Nat × Root)) : Nat → List Nat → List Nat → List Nat
  | 0, _, _ => []
  | _, [], _ => []
  | n + 1, h :: r, acc => cond (memN h acc) (looked hp n r acc) (h :: match getH hp h with
      | .gone => looked hp n r acc
      | x => looked hp n (r ++ rootHs x) (acc ++ [h]))

/-- the handles that reading a value looks at -/
def rdF (hp : List (Nat × Root)) : Nat → AV → List Nat
  | 0, _ => []
  | n + 1, v => match v with
    | .ref h _ _ => [h]
    | .ptr h _ f => h :: match getH hp h with
      | .box cs => (cs.drop f).flatMap (rdF hp n)
      | _ => []
    | .agg cs => cs.flatMap (rdF hp n)
    | .tup cs => cs.flatMap (rdF hp n)
    | .fn _ cs => cs.flatMap (rdF hp n)
    | .cp cs => cs.flatMap (rdF hp n)
    | _ => []

/-- the roots on which an operation depends -/
def readsA (P : Program) (o : Oper) (s : St) : List Nat :=
  match o.op with
  | .load _ a => hs (s.ev a)
  | .store _ a x => hs (s.ev a) ++ hs (s.ev x)
  | .indexAddr _ x _ | .convert _ _ x | .slice _ x _ _ _ | .nilCheck x | .fieldAddr _ x _ => hs (s.ev x)
  | .buildSlice _ _ ps => ps.toList.flatMap fun p => hs (s.ev p.2)
  | .call c => match c.callee with
    | .builtin _ => c.args.toList.flatMap fun x => hs (s.ev x)
    | .value f => (match s.ev f with
      | .fn g caps => looked s.hp 200 ((c.args.toList.map s.ev ++ caps).flatMap hs) [] ++ (c.args.toList.map s.ev ++ caps).flatMap (rdF s.hp 6)
      | _ => [])
    | _ => []
  | _ => []

/-- the roots that have been written between two states, the second of which has been made of the first -/
def wroteA (s s' : St) : List Nat := (s'.hp.take (s'.hp.length - s.hp.length)).map (·.1)

/-- the operations of which an operation is surely behind (bit by bit), for each -/
def bitE (acc : List Nat) (b : Nat) (e : Edge) : Nat := match e.ground with
  | .textOnly _ | .gcOnly _ => b
  | _ => b ||| (2 ^ e.on) ||| acc.getD e.on 0
def beforeA (ops : List Oper) (acc : List Nat) : List Nat :=
  match ops with
  | [] => acc
  | o :: r => beforeA r (acc ++ [o.after.toList.foldl (bitE acc) 0])

def tmpsOf (o : Oper) : List Nat := o.op.operands.toList.filterMap fun x => match x with | .tmp t => some t | _ => none

def dstOf (ops : Array Oper) (j : Nat) : List Nat := match ops[j]? with | some o => o.dst.toList | none => []

/-- the slots that an operation reads -/
def slotsR (ops : Array Oper) (o : Oper) : List Nat := tmpsOf o ++ (match o.guard with | some (j, _) => dstOf ops j | none => [])

def meetN (a b : List Nat) : Bool := a.any fun x => memN x b

structure Foot where
  dst : List Nat
  slots : List Nat
  reads : List Nat
  writes : List Nat

def apart (a b : Foot) : Bool :=
  !(meetN a.dst b.dst || meetN a.dst b.slots || meetN b.dst a.slots || meetN a.writes b.writes || meetN a.writes b.reads || meetN b.writes a.reads)

/-- every two operations, of which neither is surely behind the other, do not touch the same -/
def freeOf (i : Nat) (f : Foot) : List Nat → List Foot → Bool
  | b :: bs, g :: gs => (b.testBit i || apart f g) && freeOf i f bs gs
  | _, _ => true
def allFree (i : Nat) : List Nat → List Foot → Bool
  | _ :: bs, f :: fs => freeOf i f bs fs && allFree (i + 1) bs fs
  | _, _ => true

def oneD (P : Program) (tab : List Ent) (nt : Nat) (ops : Array Oper) (o : Oper) (s : St) (k : Foot → St → R) : R :=
  wantA ops o s fun w s1 => cond w (opA P tab o s1 fun s2 v => s2.putK nt o.dst v (k ⟨o.dst.toList, slotsR ops o, readsA P o s1, wroteA s1 s2⟩)) (s1.putK nt o.dst (.tup []) (k ⟨o.dst.toList, slotsR ops o, [], []⟩))

def opsD (P : Program) (tab : List Ent) (nt : Nat) (ops : Array Oper) : List Oper → List Foot → St → (List Foot → St → R) → R
  | [], acc, s, k => k acc s
  | o :: r, acc, s, k => oneD P tab nt ops o s fun f s1 => opsD P tab nt ops r (acc ++ [f]) s1 k

/-- do the edges that bind lead to what is earlier in an order? -/
def edgesFor (md : Region.Mode) (n : Nat) (pos : Nat → Nat) (i : Nat) : List Oper → Bool
  | [] => true
  | o :: r => (o.after.toList.all fun e => !Region.binds md e || (Nat.blt e.on n && Nat.blt (pos e.on) (pos i))) && edgesFor md n pos (i + 1) r
def posIn (l : List Nat) (i : Nat) : Nat := match idxO l i with | some k => k | none => 0
def edgesOk (ops : Array Oper) : Bool :=
  edgesFor .text ops.size id 0 ops.toList && (!Region.departs ops || edgesFor .gc ops.size (posIn (Region.linearise .gc ops 0)) 0 ops.toList)

def drawA (P : Program) (tab : List Ent) (nt : Nat) (ops : Array Oper) (s : St) (k : St → R) : R :=
  cond (edgesOk ops) (opsD P tab nt ops ops.toList [] s fun fs s1 => cond (allFree 0 (beforeA ops.toList []) fs) (k s1) none) none

end Go.AI
end

section
/- SOUNDNESS, first part: what the abstract values stand for in the model's memory, and that this stays under changes elsewhere. -/
namespace Go.AI

def All2 {α β : Type} (R : α → β → Prop) : List α → List β → Prop
  | [], [] => True
  | a :: as, b :: bs => R a b ∧ All2 R as bs
  | _, _ => False

section
variable {α β : Type} {R R' : α → β → Prop}
theorem All2.length {l : List α} {m : List β} (h : All2 R l m) : l.length = m.length := by
  induction l generalizing m with
  | nil => cases m <;> simp_all [All2]
  | cons a l ih => cases m with
    | nil => simp [All2] at h
    | cons b m => simp [All2] at h; simp [ih h.2]
theorem All2.mono (hr : ∀ a b, R a b → R' a b) : ∀ {l : List α} {m : List β}, All2 R l m → All2 R' l m
  | [], [], _ => trivial
  | _ :: _, _ :: _, h => ⟨hr _ _ h.1, All2.mono hr h.2⟩
theorem All2.append : ∀ {l : List α} {m : List β} {l' : List α} {m' : List β}, All2 R l m → All2 R l' m' → All2 R (l ++ l') (m ++ m')
  | [], [], _, _, _, h' => h'
  | _ :: _, _ :: _, _, _, h, h' => ⟨h.1, All2.append h.2 h'⟩
theorem All2.drop : ∀ (n : Nat) {l : List α} {m : List β}, All2 R l m → All2 R (l.drop n) (m.drop n)
  | 0, _, _, h => h
  | n + 1, [], [], _ => by simp [All2]
  | n + 1, _ :: _, _ :: _, h => by simpa using All2.drop n h.2
theorem All2.take : ∀ (n : Nat) {l : List α} {m : List β}, All2 R l m → All2 R (l.take n) (m.take n)
  | 0, _, _, _ => by simp [All2]
  | n + 1, [], [], _ => by simp [All2]
  | n + 1, _ :: _, _ :: _, h => by simp only [List.take_succ_cons, All2]; exact ⟨h.1, All2.take n h.2⟩
theorem All2.get : ∀ {l : List α} {m : List β} (i : Nat) (d : α) (e : β), All2 R l m → i < l.length → R (l.getD i d) (m.getD i e)
  | _ :: _, _ :: _, 0, _, _, h, _ => by simpa using h.1
  | _ :: l, _ :: m, i + 1, d, e, h, hi => by
    have := All2.get i d e h.2 (by simpa using hi)
    simpa using this
theorem All2.set : ∀ {l : List α} {m : List β} (i : Nat) {x : α} {y : β}, All2 R l m → R x y → All2 R (l.set i x) (m.set i y)
  | [], [], _, _, _, _, _ => by simp [All2]
  | _ :: _, _ :: _, 0, _, _, h, hx => ⟨hx, h.2⟩
  | _ :: _, _ :: _, i + 1, _, _, h, hx => ⟨h.1, All2.set i h.2 hx⟩
theorem All2.split : ∀ {l l' : List α} {m : List β}, All2 R (l ++ l') m → ∃ m1 m2, m = m1 ++ m2 ∧ All2 R l m1 ∧ All2 R l' m2
  | [], _, m, h => ⟨[], m, rfl, trivial, h⟩
  | _ :: _, _, b :: _, h => by
    obtain ⟨m1, m2, rfl, h1, h2⟩ := All2.split h.2
    exact ⟨b :: m1, m2, rfl, ⟨h.1, h1⟩, h2⟩
theorem All2.map {γ : Type} {f : γ → α} {l : List γ} {m : List β} (h : All2 (fun c b => R (f c) b) l m) : All2 R (l.map f) m := by
  induction l generalizing m with
  | nil => cases m <;> simp_all [All2]
  | cons a l ih => cases m with
    | nil => simp [All2] at h
    | cons b m => exact ⟨h.1, ih h.2⟩
theorem All2.replicate {a : α} {b : β} (h : R a b) : ∀ n, All2 R (List.replicate n a) (List.replicate n b)
  | 0 => trivial
  | n + 1 => ⟨h, All2.replicate h n⟩
end

/-- the cells of block b from o on begin with these -/
def At (w : World) (b o : Nat) (vs : List Value) : Prop :=
  ∃ cs T fz, w.heap[b]? = some (.cells cs T fz) ∧ ∃ pre post, cs.toList = pre ++ vs ++ post ∧ pre.length = o

theorem At.cell {w : World} {b o : Nat} {vs : List Value} (h : At w b o vs) (j : Nat) (hj : j < vs.length) : w.cell? ⟨b, o + j, none⟩ = some (vs.getD j undef) := by
  obtain ⟨cs, T, fz, hg, pre, post, hcs, rfl⟩ := h
  rw [cell_of_row w b _ cs T fz hg]
  have : cs[pre.length + j]? = cs.toList[pre.length + j]? := by simp
  rw [this, hcs, List.append_assoc, List.getElem?_append_right (by omega)]
  rw [show pre.length + j - pre.length = j by omega, List.getElem?_append_left hj]
  simp [List.getD_eq_getElem?_getD, List.getElem?_eq_getElem hj]
theorem At.mono {w w' : World} {b o : Nat} {vs : List Value} (h : At w b o vs) (hb : w'.heap[b]? = w.heap[b]?) : At w' b o vs := by
  obtain ⟨cs, T, fz, hg, r⟩ := h
  exact ⟨cs, T, fz, hb.trans hg, r⟩
theorem At.part {w : World} {b o : Nat} {l m r : List Value} (h : At w b o (l ++ m ++ r)) : At w b (o + l.length) m := by
  obtain ⟨cs, T, fz, hg, pre, post, hcs, rfl⟩ := h
  exact ⟨cs, T, fz, hg, pre ++ l, r ++ post, by simp [hcs], by simp⟩
theorem At.lt {w : World} {b o : Nat} {vs : List Value} (h : At w b o vs) : b < w.heap.size := by
  obtain ⟨cs, T, fz, hg, _⟩ := h
  exact (Array.getElem?_eq_some_iff.1 hg).1

/-- a slice's parts hold a list -/
def repS {α : Type} (w : World) (I : Nat → Prop) (R : α → List Value → Prop) (l : List α) (a : Option Addr) (n c : Nat) : Prop :=
  n = l.length ∧ n ≤ c ∧ match a with
    | none => l = [] ∧ c = 0
    | some ad => l = [] ∨ (ad.spot = none ∧ I ad.block ∧ ∃ vss : List (List Value), At w ad.block ad.off vss.flatten ∧ All2 R l vss)

/-- cells hold a datum; what it leads to lies in the blocks I -/
def repT (w : World) (I : Nat → Prop) : (t : Ty) → t.D → List Value → Prop
  | .unit, _, cs => cs = []
  | .int k, n, cs => cs = [.int k n]
  | .bool, b, cs => cs = [.bool b]
  | .str, s, cs => cs = [.string s]
  | .sl e, l, cs => ∃ a n c, cs = [.slice a n c] ∧ repS w I (repT w I e) l a n c
  | .pair a b, x, cs => ∃ c1 c2, cs = c1 ++ c2 ∧ repT w I a x.1 c1 ∧ repT w I b x.2 c2

theorem repT_len {w : World} {I : Nat → Prop} : ∀ {t : Ty} {x : t.D} {cs : List Value}, repT w I t x cs → cs.length = t.sz
  | .unit, _, _, h => by simp [repT] at h; simp [h, Ty.sz]
  | .int _, _, _, h => by simp [repT] at h; simp [h, Ty.sz]
  | .bool, _, _, h => by simp [repT] at h; simp [h, Ty.sz]
  | .str, _, _, h => by simp [repT] at h; simp [h, Ty.sz]
  | .sl e, _, _, h => by obtain ⟨a, n, c, rfl, _⟩ := h; simp [Ty.sz]
  | .pair a b, _, _, h => by
    obtain ⟨c1, c2, rfl, h1, h2⟩ := h
    simp [Ty.sz, repT_len h1, repT_len h2]
theorem repT_one {w : World} {I : Nat → Prop} : ∀ {t : Ty} {x : t.D} {cs : List Value}, repT w I t x cs → ∀ v ∈ cs, v.oneCell' = true
  | .unit, _, _, h => by simp [repT] at h; simp [h]
  | .int _, _, _, h => by simp [repT] at h; simp [h, Value.oneCell']
  | .bool, _, _, h => by simp [repT] at h; simp [h, Value.oneCell']
  | .str, _, _, h => by simp [repT] at h; simp [h, Value.oneCell']
  | .sl e, _, _, h => by obtain ⟨a, n, c, rfl, _⟩ := h; simp [Value.oneCell']
  | .pair a b, _, _, h => by
    obtain ⟨c1, c2, rfl, h1, h2⟩ := h
    intro v hv
    rcases List.mem_append.1 hv with hv | hv
    · exact repT_one h1 v hv
    · exact repT_one h2 v hv

theorem repS_mono {α : Type} {w w' : World} {I I' : Nat → Prop} {R R' : α → List Value → Prop} {l : List α} {a : Option Addr} {n c : Nat}
    (h : repS w I R l a n c) (hw : ∀ b, I b → w'.heap[b]? = w.heap[b]?) (hI : ∀ b, I b → I' b) (hR : ∀ x y, R x y → R' x y) : repS w' I' R' l a n c := by
  obtain ⟨h1, h2, h3⟩ := h
  refine ⟨h1, h2, ?_⟩
  cases a with
  | none => exact h3
  | some ad =>
    rcases h3 with h3 | ⟨hs, hi, vss, hat, hall⟩
    · exact .inl h3
    · exact .inr ⟨hs, hI _ hi, vss, hat.mono (hw _ hi), hall.mono hR⟩
theorem repT_mono {w w' : World} {I I' : Nat → Prop} (hw : ∀ b, I b → w'.heap[b]? = w.heap[b]?) (hI : ∀ b, I b → I' b) :
    ∀ {t : Ty} {x : t.D} {cs : List Value}, repT w I t x cs → repT w' I' t x cs
  | .unit, _, _, h => h
  | .int _, _, _, h => h
  | .bool, _, _, h => h
  | .str, _, _, h => h
  | .sl e, _, _, h => by
    obtain ⟨a, n, c, rfl, hs⟩ := h
    exact ⟨a, n, c, rfl, repS_mono hs hw hI (fun x y hx => repT_mono hw hI hx)⟩
  | .pair a b, _, _, h => by
    obtain ⟨c1, c2, rfl, h1, h2⟩ := h
    exact ⟨c1, c2, rfl, repT_mono hw hI h1, repT_mono hw hI h2⟩

theorem castL_eq {a b : Ty} {l : List a.D} {l' : List b.D} (h : castL a b l = some l') : ∃ e : a = b, e ▸ l = l' := by
  unfold castL at h
  split at h
  · rename_i e; exact ⟨e, by simpa using h⟩
  · cases h

theorem hasH_of_getH : ∀ {hp : List (Nat × Root)} {h : Nat}, getH hp h ≠ .gone → hasH hp h = true
  | [], _, g => by simp [getH] at g
  | (j, x) :: r, h, g => by
    by_cases e : Nat.beq j h = true
    · simp [hasH, e]
    · simp only [getH, e, cond_false] at g
      have := hasH_of_getH (hp := r) (h := h) (by simpa [e] using g)
      simp [hasH, this]

structure Env where
  w : World
  m : Nat → Option (Nat × Nat)
  hp : List (Nat × Root)
  I : Nat → Prop

def bsz (w : World) (b : Nat) : Nat := match w.heap[b]? with | some (.cells cs _ _) => cs.size | _ => 0

/-- a slice of an array root of n elements: it is empty and has no room, or it lies in the root's block -/
def refR (w : World) (p : Option (Nat × Nat)) (e : Ty) (n lo : Nat) (len : Option Nat) (x : Value) : Prop :=
  lo + lenL n lo len ≤ n ∧
  ((lenL n lo len = 0 ∧ ∃ a : Option Addr, x = .slice a 0 0) ∨
   (∃ b o c, p = some (b, o) ∧ x = .slice (some ⟨b, o + lo * e.sz, none⟩) (lenL n lo len) c ∧ lenL n lo len ≤ c ∧ o + (lo + c) * e.sz ≤ bsz w b))

mutual
/-- what an abstract value stands for -/
def relV (E : Env) : AV → Value → Prop
  | .any, _ => True
  | .val v, x => x = v
  | .agg cs, x => ∃ vs : Array Value, x = .agg vs ∧ relC E cs vs.toList
  | .tup cs, x => ∃ vs : Array Value, x = .tuple vs ∧ relL E cs vs.toList
  | .fn f cs, x => ∃ vs : Array Value, x = .func (.func f) #[] vs ∧ relL E cs vs.toList
  | .ifc b, x => (b = true → x = .nilIface) ∧ (b = false → ∃ t v, x = .iface t v)
  | .sl e l nn, x => ∃ a n c, x = .slice a n c ∧ repS E.w E.I (repT E.w E.I e) l a n c ∧ (nn = some true → a.isSome = true) ∧ (nn = some false → a = none)
  | .cp cs, x => ∃ b o vs, x = .pointer (some ⟨b, o, none⟩) ∧ E.I b ∧ At E.w b o vs ∧ relC E cs vs
  | .ref h lo len, x => match getH E.hp h with
    | .arr e l | .imm e l => refR E.w (E.m h) e l.length lo len x
    | .box cs => refR E.w (E.m h) .bool cs.length lo len x
    | .gone => hasH E.hp h = true ∧ x.oneCell' = true
  | .ptr h i f, x => match getH E.hp h with
    | .box _ => ∃ b, E.m h = some (b, 0) ∧ x = .pointer (some ⟨b, f, none⟩)
    | .arr e l | .imm e l => ∃ b o, E.m h = some (b, o) ∧ x = .pointer (some ⟨b, o + i * e.sz + f, none⟩) ∧ i < l.length
    | .gone => hasH E.hp h = true ∧ x.oneCell' = true
/-- values one by one -/
def relL (E : Env) : List AV → List Value → Prop
  | [], [] => True
  | c :: cs, v :: vs => relV E c v ∧ relL E cs vs
  | _, _ => False
/-- cells one by one -/
def relC (E : Env) : List AV → List Value → Prop
  | [], [] => True
  | c :: cs, v :: vs => v.oneCell' = true ∧ relV E c v ∧ relC E cs vs
  | _, _ => False
end

theorem relL_iff {E : Env} : ∀ {cs : List AV} {vs : List Value}, relL E cs vs ↔ All2 (relV E) cs vs
  | [], [] => by simp [relL, All2]
  | [], _ :: _ => by simp [relL, All2]
  | _ :: _, [] => by simp [relL, All2]
  | _ :: _, _ :: _ => by simp [relL, All2, relL_iff]
theorem relC_iff {E : Env} : ∀ {cs : List AV} {vs : List Value}, relC E cs vs ↔ All2 (fun c v => v.oneCell' = true ∧ relV E c v) cs vs
  | [], [] => by simp [relC, All2]
  | [], _ :: _ => by simp [relC, All2]
  | _ :: _, [] => by simp [relC, All2]
  | _ :: _, _ :: _ => by simp [relC, All2, relC_iff, and_assoc]

/-- two roots of one shape: what refers to the one can refer to the other -/
def fits : Root → Root → Prop
  | _, .gone => True
  | .box a, .box b => a.length = b.length
  | .arr e l, .arr e' l' | .arr e l, .imm e' l' | .imm e l, .imm e' l' => e = e' ∧ l.length = l'.length
  | _, _ => False

/-- what an environment's values stand for, they stand for in another -/
structure Grows (E E' : Env) : Prop where
  imm : ∀ b, E.I b → E'.w.heap[b]? = E.w.heap[b]?
  sub : ∀ b, E.I b → E'.I b
  has : ∀ h, hasH E.hp h = true → hasH E'.hp h = true
  fit : ∀ h, hasH E.hp h = true → fits (getH E.hp h) (getH E'.hp h)
  map : ∀ h, hasH E.hp h = true → getH E'.hp h ≠ .gone → E'.m h = E.m h
  size : ∀ b, bsz E.w b ≤ bsz E'.w b

end Go.AI
end

section
/- SOUNDNESS, second part: the relation between an abstract state and the model's. -/
namespace Go.AI

theorem refR_one {w : World} {p : Option (Nat × Nat)} {e : Ty} {n lo : Nat} {len : Option Nat} {x : Value} (h : refR w p e n lo len x) : x.oneCell' = true := by
  rcases h.2 with ⟨_, a, rfl, _⟩ | ⟨b, o, c, _, rfl, _⟩ <;> rfl

mutual
theorem relV_mono {E E' : Env} (g : Grows E E') : ∀ {v : AV} {x : Value}, relV E v x → relV E' v x
  | .any, _, _ => by simp [relV]
  | .val v, x, h => by simpa [relV] using h
  | .agg cs, x, h => by
    simp only [relV] at h ⊢
    obtain ⟨vs, rfl, hc⟩ := h
    exact ⟨vs, rfl, relC_mono g hc⟩
  | .tup cs, x, h => by
    simp only [relV] at h ⊢
    obtain ⟨vs, rfl, hc⟩ := h
    exact ⟨vs, rfl, relL_mono g hc⟩
  | .fn f cs, x, h => by
    simp only [relV] at h ⊢
    obtain ⟨vs, rfl, hc⟩ := h
    exact ⟨vs, rfl, relL_mono g hc⟩
  | .ifc b, x, h => by simpa [relV] using h
  | .sl e l nn, x, h => by
    simp only [relV] at h ⊢
    obtain ⟨a, n, c, rfl, hs, h1, h2⟩ := h
    exact ⟨a, n, c, rfl, repS_mono hs g.imm g.sub (fun _ _ hx => repT_mono g.imm g.sub hx), h1, h2⟩
  | .cp cs, x, h => by
    simp only [relV] at h ⊢
    obtain ⟨b, o, vs, rfl, hI, hat, hc⟩ := h
    exact ⟨b, o, vs, rfl, g.sub _ hI, hat.mono (g.imm _ hI), relC_mono g hc⟩
  | .ref h lo len, x, hr => by
    simp only [relV] at hr ⊢
    have hk : hasH E.hp h = true := by
      cases ho : getH E.hp h with
      | gone => rw [ho] at hr; exact hr.1
      | box cs => exact hasH_of_getH (by rw [ho]; simp)
      | arr e l => exact hasH_of_getH (by rw [ho]; simp)
      | imm e l => exact hasH_of_getH (by rw [ho]; simp)
    have hf := g.fit h hk
    have hm := g.map h hk
    have hh := g.has h hk
    have hone : x.oneCell' = true := by
      cases ho : getH E.hp h with
      | gone => rw [ho] at hr; exact hr.2
      | box cs => rw [ho] at hr; exact refR_one hr
      | arr e l => rw [ho] at hr; exact refR_one hr
      | imm e l => rw [ho] at hr; exact refR_one hr
    have go : ∀ (e : Ty) (l : List e.D) (e' : Ty) (l' : List e'.D), e = e' → l.length = l'.length → E'.m h = E.m h →
        refR E.w (E.m h) e l.length lo len x → refR E'.w (E'.m h) e' l'.length lo len x := by
      intro e l e' l' he hl hm h0
      subst he
      rw [hm, ← hl]
      refine ⟨h0.1, ?_⟩
      rcases h0.2 with h1 | ⟨b, o, c, h1, h2, h3, h4⟩
      · exact .inl h1
      · exact .inr ⟨b, o, c, h1, h2, h3, Nat.le_trans h4 (g.size _)⟩
    cases hn : getH E'.hp h with
    | gone => exact ⟨hh, hone⟩
    | box cs' =>
      rw [hn] at hf hm
      cases ho : getH E.hp h with
      | box cs =>
        rw [ho] at hf hr
        have hl : cs.length = cs'.length := hf
        have h0 : refR E.w (E.m h) .bool cs.length lo len x := hr
        show refR E'.w (E'.m h) .bool cs'.length lo len x
        rw [hm (by simp), ← hl]
        refine ⟨h0.1, ?_⟩
        rcases h0.2 with h1 | ⟨b, o, c, h1, h2, h3, h4⟩
        · exact .inl h1
        · exact .inr ⟨b, o, c, h1, h2, h3, Nat.le_trans h4 (g.size _)⟩
      | gone => rw [ho] at hf; exact hf.elim
      | arr e l => rw [ho] at hf; exact hf.elim
      | imm e l => rw [ho] at hf; exact hf.elim
    | arr e' l' =>
      rw [hn] at hf hm
      cases ho : getH E.hp h with
      | arr e l => rw [ho] at hf hr; exact go e l e' l' hf.1 hf.2 (hm (by simp)) hr
      | gone => rw [ho] at hf; exact hf.elim
      | box cs => rw [ho] at hf; exact hf.elim
      | imm e l => rw [ho] at hf; exact hf.elim
    | imm e' l' =>
      rw [hn] at hf hm
      cases ho : getH E.hp h with
      | arr e l => rw [ho] at hf hr; exact go e l e' l' hf.1 hf.2 (hm (by simp)) hr
      | gone => rw [ho] at hf; exact hf.elim
      | box cs => rw [ho] at hf; exact hf.elim
      | imm e l => rw [ho] at hf hr; exact go e l e' l' hf.1 hf.2 (hm (by simp)) hr
  | .ptr h i f, x, hr => by
    simp only [relV] at hr ⊢
    have hk : hasH E.hp h = true := by
      cases ho : getH E.hp h with
      | gone => rw [ho] at hr; exact hr.1
      | box cs => exact hasH_of_getH (by rw [ho]; simp)
      | arr e l => exact hasH_of_getH (by rw [ho]; simp)
      | imm e l => exact hasH_of_getH (by rw [ho]; simp)
    have hf := g.fit h hk
    have hm := g.map h hk
    have hh := g.has h hk
    have hone : x.oneCell' = true := by
      cases ho : getH E.hp h with
      | gone => rw [ho] at hr; exact hr.2
      | box cs => rw [ho] at hr; obtain ⟨b, _, rfl⟩ := hr; rfl
      | arr e l => rw [ho] at hr; obtain ⟨b, o, _, rfl, _⟩ := hr; rfl
      | imm e l => rw [ho] at hr; obtain ⟨b, o, _, rfl, _⟩ := hr; rfl
    have go : ∀ (e : Ty) (l : List e.D) (e' : Ty) (l' : List e'.D), e = e' → l.length = l'.length → E'.m h = E.m h →
        (∃ b o, E.m h = some (b, o) ∧ x = .pointer (some ⟨b, o + i * e.sz + f, none⟩) ∧ i < l.length) →
        (∃ b o, E'.m h = some (b, o) ∧ x = .pointer (some ⟨b, o + i * e'.sz + f, none⟩) ∧ i < l'.length) := by
      intro e l e' l' he hl hm h0
      subst he
      obtain ⟨b, o, h1, h2, h3⟩ := h0
      exact ⟨b, o, hm.trans h1, h2, by rw [← hl]; exact h3⟩
    cases hn : getH E'.hp h with
    | gone => exact ⟨hh, hone⟩
    | box cs' =>
      rw [hn] at hf hm
      cases ho : getH E.hp h with
      | box cs =>
        rw [ho] at hf hr
        obtain ⟨b, h1, h2⟩ := hr
        exact ⟨b, (hm (by simp)).trans h1, h2⟩
      | gone => rw [ho] at hf; exact hf.elim
      | arr e l => rw [ho] at hf; exact hf.elim
      | imm e l => rw [ho] at hf; exact hf.elim
    | arr e' l' =>
      rw [hn] at hf hm
      cases ho : getH E.hp h with
      | arr e l => rw [ho] at hf hr; exact go e l e' l' hf.1 hf.2 (hm (by simp)) hr
      | gone => rw [ho] at hf; exact hf.elim
      | box cs => rw [ho] at hf; exact hf.elim
      | imm e l => rw [ho] at hf; exact hf.elim
    | imm e' l' =>
      rw [hn] at hf hm
      cases ho : getH E.hp h with
      | arr e l => rw [ho] at hf hr; exact go e l e' l' hf.1 hf.2 (hm (by simp)) hr
      | gone => rw [ho] at hf; exact hf.elim
      | box cs => rw [ho] at hf; exact hf.elim
      | imm e l => rw [ho] at hf hr; exact go e l e' l' hf.1 hf.2 (hm (by simp)) hr
theorem relL_mono {E E' : Env} (g : Grows E E') : ∀ {cs : List AV} {vs : List Value}, relL E cs vs → relL E' cs vs
  | [], [], _ => by simp [relL]
  | c :: cs, v :: vs, h => by
    simp only [relL] at h ⊢
    exact ⟨relV_mono g h.1, relL_mono g h.2⟩
theorem relC_mono {E E' : Env} (g : Grows E E') : ∀ {cs : List AV} {vs : List Value}, relC E cs vs → relC E' cs vs
  | [], [], _ => by simp [relC]
  | c :: cs, v :: vs, h => by
    simp only [relC] at h ⊢
    exact ⟨h.1, relV_mono g h.2.1, relC_mono g h.2.2⟩
end

theorem fits_refl : ∀ (r : Root), fits r r
  | .gone => trivial
  | .box _ => rfl
  | .arr _ _ => ⟨rfl, rfl⟩
  | .imm _ _ => ⟨rfl, rfl⟩
theorem fits_trans : ∀ {a b c : Root}, fits a b → fits b c → fits a c
  | a, b, .gone, _, _ => by cases a <;> trivial
  | .box _, .box _, .box _, h, h' => Eq.trans (α := Nat) h h'
  | .arr _ _, .arr _ _, .arr _ _, h, h' => ⟨h.1.trans h'.1, h.2.trans h'.2⟩
  | .arr _ _, .arr _ _, .imm _ _, h, h' => ⟨h.1.trans h'.1, h.2.trans h'.2⟩
  | .arr _ _, .imm _ _, .imm _ _, h, h' => ⟨h.1.trans h'.1, h.2.trans h'.2⟩
  | .imm _ _, .imm _ _, .imm _ _, h, h' => ⟨h.1.trans h'.1, h.2.trans h'.2⟩
  | .gone, .gone, .box _, _, h' => h'.elim
  | .gone, .gone, .arr _ _, _, h' => h'.elim
  | .gone, .gone, .imm _ _, _, h' => h'.elim
  | .gone, .box _, _, h, _ => h.elim
  | .gone, .arr _ _, _, h, _ => h.elim
  | .gone, .imm _ _, _, h, _ => h.elim
  | .box _, .gone, .box _, _, h' => h'.elim
  | .box _, .gone, .arr _ _, _, h' => h'.elim
  | .box _, .gone, .imm _ _, _, h' => h'.elim
  | .arr _ _, .gone, .box _, _, h' => h'.elim
  | .arr _ _, .gone, .arr _ _, _, h' => h'.elim
  | .arr _ _, .gone, .imm _ _, _, h' => h'.elim
  | .imm _ _, .gone, .box _, _, h' => h'.elim
  | .imm _ _, .gone, .arr _ _, _, h' => h'.elim
  | .imm _ _, .gone, .imm _ _, _, h' => h'.elim
  | .box _, .box _, .arr _ _, _, h' => h'.elim
  | .box _, .box _, .imm _ _, _, h' => h'.elim
  | .box _, .arr _ _, _, h, _ => h.elim
  | .box _, .imm _ _, _, h, _ => h.elim
  | .arr _ _, .box _, _, h, _ => h.elim
  | .imm _ _, .box _, _, h, _ => h.elim
  | .imm _ _, .arr _ _, _, h, _ => h.elim
  | .arr _ _, .arr _ _, .box _, _, h' => h'.elim
  | .arr _ _, .imm _ _, .box _, _, h' => h'.elim
  | .arr _ _, .imm _ _, .arr _ _, _, h' => h'.elim
  | .imm _ _, .imm _ _, .box _, _, h' => h'.elim
  | .imm _ _, .imm _ _, .arr _ _, _, h' => h'.elim

theorem Grows.refl (E : Env) : Grows E E := ⟨fun _ _ => rfl, fun _ h => h, fun _ h => h, fun _ _ => fits_refl _, fun _ _ _ => rfl, fun _ => Nat.le_refl _⟩

def owned : Root → Bool
  | .box _ | .arr _ _ => true
  | _ => false

/-- the cells of block b from o on begin with these; the block may be written -/
def OwnAt (w : World) (b o : Nat) (vs : List Value) : Prop :=
  ∃ cs T, w.heap[b]? = some (.cells cs T (0, 0)) ∧ ∃ pre post, cs.toList = pre ++ vs ++ post ∧ pre.length = o
theorem OwnAt.at {w : World} {b o : Nat} {vs : List Value} (h : OwnAt w b o vs) : At w b o vs := by
  obtain ⟨cs, T, hg, r⟩ := h; exact ⟨cs, T, _, hg, r⟩
theorem OwnAt.mono {w w' : World} {b o : Nat} {vs : List Value} (h : OwnAt w b o vs) (hb : w'.heap[b]? = w.heap[b]?) : OwnAt w' b o vs := by
  obtain ⟨cs, T, hg, r⟩ := h
  exact ⟨cs, T, hb.trans hg, r⟩

def arrOk (E : Env) (h : Nat) (e : Ty) (l : List e.D) (own : Bool) : Prop :=
  0 < e.sz ∧ ((E.m h = none ∧ l = []) ∨ ∃ b o vss, E.m h = some (b, o) ∧ (if own then ¬ E.I b ∧ OwnAt E.w b o vss.flatten else E.I b ∧ At E.w b o vss.flatten) ∧ All2 (repT E.w E.I e) l vss)

def rootOk (E : Env) (h : Nat) : Root → Prop
  | .gone => True
  | .box cs => ∃ b vs T, E.m h = some (b, 0) ∧ ¬ E.I b ∧ E.w.heap[b]? = some (.cells vs T (0, 0)) ∧ relC E cs vs.toList
  | .arr e l => arrOk E h e l true
  | .imm e l => arrOk E h e l false

/-- the block is one of an owned root -/
def Own (E : Env) (b : Nat) : Prop := ∃ h o, owned (getH E.hp h) = true ∧ E.m h = some (b, o)

structure HeapRel (E : Env) : Prop where
  root : ∀ h, rootOk E h (getH E.hp h)
  inj : ∀ h h' b o o', owned (getH E.hp h) = true → owned (getH E.hp h') = true → E.m h = some (b, o) → E.m h' = some (b, o') → h = h'
  lt : ∀ b, E.I b → b < E.w.heap.size

theorem HeapRel.own_lt {E : Env} (H : HeapRel E) {b : Nat} (h : Own E b) : b < E.w.heap.size ∧ ¬ E.I b := by
  obtain ⟨k, o, ho, hm⟩ := h
  have hr := H.root k
  cases hk : getH E.hp k with
  | gone => rw [hk] at ho; cases ho
  | imm e l => rw [hk] at ho; cases ho
  | box cs =>
    rw [hk] at hr
    obtain ⟨b', vs, T, h1, h2, h3, _⟩ := hr
    rw [h1] at hm; obtain ⟨rfl, rfl⟩ := Prod.mk.inj (Option.some.inj hm)
    exact ⟨(Array.getElem?_eq_some_iff.1 h3).1, h2⟩
  | arr e l =>
    rw [hk] at hr
    rcases hr.2 with ⟨h1, _⟩ | ⟨b', o', vss, h1, h2, _⟩
    · rw [h1] at hm; cases hm
    · rw [h1] at hm; obtain ⟨rfl, rfl⟩ := Prod.mk.inj (Option.some.inj hm)
      simp only [if_true] at h2
      exact ⟨h2.2.at.lt, h2.1⟩

def tmR (E : Env) (tm : List (Nat × AV)) (tmps : Array Value) : Prop := ∀ i, relV E (getT tm i) (tmps.getD i undef)

/-- how an environment has come out of that at a function's entry -/
structure Hist (A : Env) (keep : Nat) (E : Env) : Prop where
  old : ∀ b, b < A.w.heap.size → ¬ Own A b → E.w.heap[b]? = A.w.heap[b]?
  sz : A.w.heap.size ≤ E.w.heap.size
  own : ∀ b, Own E b → Own A b ∨ A.w.heap.size ≤ b
  imm : ∀ b, E.I b → A.I b ∨ Own A b ∨ A.w.heap.size ≤ b
  sub : ∀ b, A.I b → E.I b
  fit : ∀ h, h < keep → fits (getH A.hp h) (getH E.hp h)
  map : ∀ h, h < keep → getH E.hp h ≠ .gone → E.m h = A.m h
  has : ∀ h, h < keep → hasH E.hp h = true
  os : E.w.os = A.w.os
  tape : E.w.tape = A.w.tape
  output : E.w.output = A.w.output
  bsz : ∀ b, bsz A.w b ≤ bsz E.w b

structure Good (A : Env) (keep : Nat) (E : Env) (tm : List (Nat × AV)) (tmps : Array Value) : Prop where
  heap : HeapRel E
  tm : tmR E tm tmps
  hist : Hist A keep E

def goodV (A : Env) (keep : Nat) (s : St) (tmps : Array Value) (w : World) (v : AV) (x : Value) : Prop :=
  ∃ m I, Good A keep ⟨w, m, s.hp, I⟩ s.tm tmps ∧ relV ⟨w, m, s.hp, I⟩ v x

/-- an operation comes to a value -/
def OpOk (P : Program) (o : Oper) (a : Act) (w : World) (G : Value → World → Prop) : Prop :=
  (∃ x w', (execOp a.eval o).run P w = .ok (.value x) w' ∧ G x w') ∨
  (∃ w', (execOp a.eval o).run P w = .ok .skip w' ∧ G undef w') ∨
  (∃ f args w', (execOp a.eval o).run P w = .ok (.enter f args) w' ∧ Calls P f args w' fun e w'' => ∃ x, e = .returned x ∧ G x w'')

theorem OpOk.wp {P : Program} {o : Oper} {a : Act} {w : World} {G : Value → World → Prop} (h : OpOk P o a w G) (next : Act → World → Prop) (Q : Exit → Act → World → Prop)
    (hn : ∀ x w', G x w' → next (a.put o.dst x) w') : o.wp P a w next Q := by
  unfold Oper.wp
  rcases h with ⟨x, w', h1, h2⟩ | ⟨w', h1, h2⟩ | ⟨f, args, w', h1, h2⟩
  · rw [h1]; exact hn _ _ h2
  · rw [h1]; exact hn _ _ h2
  · rw [h1, Oper.upon_enter]
    refine h2.mono ?_
    rintro e w'' ⟨x, rfl, hx⟩
    exact hn _ _ hx

theorem ev_rel {E : Env} {s : St} {a : Act} (h : tmR E s.tm a.tmps) (x : Operand) : relV E (s.ev x) (a.eval x) := by
  cases x with
  | tmp t => exact h t
  | const v =>
    simp only [St.ev, Act.eval]
    cases v <;> simp only [ofConst, relV]
    rename_i cs
    cases hc : cs.toList.all oneC with
    | false => simp [relV]
    | true =>
      simp only [cond_true, relV]
      refine ⟨cs, rfl, relC_iff.2 ?_⟩
      have : ∀ l : List Value, l.all oneC = true → All2 (fun c v => v.oneCell' = true ∧ relV E c v) (l.map AV.val) l := by
        intro l
        induction l with
        | nil => intro _; trivial
        | cons v l ih =>
          intro hl
          simp only [List.all_cons, Bool.and_eq_true] at hl
          exact ⟨⟨by cases v <;> simp_all [oneC, Value.oneCell'], by simp [relV]⟩, ih hl.2⟩
      exact this _ hc
  | global g => simp [St.ev, relV]
  | func f => simp [St.ev, Act.eval, relV, relL]

/-- a value, in the same world -/
theorem OpOk.same {P : Program} {o : Oper} {a : Act} {w : World} {A : Env} {keep : Nat} {s : St} {v : AV} {x : Value} {m : Nat → Option (Nat × Nat)} {I : Nat → Prop}
    (hg : Good A keep ⟨w, m, s.hp, I⟩ s.tm a.tmps) (hr : (execOp a.eval o).run P w = .ok (.value x) w) (hv : relV ⟨w, m, s.hp, I⟩ v x) :
    OpOk P o a w fun x w' => goodV A keep s a.tmps w' v x := .inl ⟨x, w, hr, m, I, hg, hv⟩

end Go.AI
end

section
/- SOUNDNESS, third part: operators. -/
namespace Go.AI

theorem chk_some {b : Bool} {k : R} {r : Res} (h : chk b k = some r) : b = true ∧ k = some r := by
  cases b <;> simp_all [chk]
theorem cond_none {b : Bool} {α : Type} {k : Option α} {r : α} (h : cond b k none = some r) : b = true ∧ k = some r := by
  cases b <;> simp_all
theorem cond_none' {b : Bool} {α : Type} {k : Option α} {r : α} (h : cond b none k = some r) : b = false ∧ k = some r := by
  cases b <;> simp_all

section
variable {P : Program} {w : World} {E : Env}

theorem intOp_ok {op : BinOp} {k : IntKind} {a b : Int} {K : Value → R} {r : Res} (h : intOp op k a b K = some r) (t : TypeId) (h1 : op ≠ .shl) (h2 : op ≠ .shr) :
    ∃ v, K v = some r ∧ (binOp op t (.int k a) (.int k b)).run P w = .ok v w := by
  cases op <;> simp only [intOp] at h <;> first
    | exact absurd rfl h1
    | exact absurd rfl h2
    | (cases h; done)
    | (obtain ⟨hc, h⟩ := chk_some h
       have hb : b ≠ 0 := by simpa using hc
       exact ⟨_, h, by simp [binOp, Op.intDiv, hb]⟩)
    | exact ⟨_, h, by simp [binOp, Op.intArith, Op.intBits, Op.intCmp]⟩

theorem eqGuard_ok (op : BinOp) (t : TypeId) (x y : Operand) (a b : Value) (h : ∀ c d, ¬ (a = .agg c ∧ b = .agg d)) (h' : ¬ (a = .nilIface ∧ b = .nilIface)) :
    (eqGuard op t x y a b).run P w = .ok () w := by
  cases a <;> cases b <;> first
    | exact absurd ⟨rfl, rfl⟩ h'
    | exact absurd ⟨rfl, rfl⟩ (h _ _)
    | simp [eqGuard]

theorem strOp_ok {op : BinOp} {a b : ByteArray} {K : Value → R} {r : Res} (h : strOp op a b K = some r) (t : TypeId) :
    ∃ v, K v = some r ∧ (binOp op t (.string a) (.string b)).run P w = .ok v w := by
  cases op <;> simp only [strOp] at h <;> first
    | (cases h; done)
    | (obtain ⟨hc, h⟩ := chk_some h
       have hb' : (a.size : Int) + (b.size : Int) ≤ 9223372036854775807 := by have := of_decide_eq_true hc; omega
       exact ⟨_, h, by simpa [binOp, Op.stringOp] using hb'⟩)
    | exact ⟨_, h, by simp [binOp, Op.stringOp]⟩


theorem run_underlying' (t : TypeId) (d : TypeDesc) (h : P.underlying t = some d) : (underlying t).run P w = .ok d w := by
  simp [underlying, h]
theorem run_sizeOf (t : TypeId) (i : TypeInfo) (h : P.info? t = some i) : (sizeOf t).run P w = .ok i.size w := by
  simp [sizeOf, typeInfo, h]

theorem relV_int {k : IntKind} {n : Int} {x : Value} (h : relV E (.val (.int k n)) x) : x = .int k n := by simpa [relV] using h

/-- two values of one cell, of which neither is nil, are not guarded -/
theorem unA_ok {op : UnOp} {a v : AV} {x : Value} (h : unA op a = some v) (hx : relV E a x) :
    ∃ z, (Op.unary op x).run P w = .ok z w ∧ relV E v z := by
  unfold unA at h
  split at h
  · simp only [Option.some.injEq] at h; subst h
    simp only [relV] at hx; subst hx
    rename_i k n
    exact ⟨.int k (k.wrap (0 - n)), by simp [Op.unary, Op.intArith], by simp [relV]⟩
  · simp only [Option.some.injEq] at h; subst h
    simp only [relV] at hx; subst hx
    rename_i b
    exact ⟨.bool (!b), by simp [Op.unary], by simp [relV]⟩
  · cases h

theorem cells_of_one {x : Value} (h : x.oneCell' = true) : x.cells = #[x] := by
  cases x <;> simp_all [Value.oneCell', Value.cells]

theorem relV_one {v : AV} {x : Value} (h : relV E v x) (h1 : ∀ cs, v ≠ .agg cs) (h2 : ∀ cs, v ≠ .tup cs) (h3 : v ≠ .any) (h4 : ∀ u, v = .val u → oneC u = true) : x.oneCell' = true := by
  cases v with
  | any => exact absurd rfl h3
  | val u =>
    simp only [relV] at h; subst h
    have := h4 _ rfl
    cases x <;> simp_all [oneC, Value.oneCell']
  | agg cs => exact absurd rfl (h1 cs)
  | tup cs => exact absurd rfl (h2 cs)
  | fn f cs => simp only [relV] at h; obtain ⟨vs, rfl, _⟩ := h; rfl
  | ifc b =>
    simp only [relV] at h
    cases b with
    | true => rw [h.1 rfl]; rfl
    | false => obtain ⟨t, v, rfl⟩ := h.2 rfl; rfl
  | sl e l nn => simp only [relV] at h; obtain ⟨a, n, c, rfl, _⟩ := h; rfl
  | cp cs => simp only [relV] at h; obtain ⟨b, o, vs, rfl, _⟩ := h; rfl
  | ref h' lo len =>
    simp only [relV] at h
    cases ho : getH E.hp h' with
    | gone => rw [ho] at h; exact h.2
    | box cs => rw [ho] at h; exact refR_one h
    | arr e l => rw [ho] at h; exact refR_one h
    | imm e l => rw [ho] at h; exact refR_one h
  | ptr h' i f =>
    simp only [relV] at h
    cases ho : getH E.hp h' with
    | gone => rw [ho] at h; exact h.2
    | box cs => rw [ho] at h; obtain ⟨b, _, rfl⟩ := h; rfl
    | arr e l => rw [ho] at h; obtain ⟨b, o, _, rfl, _⟩ := h; rfl
    | imm e l => rw [ho] at h; obtain ⟨b, o, _, rfl, _⟩ := h; rfl

theorem cellsOfV_ok {v : AV} {x : Value} {cs : List AV} (h : relV E v x) (hc : cellsOfV v = some cs) : relC E cs x.cells.toList := by
  have go : v ≠ .any → (∀ cs, v ≠ .agg cs) → (∀ cs, v ≠ .tup cs) → (∀ u, v = .val u → oneC u = true) → relC E [v] x.cells.toList := by
    intro h1 h2 h3 h4
    have := relV_one h h2 h3 h1 h4
    rw [cells_of_one this]
    simp [relC, this, h]
  cases v <;> simp only [cellsOfV, Option.some.injEq] at hc
  case val u =>
    obtain ⟨h1, h2⟩ := cond_none hc
    cases h2
    exact go (by simp) (by simp) (by simp) (by intro u' e; cases e; exact h1)
  case agg cs' =>
    subst hc
    simp only [relV] at h
    obtain ⟨vs, rfl, hv⟩ := h
    exact hv
  all_goals first
    | (cases hc; done)
    | (subst hc; exact go (by simp) (by simp) (by simp) (by simp))

theorem relV_of_cells {cs : List AV} {vs : List Value} (h : relC E cs vs) : relV E (.agg cs) (.agg vs.toArray) := by
  simp only [relV]; exact ⟨_, rfl, by simpa using h⟩

theorem relC_append {a b : List AV} {x y : List Value} (h : relC E a x) (h' : relC E b y) : relC E (a ++ b) (x ++ y) :=
  relC_iff.2 ((relC_iff.1 h).append (relC_iff.1 h'))
theorem relC_drop {a : List AV} {x : List Value} (n : Nat) (h : relC E a x) : relC E (a.drop n) (x.drop n) := relC_iff.2 ((relC_iff.1 h).drop n)
theorem relC_take {a : List AV} {x : List Value} (n : Nat) (h : relC E a x) : relC E (a.take n) (x.take n) := relC_iff.2 ((relC_iff.1 h).take n)
theorem relC_length {a : List AV} {x : List Value} (h : relC E a x) : a.length = x.length := (relC_iff.1 h).length
theorem relC_one {a : List AV} {x : List Value} (h : relC E a x) : ∀ v ∈ x, v.oneCell' = true := by
  induction a generalizing x with
  | nil => cases x <;> simp_all [relC]
  | cons c a ih => cases x with
    | nil => simp
    | cons v x =>
      simp only [relC] at h
      intro u hu
      rcases List.mem_cons.1 hu with rfl | hu
      · exact h.1
      · exact ih h.2.2 u hu

theorem cellsI_ok {w : World} {E : Env} (hw : E.w = w) : ∀ {t : Ty} {x : t.D} {cs : List Value}, repT w E.I t x cs → relC E (cellsI t x) cs
  | .unit, _, _, h => by simp [repT] at h; simp [h, cellsI, relC]
  | .int _, _, _, h => by simp [repT] at h; simp [h, cellsI, relC, relV, Value.oneCell']
  | .bool, _, _, h => by simp [repT] at h; simp [h, cellsI, relC, relV, Value.oneCell']
  | .str, _, _, h => by simp [repT] at h; simp [h, cellsI, relC, relV, Value.oneCell']
  | .sl e, l, _, h => by
    obtain ⟨a, n, c, rfl, hs⟩ := h
    subst hw
    simp only [cellsI, relC, relV, Value.oneCell', and_true, true_and]
    exact ⟨a, n, c, rfl, hs, by simp, by simp⟩
  | .pair a b, _, _, h => by
    obtain ⟨c1, c2, rfl, h1, h2⟩ := h
    exact relC_append (cellsI_ok hw h1) (cellsI_ok hw h2)
end

end Go.AI
end

section
/- SOUNDNESS: binary operators. -/
namespace Go.AI
section
variable {P : Program} {w : World} {E : Env}

/-- what an operator's two steps come to -/
def BinRun (P : Program) (w : World) (op : BinOp) (t : TypeId) (xo yo : Operand) (x y z : Value) : Prop :=
  ((do eqGuard op t xo yo x y; binOp op t x y : Sem Value)).run P w = .ok z w

theorem binRun_plain {op : BinOp} {t : TypeId} {xo yo : Operand} {x y z : Value} (h : ∀ c d, ¬ (x = .agg c ∧ y = .agg d)) (h' : ¬ (x = .nilIface ∧ y = .nilIface))
    (hr : (binOp op t x y).run P w = .ok z w) : BinRun P w op t xo yo x y z := by
  simp [BinRun, eqGuard_ok (P := P) (w := w) op t xo yo x y h h', hr]

theorem eqNe_ok {op : BinOp} {b : Bool} {K : AV → R} {r : Res} (h : eqNe op b K = some r) :
    (op = .eql ∧ K (.val (.bool b)) = some r) ∨ (op = .neq ∧ K (.val (.bool (!b))) = some r) := by
  cases op <;> simp_all [eqNe]

theorem run_eql_of {t : TypeId} {x y : Value} {b : Bool} (hx : ∀ k n, x ≠ .int k n) (hs : ∀ s, x ≠ .string s) (hp : ∀ a, x ≠ .pointer a) (hf : ∀ k n, x ≠ .float k n) (hc : ∀ k n m, x ≠ .complex k n m)
    (h : (Op.equalIn 10000 t x y).run P w = .ok b w) :
    (binOp .eql t x y).run P w = .ok (.bool b) w ∧ (binOp .neq t x y).run P w = .ok (.bool (!b)) w := by
  cases x <;> first
    | exact absurd rfl (hx _ _)
    | exact absurd rfl (hs _)
    | exact absurd rfl (hp _)
    | exact absurd rfl (hf _ _)
    | exact absurd rfl (hc _ _ _)
    | (constructor <;> simp [binOp, Op.equal, Op.maxDepth, h])

theorem eqFs_ok (d : Nat) : ∀ (fs : List Field) (n : Nat) (a b : List AV) (xs ys : Array Value) (r : Bool),
    eqFs P n fs a b = some r → relC E a (xs.toList.drop n) → relC E b (ys.toList.drop n) → (Op.eqFields (d + 1) xs ys fs).run P w = .ok r w
  | [], n, a, b, xs, ys, r, h, ha, hb => by
    cases a <;> cases b <;> simp [eqFs] at h
    subst h; simp [Op.eqFields]
  | f :: fs, n, a, b, xs, ys, r, h, ha, hb => by
    cases a with
    | nil => simp [eqFs] at h
    | cons u a =>
      cases b with
      | nil => cases u <;> simp [eqFs] at h
      | cons v b =>
        cases u <;> try (simp [eqFs] at h; done)
        cases v <;> try (simp [eqFs] at h; done)
        rename_i x y
        simp only [eqFs] at h
        obtain ⟨hc, h⟩ := cond_none h
        simp only [Bool.and_eq_true, Bool.not_eq_true', beq_eq_false_iff_ne, ne_eq] at hc
        obtain ⟨hname, hoff⟩ := hc
        have hoff : f.offset = n := Nat.eq_of_beq_eq_true hoff
        have hx : xs.toList.drop n = x :: xs.toList.drop (n + 1) ∧ relC E a (xs.toList.drop (n + 1)) := by
          cases hd : xs.toList.drop n with
          | nil => rw [hd] at ha; simp [relC] at ha
          | cons x' r' =>
            rw [hd] at ha; simp only [relC, relV] at ha
            have : r' = xs.toList.drop (n + 1) := by rw [← List.drop_drop, hd]; simp
            subst this
            exact ⟨by rw [ha.2.1], ha.2.2⟩
        have hy : ys.toList.drop n = y :: ys.toList.drop (n + 1) ∧ relC E b (ys.toList.drop (n + 1)) := by
          cases hd : ys.toList.drop n with
          | nil => rw [hd] at hb; simp [relC] at hb
          | cons x' r' =>
            rw [hd] at hb; simp only [relC, relV] at hb
            have : r' = ys.toList.drop (n + 1) := by rw [← List.drop_drop, hd]; simp
            subst this
            exact ⟨by rw [hb.2.1], hb.2.2⟩
        have gx : xs[n]? = some x := by
          have := congrArg (fun l => l[0]?) hx.1
          simpa using this
        have gy : ys[n]? = some y := by
          have := congrArg (fun l => l[0]?) hy.1
          simpa using this
        have part : ∀ (zs : Array Value) (z : Value) (ty : TypeDesc), P.underlying f.type = some ty → (ty = .string ∨ ty = .bool ∨ ∃ k, ty = .int k) → zs[n]? = some z → (part f.type zs f.offset).run P w = .ok z w := by
          intro zs z ty hu ht hz
          rcases ht with rfl | rfl | ⟨k, rfl⟩ <;> simp [part, isAgg, underlying, hu, hoff, hz]
        simp only [Op.eqFields, Sem.run_ite]
        rw [if_pos hname]
        split at h
        · obtain ⟨k0, hu⟩ : ∃ k0, P.underlying f.type = some (.int k0) := ⟨_, by assumption⟩
          obtain ⟨hk, h⟩ := cond_none h
          split at h
          · rename_i t ht
            simp only [Option.some.injEq] at h; subst h
            have ih := eqFs_ok d fs (n + 1) a b xs ys t ht hx.2 hy.2
            have hk := of_decide_eq_true hk; subst hk
            simp only [Sem.run_bind, part xs _ _ hu (.inr (.inr ⟨_, rfl⟩)) gx, part ys _ _ hu (.inr (.inr ⟨_, rfl⟩)) gy, Result.andThen_ok, run_equalIn_int (P := P) w d f.type _ _ _ _ hu]
            split <;> simp_all
          · cases h
        · obtain hu : P.underlying f.type = some .bool := by assumption
          split at h
          · rename_i t ht
            simp only [Option.some.injEq] at h; subst h
            have ih := eqFs_ok d fs (n + 1) a b xs ys t ht hx.2 hy.2
            simp only [Sem.run_bind, part xs _ _ hu (.inr (.inl rfl)) gx, part ys _ _ hu (.inr (.inl rfl)) gy, Result.andThen_ok, run_equalIn_bool' (P := P) w d f.type _ _ hu]
            split <;> simp_all
          · cases h
        · obtain hu : P.underlying f.type = some .string := by assumption
          split at h
          · rename_i t ht
            simp only [Option.some.injEq] at h; subst h
            have ih := eqFs_ok d fs (n + 1) a b xs ys t ht hx.2 hy.2
            simp only [Sem.run_bind, part xs _ _ hu (.inl rfl) gx, part ys _ _ hu (.inl rfl) gy, Result.andThen_ok, run_equalIn_string (P := P) w d f.type _ _ hu]
            split <;> simp_all
          · cases h
        · cases h

theorem eql_nil_nil (d : Nat) {t e : TypeId} (ht : P.underlying t = some (.slice e)) : (Op.equalIn (d + 1) t (.slice none 0 0) (.slice none 0 0)).run P w = .ok true w := by
  simp [Op.equalIn, underlying, ht]
theorem eql_some_nil (d : Nat) {t e : TypeId} (ht : P.underlying t = some (.slice e)) (a : Addr) (n c : Nat) : (Op.equalIn (d + 1) t (.slice (some a) n c) (.slice none 0 0)).run P w = .ok false w := by
  simp [Op.equalIn, underlying, ht]
theorem eql_none_nil (d : Nat) {t e : TypeId} (ht : P.underlying t = some (.slice e)) (n c : Nat) : (Op.equalIn (d + 1) t (.slice none n c) (.slice none 0 0)).run P w = .ok true w := by
  simp [Op.equalIn, underlying, ht]

set_option maxHeartbeats 1000000 in
theorem binA_ok {op : BinOp} {t : TypeId} {yc : Bool} {a b : AV} {K : AV → R} {r : Res} {x y : Value} {xo yo : Operand} (h : binA P t op yc a b K = some r)
    (hyc : yc = true → ∃ v, yo = .const v) (ha : relV E a x) (hb : relV E b y) : ∃ v z, K v = some r ∧ BinRun P w op t xo yo x y z ∧ relV E v z := by
  unfold binA at h
  split at h
  · -- whole numbers
    simp only [relV] at ha hb; subst ha hb
    rename_i k x k' y
    split at h
    · obtain ⟨hc, h⟩ := chk_some h
      have hc : ¬ y < 0 := by have := of_decide_eq_true hc; omega
      exact ⟨_, .int k (k.wrap (x * 2 ^ min y.toNat k.bits)), h, binRun_plain (by simp) (by simp) (by simp [binOp, Op.shift, hc]), by simp [relV]⟩
    · obtain ⟨hc, h⟩ := chk_some h
      have hc : ¬ y < 0 := by have := of_decide_eq_true hc; omega
      exact ⟨_, .int k (x.fdiv (2 ^ min y.toNat k.bits)), h, binRun_plain (by simp) (by simp) (by simp [binOp, Op.shift, hc]), by simp [relV]⟩
    · rename_i h1 h2
      obtain ⟨hc, h'⟩ := cond_none h
      have hc := of_decide_eq_true hc; subst hc
      obtain ⟨v, hv, hr⟩ := intOp_ok (P := P) (w := w) h' t h1 h2
      exact ⟨_, v, hv, binRun_plain (by simp) (by simp) hr, by simp [relV]⟩
  · -- strings
    simp only [relV] at ha hb; subst ha hb
    obtain ⟨v, hv, hr⟩ := strOp_ok (P := P) (w := w) h t
    exact ⟨_, v, hv, binRun_plain (by simp) (by simp) hr, by simp [relV]⟩
  · -- bools
    simp only [relV] at ha hb; subst ha hb
    rename_i x y
    split at h
    · rename_i ht
      have hq := run_eql_of (P := P) (w := w) (x := .bool x) (y := .bool y) (t := t) (b := x == y) (by simp) (by simp) (by simp) (by simp) (by simp) (run_equalIn_bool' (P := P) w 9999 t x y ht)
      rcases eqNe_ok h with ⟨rfl, h⟩ | ⟨rfl, h⟩
      · exact ⟨_, _, h, binRun_plain (by simp) (by simp) hq.1, by simp [relV]⟩
      · exact ⟨_, _, h, binRun_plain (by simp) (by simp) hq.2, by simp [relV]⟩
    · cases h
  · -- an interface value and nil
    rename_i n
    simp only [relV] at ha hb; subst hb
    split at h
    · rename_i ms ht
      obtain ⟨hc, h⟩ := cond_none h
      obtain ⟨v, rfl⟩ := hyc hc
      have hrun : ∀ x', (n = true → x' = .nilIface) ∧ (n = false → ∃ t v, x' = .iface t v) → (Op.equalIn 10000 t x' .nilIface).run P w = .ok n w := by
        intro x' hx'
        have e1 : ∀ d, (Op.equalIn (d + 1) t .nilIface .nilIface).run P w = .ok true w := by intro d; simp [Op.equalIn, underlying, ht]
        have e2 : ∀ d t' v', (Op.equalIn (d + 1) t (.iface t' v') .nilIface).run P w = .ok false w := by intro d t' v'; simp [Op.equalIn, underlying, ht]
        cases n with
        | true => rw [hx'.1 rfl]; exact e1 9999
        | false => obtain ⟨t', v', rfl⟩ := hx'.2 rfl; exact e2 9999 t' v'
      have hg : ∀ op, (eqGuard op t xo (.const v) x .nilIface).run P w = .ok () w := by
        intro op
        cases n with
        | true => rw [ha.1 rfl]; cases op <;> simp [eqGuard]
        | false => obtain ⟨t', v', rfl⟩ := ha.2 rfl; exact eqGuard_ok op t xo (.const v) _ _ (by simp) (by simp)
      have hq := run_eql_of (P := P) (w := w) (x := x) (y := .nilIface) (t := t) (b := n)
        (by cases n <;> simp_all; obtain ⟨_, _, rfl⟩ := ha; simp) (by cases n <;> simp_all; obtain ⟨_, _, rfl⟩ := ha; simp) (by cases n <;> simp_all; obtain ⟨_, _, rfl⟩ := ha; simp)
        (by cases n <;> simp_all; obtain ⟨_, _, rfl⟩ := ha; simp) (by cases n <;> simp_all; obtain ⟨_, _, rfl⟩ := ha; simp) (hrun x ha)
      rcases eqNe_ok h with ⟨rfl, h⟩ | ⟨rfl, h⟩
      · exact ⟨_, _, h, by unfold BinRun; rw [Sem.run_bind, hg]; exact hq.1, by simp [relV]⟩
      · exact ⟨_, _, h, by unfold BinRun; rw [Sem.run_bind, hg]; exact hq.2, by simp [relV]⟩
    · cases h
  · -- nil slices
    simp only [relV] at ha hb; subst ha hb
    split at h
    · rename_i e ht
      have hq := run_eql_of (P := P) (w := w) (x := .slice none 0 0) (y := .slice none 0 0) (t := t) (b := true) (by simp) (by simp) (by simp) (by simp) (by simp) (eql_nil_nil 9999 ht)
      rcases eqNe_ok h with ⟨rfl, h⟩ | ⟨rfl, h⟩
      · exact ⟨_, _, h, binRun_plain (by simp) (by simp) hq.1, by simp [relV]⟩
      · exact ⟨_, _, h, binRun_plain (by simp) (by simp) hq.2, by simp [relV]⟩
    · cases h
  · -- a slice of which it is known
    rename_i e l nn
    simp only [relV] at ha hb; subst hb
    obtain ⟨ad, n, c, rfl, hs, h1, h2⟩ := ha
    split at h
    · rename_i e' ht
      have hrun : (Op.equalIn 10000 t (.slice ad n c) (.slice none 0 0)).run P w = .ok (!nn) w := by
        cases nn with
        | true =>
          have := h1 rfl
          obtain ⟨ad', rfl⟩ := Option.isSome_iff_exists.1 this
          exact eql_some_nil 9999 ht ad' n c
        | false => rw [h2 rfl]; exact eql_none_nil 9999 ht n c
      have hq := run_eql_of (P := P) (w := w) (x := .slice ad n c) (y := .slice none 0 0) (t := t) (b := !nn) (by simp) (by simp) (by simp) (by simp) (by simp) hrun
      rcases eqNe_ok h with ⟨rfl, h⟩ | ⟨rfl, h⟩
      · exact ⟨_, _, h, binRun_plain (by simp) (by simp) hq.1, by simp [relV]⟩
      · exact ⟨_, _, h, binRun_plain (by simp) (by simp) hq.2, by simp [relV]⟩
    · cases h
  · -- structs
    rename_i xs ys
    simp only [relV] at ha hb
    obtain ⟨vx, rfl, hx⟩ := ha
    obtain ⟨vy, rfl, hy⟩ := hb
    split at h
    · rename_i fs ht
      obtain ⟨hc, h⟩ := cond_none h
      simp only [Bool.and_eq_true, Bool.not_eq_true'] at hc
      split at h
      · rename_i b hb
        have hfs : P.fieldsOf t = fs := by simp [Program.fieldsOf, ht]
        have ht' : P.underlying t = some (.struct (P.fieldsOf t)) := by rw [hfs]; exact ht
        have hrun := run_equalIn_struct (P := P) w 9999 t vx vy ht' hc.1
        rw [hfs, eqFs_ok (P := P) (w := w) 9998 fs.toList 0 xs ys vx vy b hb (by simpa using hx) (by simpa using hy)] at hrun
        have hg := run_eqGuard_agg (P := P) w op t xo yo vx vy hc.2
        rcases eqNe_ok h with ⟨rfl, h⟩ | ⟨rfl, h⟩
        · exact ⟨_, .bool b, h, by unfold BinRun; rw [Sem.run_bind, hg, Result.andThen_ok, run_eql_struct, hrun]; rfl, by simp [relV]⟩
        · exact ⟨_, .bool (!b), h, by unfold BinRun; rw [Sem.run_bind, hg, Result.andThen_ok, run_neq_struct, hrun]; rfl, by simp [relV]⟩
      · cases h
    · cases h
  · cases h
end
end Go.AI
end

section
/- SOUNDNESS: one root is changed or made; loads and addresses. -/
namespace Go.AI

def upd (m : Nat → Option (Nat × Nat)) (h : Nat) (p : Option (Nat × Nat)) : Nat → Option (Nat × Nat) := fun k => if k = h then p else m k

theorem getH_same (hp : List (Nat × Root)) (h : Nat) (x : Root) : getH ((h, x) :: hp) h = x := by simp [getH]
theorem getH_other (hp : List (Nat × Root)) {h k : Nat} (x : Root) (e : k ≠ h) : getH ((h, x) :: hp) k = getH hp k := by
  have : Nat.beq h k = false := by
    cases hb : Nat.beq h k with
    | false => rfl
    | true => exact absurd (Nat.eq_of_beq_eq_true hb).symm e
  simp [getH, this]
theorem hasH_cons (hp : List (Nat × Root)) (h k : Nat) (x : Root) : hasH ((h, x) :: hp) k = (Nat.beq h k || hasH hp k) := rfl
theorem upd_same (m : Nat → Option (Nat × Nat)) (h : Nat) (p : Option (Nat × Nat)) : upd m h p h = p := by simp [upd]
theorem upd_other (m : Nat → Option (Nat × Nat)) {h k : Nat} (p : Option (Nat × Nat)) (e : k ≠ h) : upd m h p k = m k := by simp [upd, e]

theorem arrOk_mono {E E' : Env} (g : Grows E E') {h : Nat} {e : Ty} {l : List e.D} {own : Bool} (hm : E'.m h = E.m h)
    (hb : own = true → ∀ b o, E.m h = some (b, o) → E'.w.heap[b]? = E.w.heap[b]? ∧ ¬ E'.I b) (H : arrOk E h e l own) : arrOk E' h e l own := by
  refine ⟨H.1, ?_⟩
  rcases H.2 with ⟨h1, h2⟩ | ⟨b, o, vss, h1, h2, h3⟩
  · exact .inl ⟨hm.trans h1, h2⟩
  · refine .inr ⟨b, o, vss, hm.trans h1, ?_, h3.mono fun _ _ => repT_mono g.imm g.sub⟩
    cases own with
    | true =>
      simp only [if_true] at h2 ⊢
      obtain ⟨q1, q2⟩ := hb rfl b o h1
      exact ⟨q2, h2.2.mono q1⟩
    | false =>
      simp only [Bool.false_eq_true, if_false] at h2 ⊢
      exact ⟨g.sub _ h2.1, h2.2.mono (g.imm _ h2.1)⟩

theorem rootOk_mono {E E' : Env} (g : Grows E E') {h : Nat} {x : Root} (hm : E'.m h = E.m h)
    (hb : owned x = true → ∀ b o, E.m h = some (b, o) → E'.w.heap[b]? = E.w.heap[b]? ∧ ¬ E'.I b) (H : rootOk E h x) : rootOk E' h x := by
  cases x with
  | gone => trivial
  | box cs =>
    obtain ⟨b, vs, T, h1, h2, h3, h4⟩ := H
    obtain ⟨q1, q2⟩ := hb rfl b 0 h1
    exact ⟨b, vs, T, hm.trans h1, q2, q1.trans h3, relC_mono g h4⟩
  | arr e l => exact arrOk_mono g hm (fun _ => hb rfl) H
  | imm e l => exact arrOk_mono g hm (fun h => by cases h) H

theorem tmR_mono {E E' : Env} (g : Grows E E') {tm : List (Nat × AV)} {tmps : Array Value} (h : tmR E tm tmps) : tmR E' tm tmps := fun i => relV_mono g (h i)

/-- what stays of an environment -/
structure Stays (A : Env) (E : Env) (h0 : Nat) (w' : World) (I' : Nat → Prop) (C : Nat → Prop) : Prop where
  sz : E.w.heap.size ≤ w'.heap.size
  same : ∀ b, b < E.w.heap.size → ¬ C b → w'.heap[b]? = E.w.heap[b]?
  free : ∀ b, C b → ¬ E.I b ∧ (Own A b ∨ A.w.heap.size ≤ b) ∧ ∀ h o, h ≠ h0 → owned (getH E.hp h) = true → E.m h ≠ some (b, o)
  bsz : ∀ b, bsz E.w b ≤ bsz w' b
  sub : ∀ b, E.I b → I' b
  imm : ∀ b, I' b → b < w'.heap.size ∧ (E.I b ∨ ((Own A b ∨ A.w.heap.size ≤ b) ∧ ∀ h o, h ≠ h0 → owned (getH E.hp h) = true → E.m h ≠ some (b, o)))
  os : w'.os = E.w.os
  tape : w'.tape = E.w.tape
  output : w'.output = E.w.output

/-- one root is changed or made -/
theorem change1 {A : Env} {keep : Nat} {w : World} {m : Nat → Option (Nat × Nat)} {hp : List (Nat × Root)} {I : Nat → Prop} {tm : List (Nat × AV)} {tmps : Array Value}
    (hg : Good A keep ⟨w, m, hp, I⟩ tm tmps) (h0 : Nat) (x : Root) (p : Option (Nat × Nat)) {w' : World} {I' C : Nat → Prop} (st : Stays A ⟨w, m, hp, I⟩ h0 w' I' C)
    (hfit : hasH hp h0 = true → fits (getH hp h0) x ∧ (x ≠ .gone → p = m h0))
    (hown : owned x = true → ∀ b o, p = some (b, o) → (Own A b ∨ A.w.heap.size ≤ b) ∧ ∀ h o', h ≠ h0 → owned (getH hp h) = true → m h ≠ some (b, o'))
    (hx : Grows ⟨w, m, hp, I⟩ ⟨w', upd m h0 p, (h0, x) :: hp, I'⟩ → rootOk ⟨w', upd m h0 p, (h0, x) :: hp, I'⟩ h0 x) :
    Good A keep ⟨w', upd m h0 p, (h0, x) :: hp, I'⟩ tm tmps ∧ Grows ⟨w, m, hp, I⟩ ⟨w', upd m h0 p, (h0, x) :: hp, I'⟩ := by
  have H := hg.heap
  have hkeep : hasH hp h0 = true ∨ keep ≤ h0 := by
    rcases Nat.lt_or_ge h0 keep with h | h
    · exact .inl (hg.hist.has h0 h)
    · exact .inr h
  have hIlt : ∀ b, I b → b < w.heap.size := H.lt
  have g : Grows ⟨w, m, hp, I⟩ ⟨w', upd m h0 p, (h0, x) :: hp, I'⟩ := by
    refine ⟨fun b hb => st.same b (hIlt b hb) (fun hc => (st.free b hc).1 hb), st.sub, fun h hh => by simp [hasH_cons, hh], ?_, ?_, st.bsz⟩
    · intro h hh
      by_cases e : h = h0
      · subst e; simp only [getH_same]; exact (hfit hh).1
      · simp only [getH_other hp x e]; exact fits_refl _
    · intro h hh hn
      by_cases e : h = h0
      · subst e; simp only [getH_same] at hn; simp only [upd_same]; exact (hfit hh).2 hn
      · exact upd_other m p e
  have others : ∀ h, h ≠ h0 → owned (getH hp h) = true → ∀ b o, m h = some (b, o) → w'.heap[b]? = w.heap[b]? ∧ ¬ I' b := by
    intro h e ho b o hm
    have hl := H.own_lt (b := b) ⟨h, o, ho, hm⟩
    refine ⟨st.same b hl.1 (fun hc => (st.free b hc).2.2 h o e ho hm), fun hi => ?_⟩
    rcases (st.imm b hi).2 with h1 | h1
    · exact hl.2 h1
    · exact h1.2 h o e ho hm
  have own' : ∀ b, Own ⟨w', upd m h0 p, (h0, x) :: hp, I'⟩ b → Own A b ∨ A.w.heap.size ≤ b := by
    rintro b ⟨h, o, ho, hm⟩
    by_cases e : h = h0
    · subst e; simp only [getH_same, upd_same] at ho hm; exact (hown ho b o hm).1
    · simp only [getH_other hp x e, upd_other m p e] at ho hm
      exact hg.hist.own b ⟨h, o, ho, hm⟩
  refine ⟨⟨⟨?_, ?_, fun b hb => (st.imm b hb).1⟩, tmR_mono g hg.tm, ?_⟩, g⟩
  · intro h
    by_cases e : h = h0
    · subst e; simp only [getH_same]; exact hx g
    · simp only [getH_other hp x e]
      exact rootOk_mono g (upd_other m p e) (fun ho b o hm => others h e ho b o hm) (H.root h)
  · intro h h' b o o' h1 h2 h3 h4
    by_cases e : h = h0
    · by_cases e' : h' = h0
      · exact e.trans e'.symm
      · subst e
        simp only [getH_same, upd_same, getH_other hp x e', upd_other m p e'] at h1 h2 h3 h4
        exact absurd h4 ((hown h1 b o h3).2 h' o' e' h2)
    · by_cases e' : h' = h0
      · subst e'
        simp only [getH_same, upd_same, getH_other hp x e, upd_other m p e] at h1 h2 h3 h4
        exact absurd h3 ((hown h2 b o' h4).2 h o e h1)
      · simp only [getH_other hp x e, upd_other m p e, getH_other hp x e', upd_other m p e'] at h1 h2 h3 h4
        exact H.inj h h' b o o' h1 h2 h3 h4
  · have hh := hg.hist
    refine ⟨?_, Nat.le_trans hh.sz st.sz, own', ?_, fun b hb => st.sub b (hh.sub b hb), ?_, ?_, fun h hk => by simp [hasH_cons, hh.has h hk], st.os.trans hh.os, st.tape.trans hh.tape, st.output.trans hh.output, fun b => Nat.le_trans (hh.bsz b) (st.bsz b)⟩
    · intro b hb hn
      refine (st.same b (Nat.lt_of_lt_of_le hb hh.sz) (fun hc => ?_)).trans (hh.old b hb hn)
      rcases (st.free b hc).2.1 with h1 | h1
      · exact hn h1
      · exact absurd hb (by omega)
    · intro b hb
      rcases (st.imm b hb).2 with h1 | h1
      · exact hh.imm b h1
      · exact .inr h1.1
    · intro h hk
      by_cases e : h = h0
      · subst e
        simp only [getH_same]
        rcases hkeep with h1 | h1
        · exact fits_trans (hh.fit h hk) (hfit h1).1
        · omega
      · simp only [getH_other hp x e]; exact hh.fit h hk
    · intro h hk hn
      by_cases e : h = h0
      · subst e
        simp only [getH_same, upd_same] at hn ⊢
        rcases hkeep with h1 | h1
        · have q := hfit h1
          refine (q.2 hn).trans (hh.map h hk ?_)
          intro hgone
          rw [hgone] at q
          cases x <;> first | exact hn rfl | exact q.1.elim
        · omega
      · simp only [getH_other hp x e, upd_other m p e] at hn ⊢
        exact hh.map h hk hn

/-- nothing but a new block -/
theorem Stays.alloc {A E : Env} {keep : Nat} {tm : List (Nat × AV)} {tmps : Array Value} (hg : Good A keep E tm tmps) (h0 : Nat) (o : Obj) :
    Stays A E h0 (E.w.alloc o) E.I (fun _ => False) where
  sz := by simp
  same b hb _ := heap_alloc_old _ _ _ hb
  free _ h := h.elim
  bsz b := by
    unfold AI.bsz
    by_cases hb : b < E.w.heap.size
    · rw [heap_alloc_old _ _ _ hb]; exact Nat.le_refl _
    · rw [Array.getElem?_eq_none (by omega)]; exact Nat.zero_le _
  sub _ h := h
  imm b hb := ⟨by have := hg.heap.lt b hb; simp; omega, .inl hb⟩
  os := rfl
  tape := rfl
  output := rfl

/-- nothing at all -/
theorem Stays.none {A E : Env} {keep : Nat} {tm : List (Nat × AV)} {tmps : Array Value} (hg : Good A keep E tm tmps) (h0 : Nat) : Stays A E h0 E.w E.I (fun _ => False) where
  sz := Nat.le_refl _
  same _ _ _ := rfl
  free _ h := h.elim
  bsz _ := Nat.le_refl _
  sub _ h := h
  imm b hb := ⟨hg.heap.lt b hb, .inl hb⟩
  os := rfl
  tape := rfl
  output := rfl

end Go.AI
end

section
/- SOUNDNESS: reading; data out of cells. -/
namespace Go.AI

theorem At.sub {w : World} {b o : Nat} {vs : List Value} (h : At w b o vs) (i n : Nat) : At w b (o + (vs.take i).length) ((vs.drop i).take n) := by
  have : vs = vs.take i ++ (vs.drop i).take n ++ (vs.drop i).drop n := by rw [List.append_assoc, List.take_append_drop, List.take_append_drop]
  rw [this] at h
  exact h.part
theorem At.sub' {w : World} {b o : Nat} {vs : List Value} (h : At w b o vs) (i n : Nat) (hi : i ≤ vs.length) : At w b (o + i) ((vs.drop i).take n) := by
  have := h.sub i n
  simpa [Nat.min_eq_left hi] using this
theorem At.nil_of {w : World} {b o : Nat} {vs : List Value} (h : At w b o vs) : At w b o [] := by
  have := h.sub' 0 0 (Nat.zero_le _)
  simpa using this

theorem flat_split {vss : List (List Value)} {sz : Nat} : ∀ (i : Nat), (∀ v ∈ vss, v.length = sz) → i ≤ vss.length →
    vss.flatten = (vss.take i).flatten ++ (vss.drop i).flatten ∧ (vss.take i).flatten.length = i * sz := by
  induction vss with
  | nil => intro i _ hi; simp at hi; subst hi; simp
  | cons v vss ih =>
    intro i hv hi
    cases i with
    | zero => simp
    | succ i =>
      obtain ⟨h1, h2⟩ := ih i (fun u hu => hv u (by simp [hu])) (by simpa using hi)
      have := hv v (by simp)
      simp only [List.take_succ_cons, List.drop_succ_cons, List.flatten_cons, List.append_assoc, List.length_append]
      rw [← h1, h2, this, Nat.add_mul]
      exact ⟨rfl, by omega⟩

section
variable {E : Env} {e : Ty} {l : List e.D} {vss : List (List Value)} {b o : Nat}
theorem lens_of (h : All2 (repT E.w E.I e) l vss) : ∀ v ∈ vss, v.length = e.sz := by
  induction l generalizing vss with
  | nil => cases vss <;> simp_all [All2]
  | cons x l ih => cases vss with
    | nil => simp [All2] at h
    | cons v vss =>
      intro u hu
      rcases List.mem_cons.1 hu with rfl | hu
      · exact repT_len h.1
      · exact ih h.2 u hu

theorem part_drop (hat : At E.w b o vss.flatten) (h : All2 (repT E.w E.I e) l vss) (i : Nat) (hi : i ≤ l.length) : At E.w b (o + i * e.sz) (vss.drop i).flatten := by
  have hl := h.length
  obtain ⟨h1, h2⟩ := flat_split i (lens_of h) (by omega)
  rw [h1] at hat
  have : At E.w b o ((vss.take i).flatten ++ (vss.drop i).flatten ++ []) := by simpa using hat
  rw [← h2]; exact this.part
theorem At.pre {w : World} {b o : Nat} {l m : List Value} (h : At w b o (l ++ m)) : At w b o l := by
  have : At w b o ([] ++ l ++ m) := by simpa using h
  simpa using this.part
theorem part_take (hat : At E.w b o vss.flatten) (h : All2 (repT E.w E.I e) l vss) (i : Nat) (hi : i ≤ l.length) : At E.w b o (vss.take i).flatten := by
  have hl := h.length
  obtain ⟨h1, h2⟩ := flat_split i (lens_of h) (by omega)
  rw [h1] at hat
  exact hat.pre

theorem elem_at (hat : At E.w b o vss.flatten) (h : All2 (repT E.w E.I e) l vss) (i : Nat) (hi : i < l.length) :
    At E.w b (o + i * e.sz) (vss.getD i []) ∧ repT E.w E.I e (l.getD i e.d0) (vss.getD i []) := by
  refine ⟨?_, h.get i _ _ hi⟩
  have hd := part_drop hat h i (by omega)
  have hl := h.length
  cases hv : vss.drop i with
  | nil => have := congrArg List.length hv; simp at this; omega
  | cons v r =>
    rw [hv] at hd
    simp only [List.flatten_cons] at hd
    have : vss.getD i [] = v := by
      have := congrArg (fun l => l[0]?) hv
      simp at this
      simp [List.getD_eq_getElem?_getD, this]
    rw [this]; exact hd.pre
end

theorem relC_getLen {E : Env} {cs : List AV} {vs : List Value} (h : relC E cs vs) : vs.length = cs.length := (relC_length h).symm

/-- what an owned or an immutable array root stands for -/
theorem arr_at {E : Env} {h : Nat} {e : Ty} {l : List e.D} {own : Bool} {b o : Nat} (H : arrOk E h e l own) (hm : E.m h = some (b, o)) :
    ∃ vss, At E.w b o vss.flatten ∧ All2 (repT E.w E.I e) l vss := by
  rcases H.2 with ⟨h1, _⟩ | ⟨b', o', vss, h1, h2, h3⟩
  · rw [h1] at hm; cases hm
  · rw [h1] at hm; obtain ⟨rfl, rfl⟩ := Prod.mk.inj (Option.some.inj hm)
    refine ⟨vss, ?_, h3⟩
    cases own with
    | true => simp only [if_true] at h2; exact h2.2.at
    | false => simp only [Bool.false_eq_true, if_false] at h2; exact h2.2

theorem elem_cells {E : Env} {h : Nat} {e : Ty} {l : List e.D} {own : Bool} {i f n : Nat} {x : Value} (H : arrOk E h e l own)
    (hr : ∃ b o, E.m h = some (b, o) ∧ x = .pointer (some ⟨b, o + i * e.sz + f, none⟩) ∧ i < l.length) (hn : f + n ≤ e.sz) :
    ∃ b o vs, x = .pointer (some ⟨b, o, none⟩) ∧ At E.w b o vs ∧ relC E (((cellsI e (l.getD i e.d0)).drop f).take n) vs ∧ (((cellsI e (l.getD i e.d0)).drop f).take n).length = n := by
  obtain ⟨b, o, hm, rfl, hi⟩ := hr
  obtain ⟨vss, hat, hall⟩ := arr_at H hm
  obtain ⟨h1, h2⟩ := elem_at hat hall i hi
  have hc : relC E (cellsI e (l.getD i e.d0)) (vss.getD i []) := cellsI_ok rfl h2
  have hl := repT_len h2
  refine ⟨b, _, _, rfl, h1.sub' f n (by omega), relC_take n (relC_drop f hc), ?_⟩
  have := relC_length hc
  rw [List.length_take, List.length_drop]; omega

theorem cells_ok {E : Env} {s : St} {n : Nat} {v : AV} {x : Value} {cs : List AV} (H : HeapRel E) (hs : E.hp = s.hp) (hx : relV E v x) (hc : s.cells n v = some cs) :
    ∃ b o vs, x = .pointer (some ⟨b, o, none⟩) ∧ At E.w b o vs ∧ relC E cs vs ∧ cs.length = n := by
  unfold St.cells at hc
  split at hc
  · rename_i cs0
    obtain ⟨hb, hc⟩ := cond_none hc
    simp only [Option.some.injEq] at hc; subst hc
    simp only [relV] at hx
    obtain ⟨b, o, vs, rfl, hI, hat, hr⟩ := hx
    have hn : n ≤ cs0.length := Nat.le_of_ble_eq_true hb
    have := hat.sub' 0 n (Nat.zero_le _)
    refine ⟨b, o, vs.take n, rfl, by simpa using this, relC_take n hr, by simp; omega⟩
  · rename_i h i f
    have hroot := H.root h
    simp only [relV] at hx
    rw [hs] at hroot hx
    split at hc
    · rename_i cs0 hg
      obtain ⟨hb, hc⟩ := cond_none hc
      simp only [Option.some.injEq] at hc; subst hc
      rw [hg] at hroot hx
      obtain ⟨b, hm, rfl⟩ := hx
      obtain ⟨b', vs, T, h1, h2, h3, h4⟩ := hroot
      rw [h1] at hm; obtain ⟨rfl, _⟩ := Prod.mk.inj (Option.some.inj hm)
      have hn : f + n ≤ cs0.length := Nat.le_of_ble_eq_true hb
      have hl := relC_length h4
      have hat : At E.w b' 0 vs.toList := ⟨vs, T, _, h3, [], [], by simp, rfl⟩
      have := hat.sub' f n (by omega)
      refine ⟨b', f, _, rfl, by simpa using this, relC_take n (relC_drop f h4), by simp; omega⟩
    · rename_i e l hg
      obtain ⟨hb, hc⟩ := cond_none hc
      simp only [Option.some.injEq] at hc; subst hc
      rw [hg] at hroot hx
      exact elem_cells hroot hx (Nat.le_of_ble_eq_true hb)
    · rename_i e l hg
      obtain ⟨hb, hc⟩ := cond_none hc
      simp only [Option.some.injEq] at hc; subst hc
      rw [hg] at hroot hx
      exact elem_cells hroot hx (Nat.le_of_ble_eq_true hb)
    · cases hc
  · cases hc

section
variable {P : Program} {w : World}
theorem run_loadCells_at {b o n : Nat} {vs : List Value} (h : At w b o vs) (hn : vs.length = n) : (loadCells ⟨b, o, none⟩ n).run P w = .ok vs.toArray w := by
  subst hn
  apply run_loadCells_list
  intro j v hj
  have hlt : j < vs.length := by
    rcases Nat.lt_or_ge j vs.length with h | h
    · exact h
    · rw [List.getElem?_eq_none h] at hj; cases hj
  have hadd : (⟨b, o, none⟩ : Addr).add j = ⟨b, o + j, none⟩ := by unfold Addr.add; split <;> simp_all
  rw [hadd, h.cell j hlt]
  simp [List.getD_eq_getElem?_getD, hj]

theorem ldT_agg {t : TypeId} {n : Nat} (h : ldT P t = some (true, n)) : (isAgg t).run P w = .ok true w ∧ (sizeOf t).run P w = .ok n w := by
  unfold ldT at h
  split at h <;> try (simp at h; done)
  · rename_i hu hi
    simp at h; subst h
    exact ⟨by simp [isAgg, underlying, hu], by simp [sizeOf, typeInfo, hi]⟩
  · rename_i hu hi
    simp at h; subst h
    exact ⟨by simp [isAgg, underlying, hu], by simp [sizeOf, typeInfo, hi]⟩
theorem ldT_one {t : TypeId} {n : Nat} (h : ldT P t = some (false, n)) : (isAgg t).run P w = .ok false w ∧ (sizeOf t).run P w = .ok n w := by
  unfold ldT at h
  split at h <;> try (simp at h; done)
  rename_i d i h1 h2 hu hi
  simp at h; subst h
  refine ⟨?_, by simp [sizeOf, typeInfo, hi]⟩
  cases d <;> first
    | exact (h1 _ rfl).elim
    | exact (h2 _ _ rfl).elim
    | simp [isAgg, underlying, hu]
theorem ldT_size {t : TypeId} {a : Bool} {n : Nat} (h : ldT P t = some (a, n)) : (sizeOf t).run P w = .ok n w := by
  cases a with
  | true => exact (ldT_agg h).2
  | false => exact (ldT_one h).2
end

end Go.AI
end

section
/- SOUNDNESS: slices; freezing; data out of cells; stores. -/
namespace Go.AI

theorem takeL_len {α : Type} {l : List α} {lo : Nat} {len : Option Nat} (h : lo + lenL l.length lo len ≤ l.length) : (takeL l lo len).length = lenL l.length lo len := by
  cases len with
  | none => simp [takeL, lenL]
  | some n => simp only [takeL, lenL, List.length_take, List.length_drop] at *; omega

/-- part of an array's rows -/
theorem rows_part {E : Env} {e : Ty} {l : List e.D} {vss : List (List Value)} {b o lo : Nat} {len : Option Nat} (hat : At E.w b o vss.flatten) (h : All2 (repT E.w E.I e) l vss)
    (hb : lo + lenL l.length lo len ≤ l.length) : ∃ uss, At E.w b (o + lo * e.sz) uss.flatten ∧ All2 (repT E.w E.I e) (takeL l lo len) uss := by
  have hd := part_drop hat h lo (by omega)
  have hh : All2 (repT E.w E.I e) (l.drop lo) (vss.drop lo) := h.drop lo
  cases len with
  | none => exact ⟨vss.drop lo, hd, hh⟩
  | some n =>
    simp only [lenL] at hb
    exact ⟨(vss.drop lo).take n, part_take hd hh n (by simp; omega), hh.take n⟩

theorem repS_any {E : Env} {e : Ty} {l : List e.D} {a : Option Addr} {n c : Nat} (h : repS E.w E.I (repT E.w E.I e) l a n c) : repS E.w (fun _ => True) (repT E.w E.I e) l a n c := by
  obtain ⟨h1, h2, h3⟩ := h
  refine ⟨h1, h2, ?_⟩
  cases a with
  | none => exact h3
  | some ad => exact h3.imp id fun h => ⟨h.1, trivial, h.2.2⟩

/-- what a ref stands for -/
theorem ref_ok {E : Env} {h lo : Nat} {len : Option Nat} {e : Ty} {l : List e.D} {own : Bool} {x : Value} (H : arrOk E h e l own)
    (hx : refR E.w (E.m h) e l.length lo len x) :
    ∃ a n c, x = .slice a n c ∧ repS E.w (fun b => ∃ o, E.m h = some (b, o)) (repT E.w E.I e) (takeL l lo len) a n c ∧ n = lenL l.length lo len := by
  have htl := takeL_len hx.1
  rcases hx.2 with ⟨h0, a, rfl⟩ | ⟨b, o, c, hm, rfl, h3, h4⟩
  · have hnil : takeL l lo len = [] := List.eq_nil_of_length_eq_zero (by omega)
    refine ⟨a, 0, 0, rfl, ⟨by rw [hnil]; rfl, Nat.le_refl _, ?_⟩, h0.symm⟩
    cases a with
    | none => exact ⟨hnil, rfl⟩
    | some ad => exact .inl hnil
  · obtain ⟨vss, hat, hall⟩ := arr_at H hm
    obtain ⟨uss, h5, h6⟩ := rows_part hat hall hx.1
    exact ⟨_, _, c, rfl, ⟨htl.symm, h3, .inr ⟨rfl, ⟨o, hm⟩, uss, h5, h6⟩⟩, rfl⟩

theorem slice_ok {E : Env} {s : St} {v : AV} {x : Value} {e : Ty} {l : List e.D} (H : HeapRel E) (hs : E.hp = s.hp) (hx : relV E v x) (hc : s.slice v = some ⟨e, l⟩) :
    ∃ a n c, x = .slice a n c ∧ repS E.w (fun _ => True) (repT E.w E.I e) l a n c := by
  unfold St.slice at hc
  split at hc
  · rename_i e' l' nn
    simp only [Option.some.injEq, Sigma.mk.injEq] at hc
    obtain ⟨rfl, hc⟩ := hc
    have hc := eq_of_heq hc; subst hc
    simp only [relV] at hx
    obtain ⟨a, n, c, rfl, hr, _⟩ := hx
    exact ⟨a, n, c, rfl, repS_any hr⟩
  · rename_i h lo len
    have hroot := H.root h
    simp only [relV] at hx
    rw [hs] at hroot hx
    split at hc
    · rename_i e' l' hg
      simp only [Option.some.injEq, Sigma.mk.injEq] at hc
      obtain ⟨rfl, hc⟩ := hc
      have hc := eq_of_heq hc; subst hc
      rw [hg] at hroot hx
      obtain ⟨a, n, c, rfl, hr, _⟩ := ref_ok hroot hx
      exact ⟨a, n, c, rfl, repS_mono hr (fun _ _ => rfl) (fun _ _ => trivial) (fun _ _ h => h)⟩
    · rename_i e' l' hg
      simp only [Option.some.injEq, Sigma.mk.injEq] at hc
      obtain ⟨rfl, hc⟩ := hc
      have hc := eq_of_heq hc; subst hc
      rw [hg] at hroot hx
      obtain ⟨a, n, c, rfl, hr, _⟩ := ref_ok hroot hx
      exact ⟨a, n, c, rfl, repS_mono hr (fun _ _ => rfl) (fun _ _ => trivial) (fun _ _ h => h)⟩
    · cases hc
  · cases hc

theorem len_ok {E : Env} {s : St} {v : AV} {x : Value} {k : Nat} (H : HeapRel E) (hs : E.hp = s.hp) (hx : relV E v x) (hc : s.len v = some k) :
    ∃ a c, x = .slice a k c ∧ k ≤ c := by
  unfold St.len at hc
  split at hc
  · rename_i e' l' nn
    simp only [Option.some.injEq] at hc; subst hc
    simp only [relV] at hx
    obtain ⟨a, n, c, rfl, hr, _⟩ := hx
    obtain ⟨h1, h2, _⟩ := hr
    exact ⟨a, c, by rw [h1], by omega⟩
  · simp only [Option.some.injEq] at hc; subst hc
    simp only [relV] at hx; subst hx
    exact ⟨none, 0, rfl, Nat.le_refl _⟩
  · rename_i h lo len
    have hroot := H.root h
    simp only [relV] at hx
    rw [hs] at hroot hx
    split at hc
    · rename_i e' l' hg
      simp only [Option.some.injEq] at hc; subst hc
      rw [hg] at hroot hx
      obtain ⟨a, n, c, rfl, hr, rfl⟩ := ref_ok hroot hx
      exact ⟨a, c, rfl, hr.2.1⟩
    · rename_i e' l' hg
      simp only [Option.some.injEq] at hc; subst hc
      rw [hg] at hroot hx
      obtain ⟨a, n, c, rfl, hr, rfl⟩ := ref_ok hroot hx
      exact ⟨a, c, rfl, hr.2.1⟩
    · rename_i cs hg
      simp only [Option.some.injEq] at hc; subst hc
      rw [hg] at hx
      obtain ⟨_, hr⟩ := hx
      rcases hr with ⟨h0, a, rfl⟩ | ⟨b, o, c, _, rfl, hk, _⟩
      · exact ⟨a, 0, by rw [h0], by omega⟩
      · exact ⟨_, c, rfl, hk⟩
    · cases hc
  · cases hc

theorem upd_self (m : Nat → Option (Nat × Nat)) (h : Nat) : upd m h (m h) = m := by
  funext k; unfold upd; split
  · rename_i e; rw [e]
  · rfl

/-- an owned array becomes an immutable one -/
theorem freeze1 {A : Env} {keep : Nat} {w : World} {m : Nat → Option (Nat × Nat)} {hp : List (Nat × Root)} {I : Nat → Prop} {tm : List (Nat × AV)} {tmps : Array Value}
    (hg : Good A keep ⟨w, m, hp, I⟩ tm tmps) (h : Nat) (e : Ty) (l : List e.D) (hr : getH hp h = .arr e l) :
    let I' := fun b => I b ∨ ∃ o, m h = some (b, o)
    Good A keep ⟨w, m, (h, .imm e l) :: hp, I'⟩ tm tmps ∧ Grows ⟨w, m, hp, I⟩ ⟨w, m, (h, .imm e l) :: hp, I'⟩ := by
  intro I'
  have H := hg.heap
  have hroot := H.root h
  simp only [hr] at hroot
  have hown : ∀ b o, m h = some (b, o) → Own ⟨w, m, hp, I⟩ b := fun b o hm => ⟨h, o, by simp [hr, owned], hm⟩
  have st : Stays A ⟨w, m, hp, I⟩ h w I' (fun _ => False) := by
    refine ⟨Nat.le_refl _, fun _ _ _ => rfl, fun _ h => h.elim, fun _ => Nat.le_refl _, fun _ h => .inl h, ?_, rfl, rfl, rfl⟩
    rintro b (hb | ⟨o, hb⟩)
    · exact ⟨H.lt b hb, .inl hb⟩
    · refine ⟨(H.own_lt (hown b o hb)).1, .inr ⟨hg.hist.own b (hown b o hb), fun h' o' hne ho hm => hne (H.inj h' h b o' o ho (by simp [hr, owned]) hm hb)⟩⟩
  have := change1 hg h (.imm e l) (m h) (I' := I') st (fun _ => ⟨by rw [hr]; exact ⟨rfl, rfl⟩, fun _ => rfl⟩) (fun hc => by cases hc) (fun g => ?_)
  · rw [upd_self] at this; exact this
  · rw [upd_self] at g ⊢
    refine ⟨hroot.1, ?_⟩
    rcases hroot.2 with ⟨h1, h2⟩ | ⟨b, o, vss, h1, h2, h3⟩
    · exact .inl ⟨h1, h2⟩
    · simp only [if_true] at h2
      exact .inr ⟨b, o, vss, h1, by simp only [Bool.false_eq_true, if_false]; exact ⟨.inr ⟨o, h1⟩, h2.2.at⟩, h3.mono fun _ _ hx => repT_mono g.imm g.sub hx⟩

theorem Grows.trans {E E' E'' : Env} (g : Grows E E') (g' : Grows E' E'') : Grows E E'' where
  imm b hb := (g'.imm b (g.sub b hb)).trans (g.imm b hb)
  sub b hb := g'.sub b (g.sub b hb)
  has h hh := g'.has h (g.has h hh)
  fit h hh := fits_trans (g.fit h hh) (g'.fit h (g.has h hh))
  map h hh hn := by
    have hn' : getH E'.hp h ≠ .gone := by
      intro hgone
      have := g'.fit h (g.has h hh)
      rw [hgone] at this
      cases hx : getH E''.hp h <;> simp_all [fits]
    exact (g'.map h (g.has h hh) hn).trans (g.map h hh hn')
  size b := Nat.le_trans (g.size b) (g'.size b)

/-- the state that a datum is taken out of: its roots may be frozen -/
structure Froze (A : Env) (keep : Nat) (tm : List (Nat × AV)) (tmps : Array Value) (w : World) (m : Nat → Option (Nat × Nat)) (s s1 : St) (I I1 : Nat → Prop) : Prop where
  good : Good A keep ⟨w, m, s1.hp, I1⟩ tm tmps
  grow : Grows ⟨w, m, s.hp, I⟩ ⟨w, m, s1.hp, I1⟩
  tms : s1.tm = s.tm

theorem castL_rep {E : Env} {a b : Ty} {l : List a.D} {l' : List b.D} (h : castL a b l = some l') {I : Nat → Prop} {ad : Option Addr} {n c : Nat} (hr : repS E.w I (repT E.w E.I a) l ad n c) :
    repS E.w I (repT E.w E.I b) l' ad n c := by
  obtain ⟨rfl, rfl⟩ := castL_eq h
  exact hr

theorem takeS_ok {A : Env} {keep : Nat} {tm : List (Nat × AV)} {tmps : Array Value} {w : World} {m : Nat → Option (Nat × Nat)} {e : Ty}
    {s s1 : St} {cs cs1 : List AV} {d : List e.D} {I : Nat → Prop} {vs : List Value} (h : takeS e s cs = some (s1, d, cs1)) (hg : Good A keep ⟨w, m, s.hp, I⟩ tm tmps) (hc : relC ⟨w, m, s.hp, I⟩ cs vs) :
      ∃ I1, Froze A keep tm tmps w m s s1 I I1 ∧ ∃ v1 v2, vs = v1 ++ v2 ∧ repT w I1 (.sl e) d v1 ∧ relC ⟨w, m, s1.hp, I1⟩ cs1 v2 := by
  unfold takeS at h
  cases vs with
  | nil => cases cs <;> simp [relC] at hc; simp at h
  | cons v vs =>
    split at h
    · simp only [Option.some.injEq, Prod.mk.injEq] at h
      obtain ⟨rfl, rfl, rfl⟩ := h
      simp only [relC, relV] at hc
      obtain ⟨_, rfl, hc⟩ := hc
      exact ⟨I, ⟨hg, Grows.refl _, rfl⟩, [_], vs, rfl, ⟨none, 0, 0, rfl, rfl, Nat.le_refl _, rfl, rfl⟩, hc⟩
    · split at h
      · rename_i hl
        simp only [Option.some.injEq, Prod.mk.injEq] at h
        obtain ⟨rfl, rfl, rfl⟩ := h
        simp only [relC, relV] at hc
        obtain ⟨_, ⟨a, n, c, rfl, hr, _⟩, hc⟩ := hc
        exact ⟨I, ⟨hg, Grows.refl _, rfl⟩, [_], vs, rfl, ⟨a, n, c, rfl, castL_rep (E := ⟨w, m, s.hp, I⟩) hl hr⟩, hc⟩
      · cases h
    · rename_i h' lo len cs'
      have hroot := hg.heap.root h'
      split at h
      · rename_i e' l' hgt
        split at h
        · rename_i l2 hl
          simp only [Option.some.injEq, Prod.mk.injEq] at h
          obtain ⟨rfl, rfl, rfl⟩ := h
          simp only [relC, relV] at hc
          obtain ⟨_, hx, hc⟩ := hc
          simp only [hgt] at hroot hx
          obtain ⟨hg', g⟩ := freeze1 hg h' e' l' hgt
          obtain ⟨a, n, c, rfl, hr, _⟩ := ref_ok hroot hx
          refine ⟨_, ⟨hg', g, rfl⟩, [_], vs, rfl, ⟨a, n, c, rfl, ?_⟩, relC_mono g hc⟩
          refine castL_rep (E := ⟨w, m, s.hp, _⟩) hl ?_
          exact repS_mono hr (fun _ _ => rfl) (fun b hb => .inr hb) (fun _ _ hx => repT_mono g.imm g.sub hx)
        · cases h
      · rename_i e' l' hgt
        split at h
        · rename_i l2 hl
          simp only [Option.some.injEq, Prod.mk.injEq] at h
          obtain ⟨rfl, rfl, rfl⟩ := h
          simp only [relC, relV] at hc
          obtain ⟨_, hx, hc⟩ := hc
          simp only [hgt] at hroot hx
          obtain ⟨a, n, c, rfl, hr, _⟩ := ref_ok hroot hx
          refine ⟨I, ⟨hg, Grows.refl _, rfl⟩, [_], vs, rfl, ⟨a, n, c, rfl, ?_⟩, hc⟩
          refine castL_rep (E := ⟨w, m, s.hp, _⟩) hl ?_
          refine repS_mono hr (fun _ _ => rfl) (fun b hb => ?_) (fun _ _ hx => hx)
          obtain ⟨o, hb⟩ := hb
          rcases hroot.2 with ⟨h1, _⟩ | ⟨b', o', vss, h1, h2, _⟩
          · rw [h1] at hb; cases hb
          · rw [h1] at hb; obtain ⟨rfl, rfl⟩ := Prod.mk.inj (Option.some.inj hb)
            simp only [Bool.false_eq_true, if_false] at h2; exact h2.1
        · cases h
      · cases h
    · cases h

theorem takeD_ok {A : Env} {keep : Nat} {tm : List (Nat × AV)} {tmps : Array Value} {w : World} {m : Nat → Option (Nat × Nat)} :
    ∀ {t : Ty} {s s1 : St} {cs cs1 : List AV} {d : t.D} {I : Nat → Prop} {vs : List Value}, takeD t s cs = some (s1, d, cs1) → Good A keep ⟨w, m, s.hp, I⟩ tm tmps → relC ⟨w, m, s.hp, I⟩ cs vs →
      ∃ I1, Froze A keep tm tmps w m s s1 I I1 ∧ ∃ v1 v2, vs = v1 ++ v2 ∧ repT w I1 t d v1 ∧ relC ⟨w, m, s1.hp, I1⟩ cs1 v2 := by
  intro t
  induction t with
  | unit =>
    intro s s1 cs cs1 d I vs h hg hc
    simp only [takeD, Option.some.injEq, Prod.mk.injEq] at h
    obtain ⟨rfl, _, rfl⟩ := h
    exact ⟨I, ⟨hg, Grows.refl _, rfl⟩, [], vs, rfl, rfl, hc⟩
  | int k =>
    intro s s1 cs cs1 d I vs h hg hc
    simp only [takeD] at h
    split at h
    · obtain ⟨hk, h⟩ := cond_none h
      have hk := of_decide_eq_true hk; subst hk
      simp only [Option.some.injEq, Prod.mk.injEq] at h
      obtain ⟨rfl, rfl, rfl⟩ := h
      cases vs with
      | nil => simp [relC] at hc
      | cons v vs =>
        simp only [relC, relV] at hc
        obtain ⟨_, rfl, hc⟩ := hc
        exact ⟨I, ⟨hg, Grows.refl _, rfl⟩, [_], vs, rfl, rfl, hc⟩
    · cases h
  | bool =>
    intro s s1 cs cs1 d I vs h hg hc
    simp only [takeD] at h
    split at h
    · simp only [Option.some.injEq, Prod.mk.injEq] at h
      obtain ⟨rfl, rfl, rfl⟩ := h
      cases vs with
      | nil => simp [relC] at hc
      | cons v vs =>
        simp only [relC, relV] at hc
        obtain ⟨_, rfl, hc⟩ := hc
        exact ⟨I, ⟨hg, Grows.refl _, rfl⟩, [_], vs, rfl, rfl, hc⟩
    · cases h
  | str =>
    intro s s1 cs cs1 d I vs h hg hc
    simp only [takeD] at h
    split at h
    · simp only [Option.some.injEq, Prod.mk.injEq] at h
      obtain ⟨rfl, rfl, rfl⟩ := h
      cases vs with
      | nil => simp [relC] at hc
      | cons v vs =>
        simp only [relC, relV] at hc
        obtain ⟨_, rfl, hc⟩ := hc
        exact ⟨I, ⟨hg, Grows.refl _, rfl⟩, [_], vs, rfl, rfl, hc⟩
    · cases h
  | sl e ih =>
    intro s s1 cs cs1 d I vs h hg hc
    exact takeS_ok h hg hc
  | pair a b iha ihb =>
    intro s s1 cs cs1 d I vs h hg hc
    simp only [takeD] at h
    split at h
    · rename_i s2 x cs2 h1
      split at h
      · rename_i s3 y cs3 h2
        simp only [Option.some.injEq, Prod.mk.injEq] at h
        obtain ⟨rfl, rfl, rfl⟩ := h
        obtain ⟨I1, f1, v1, v2, rfl, r1, c1⟩ := iha h1 hg hc
        obtain ⟨I2, f2, v3, v4, rfl, r2, c2⟩ := ihb h2 f1.good c1
        refine ⟨I2, ⟨f2.good, f1.grow.trans f2.grow, f2.tms.trans f1.tms⟩, v1 ++ v3, v4, by simp, ⟨v1, v3, rfl, ?_, r2⟩, c2⟩
        exact repT_mono f2.grow.imm f2.grow.sub r1
      · cases h
    · cases h

end Go.AI
end

section
/- SOUNDNESS: stores; new roots. -/
namespace Go.AI

def repl {α : Type} (l : List α) (f : Nat) (xs : List α) : List α := l.take f ++ xs ++ l.drop (f + xs.length)

theorem replAt_eq {α : Type} : ∀ (l : List α) (f : Nat) (xs : List α), f ≤ l.length → replAt l f xs = repl l f xs
  | l, 0, xs, _ => by simp [replAt, repl]
  | [], f + 1, xs, h => by simp at h
  | a :: l, f + 1, xs, h => by
    simp only [replAt, repl]
    rw [replAt_eq l f xs (by simpa using h)]
    simp only [repl, List.take_succ_cons, List.cons_append, List.append_assoc, List.cons.injEq, true_and]
    rw [show f + 1 + xs.length = f + xs.length + 1 by omega, List.drop_succ_cons]

theorem repl_len {α : Type} {l : List α} {f : Nat} {xs : List α} (h : f + xs.length ≤ l.length) : (repl l f xs).length = l.length := by
  simp [repl]; omega

theorem surg {α : Type} {P v Q n : List α} {f : Nat} (h : f + n.length ≤ v.length) :
    repl (P ++ v ++ Q) (P.length + f) n = P ++ repl v f n ++ Q := by
  unfold repl
  have h1 : (P ++ v ++ Q).take (P.length + f) = P ++ v.take f := by
    rw [List.append_assoc, List.take_length_add_append, List.take_append_of_le_length (by omega)]
  have h2 : (P ++ v ++ Q).drop (P.length + f + n.length) = v.drop (f + n.length) ++ Q := by
    rw [List.append_assoc, Nat.add_assoc, List.drop_length_add_append, List.drop_append_of_le_length (by omega)]
  rw [h1, h2]
  simp

theorem flatten_at {α : Type} : ∀ (vss : List (List α)) (i : Nat), i < vss.length → vss.flatten = (vss.take i).flatten ++ vss.getD i [] ++ (vss.drop (i + 1)).flatten
  | v :: vss, 0, _ => by simp
  | v :: vss, i + 1, h => by
    have := flatten_at vss i (by simpa using h)
    simp only [List.take_succ_cons, List.flatten_cons, List.append_assoc, List.drop_succ_cons, List.getD_cons_succ, List.append_cancel_left_eq]
    simpa using this
theorem flatten_set {α : Type} (vss : List (List α)) (i : Nat) (u : List α) (h : i < vss.length) : (vss.set i u).flatten = (vss.take i).flatten ++ u ++ (vss.drop (i + 1)).flatten := by
  have := flatten_at (vss.set i u) i (by simpa using h)
  rw [this]
  simp [List.getD_eq_getElem?_getD, h, List.take_set_of_le, List.drop_set_of_lt]

theorem relC_repl {E : Env} {a n : List AV} {x y : List Value} {f : Nat} (h : relC E a x) (h' : relC E n y) : relC E (repl a f n) (repl x f y) := by
  have := relC_length h'
  unfold repl; rw [this]
  exact relC_append (relC_append (relC_take f h) h') (relC_drop _ h)

theorem repl_all {α : Type} {l n : List α} (h : n.length = l.length) : repl l 0 n = n := by
  simp [repl, h]

theorem setCs_ok {A : Env} {keep : Nat} {tm : List (Nat × AV)} {tmps : Array Value} {w : World} {m : Nat → Option (Nat × Nat)} :
    ∀ {t : Ty} {s s1 : St} {x y : t.D} {f : Nat} {cs : List AV} {I : Nat → Prop} {vs nv : List Value}, setCs t s x f cs = some (s1, y) → Good A keep ⟨w, m, s.hp, I⟩ tm tmps →
      repT w I t x vs → relC ⟨w, m, s.hp, I⟩ cs nv → ∃ I1, Froze A keep tm tmps w m s s1 I I1 ∧ repT w I1 t y (repl vs f nv) ∧ f + nv.length ≤ vs.length := by
  intro t
  have whole : ∀ {t : Ty} {s s1 : St} {y : t.D} {cs : List AV} {I : Nat → Prop} {vs nv : List Value} {x : t.D}, takeW t s cs = some (s1, y) →
      Good A keep ⟨w, m, s.hp, I⟩ tm tmps → repT w I t x vs → relC ⟨w, m, s.hp, I⟩ cs nv → ∃ I1, Froze A keep tm tmps w m s s1 I I1 ∧ repT w I1 t y (repl vs 0 nv) ∧ 0 + nv.length ≤ vs.length := by
    intro t s s1 y cs I vs nv x h hg hx hc
    unfold takeW at h
    split at h
    · rename_i s2 y2 h1
      simp only [Option.some.injEq, Prod.mk.injEq] at h
      obtain ⟨rfl, rfl⟩ := h
      obtain ⟨I1, f1, v1, v2, rfl, r1, c1⟩ := takeD_ok h1 hg hc
      have : v2 = [] := by cases v2 <;> simp_all [relC]
      subst this
      have l1 := repT_len r1
      have l2 := repT_len hx
      refine ⟨I1, f1, ?_, by simp; omega⟩
      rw [List.append_nil, repl_all (by omega)]; exact r1
    · cases h
  induction t with
  | pair a b iha ihb =>
    intro s s1 x y f cs I vs nv h hg hx hc
    simp only [setCs] at h
    cases hq : (Nat.beq f 0 && Nat.beq cs.length (a.sz + b.sz)) with
    | true =>
      rw [hq, cond_true] at h
      simp only [Bool.and_eq_true] at hq
      have hf : f = 0 := Nat.eq_of_beq_eq_true hq.1
      subst hf
      exact whole (t := .pair a b) h hg hx hc
    | false =>
      rw [hq, cond_false] at h
      obtain ⟨c1, c2, rfl, h1, h2⟩ := hx
      have l1 := repT_len h1
      have l2 := repT_len h2
      have ln := relC_length hc
      cases hq1 : Nat.ble (f + cs.length) a.sz with
      | true =>
        rw [hq1, cond_true] at h
        have hle := Nat.le_of_ble_eq_true hq1
        split at h
        · rename_i s2 y2 h3
          simp only [Option.some.injEq, Prod.mk.injEq] at h
          obtain ⟨rfl, rfl⟩ := h
          obtain ⟨I1, f1, r1, b1⟩ := iha h3 hg h1 hc
          refine ⟨I1, f1, ⟨repl c1 f nv, c2, ?_, r1, repT_mono f1.grow.imm f1.grow.sub h2⟩, by simp; omega⟩
          have := surg (P := []) (v := c1) (Q := c2) (n := nv) (f := f) b1
          simpa using this
        · cases h
      | false =>
        rw [hq1, cond_false] at h
        obtain ⟨hq2, h⟩ := cond_none h
        have hle := Nat.le_of_ble_eq_true hq2
        split at h
        · rename_i s2 y2 h3
          simp only [Option.some.injEq, Prod.mk.injEq] at h
          obtain ⟨rfl, rfl⟩ := h
          obtain ⟨I1, f1, r1, b1⟩ := ihb h3 hg h2 hc
          refine ⟨I1, f1, ⟨c1, repl c2 (f - a.sz) nv, ?_, repT_mono f1.grow.imm f1.grow.sub h1, r1⟩, by simp; omega⟩
          have := surg (P := c1) (v := c2) (Q := []) (n := nv) (f := f - a.sz) b1
          rw [l1, show a.sz + (f - a.sz) = f by omega] at this
          simpa using this
        · cases h
  | unit =>
    intro s s1 x y f cs I vs nv h hg hx hc
    simp only [setCs] at h
    obtain ⟨hf, h⟩ := cond_none h
    have hf : f = 0 := Nat.eq_of_beq_eq_true hf
    subst hf; exact whole h hg hx hc
  | int k =>
    intro s s1 x y f cs I vs nv h hg hx hc
    simp only [setCs] at h
    obtain ⟨hf, h⟩ := cond_none h
    have hf : f = 0 := Nat.eq_of_beq_eq_true hf
    subst hf; exact whole h hg hx hc
  | bool =>
    intro s s1 x y f cs I vs nv h hg hx hc
    simp only [setCs] at h
    obtain ⟨hf, h⟩ := cond_none h
    have hf : f = 0 := Nat.eq_of_beq_eq_true hf
    subst hf; exact whole h hg hx hc
  | str =>
    intro s s1 x y f cs I vs nv h hg hx hc
    simp only [setCs] at h
    obtain ⟨hf, h⟩ := cond_none h
    have hf : f = 0 := Nat.eq_of_beq_eq_true hf
    subst hf; exact whole h hg hx hc
  | sl e ih =>
    intro s s1 x y f cs I vs nv h hg hx hc
    simp only [setCs] at h
    obtain ⟨hf, h⟩ := cond_none h
    have hf : f = 0 := Nat.eq_of_beq_eq_true hf
    subst hf; exact whole h hg hx hc

theorem bsz_setRow (w : World) (b : Nat) (cs : Array Value) (old : Array Value) (T : TypeId) (fz : Nat × Nat) (hb : w.heap[b]? = some (.cells old T fz)) (hl : cs.size = old.size) (k : Nat) :
    bsz w k ≤ bsz (w.setRow b cs) k := by
  unfold bsz
  by_cases e : k = b
  · subst e; rw [setRow_heap w k old cs T fz hb, hb]; simp [hl]
  · rw [setRow_other w b k cs e]; exact Nat.le_refl _

/-- the block of an owned root changes -/
theorem Stays.write {A E : Env} {keep : Nat} {tm : List (Nat × AV)} {tmps : Array Value} (hg : Good A keep E tm tmps) {h b o : Nat} (ho : owned (getH E.hp h) = true) (hm : E.m h = some (b, o))
    {old cs : Array Value} {T : TypeId} {fz : Nat × Nat} (hb : E.w.heap[b]? = some (.cells old T fz)) (hl : cs.size = old.size) : Stays A E h (E.w.setRow b cs) E.I (fun k => k = b) where
  sz := by simp
  same k _ hk := setRow_other _ _ _ _ hk
  free k hk := by
    subst hk
    have hown : Own E k := ⟨h, o, ho, hm⟩
    exact ⟨(hg.heap.own_lt hown).2, hg.hist.own k hown, fun h' o' hne ho' hm' => hne (hg.heap.inj h' h k o' o ho' ho hm' hm)⟩
  bsz k := bsz_setRow _ _ _ _ _ _ hb hl k
  sub _ h := h
  imm k hk := ⟨by have := hg.heap.lt k hk; simpa using this, .inl hk⟩
  os := rfl
  tape := rfl
  output := rfl

theorem store_ok {P : Program} {A : Env} {keep : Nat} {tmps : Array Value} {w : World} {m : Nat → Option (Nat × Nat)} {I : Nat → Prop} {s : St} {cs : List AV} {vs : List Value} {K : St → R} {r : Res} {v : AV} {x : Value}
    (hg : Good A keep ⟨w, m, s.hp, I⟩ s.tm tmps) (h : s.store cs K v = some r) (hx : relV ⟨w, m, s.hp, I⟩ v x) (hc : relC ⟨w, m, s.hp, I⟩ cs vs) :
    ∃ s2 w' m' I' b o, K s2 = some r ∧ x = .pointer (some ⟨b, o, none⟩) ∧ (storeCells ⟨b, o, none⟩ vs).run P w = .ok () w' ∧ Good A keep ⟨w', m', s2.hp, I'⟩ s2.tm tmps := by
  unfold St.store at h
  split at h
  · rename_i h0 i f
    have hone := relC_one hc
    split at h
    · rename_i old hgt
      obtain ⟨hb, h⟩ := cond_none h
      have hle := Nat.le_of_ble_eq_true hb
      have hf : f ≤ old.length := by omega
      have hroot := hg.heap.root h0
      simp only [relV] at hx
      simp only [hgt] at hroot hx
      obtain ⟨b, hm, rfl⟩ := hx
      obtain ⟨b', vs0, T, h1, h2, h3, h4⟩ := hroot
      have h1 : m h0 = some (b', 0) := h1
      have h3 : w.heap[b']? = some (.cells vs0 T (0, 0)) := h3
      rw [h1] at hm; obtain ⟨rfl, _⟩ := Prod.mk.inj (Option.some.inj hm)
      have l4 := relC_length h4
      have lc := relC_length hc
      have hrun := run_storeCells_at P b' f T vs 0 vs0 w h3 (by simp at l4; omega) hone
      simp only [Nat.add_zero] at hrun
      have hsz : (vs0.toList.take f ++ vs ++ vs0.toList.drop (f + vs.length)).toArray.size = vs0.size := by
        have := repl_len (l := vs0.toList) (f := f) (xs := vs) (by simp at l4 ⊢; omega)
        simpa [repl] using this
      have st := Stays.write hg (h := h0) (b := b') (o := 0) (by simp [hgt, owned]) h1 h3 hsz
      have := change1 hg h0 (.box (replAt old f cs)) (m h0) st (fun _ => ⟨by rw [hgt, replAt_eq _ _ _ hf]; exact (repl_len hle).symm, fun _ => rfl⟩)
        (fun _ b o hm => ⟨hg.hist.own b ⟨h0, o, by simp [hgt, owned], hm⟩, fun h' o' hne ho' hm' => hne (hg.heap.inj h' h0 b o' o ho' (by simp [hgt, owned]) hm' hm)⟩) (fun g => ?_)
      · rw [upd_self] at this
        exact ⟨_, _, m, I, b', f, h, rfl, hrun, this.1⟩
      · rw [upd_self] at g ⊢
        refine ⟨b', _, T, h1, h2, setRow_heap w b' vs0 _ T _ h3, ?_⟩
        have := relC_repl (f := f) (relC_mono g h4) (relC_mono g hc)
        rw [← replAt_eq old f cs hf] at this
        exact this
    · rename_i e l hgt
      split at h
      · rename_i s1 y hset
        split at h
        · rename_i e1 l1 hgt1
          have hroot := hg.heap.root h0
          simp only [relV] at hx
          simp only [hgt] at hroot hx
          obtain ⟨b, o, hm, rfl, hi⟩ := hx
          rcases hroot.2 with ⟨hm0, _⟩ | ⟨b', o', vss, hm', hq, hall⟩
          · have hm0 : m h0 = none := hm0
            rw [hm0] at hm; cases hm
          have hm' : m h0 = some (b', o') := hm'
          rw [hm'] at hm; obtain ⟨rfl, rfl⟩ := Prod.mk.inj (Option.some.inj hm)
          simp only [if_true] at hq
          obtain ⟨hnI, cs0, T, hblk, pre, post, hcs0, rfl⟩ := hq
          have hblk : w.heap[b']? = some (.cells cs0 T (0, 0)) := hblk
          have hlv := hall.length
          have hel := hall.get i e.d0 [] hi
          obtain ⟨I1, fz, hy, hfl⟩ := setCs_ok hset hg hel hc
          have hlen := repT_len hel
          have hvi : i < vss.length := by omega
          obtain ⟨hfl1, hfl2⟩ := flat_split i (lens_of (E := ⟨w, m, s.hp, I⟩) hall) (Nat.le_of_lt hvi)
          have hat := flatten_at vss i hvi
          have htot : cs0.toList = (pre ++ (vss.take i).flatten) ++ vss.getD i [] ++ ((vss.drop (i + 1)).flatten ++ post) := by
            rw [hcs0, hat]; simp
          have hk : (pre ++ (vss.take i).flatten).length = pre.length + i * e.sz := by simp only [List.length_append, hfl2]
          have hsur := surg (P := pre ++ (vss.take i).flatten) (v := vss.getD i []) (Q := (vss.drop (i + 1)).flatten ++ post) (n := vs) (f := f) hfl
          rw [← htot, hk] at hsur
          have hsize : cs0.size = cs0.toList.length := by simp
          have hbound : pre.length + i * e.sz + f + 0 + vs.length ≤ cs0.size := by
            have := congrArg List.length htot
            simp only [List.length_append] at this
            rw [hsize, this, ← hfl2]; omega
          have hrun := run_storeCells_at P b' (pre.length + i * e.sz + f) T vs 0 cs0 w hblk (by omega) hone
          simp only [Nat.add_zero] at hrun
          change (storeCells ⟨b', pre.length + i * e.sz + f, none⟩ vs 0).run P w = .ok () (w.setRow b' (repl cs0.toList (pre.length + i * e.sz + f) vs).toArray) at hrun
          rw [hsur] at hrun
          have hsz : (pre ++ (vss.take i).flatten ++ repl (vss.getD i []) f vs ++ ((vss.drop (i + 1)).flatten ++ post)).toArray.size = cs0.size := by
            have := congrArg List.length htot
            simp only [List.length_append] at this
            simp only [List.size_toArray, List.length_append, repl_len hfl, hsize, this]
          have hfit := fz.grow.fit h0 (hasH_of_getH (by rw [hgt]; simp))
          simp only [hgt, hgt1] at hfit
          obtain ⟨rfl, hll⟩ : e = e1 ∧ l.length = l1.length := hfit
          have st := Stays.write fz.good (h := h0) (b := b') (o := pre.length) (by simp [hgt1, owned]) hm' hblk hsz
          have hnI1 : ¬ I1 b' := (fz.good.heap.own_lt ⟨h0, pre.length, by simp [hgt1, owned], hm'⟩).2
          have := change1 fz.good h0 (.arr e (l.set i y)) (m h0) st (fun _ => ⟨by rw [hgt1]; exact ⟨rfl, by simp [hll]⟩, fun _ => rfl⟩)
            (fun _ b o hm => ⟨fz.good.hist.own b ⟨h0, o, by simp [hgt1, owned], hm⟩, fun h' o' hne ho' hm' => hne (fz.good.heap.inj h' h0 b o' o ho' (by simp [hgt1, owned]) hm' hm)⟩) (fun g => ?_)
          · rw [upd_self] at this
            refine ⟨_, _, m, I1, b', _, h, rfl, hrun, ?_⟩
            have q := this.1
            simp only [St.setH, fz.tms]; exact q
          · rw [upd_self] at g ⊢
            refine ⟨hroot.1, .inr ⟨b', pre.length, vss.set i (repl (vss.getD i []) f vs), hm', ?_, ?_⟩⟩
            · simp only [if_true]
              refine ⟨hnI1, _, T, setRow_heap w b' cs0 _ T _ hblk, pre, post, ?_, rfl⟩
              rw [flatten_set vss i _ hvi]; simp
            · refine All2.set i (hall.mono fun _ _ hx => ?_) (repT_mono g.imm g.sub hy)
              exact repT_mono g.imm g.sub (repT_mono fz.grow.imm fz.grow.sub hx)
        · cases h
      · cases h
    · cases h
  · cases h

end Go.AI
end

section
/- SOUNDNESS: new roots; append. -/
namespace Go.AI
set_option linter.unusedVariables false
set_option linter.unusedSimpArgs false

section
variable {A : Env} {keep : Nat} {tmps : Array Value} {w : World} {m : Nat → Option (Nat × Nat)} {hp : List (Nat × Root)} {I : Nat → Prop} {tm : List (Nat × AV)}

theorem Good.gone_of (hg : Good A keep ⟨w, m, hp, I⟩ tm tmps) {id : Nat} (hn : hasH hp id = false) : getH hp id = .gone := by
  cases hx : getH hp id with
  | gone => rfl
  | box cs => have := hasH_of_getH (hp := hp) (h := id) (by rw [hx]; simp); rw [hn] at this; cases this
  | arr e l => have := hasH_of_getH (hp := hp) (h := id) (by rw [hx]; simp); rw [hn] at this; cases this
  | imm e l => have := hasH_of_getH (hp := hp) (h := id) (by rw [hx]; simp); rw [hn] at this; cases this

theorem fresh_own (hg : Good A keep ⟨w, m, hp, I⟩ tm tmps) (b o : Nat) (h : some (w.heap.size, 0) = some (b, o)) :
    (Own A b ∨ A.w.heap.size ≤ b) ∧ ∀ h o' , owned (getH hp h) = true → m h ≠ some (b, o') := by
  obtain ⟨rfl, rfl⟩ := Prod.mk.inj (Option.some.inj h)
  refine ⟨.inr hg.hist.sz, fun k o' ho hm => ?_⟩
  have := (hg.heap.own_lt (b := w.heap.size) ⟨k, o', ho, hm⟩).1
  exact absurd this (Nat.lt_irrefl _)

theorem new_box (hg : Good A keep ⟨w, m, hp, I⟩ tm tmps) {id : Nat} (hn : hasH hp id = false) {cs : List AV} {vs : Array Value} (hc : relC ⟨w, m, hp, I⟩ cs vs.toList) (T : TypeId) :
    let E' : Env := ⟨w.alloc (.cells vs T), upd m id (some (w.heap.size, 0)), (id, .box cs) :: hp, I⟩
    Good A keep E' tm tmps ∧ Grows ⟨w, m, hp, I⟩ E' ∧ relV E' (.ptr id 0 0) (.pointer (some ⟨w.heap.size, 0, none⟩)) := by
  intro E'
  have hI : ¬ I w.heap.size := fun h => absurd (hg.heap.lt _ h) (Nat.lt_irrefl _)
  have := change1 hg id (.box cs) (some (w.heap.size, 0)) (Stays.alloc hg id (.cells vs T)) (fun h => by rw [hn] at h; cases h)
    (fun _ b o h => ⟨(fresh_own hg b o h).1, fun k o' _ => (fresh_own hg b o h).2 k o'⟩) (fun g => ?_)
  · refine ⟨this.1, this.2, ?_⟩
    simp only [relV, E', getH_same, upd_same]
    exact ⟨_, rfl, rfl⟩
  · exact ⟨w.heap.size, vs, T, upd_same _ _ _, hI, heap_alloc_new w _, relC_mono g hc⟩

theorem new_arr (hg : Good A keep ⟨w, m, hp, I⟩ tm tmps) {id : Nat} (hn : hasH hp id = false) {e : Ty} (he : 0 < e.sz) {l : List e.D} {vss : List (List Value)} (hall : All2 (repT w I e) l vss)
    (T : TypeId) (cells : Array Value) (extra : List Value) (hcs : cells.toList = vss.flatten ++ extra) (c : Nat) (hlc : l.length ≤ c) (hc : c * e.sz ≤ cells.size) {w0 : World} (hw0 : w0.heap = w.heap) (hos : w0.os = w.os) (ht : w0.tape = w.tape) (hout : w0.output = w.output) :
    let E' : Env := ⟨w0.alloc (.cells cells T), upd m id (some (w.heap.size, 0)), (id, .arr e l) :: hp, I⟩
    Good A keep E' tm tmps ∧ Grows ⟨w, m, hp, I⟩ E' ∧ relV E' (.ref id 0 none) (.slice (some ⟨w.heap.size, 0, none⟩) l.length c) := by
  intro E'
  have hI : ¬ I w.heap.size := fun h => absurd (hg.heap.lt _ h) (Nat.lt_irrefl _)
  have hnew : (w0.alloc (.cells cells T)).heap[w.heap.size]? = some (.cells cells T (0, 0)) := by
    have := heap_alloc_new w0 (.cells cells T)
    rw [hw0] at this; exact this
  have st : Stays A ⟨w, m, hp, I⟩ id (w0.alloc (.cells cells T)) I (fun _ => False) := by
    have := Stays.alloc hg id (.cells cells T)
    have e1 : (w0.alloc (.cells cells T)).heap = (w.alloc (.cells cells T)).heap := by show w0.heap.push _ = w.heap.push _; rw [hw0]
    have e2 : ∀ b, AI.bsz (w0.alloc (.cells cells T)) b = AI.bsz (w.alloc (.cells cells T)) b := fun b => by unfold AI.bsz; rw [e1]
    exact ⟨by rw [e1]; exact this.sz, fun b hb hc => by rw [e1]; exact this.same b hb hc, this.free, fun b => by rw [e2]; exact this.bsz b, this.sub, fun b hb => by rw [e1]; exact this.imm b hb, hos, ht, hout⟩
  have := change1 hg id (.arr e l) (some (w.heap.size, 0)) st (fun h => by rw [hn] at h; cases h)
    (fun _ b o h => ⟨(fresh_own hg b o h).1, fun k o' _ => (fresh_own hg b o h).2 k o'⟩) (fun g => ?_)
  · refine ⟨this.1, this.2, ?_⟩
    simp only [relV, E', getH_same, upd_same]
    refine ⟨by simp [lenL], .inr ⟨_, _, c, rfl, by simp [lenL], by simpa [lenL] using hlc, ?_⟩⟩
    unfold AI.bsz; rw [hnew]; simpa using hc
  · refine ⟨he, .inr ⟨w.heap.size, 0, vss, upd_same _ _ _, ?_, hall.mono fun _ _ => repT_mono g.imm g.sub⟩⟩
    simp only [if_true]
    exact ⟨hI, cells, T, hnew, [], extra, by simp [hcs], rfl⟩

theorem new_nil (hg : Good A keep ⟨w, m, hp, I⟩ tm tmps) {id : Nat} (hn : hasH hp id = false) {e : Ty} (he : 0 < e.sz) :
    let E' : Env := ⟨w, upd m id none, (id, .arr e []) :: hp, I⟩
    Good A keep E' tm tmps ∧ Grows ⟨w, m, hp, I⟩ E' ∧ relV E' (.ref id 0 none) (.slice none 0 0) := by
  intro E'
  have := change1 hg id (.arr e []) none (Stays.none hg id) (fun h => by rw [hn] at h; cases h) (fun _ b o h => by cases h) (fun g => ⟨he, .inl ⟨upd_same _ _ _, rfl⟩⟩)
  refine ⟨this.1, this.2, ?_⟩
  simp only [relV, E', getH_same, upd_same]
  exact ⟨by simp [lenL], .inl ⟨by simp [lenL], none, rfl⟩⟩

/-- a root is given up -/
theorem lose (hg : Good A keep ⟨w, m, hp, I⟩ tm tmps) (h : Nat) (hr : hasH hp h = true) :
    Good A keep ⟨w, m, (h, .gone) :: hp, I⟩ tm tmps ∧ Grows ⟨w, m, hp, I⟩ ⟨w, m, (h, .gone) :: hp, I⟩ := by
  have := change1 hg h .gone (m h) (Stays.none hg h) (fun _ => ⟨by cases getH hp h <;> trivial, fun _ => rfl⟩) (fun hc => by cases hc) (fun g => trivial)
  rw [upd_self] at this
  exact this
end

section
variable {P : Program} {w : World}

/-- what append appends, in the model -/
def SrcOk (P : Program) (w : World) (size : Nat) (x : Value) (n : Nat) (news : List Value) : Prop :=
  (∀ w', (Builtin.lenOf x).run P w' = .ok n w') ∧ (∀ w' : World, w'.heap = w.heap → (Builtin.firstCells size n x).run P w' = .ok news.toArray w') ∧ news.length = n * size ∧ ∀ v ∈ news, v.oneCell' = true

theorem srcTy_ok {u : TypeId} (h : srcTy P u = true) : ∃ d, P.underlying u = some d ∧ ∀ k, d ≠ .int k := by
  unfold srcTy at h
  split at h
  · exact ⟨_, by assumption, by simp⟩
  · cases h

theorem run_append_in {t u ty e : TypeId} {i : TypeInfo} (ht : P.underlying t = some (.slice e)) (hu : ∃ d, P.underlying u = some d ∧ ∀ k, d ≠ .int k) (hi : P.info? e = some i)
    {b o sLen sCap n : Nat} {x : Value} {news : List Value} (hsrc : SrcOk P w i.size x n news) (hroom : sLen + n ≤ sCap) {cur : Array Value} {T : TypeId} (hblk : w.heap[b]? = some (.cells cur T (0, 0)))
    (hfit : o + sLen * i.size + news.length ≤ cur.size) :
    (Builtin.append_ #[t, u] ty #[.slice (some ⟨b, o, none⟩) sLen sCap, x]).run P w =
      .ok (.slice (some ⟨b, o, none⟩) (sLen + n) sCap) (w.setRow b (repl cur.toList (o + sLen * i.size) news).toArray) := by
  obtain ⟨h1, h2, h3, h4⟩ := hsrc
  obtain ⟨d, hu, hd⟩ := hu
  have hz : (match d with | TypeDesc.int _ => true | _ => false) = false := by cases d <;> first | rfl | exact absurd rfl (hd _)
  have hadd : ((⟨b, o, none⟩ : Addr).add (sLen * i.size)) = ⟨b, o + sLen * i.size, none⟩ := by unfold Addr.add; split <;> simp_all
  have hst := run_storeCells_at P b (o + sLen * i.size) T news 0 cur w hblk (by omega) h4
  simp only [Nat.add_zero] at hst
  simp [Builtin.append_, underlying, ht, hu, hz, sizeOf, typeInfo, hi, h1, hroom, h2 w rfl, hadd, hst, repl]

theorem run_append_new {t u ty e : TypeId} {i : TypeInfo} {z : Value} (ht : P.underlying t = some (.slice e)) (hu : ∃ d, P.underlying u = some d ∧ ∀ k, d ≠ .int k) (hi : P.info? e = some i) (hz : i.zero = some z)
    {base : Option Addr} {sLen sCap n : Nat} {x : Value} {olds news : List Value} (hold : ∀ w' : World, w'.heap = w.heap → (Builtin.firstCells i.size sLen (.slice base sLen sCap)).run P w' = .ok olds.toArray w')
    (hsrc : SrcOk P w i.size x n news) (hroom : sCap < sLen + n) (hb : 0 < i.bytes) (hfit : (sLen + n) * i.bytes ≤ 140737488355328) :
    (Builtin.append_ #[t, u] ty #[.slice base sLen sCap, x]).run P w =
      .ok (.slice (some ⟨w.heap.size, 0, none⟩) (sLen + n) (grownCap w (sLen + n) sCap e))
        (w.drew.alloc (.cells (olds.toArray ++ news.toArray ++ Builtin.zeroCells z.cells (grownCap w (sLen + n) sCap e - (sLen + n))) e)) := by
  obtain ⟨h1, h2, h3, h4⟩ := hsrc
  obtain ⟨d, hu, hd⟩ := hu
  have hzz : (match d with | TypeDesc.int _ => true | _ => false) = false := by cases d <;> first | rfl | exact absurd rfl (hd _)
  have hn : ¬ (sLen + n ≤ sCap) := by omega
  have hle : sLen + n ≤ (sLen + n) * i.bytes := Nat.le_mul_of_pos_right _ hb
  have h63' : ¬ (9223372036854775807 < ((sLen : Int) + (n : Int))) := by omega
  have hgs := growslice_fits hroom hfit
  have h48' : ¬ (281474976710656 < Builtin.nextslicecap (sLen + n) sCap * i.bytes) := by omega
  simp [Builtin.append_, underlying, ht, hu, hzz, sizeOf, typeInfo, zeroValue, hi, hz, h1, hn, h63', h48', Question.forced, hold w.drew rfl, h2 w.drew rfl, newRow, grownCap]
  congr 2
  apply Array.ext'
  simp [List.append_assoc]
end


section
variable {P : Program} {A : Env} {keep : Nat} {tmps : Array Value} {w : World} {m : Nat → Option (Nat × Nat)} {I : Nat → Prop}

theorem first_of_repS {α : Type} {J : Nat → Prop} {Rr : α → List Value → Prop} {l : List α} {a : Option Addr} {n c size : Nat} (h : repS w J Rr l a n c) (hlen : ∀ x y, Rr x y → y.length = size) (hone : ∀ x y, Rr x y → ∀ v ∈ y, v.oneCell' = true) :
    ∃ vss, All2 Rr l vss ∧ SrcOk P w size (.slice a n c) n vss.flatten := by
  obtain ⟨h1, h2, h3⟩ := h
  cases a with
  | none =>
    obtain ⟨rfl, rfl⟩ := h3
    refine ⟨[], trivial, fun w' => by simp [Builtin.lenOf], fun w' _ => by simp [Builtin.firstCells], by simp at h1; simp [h1], by simp⟩
  | some ad =>
    rcases h3 with rfl | ⟨hs, _, vss, hat, hall⟩
    · simp at h1; subst h1
      exact ⟨[], trivial, fun w' => by simp [Builtin.lenOf], fun w' _ => by simp [Builtin.firstCells, loadCells, loadCellsFrom], by simp, by simp⟩
    have hl : ∀ v ∈ vss, v.length = size ∧ ∀ u ∈ v, u.oneCell' = true := by
      clear hat h1 h2
      induction l generalizing vss with
      | nil => cases vss <;> simp_all [All2]
      | cons x l ih => cases vss with
        | nil => simp [All2] at hall
        | cons v vss =>
          intro u hu
          rcases List.mem_cons.1 hu with rfl | hu
          · exact ⟨hlen _ _ hall.1, hone _ _ hall.1⟩
          · exact ih vss hall.2 u hu
    have hflat : vss.flatten.length = n * size := by
      have := flat_split (sz := size) vss.length (fun v hv => (hl v hv).1) (Nat.le_refl _)
      rw [List.take_length] at this
      rw [this.2, h1, hall.length]
    refine ⟨vss, hall, fun w' => by simp [Builtin.lenOf], fun w' hw' => ?_, hflat, ?_⟩
    · have had : ad = ⟨ad.block, ad.off, none⟩ := by cases ad; simp_all
      have hat' : At w' ad.block ad.off vss.flatten := hat.mono (by rw [hw'])
      simp only [Builtin.firstCells]
      rw [had]
      exact run_loadCells_at hat' hflat
    · intro v hv
      obtain ⟨u, hu, hv⟩ := List.mem_flatten.1 hv
      exact (hl u hu).2 v hv

theorem appSrc_ok {s : St} {e : Ty} {y : AV} {v : Value} {xs : List e.D} (H : HeapRel ⟨w, m, s.hp, I⟩) (h : s.appSrc e y = some xs) (hy : relV ⟨w, m, s.hp, I⟩ y v) :
    ∃ vss, All2 (repT w I e) xs vss ∧ SrcOk P w e.sz v xs.length vss.flatten := by
  unfold St.appSrc at h
  split at h
  · simp only [Option.some.injEq] at h; subst h
    simp only [relV] at hy; subst hy
    exact ⟨[], trivial, fun w' => by simp [Builtin.lenOf], fun w' _ => by simp [Builtin.firstCells], by simp, by simp⟩
  · split at h
    · rename_i e' l' hsl
      obtain ⟨a, n, c, rfl, hr⟩ := slice_ok H rfl hy hsl
      obtain ⟨rfl, rfl⟩ := castL_eq h
      obtain ⟨vss, h1, h2⟩ := first_of_repS (P := P) hr (fun _ _ => repT_len) (fun _ _ => repT_one)
      rw [hr.1] at h2 ⊢
      exact ⟨vss, h1, h2⟩
    · cases h

theorem elemI_ok {t et : TypeId} {e : Ty} {bytes : Nat} (h : elemI P t = some (et, e, bytes)) :
    ∃ i z, P.underlying t = some (.slice et) ∧ P.info? et = some i ∧ i.zero = some z ∧ e.sz = i.size ∧ 0 < e.sz ∧ i.bytes = bytes ∧ 0 < bytes ∧ z.cells.size = e.sz ∧ tyOf P et = some e := by
  unfold elemI at h
  split at h
  · cases h
  · rename_i et' he
    split at h
    · rename_i e' i hty hi
      split at h
      · rename_i z hz
        obtain ⟨hc, h⟩ := cond_none h
        simp only [Bool.and_eq_true] at hc
        simp only [Option.some.injEq, Prod.mk.injEq] at h
        obtain ⟨rfl, rfl, rfl⟩ := h
        have hu : P.underlying t = some (.slice et') := by
          unfold elemT at he
          split at he
          · simp only [Option.some.injEq] at he; subst he; assumption
          · cases he
        exact ⟨i, z, hu, hi, hz, Nat.eq_of_beq_eq_true hc.1.1.1, Nat.le_of_ble_eq_true hc.1.1.2, rfl, Nat.le_of_ble_eq_true hc.1.2, Nat.eq_of_beq_eq_true hc.2, hty⟩
      · cases h
    · cases h

theorem zeroCells_size (z : Array Value) (n : Nat) : (Builtin.zeroCells z n).size = n * z.size := by simp [Builtin.zeroCells]

/-- what a call of a new row with a slice comes to -/
theorem grow_ok {t u ty et : TypeId} {e : Ty} {i : TypeInfo} {z : Value} (hu : P.underlying t = some (.slice et)) (hsrc : ∃ d, P.underlying u = some d ∧ ∀ k, d ≠ .int k) (hi : P.info? et = some i) (hz : i.zero = some z)
    (hsz : e.sz = i.size) (he : 0 < e.sz) (hb : 0 < i.bytes) (hzs : z.cells.size = e.sz)
    {hp : List (Nat × Root)} {tm : List (Nat × AV)} (hg : Good A keep ⟨w, m, hp, I⟩ tm tmps) {id : Nat} (hn : hasH hp id = false)
    {base : Option Addr} {sLen sCap : Nat} {l xs : List e.D} {uss vss : List (List Value)} (ho : All2 (repT w I e) l uss) (hl : sLen = l.length)
    (hold : ∀ w' : World, w'.heap = w.heap → (Builtin.firstCells i.size sLen (.slice base sLen sCap)).run P w' = .ok uss.flatten.toArray w')
    {x : Value} (hx : All2 (repT w I e) xs vss) (hs : SrcOk P w e.sz x xs.length vss.flatten) (hroom : sCap < sLen + xs.length) (hfit : (sLen + xs.length) * i.bytes ≤ 140737488355328) :
    ∃ w' zv, (Builtin.append_ #[t, u] ty #[.slice base sLen sCap, x]).run P w = .ok zv w' ∧
      ∃ m', Good A keep ⟨w', m', (id, .arr e (l ++ xs)) :: hp, I⟩ tm tmps ∧ relV ⟨w', m', (id, .arr e (l ++ xs)) :: hp, I⟩ (.ref id 0 none) zv := by
  rw [hsz] at hs
  have hrun := run_append_new (P := P) (w := w) (u := u) (ty := ty) (x := x) hu hsrc hi hz hold hs hroom hb hfit
  have hge : sLen + xs.length ≤ grownCap w (sLen + xs.length) sCap et := by simp [grownCap, Question.cut]
  have hall := ho.append hx
  have hlens : ∀ {l : List e.D} {vss : List (List Value)}, All2 (repT w I e) l vss → vss.flatten.length = l.length * e.sz := by
    intro l vss h
    have := flat_split (sz := e.sz) vss.length (lens_of (E := ⟨w, m, hp, I⟩) h) (Nat.le_refl _)
    rw [List.take_length] at this
    rw [this.2, h.length]
  have := new_arr hg hn he hall et (uss.flatten.toArray ++ vss.flatten.toArray ++ Builtin.zeroCells z.cells (grownCap w (sLen + xs.length) sCap et - (sLen + xs.length)))
    (Builtin.zeroCells z.cells (grownCap w (sLen + xs.length) sCap et - (sLen + xs.length))).toList (by simp) (grownCap w (sLen + xs.length) sCap et) (by rw [List.length_append, ← hl]; exact hge)
    (by
      rw [Array.size_append, Array.size_append, zeroCells_size, hzs, List.size_toArray, List.size_toArray, hlens ho, hlens hx, ← hl, ← Nat.add_mul, ← Nat.add_mul]
      exact Nat.mul_le_mul_right _ (by omega)) (w0 := w.drew) rfl rfl rfl rfl
  refine ⟨_, _, hrun, _, this.1, ?_⟩
  have q := this.2.2
  rw [List.length_append, ← hl] at q
  exact q

theorem appendA_ok {t u ty : TypeId} {x y : AV} {vx vy : Value} {id : Nat} {s : St} {K : St → AV → R} {r : Res} (h : appendA P t u x y id s K = some r)
    (hg : Good A keep ⟨w, m, s.hp, I⟩ s.tm tmps) (hx : relV ⟨w, m, s.hp, I⟩ x vx) (hy : relV ⟨w, m, s.hp, I⟩ y vy) :
    ∃ s2 v2 w' z, K s2 v2 = some r ∧ (Builtin.append_ #[t, u] ty #[vx, vy]).run P w = .ok z w' ∧ goodV A keep s2 tmps w' v2 z := by
  unfold appendA at h
  split at h
  · cases h
  · rename_i et e bytes hel
    obtain ⟨i, z, hu, hi, hz, hsz, he, rfl, hb, hzs, _⟩ := elemI_ok hel
    obtain ⟨hst, h⟩ := cond_none h
    have hsrc := srcTy_ok hst
    split at h
    · cases h
    · rename_i xs hxs
      obtain ⟨vss, hall, hsr⟩ := appSrc_ok (P := P) hg.heap hxs hy
      split at h
      · -- onto nil
        simp only [relV] at hx; subst hx
        obtain ⟨hfit, h⟩ := chk_some h
        unfold St.new at h
        obtain ⟨hnh, h⟩ := cond_none' h
        have hfit : xs.length * i.bytes ≤ 140737488355328 := of_decide_eq_true hfit
        by_cases h0 : xs.length = 0
        · have : xs = [] := List.eq_nil_of_length_eq_zero h0
          subst this
          obtain ⟨q1, _, q3⟩ := new_nil hg hnh he
          refine ⟨_, _, w, .slice none 0 0, h, ?_, _, I, q1, q3⟩
          obtain ⟨h1, h2, h3, h4⟩ := hsr
          have hv0 : vss = [] := by cases vss <;> simp_all [All2]
          subst hv0
          obtain ⟨d, hud, hd⟩ := hsrc
          have hzz : (match d with | TypeDesc.int _ => true | _ => false) = false := by cases d <;> first | rfl | exact absurd rfl (hd _)
          rw [hsz] at h2
          simp at h2
          simp [Builtin.append_, underlying, hu, hud, hzz, sizeOf, typeInfo, hi, h1, h2]
        · obtain ⟨w', zv, hr, m', q1, q2⟩ := grow_ok (P := P) (ty := ty) hu hsrc hi hz hsz he hb hzs hg hnh (base := none) (sLen := 0) (sCap := 0) (l := []) (uss := []) trivial rfl
            (fun w' _ => by simp [Builtin.firstCells]) hall hsr (by omega) (by simpa using hfit)
          exact ⟨_, _, w', zv, h, hr, m', I, q1, q2⟩
      · -- onto an owned array
        rename_i h0 lo _
        split at h
        · rename_i e' l hgt
          split at h
          · rename_i l' hcast
            obtain ⟨rfl, rfl⟩ := castL_eq hcast
            obtain ⟨hfit, h⟩ := chk_some h
            unfold St.new at h
            obtain ⟨hnh, h⟩ := cond_none' h
            have hfit : ((l.drop lo).length + xs.length) * i.bytes ≤ 140737488355328 := of_decide_eq_true hfit
            have hroot := hg.heap.root h0
            simp only [relV] at hx
            simp only [hgt] at hroot hx
            have hhas : hasH s.hp h0 = true := hasH_of_getH (by rw [hgt]; simp)
            obtain ⟨lg, lgr⟩ := lose hg h0 hhas
            rcases hx.2 with ⟨hlen0, ab, rfl⟩ | ⟨b, o, c, hm, rfl, hb2, hb3⟩
            · have hd0 : l.drop lo = [] := List.eq_nil_of_length_eq_zero (by simpa [lenL] using hlen0)
              by_cases hx0 : xs.length = 0
              · have : xs = [] := List.eq_nil_of_length_eq_zero hx0
                subst this
                obtain ⟨q1, _, q3⟩ := new_nil lg hnh he
                have e0 : (l.drop lo ++ []) = [] := by simp [hd0]
                refine ⟨_, _, w, .slice ab 0 0, h, ?_, upd m id none, I, ?_, ?_⟩
                · obtain ⟨h1, h2, h3, h4⟩ := hsr
                  have hv0 : vss = [] := by cases vss <;> simp_all [All2]
                  subst hv0
                  obtain ⟨d, hud, hd⟩ := hsrc
                  have hzz : (match d with | TypeDesc.int _ => true | _ => false) = false := by cases d <;> first | rfl | exact absurd rfl (hd _)
                  rw [hsz] at h2
                  simp at h2
                  cases ab <;> simp [Builtin.append_, underlying, hu, hud, hzz, sizeOf, typeInfo, hi, h1, h2, storeCells]
                · simp only [St.setH, e0]; exact q1
                · simp only [St.setH, e0, relV, getH_same, upd_same]
                  exact ⟨by simp [lenL], .inl ⟨by simp [lenL], ab, rfl⟩⟩
              · obtain ⟨w', zv, hr, m', q1, q2⟩ := grow_ok (P := P) (ty := ty) hu hsrc hi hz hsz he hb hzs lg hnh (base := ab) (sLen := 0) (sCap := 0) (l := l.drop lo) (uss := []) (by rw [hd0]; trivial) (by simp [hd0])
                  (fun w' _ => by cases ab <;> simp [Builtin.firstCells, loadCells, loadCellsFrom]) hall hsr (by omega) (by rw [hd0] at hfit; simpa using hfit)
                exact ⟨_, _, w', zv, h, hr, m', I, q1, q2⟩
            · have hb1 := hx.1
              simp only [lenL] at hb1 hb2 ⊢
              rcases hroot.2 with ⟨hm0, _⟩ | ⟨b', o', uss, hm', hq, huss⟩
              · have hm0 : m h0 = none := hm0
                rw [hm0] at hm; cases hm
              have hm' : m h0 = some (b', o') := hm'
              rw [hm'] at hm; obtain ⟨rfl, rfl⟩ := Prod.mk.inj (Option.some.inj hm)
              simp only [if_true] at hq
              obtain ⟨hnI, cur, T, hblk, pre, post, hcur, rfl⟩ := hq
              have hblk : w.heap[b']? = some (.cells cur T (0, 0)) := hblk
              have hull := huss.length
              have hlens := lens_of (E := ⟨w, m, s.hp, I⟩) huss
              have hfl := flat_split (sz := e'.sz) lo hlens (by omega)
              have hfln := flat_split (sz := e'.sz) uss.length hlens (Nat.le_refl _)
              rw [List.take_length] at hfln
              by_cases hroom : (l.length - lo) + xs.length ≤ c
              · -- there is room
                have hsr' := hsr
                rw [hsz] at hsr'
                have hbs : bsz w b' = cur.size := by simp [AI.bsz, hblk]
                have hnl : vss.flatten.length = xs.length * e'.sz := hsr.2.2.1
                have e1 : lo * e'.sz + (l.length - lo) * e'.sz = l.length * e'.sz := by rw [← Nat.add_mul]; congr 1; omega
                have e2 : (lo + c) * e'.sz = lo * e'.sz + c * e'.sz := Nat.add_mul _ _ _
                have e3 : (l.length - lo + xs.length) * e'.sz ≤ c * e'.sz := Nat.mul_le_mul_right _ hroom
                have e4 : (l.length - lo + xs.length) * e'.sz = (l.length - lo) * e'.sz + xs.length * e'.sz := Nat.add_mul _ _ _
                have hb3 : pre.length + (lo + c) * e'.sz ≤ cur.size := by rw [← hbs]; exact hb3
                have hpos : pre.length + lo * e'.sz + (l.length - lo) * e'.sz = (pre ++ uss.flatten).length := by
                  rw [List.length_append, hfln.2, ← hull]; omega
                have hcl : cur.size = (pre ++ uss.flatten).length + post.length := by
                  have := congrArg List.length hcur
                  simp only [List.length_append, Array.length_toList] at this ⊢
                  omega
                have hfits : vss.flatten.length ≤ post.length := by omega
                have hrun := run_append_in (P := P) (w := w) (ty := ty) (u := u) (x := vy) (b := b') (o := pre.length + lo * e'.sz) (sLen := l.length - lo) (sCap := c) hu hsrc hi hsr' hroom hblk (by rw [← hsz]; omega)
                rw [← hsz, hpos] at hrun
                have hrepl : repl cur.toList (pre ++ uss.flatten).length vss.flatten = (pre ++ (uss.take lo).flatten) ++ ((uss.drop lo) ++ vss).flatten ++ post.drop vss.flatten.length := by
                  have := surg (P := pre ++ uss.flatten) (v := post) (Q := []) (n := vss.flatten) (f := 0) (by omega)
                  rw [List.append_nil, ← hcur, Nat.add_zero, List.append_nil] at this
                  rw [this]
                  conv => lhs; rw [hfl.1]
                  simp [repl]
                rw [hrepl] at hrun
                have hsize : ((pre ++ (uss.take lo).flatten) ++ ((uss.drop lo) ++ vss).flatten ++ post.drop vss.flatten.length).toArray.size = cur.size := by
                  rw [← hrepl]
                  have := repl_len (l := cur.toList) (f := (pre ++ uss.flatten).length) (xs := vss.flatten) (by simp only [Array.length_toList]; omega)
                  simpa using this
                have hown0 : Own ⟨w, m, s.hp, I⟩ b' := ⟨h0, pre.length, by simp [hgt, owned], hm'⟩
                have hfree : ∀ h o, owned (getH ((h0, Root.gone) :: s.hp) h) = true → m h ≠ some (b', o) := by
                  intro h o ho hmh
                  by_cases e : h = h0
                  · subst e; rw [getH_same] at ho; cases ho
                  · rw [getH_other _ _ e] at ho
                    exact e (hg.heap.inj h h0 b' o pre.length ho (by simp [hgt, owned]) hmh hm')
                have hownA := hg.hist.own b' hown0
                have st : Stays A ⟨w, m, (h0, .gone) :: s.hp, I⟩ id (w.setRow b' ((pre ++ (uss.take lo).flatten) ++ ((uss.drop lo) ++ vss).flatten ++ post.drop vss.flatten.length).toArray) I (fun k => k = b') :=
                  ⟨by simp, fun k _ hk => setRow_other _ _ _ _ hk, fun k hk => by subst hk; exact ⟨hnI, hownA, fun h o _ => hfree h o⟩, fun k => bsz_setRow _ _ _ _ _ _ hblk hsize k, fun _ h => h,
                    fun k hk => ⟨by have := hg.heap.lt k hk; simpa using this, .inl hk⟩, rfl, rfl, rfl⟩
                have hnh' : hasH ((h0, Root.gone) :: s.hp) id = false := hnh
                have hc1 := change1 lg id (.arr e' (l.drop lo ++ xs)) (some (b', pre.length + lo * e'.sz)) st (fun h => by rw [hnh'] at h; cases h)
                  (fun _ k o hk => by obtain ⟨rfl, rfl⟩ := Prod.mk.inj (Option.some.inj hk); exact ⟨hownA, fun h o' _ => hfree h o'⟩)
                  (fun g => ⟨he, .inr ⟨b', _, uss.drop lo ++ vss, upd_same _ _ _, by
                    simp only [if_true]
                    exact ⟨hnI, _, T, setRow_heap w b' cur _ T _ hblk, pre ++ (uss.take lo).flatten, post.drop vss.flatten.length, by simp, by simp only [List.length_append, hfl.2]⟩,
                    ((huss.drop lo).append hall).mono fun _ _ hx => repT_mono g.imm g.sub hx⟩⟩)
                refine ⟨_, _, _, _, h, hrun, _, I, hc1.1, ?_⟩
                simp only [relV, St.setH, getH_same, upd_same]
                have hlen : (l.drop lo ++ xs).length = l.length - lo + xs.length := by simp
                refine ⟨by simp [lenL], .inr ⟨_, _, c, rfl, by rw [hlen]; simp [lenL], by rw [hlen]; simpa [lenL] using hroom, ?_⟩⟩
                have : AI.bsz (w.setRow b' ((pre ++ (uss.take lo).flatten) ++ ((uss.drop lo) ++ vss).flatten ++ post.drop vss.flatten.length).toArray) b' = cur.size := by
                  unfold AI.bsz; rw [setRow_heap w b' cur _ T _ hblk]; exact hsize
                rw [this]
                simp only [Nat.zero_add]; omega
              · -- it grows
                have hold : ∀ w' : World, w'.heap = w.heap → (Builtin.firstCells i.size (l.length - lo) (.slice (some ⟨b', pre.length + lo * e'.sz, none⟩) (l.length - lo) c)).run P w' = .ok (uss.drop lo).flatten.toArray w' := by
                  intro w' hw'
                  have hat : At w b' pre.length uss.flatten := ⟨cur, T, _, hblk, pre, post, hcur, rfl⟩
                  have hd := part_drop (E := ⟨w, m, s.hp, I⟩) hat huss lo (by omega)
                  have hd' : At w' b' (pre.length + lo * e'.sz) (uss.drop lo).flatten := hd.mono (by rw [hw'])
                  simp only [Builtin.firstCells]
                  refine run_loadCells_at hd' ?_
                  have := flat_split (sz := e'.sz) (vss := uss.drop lo) (uss.drop lo).length (fun v hv => hlens v (List.mem_of_mem_drop hv)) (Nat.le_refl _)
                  rw [List.take_length] at this
                  rw [this.2, ← hsz, List.length_drop, ← hull]
                obtain ⟨w', zv, hr, m', q1, q2⟩ := grow_ok (P := P) (ty := ty) hu hsrc hi hz hsz he hb hzs lg hnh (base := some ⟨b', pre.length + lo * e'.sz, none⟩) (sLen := l.length - lo) (sCap := c) (l := l.drop lo) (uss := uss.drop lo)
                  (huss.drop lo) (by simp) hold hall hsr (by omega) (by simpa using hfit)
                exact ⟨_, _, w', zv, h, hr, m', I, q1, q2⟩
          · cases h
        · cases h
      · cases h
end

end Go.AI
end

section
/- SOUNDNESS: the operations, one by one (calls are not among them). -/
namespace Go.AI
set_option linter.unusedVariables false
set_option linter.unusedSimpArgs false

section
variable {P : Program} {A : Env} {keep : Nat} {w : World} {m : Nat → Option (Nat × Nat)} {I : Nat → Prop} {s : St} {o : Oper} {a : Act} {K : St → AV → R} {r : Res}

/-- what is to be shown of an operation -/
def Done (P : Program) (o : Oper) (a : Act) (w : World) (A : Env) (keep : Nat) (K : St → AV → R) (r : Res) : Prop :=
  ∃ s2 v2, K s2 v2 = some r ∧ OpOk P o a w fun x w' => goodV A keep s2 a.tmps w' v2 x

theorem Done.same (hg : Good A keep ⟨w, m, s.hp, I⟩ s.tm a.tmps) {v : AV} {x : Value} (h : K s v = some r) (hr : (execOp a.eval o).run P w = .ok (.value x) w) (hv : relV ⟨w, m, s.hp, I⟩ v x) :
    Done P o a w A keep K r := ⟨s, v, h, OpOk.same hg hr hv⟩

theorem op_move {y : Operand} (ho : o.op = .move y ∨ o.op = .assign y) (hg : Good A keep ⟨w, m, s.hp, I⟩ s.tm a.tmps) (h : K s (s.ev y) = some r) : Done P o a w A keep K r :=
  Done.same hg h (by rcases ho with ho | ho <;> simp [execOp, ho]) (ev_rel hg.tm y)

theorem op_pick {c x y : Operand} (ho : o.op = .pick c x y) (hg : Good A keep ⟨w, m, s.hp, I⟩ s.tm a.tmps)
    (h : (match s.ev c with
      | .val (.bool v) => match s.ev x, s.ev y with
        | .val (.bool p), .val (.bool q) => K s (.val (.bool (cond v p q)))
        | p, q => cond v (K s p) (K s q)
      | _ => none) = some r) : Done P o a w A keep K r := by
  have hc := ev_rel hg.tm c
  have hx := ev_rel hg.tm x
  have hy := ev_rel hg.tm y
  split at h
  · rename_i v hv
    rw [hv] at hc; simp only [relV] at hc
    have hrun : (execOp a.eval o).run P w = .ok (.value (if v = true then a.eval x else a.eval y)) w := by
      simp [execOp, ho, hc, asBool]
    split at h
    · rename_i p q hp hq
      rw [hp] at hx; rw [hq] at hy; simp only [relV] at hx hy
      rw [hx, hy] at hrun
      refine Done.same hg h (x := .bool (cond v p q)) ?_ (by simp [relV])
      rw [hrun]; cases v <;> rfl
    · cases v with
      | true => exact Done.same hg h (by simpa using hrun) hx
      | false => exact Done.same hg h (by simpa using hrun) hy
  · cases h

theorem zeroOf_ok {t : TypeId} {cs : List AV} (h : zeroOf P t = some cs) : ∃ z, zeroV P t = some z ∧ relC ⟨w, m, s.hp, I⟩ cs z.cells.toList := by
  unfold zeroOf at h
  split at h
  · rename_i z hz
    obtain ⟨hc, h⟩ := cond_none h
    simp only [Option.some.injEq] at h; subst h
    refine ⟨z, hz, relC_iff.2 ?_⟩
    unfold zeroCs
    generalize z.cells.toList = l at hc
    induction l with
    | nil => trivial
    | cons v l ih =>
      simp only [List.all_cons, Bool.and_eq_true] at hc
      exact ⟨⟨by cases v <;> simp_all [oneC, Value.oneCell'], by simp [relV]⟩, ih hc.2⟩
  · cases h
theorem run_zeroV {t : TypeId} {z : Value} (h : zeroV P t = some z) : (zeroValue t).run P w = .ok z w := by
  unfold zeroV at h
  split at h
  · rename_i i hi
    simp [zeroValue, typeInfo, hi, h]
  · cases h

theorem St.new_some {id : Nat} {x : Root} {k : St → R} (h : s.new id x k = some r) : hasH s.hp id = false ∧ k (s.setH id x) = some r := by
  unfold St.new at h
  exact cond_none' h

theorem op_alloc {t : TypeId} {id : Nat} (ho : o.op = .alloc t) (hg : Good A keep ⟨w, m, s.hp, I⟩ s.tm a.tmps)
    (h : (match zeroOf P t with | some cs => s.new id (.box cs) fun s1 => K s1 (.ptr id 0 0) | none => none) = some r) : Done P o a w A keep K r := by
  split at h
  · rename_i cs hz
    obtain ⟨z, hz, hc⟩ := zeroOf_ok (P := P) (w := w) (m := m) (I := I) (s := s) hz
    obtain ⟨hn, h⟩ := St.new_some h
    obtain ⟨g1, g2, g3⟩ := new_box hg hn hc t
    refine ⟨_, _, h, .inl ⟨_, _, ?_, _, I, g1, g3⟩⟩
    simp [execOp, ho, Instr.alloc, run_zeroV hz, newVar, newRow]
  · cases h

theorem op_box {t : TypeId} {y : Operand} {id : Nat} (ho : o.op = .box t y) (hg : Good A keep ⟨w, m, s.hp, I⟩ s.tm a.tmps)
    (h : (match cellsOfV (s.ev y) with | some cs => s.new id (.box cs) fun s1 => K s1 (.ptr id 0 0) | none => none) = some r) : Done P o a w A keep K r := by
  split at h
  · rename_i cs hz
    have hc := cellsOfV_ok (ev_rel hg.tm y) hz
    obtain ⟨hn, h⟩ := St.new_some h
    obtain ⟨g1, g2, g3⟩ := new_box hg hn hc t
    refine ⟨_, _, h, .inl ⟨_, _, ?_, _, I, g1, g3⟩⟩
    simp [execOp, ho, Instr.box, newVar, newRow]
  · cases h

theorem op_load {t : TypeId} {y : Operand} (ho : o.op = .load t y) (hg : Good A keep ⟨w, m, s.hp, I⟩ s.tm a.tmps)
    (h : (match ldT P t with
    | some (true, n) => (match s.cells n (s.ev y) with | some cs => K s (.agg cs) | none => none)
    | some (false, _) => (match s.cells 1 (s.ev y) with | some [v] => K s v | _ => none)
    | none => none) = some r) : Done P o a w A keep K r := by
  split at h
  · rename_i n hl
    split at h
    · rename_i cs hc
      obtain ⟨b, off, vs, hx, hat, hr, hn⟩ := cells_ok hg.heap rfl (ev_rel hg.tm y) hc
      have hrun := run_loadCells_at (P := P) hat ((relC_getLen hr).trans hn)
      refine Done.same hg h (x := .agg vs.toArray) ?_ (relV_of_cells hr)
      simp [execOp, ho, Instr.loadAt, hx, Instr.sureAddr, loadVar, (ldT_agg (P := P) (w := w) hl).1, (ldT_agg (P := P) (w := w) hl).2, hrun]
    · cases h
  · rename_i n hl
    split at h
    · rename_i v hc
      obtain ⟨b, off, vs, hx, hat, hr, hn⟩ := cells_ok hg.heap rfl (ev_rel hg.tm y) hc
      cases vs with
      | nil => simp [relC] at hr
      | cons u vs =>
        simp only [relC] at hr
        have hcell := hat.cell 0 (by simp)
        simp at hcell
        refine Done.same hg h (x := u) ?_ hr.2.1
        simp [execOp, ho, Instr.loadAt, hx, Instr.sureAddr, loadVar, (ldT_one (P := P) (w := w) hl).1, hcell]
    · cases h
  · cases h

theorem op_store {t : TypeId} {y z : Operand} (ho : o.op = .store t y z) (hg : Good A keep ⟨w, m, s.hp, I⟩ s.tm a.tmps)
    (h : (match cellsOfV (s.ev z), ldT P t with
    | some cs, some (_, n) => cond (Nat.beq cs.length n) (s.store cs (fun s1 => K s1 .any) (s.ev y)) none
    | _, _ => none) = some r) : Done P o a w A keep K r := by
  split at h
  · rename_i cs ag n hz hl
    obtain ⟨hlen, h⟩ := cond_none h
    have hlen := Nat.eq_of_beq_eq_true hlen
    have hc := cellsOfV_ok (ev_rel hg.tm z) hz
    obtain ⟨s2, w', m', I', b, off, h1, h2, h3, h4⟩ := store_ok (P := P) hg h (ev_rel hg.tm y) hc
    refine ⟨s2, .any, h1, .inr (.inl ⟨w', ?_, m', I', h4, by simp [relV]⟩)⟩
    have hsz : (a.eval z).cells.size = n := by have := relC_length hc; simp at this; omega
    simp [execOp, ho, Instr.storeAt, h2, Instr.sureAddr, storeVar, ldT_size (P := P) (w := w) hl, hsz, h3]
  · cases h

theorem op_nil {y : Operand} (ho : o.op = .nilCheck y) (hg : Good A keep ⟨w, m, s.hp, I⟩ s.tm a.tmps)
    (h : (match s.ev y with
    | .cp cs => K s (.cp cs)
    | .ptr h i f => (match getH s.hp h with | .gone => none | _ => K s (.ptr h i f))
    | .fn f cs => K s (.fn f cs)
    | _ => none) = some r) : Done P o a w A keep K r := by
  have hy := ev_rel hg.tm y
  split at h
  · rename_i cs hv
    rw [hv] at hy
    have hy' := hy
    simp only [relV] at hy'
    obtain ⟨b, of, vs, hx, _⟩ := hy'
    exact Done.same hg h (by simp [execOp, ho, hx]; rfl) (by rw [← hx]; exact hy)
  · rename_i h0 i f hv
    rw [hv] at hy
    have hx : ∃ ad, a.eval y = .pointer (some ad) ∧ K s (.ptr h0 i f) = some r := by
      have hy' := hy
      simp only [relV] at hy'
      cases hgt : getH s.hp h0 with
      | gone => rw [hgt] at h; cases h
      | box cs => rw [hgt] at h hy'; obtain ⟨b, _, hx⟩ := hy'; exact ⟨_, hx, h⟩
      | arr e l => rw [hgt] at h hy'; obtain ⟨b, of, _, hx, _⟩ := hy'; exact ⟨_, hx, h⟩
      | imm e l => rw [hgt] at h hy'; obtain ⟨b, of, _, hx, _⟩ := hy'; exact ⟨_, hx, h⟩
    obtain ⟨ad, hx, h⟩ := hx
    exact Done.same hg h (by simp [execOp, ho, hx]; rfl) (by rw [← hx]; exact hy)
  · rename_i f cs hv
    rw [hv] at hy
    have hy' := hy
    simp only [relV] at hy'
    obtain ⟨vs, hx, _⟩ := hy'
    exact Done.same hg h (by simp [execOp, ho, hx]; rfl) (by rw [← hx]; exact hy)
  · cases h


theorem op_un {op : UnOp} {t : TypeId} {y : Operand} (ho : o.op = .unOp op t y) (hg : Good A keep ⟨w, m, s.hp, I⟩ s.tm a.tmps)
    (h : (match unA op (s.ev y) with | some v => K s v | none => none) = some r) : Done P o a w A keep K r := by
  split at h
  · rename_i v hv
    obtain ⟨z, h1, h2⟩ := unA_ok (P := P) (w := w) hv (ev_rel hg.tm y)
    exact Done.same hg h (by simp [execOp, ho, h1]) h2
  · cases h

theorem op_bin {op : BinOp} {t ty : TypeId} {y z : Operand} (ho : o.op = .binOp op t y z ty) (hg : Good A keep ⟨w, m, s.hp, I⟩ s.tm a.tmps)
    (h : binA P t op (match z with | .const _ => true | _ => false) (s.ev y) (s.ev z) (K s) = some r) : Done P o a w A keep K r := by
  obtain ⟨v, u, h1, h2, h3⟩ := binA_ok (P := P) (w := w) (xo := y) (yo := z) h (by cases z <;> simp) (ev_rel hg.tm y) (ev_rel hg.tm z)
  refine Done.same hg h1 (x := u) ?_ h3
  unfold BinRun at h2
  simp only [execOp, ho]
  rw [Sem.run_bind, h2]
  rfl

theorem op_conv {src dst : TypeId} {y : Operand} (ho : o.op = .convert src dst y) (hg : Good A keep ⟨w, m, s.hp, I⟩ s.tm a.tmps)
    (h : (match s.ev y, P.underlying src, P.underlying dst with
    | .val (.int _ n), some (.int _), some (.int k) => K s (.val (.int k (k.wrap n)))
    | .val (.string b), some .string, some .string => K s (.val (.string b))
    | v, some (.slice e), some .string => (match P.underlying e, s.slice v with
      | some (.int .u8), some ⟨.int .u8, l⟩ => K s (.val (.string (bytesStr l)))
      | _, _ => none)
    | _, _, _ => none) = some r) : Done P o a w A keep K r := by
  have hy := ev_rel hg.tm y
  split at h
  · rename_i k0 n k1 k hv h1 h2
    rw [hv] at hy; simp only [relV] at hy
    exact Done.same hg h (x := .int k (k.wrap n)) (by simp [execOp, ho, hy, convert, underlying, h1, h2, Conv.intToInt]) (by simp [relV])
  · rename_i b hv h1 h2
    rw [hv] at hy; simp only [relV] at hy
    exact Done.same hg h (x := .string b) (by simp [execOp, ho, hy, convert, underlying, h1, h2]) (by simp [relV])
  · rename_i v e h1 h2
    split at h
    · rename_i l he hs
      obtain ⟨ad, n, c, hx, hr⟩ := slice_ok hg.heap rfl hy hs
      obtain ⟨vss, hall, hsrc⟩ := first_of_repS (P := P) hr (fun _ _ => repT_len) (fun _ _ => repT_one)
      have hvs : vss.flatten = l.map (Value.int .u8) := by
        clear hsrc hr hs h
        induction l generalizing vss with
        | nil => cases vss <;> simp_all [All2]
        | cons x l ih => cases vss with
          | nil => simp [All2] at hall
          | cons u vss =>
            have := ih _ hall.2
            have h0 := hall.1
            simp only [repT] at h0
            simp [h0, this]
      refine Done.same hg h (x := .string (bytesStr l)) ?_ (by simp [relV])
      have hconv : (Conv.bytesToString (.slice ad n c)).run P w = .ok (.string (bytesStr l)) w := by
        cases ad with
        | none =>
          obtain ⟨_, _, h3⟩ := hr
          obtain ⟨rfl, _⟩ := h3
          simp [Conv.bytesToString, bytesStr]
        | some ad =>
          have hf := hsrc.2.1 w rfl
          simp only [Builtin.firstCells, Ty.sz, Nat.mul_one] at hf
          rw [hvs] at hf
          exact run_bytesToString w ad n c l hf
      simp [execOp, ho, hx, convert, underlying, h1, h2, he, hconv]
    · cases h
  · cases h

theorem evs_rel (hg : Good A keep ⟨w, m, s.hp, I⟩ s.tm a.tmps) (l : List Operand) : relL ⟨w, m, s.hp, I⟩ (l.map s.ev) (l.map a.eval) := by
  induction l with
  | nil => simp [relL]
  | cons x l ih => simp only [List.map_cons, relL]; exact ⟨ev_rel hg.tm x, ih⟩

theorem op_fn {f : FuncId} {first caps : Array Operand} (ho : o.op = .makeFunc (.func f) first caps) (hg : Good A keep ⟨w, m, s.hp, I⟩ s.tm a.tmps)
    (h : cond (Nat.beq first.size 0) (K s (.fn f (caps.toList.map s.ev))) none = some r) : Done P o a w A keep K r := by
  obtain ⟨h0, h⟩ := cond_none h
  have h0 := Nat.eq_of_beq_eq_true h0
  have hf : first = #[] := Array.eq_empty_of_size_eq_zero h0
  subst hf
  refine Done.same hg h (x := .func (.func f) #[] (caps.map a.eval)) (by simp [execOp, ho, Instr.makeFunc]) ?_
  simp only [relV]
  exact ⟨_, rfl, by simpa using evs_rel hg caps.toList⟩

theorem op_fieldAddr {t : TypeId} {y : Operand} {f : Nat} (ho : o.op = .fieldAddr t y f) (hg : Good A keep ⟨w, m, s.hp, I⟩ s.tm a.tmps)
    (h : (match fieldT P t f with
    | some fd => cond (Nat.blt 0 (szT P fd.type)) (match fldAddr s (s.ev y) fd.offset with | some v => K s v | none => none) none
    | none => none) = some r) : Done P o a w A keep K r := by
  have hy := ev_rel hg.tm y
  split at h
  · rename_i fd hf
    obtain ⟨h0, h⟩ := cond_none h
    have h0 := Nat.le_of_ble_eq_true h0
    have hu : ∃ fs, P.underlying t = some (.struct fs) ∧ fs[f]? = some fd := by
      unfold fieldT at hf
      split at hf
      · exact ⟨_, by assumption, hf⟩
      · cases hf
    obtain ⟨fs, hu, hfd⟩ := hu
    have hsz : ∀ w, ∃ n, (sizeOf fd.type).run P w = .ok n w ∧ n ≠ 0 := by
      intro w
      unfold szT at h0
      split at h0
      · rename_i i hi
        exact ⟨i.size, by simp [sizeOf, typeInfo, hi], by omega⟩
      · omega
    have hrun : ∀ b of, a.eval y = .pointer (some ⟨b, of, none⟩) → (execOp a.eval o).run P w = .ok (.value (.pointer (some ⟨b, of + fd.offset, none⟩))) w := by
      intro b of hx
      obtain ⟨n, h1, h2⟩ := hsz w
      have hadd : (⟨b, of, none⟩ : Addr).add fd.offset = ⟨b, of + fd.offset, none⟩ := by unfold Addr.add; split <;> simp_all
      simp [execOp, ho, hx, Instr.fieldAt, underlying, hu, hfd, Instr.sureAddr, fieldPlace, h1, h2, hadd]
    split at h
    · rename_i v hv
      unfold fldAddr at hv
      split at hv
      · rename_i cs hev
        obtain ⟨hle, hv⟩ := cond_none hv
        have hle := Nat.le_of_ble_eq_true hle
        simp only [Option.some.injEq] at hv; subst hv
        rw [hev] at hy; simp only [relV] at hy
        obtain ⟨b, of, vs, hx, hI, hat, hc⟩ := hy
        refine Done.same hg h (hrun b of hx) ?_
        simp only [relV]
        have hl := relC_length hc
        have := hat.sub' fd.offset (vs.length - fd.offset) (by omega)
        exact ⟨b, _, _, rfl, hI, this, by have := relC_drop fd.offset hc; rwa [show (vs.drop fd.offset).take (vs.length - fd.offset) = vs.drop fd.offset from List.take_of_length_le (by simp)]⟩
      · rename_i h' i f' hev
        rw [hev] at hy; simp only [relV] at hy
        split at hv
        · cases hv
        · rename_i hng
          simp only [Option.some.injEq] at hv; subst hv
          cases hgt : getH s.hp h' with
          | gone => exact absurd hgt hng
          | box cs =>
            rw [hgt] at hy; obtain ⟨b, hm, hx⟩ := hy
            exact Done.same hg h (hrun _ _ hx) (by simp only [relV, hgt]; exact ⟨b, hm, rfl⟩)
          | arr e l =>
            rw [hgt] at hy; obtain ⟨b, of, hm, hx, hi⟩ := hy
            exact Done.same hg h (hrun _ _ hx) (by simp only [relV, hgt]; exact ⟨b, of, hm, by rw [Nat.add_assoc], hi⟩)
          | imm e l =>
            rw [hgt] at hy; obtain ⟨b, of, hm, hx, hi⟩ := hy
            exact Done.same hg h (hrun _ _ hx) (by simp only [relV, hgt]; exact ⟨b, of, hm, by rw [Nat.add_assoc], hi⟩)
      · cases hv
    · cases h
  · cases h

theorem op_extract {y : Operand} {i : Nat} (ho : o.op = .extract y i) (hg : Good A keep ⟨w, m, s.hp, I⟩ s.tm a.tmps)
    (h : (match s.ev y with
    | .tup vs => (match vs[i]? with | some v => K s v | none => none)
    | _ => none) = some r) : Done P o a w A keep K r := by
  have hy := ev_rel hg.tm y
  split at h
  · rename_i vs hv
    rw [hv] at hy; simp only [relV] at hy
    obtain ⟨xs, hx, hl⟩ := hy
    split at h
    · rename_i v hvi
      have hl := relL_iff.1 hl
      have hlen := hl.length
      have hi : i < vs.length := (List.getElem?_eq_some_iff.1 hvi).1
      have hr := hl.get i .any undef hi
      have e1 : vs.getD i .any = v := by simp [List.getD_eq_getElem?_getD, hvi]
      obtain ⟨u, hu, hur⟩ : ∃ u, xs[i]? = some u ∧ xs.toList.getD i undef = u := by
        have h2 : i < xs.size := by simp at hlen; omega
        exact ⟨xs[i], by simp [h2], by simp [List.getD_eq_getElem?_getD, h2]⟩
      rw [e1, hur] at hr
      exact Done.same hg h (by simp [execOp, ho, hx, Instr.extract, hu]) hr
    · cases h
  · cases h

theorem szOk_ok {v : AV} {x : Value} {n k : Nat} (hk : s.len v = some k) (hs : s.szOk n v = true) : True := trivial

theorem elemSz_ok {t : TypeId} {n : Nat} (h : elemSz P t = some n) : ∃ e i, P.underlying t = some (.slice e) ∧ P.info? e = some i ∧ i.size = n := by
  unfold elemSz at h
  split at h
  · rename_i et he
    split at h
    · rename_i i hi
      simp only [Option.some.injEq] at h
      unfold elemT at he
      split at he
      · simp only [Option.some.injEq] at he; subst he
        exact ⟨_, i, by assumption, hi, h⟩
      · cases he
    · cases h
  · cases h

theorem intOf_ok {v : AV} {x : Value} {n : Int} {E : Env} (h : intOf? v = some n) (hx : relV E v x) : ∃ k, x = .int k n := by
  unfold intOf? at h
  split at h
  · simp only [Option.some.injEq] at h; subst h
    simp only [relV] at hx; exact ⟨_, hx⟩
  · cases h

theorem op_indexAddr {t : TypeId} {y z : Operand} (ho : o.op = .indexAddr t y z) (hg : Good A keep ⟨w, m, s.hp, I⟩ s.tm a.tmps)
    (h : (match elemSz P t, intOf? (s.ev z), s.len (s.ev y) with
    | some sz, some n, some len => cond (s.szOk sz (s.ev y)) (chk (decide (0 ≤ n)) (chk (decide (n < (len : Nat))) (match idxAddr s (s.ev y) n.toNat with | some v => K s v | none => none))) none
    | _, _, _ => none) = some r) : Done P o a w A keep K r := by
  have hy := ev_rel hg.tm y
  split at h
  · rename_i sz n len h1 h2 h3
    obtain ⟨hsz, ha⟩ := cond_none h
    clear h
    obtain ⟨h4, hb⟩ := chk_some ha
    clear ha
    obtain ⟨h5, hK⟩ := chk_some hb
    clear hb
    have h4 : 0 ≤ n := of_decide_eq_true h4
    have h5 : n < (len : Int) := of_decide_eq_true h5
    obtain ⟨k, hz⟩ := intOf_ok h2 (ev_rel hg.tm z)
    obtain ⟨e, i, hu, hi, hisz⟩ := elemSz_ok h1
    obtain ⟨ad, c, hx, _⟩ := len_ok hg.heap rfl hy h3
    have hrun : ∀ b of, ad = some ⟨b, of, none⟩ → (execOp a.eval o).run P w = .ok (.value (.pointer (some ⟨b, of + n.toNat * sz, none⟩))) w := by
      intro b of had
      have hadd : (⟨b, of, none⟩ : Addr).add (n.toNat * sz) = ⟨b, of + n.toNat * sz, none⟩ := by unfold Addr.add; split <;> simp_all
      simp [execOp, ho, hx, hz, Instr.indexAt, asIntOf, underlying, hu, had, h4, h5, sizeOf, typeInfo, hi, hisz, hadd]
    split at hK
    · rename_i v hv
      unfold idxAddr at hv
      split at hv
      · rename_i e' l nn hev
        simp only [Option.some.injEq] at hv; subst hv
        rw [hev] at hy h3 hsz
        simp only [St.len, Option.some.injEq] at h3; subst h3
        have hsz : e'.sz = sz := Nat.eq_of_beq_eq_true hsz
        simp only [relV] at hy
        obtain ⟨a', n', c', hx', hr, _⟩ := hy
        rw [hx] at hx'
        obtain ⟨rfl, rfl, rfl⟩ : ad = a' ∧ l.length = n' ∧ c = c' := by simpa using hx'
        obtain ⟨_, _, h6⟩ := hr
        have hnl : n.toNat < l.length := by omega
        cases ad with
        | none => obtain ⟨rfl, _⟩ := h6; simp at hnl
        | some ad =>
          rcases h6 with rfl | ⟨hsp, hI, vss, hat, hall⟩
          · simp at hnl
          · obtain ⟨q1, q2⟩ := elem_at (E := ⟨w, m, s.hp, I⟩) hat hall n.toNat hnl
            have had : ad = ⟨ad.block, ad.off, none⟩ := by cases ad; simp_all
            refine Done.same hg hK (hrun ad.block ad.off (by rw [← had])) ?_
            simp only [relV]
            exact ⟨_, _, _, rfl, hI, by rw [← hsz]; exact q1, cellsI_ok rfl q2⟩
      · rename_i h' lo len' hev
        rw [hev] at hy h3 hsz
        simp only [relV] at hy
        simp only [St.len, St.szOk] at h3 hsz
        have go : ∀ (e' : Ty) (l : List e'.D), len = lenL l.length lo len' → e'.sz = sz → refR w (m h') e' l.length lo len' (a.eval y) →
            ∃ b of, m h' = some (b, of) ∧ ad = some ⟨b, of + lo * e'.sz, none⟩ ∧ n.toNat + lo < l.length := by
          intro e' l hlen he hR
          obtain ⟨hb, hR⟩ := hR
          rcases hR with ⟨h0, _⟩ | ⟨b, of, c2, hm, hx2, _⟩
          · omega
          · rw [hx] at hx2
            have := (Value.slice.inj hx2).1
            exact ⟨b, of, hm, this, by omega⟩
        cases hgt : getH s.hp h' with
        | gone => rw [hgt] at h3; cases h3
        | box cs =>
          rw [hgt] at h3 hsz hy hv
          simp only [Option.some.injEq] at h3 hv
          subst hv
          have he : 1 = sz := Nat.eq_of_beq_eq_true hsz
          subst he
          obtain ⟨b1, _, _, hm1, _, _, _⟩ := (by have := hg.heap.root h'; simp only [hgt] at this; exact this : rootOk ⟨w, m, s.hp, I⟩ h' (.box cs))
          have hm1 : m h' = some (b1, 0) := hm1
          obtain ⟨hb, hR⟩ := hy
          rcases hR with ⟨h0, _⟩ | ⟨b, of, c2, hm, hx2, _⟩
          · omega
          · rw [hx] at hx2
            have had := (Value.slice.inj hx2).1
            have hm' : m h' = some (b, of) := hm
            rw [hm1] at hm'
            obtain ⟨rfl, rfl⟩ := Prod.mk.inj (Option.some.inj hm')
            refine Done.same hg hK (hrun _ _ had) ?_
            simp only [relV, hgt]
            exact ⟨b1, hm1, by simp [Ty.sz]; omega⟩
        | arr e' l =>
          rw [hgt] at h3 hsz hy hv
          simp only [Option.some.injEq] at h3 hv
          subst hv
          have he := Nat.eq_of_beq_eq_true hsz
          obtain ⟨b, of, hm, had, hlt⟩ := go e' l h3.symm he hy
          refine Done.same hg hK (hrun _ _ had) ?_
          simp only [relV, hgt]
          exact ⟨b, of, hm, by rw [he, Nat.add_mul]; congr 3; omega, hlt⟩
        | imm e' l =>
          rw [hgt] at h3 hsz hy hv
          simp only [Option.some.injEq] at h3 hv
          subst hv
          have he := Nat.eq_of_beq_eq_true hsz
          obtain ⟨b, of, hm, had, hlt⟩ := go e' l h3.symm he hy
          refine Done.same hg hK (hrun _ _ had) ?_
          simp only [relV, hgt]
          exact ⟨b, of, hm, by rw [he, Nat.add_mul]; congr 3; omega, hlt⟩
      · cases hv
    · cases hK
  · cases h

theorem op_index {t : TypeId} {y z : Operand} (ho : o.op = .index t y z) (hg : Good A keep ⟨w, m, s.hp, I⟩ s.tm a.tmps)
    (h : (match s.ev y, intOf? (s.ev z), P.underlying t with
    | .val (.string b), some n, some .string => chk (decide (0 ≤ n)) (chk (decide (n < (b.size : Nat))) (K s (.val (.int .u8 (b.data.getD n.toNat 0).toNat))))
    | _, _, _ => none) = some r) : Done P o a w A keep K r := by
  have hy := ev_rel hg.tm y
  split at h
  · rename_i b n hv h2 hu
    rw [hv] at hy; simp only [relV] at hy
    obtain ⟨k, hz⟩ := intOf_ok h2 (ev_rel hg.tm z)
    obtain ⟨h4, h⟩ := chk_some h
    obtain ⟨h5, h⟩ := chk_some h
    have h4 : 0 ≤ n := of_decide_eq_true h4
    have h5 : n < (b.size : Int) := of_decide_eq_true h5
    refine Done.same hg h (x := .int .u8 (b.data.getD n.toNat 0).toNat) ?_ (by simp [relV])
    have hlt : n.toNat < b.size := by omega
    have hb : b[n.toNat]? = some (b.data.getD n.toNat 0) := by
      have h1 : b[n.toNat]? = some (b[n.toNat]'hlt) := by simp [hlt]
      rw [h1]
      have hlt' : n.toNat < b.data.size := hlt
      simp only [Option.some.injEq]
      show b.data[n.toNat] = _
      simp [Array.getD, hlt']
      intro hc; omega
    simp [execOp, ho, hy, hz, Instr.index, asIntOf, underlying, hu, h4, hb]
  · cases h


theorem op_len {args : List AV} {vals : Array Value} {c : Call} {x : Operand} {tt : TypeId} (ho : o.op = .call c) (hc : c.callee = .builtin .len) (ha : c.args = #[x]) (ht : c.argTypes = #[tt]) (hg : Good A keep ⟨w, m, s.hp, I⟩ s.tm a.tmps)
    (h : (match s.ev x, P.underlying tt with
      | .val (.string b), some .string => K s (.val (.int .i64 (b.size : Nat)))
      | v, some (.slice _) => (match s.len v with
        | some n => K s (.val (.int .i64 (n : Nat)))
        | none => none)
      | _, _ => none) = some r) : Done P o a w A keep K r := by
  have hx := ev_rel hg.tm x
  have hrun : ∀ z, (Builtin.len_ #[tt] o.type #[a.eval x]).run P w = .ok z w → (execOp a.eval o).run P w = .ok (.value z) w := by
    intro z hz
    obtain ⟨callee, cargs, ctys⟩ := c
    simp only at hc ha ht
    subst hc ha ht
    simp [execOp, ho, resolve, invoke, builtin, hz]
  split at h
  · rename_i b hv hu
    rw [hv] at hx; simp only [relV] at hx
    exact Done.same hg h (x := .int .i64 (b.size : Nat)) (hrun _ (by simp [Builtin.len_, underlying, hu, hx, goInt])) (by simp [relV])
  · rename_i v e hu
    split at h
    · rename_i n hn
      obtain ⟨ad, c', hv, _⟩ := len_ok hg.heap rfl hx hn
      exact Done.same hg h (x := .int .i64 (n : Nat)) (hrun _ (by simp [Builtin.len_, underlying, hu, hv, goInt])) (by simp [relV])
    · cases h
  · cases h

theorem op_max {c : Call} {x y : Operand} {big : Bool} (ho : o.op = .call c) (hc : c.callee = .builtin (if big then .max else .min)) (ha : c.args = #[x, y]) (hg : Good A keep ⟨w, m, s.hp, I⟩ s.tm a.tmps)
    (h : (match s.ev x, s.ev y with
      | .val (.int k p), .val (.int _ q) => K s (.val (.int k (if big then cond (decide (p < q)) q p else cond (decide (q < p)) q p)))
      | _, _ => none) = some r) : Done P o a w A keep K r := by
  have hx := ev_rel hg.tm x
  have hy := ev_rel hg.tm y
  split at h
  · rename_i k p k' q h1 h2
    rw [h1] at hx; rw [h2] at hy; simp only [relV] at hx hy
    obtain ⟨callee, cargs, ctys⟩ := c
    simp only at hc ha
    subst hc ha
    refine Done.same hg h (x := .int k (if big then cond (decide (p < q)) q p else cond (decide (q < p)) q p)) ?_ (by simp [relV])
    cases big with
    | true =>
      simp [execOp, ho, resolve, invoke, builtin, Builtin.max_, hx, hy, Builtin.max2]
    | false =>
      simp [execOp, ho, resolve, invoke, builtin, Builtin.min_, hx, hy, Builtin.min2]
  · cases h

theorem op_append {c : Call} {x y : Operand} {t u : TypeId} {id : Nat} (ho : o.op = .call c) (hc : c.callee = .builtin .append) (ha : c.args = #[x, y]) (ht : c.argTypes = #[t, u]) (hg : Good A keep ⟨w, m, s.hp, I⟩ s.tm a.tmps)
    (h : appendA P t u (s.ev x) (s.ev y) id s K = some r) : Done P o a w A keep K r := by
  obtain ⟨s2, v2, w', z, h1, h2, h3⟩ := appendA_ok (P := P) (ty := o.type) h hg (ev_rel hg.tm x) (ev_rel hg.tm y)
  obtain ⟨callee, cargs, ctys⟩ := c
  simp only at hc ha ht
  subst hc ha ht
  refine ⟨s2, v2, h1, .inl ⟨z, w', ?_, h3⟩⟩
  simp [execOp, ho, resolve, invoke, builtin, h2]

end
end Go.AI
end

section
/- SOUNDNESS: slicing, fields, literals, make. -/
namespace Go.AI
set_option linter.unusedVariables false
set_option linter.unusedSimpArgs false

section
variable {P : Program} {A : Env} {keep : Nat} {w : World} {m : Nat → Option (Nat × Nat)} {I : Nat → Prop} {s : St} {o : Oper} {a : Act} {K : St → AV → R} {r : Res}

/-- bounds of a slice expression -/
theorem run_sliceBounds {isSlice : Bool} {n c : Nat} {lo hi : Option Value} {l h : Nat}
    (hh : match hi with | none => h = n | some v => ∃ k, v = .int k (h : Int))
    (hl : match lo with | none => l = 0 | some v => ∃ k, v = .int k (l : Int)) (h1 : l ≤ h) (h2 : h ≤ (if isSlice then c else n)) (h3 : isSlice = false → c = n) :
    (Instr.sliceBounds isSlice n c lo hi none).run P w = .ok (l, h, c) w := by
  have hc : h ≤ c := by cases isSlice <;> simp_all
  unfold Instr.sliceBounds
  have e1 : ∀ (x : Nat) (k : IntKind) (y : Nat) (code : BoundsCode), x ≤ y → (Instr.sliceBound (.int k (x : Int)) y code).run P w = .ok x w := by
    intro x k y code hxy
    simp [Instr.sliceBound, asIntOf, hxy]
  cases hi with
  | none =>
    simp only at hh; subst hh
    cases lo with
    | none => simp only at hl; subst hl; simp
    | some v => obtain ⟨k, rfl⟩ := hl; simp [e1 l k h _ h1]
  | some v =>
    obtain ⟨k, rfl⟩ := hh
    cases lo with
    | none => simp only at hl; subst hl; simp [e1 h k c _ hc]
    | some v => obtain ⟨k', rfl⟩ := hl; simp [e1 h k c _ hc, e1 l k' h _ h1]

theorem run_slice_of {t e : TypeId} {i : TypeInfo} (hu : P.underlying t = some (.slice e)) (hi : P.info? e = some i) {ad : Option Addr} {n c : Nat} {lo hi' : Option Value} {l h : Nat}
    (hb : (Instr.sliceBounds true n c lo hi' none).run P w = .ok (l, h, c) w) :
    (Instr.sliceAt t (.slice ad n c) lo hi' none).run P w = .ok (.slice (if c = l then ad else ad.map (·.add (l * i.size))) (h - l) (c - l)) w := by
  simp [Instr.sliceAt, Instr.slice, underlying, hu, hb, sizeOf, typeInfo, hi]

/-- a part of a slice value -/
theorem subV_ok {v v2 : AV} {x : Value} {l h k sz : Nat} {ho : Option Nat} (H : HeapRel ⟨w, m, s.hp, I⟩) (hx : relV ⟨w, m, s.hp, I⟩ v x) (hlen : s.len v = some k) (hs : s.szOk sz v = true)
    (hv : subV v l ho = some v2) (h1 : l ≤ h) (h2 : h ≤ k) (hho : ho = some h ∨ (ho = none ∧ h = k)) :
    ∃ ad c, x = .slice ad k c ∧ k ≤ c ∧ relV ⟨w, m, s.hp, I⟩ v2 (.slice (if c = l then ad else ad.map (·.add (l * sz))) (h - l) (c - l)) := by
  unfold subV at hv
  split at hv
  · rename_i e ls nn
    simp only [Option.some.injEq] at hv; subst hv
    simp only [St.len, Option.some.injEq] at hlen; subst hlen
    have hs : e.sz = sz := Nat.eq_of_beq_eq_true hs
    simp only [relV] at hx
    obtain ⟨ad, n, c, rfl, hr, hn1, hn2⟩ := hx
    obtain ⟨rfl, hnc, h3⟩ := hr
    refine ⟨ad, c, rfl, hnc, ?_⟩
    have hlist : subL ls l ho = (ls.take h).drop l := by
      rcases hho with rfl | ⟨rfl, rfl⟩
      · rfl
      · simp [subL]
    simp only [relV, hlist]
    have hlen' : ((ls.take h).drop l).length = h - l := by simp; omega
    have hrep : repS w I (repT w I e) ((ls.take h).drop l) (if c = l then ad else ad.map (·.add (l * sz))) (h - l) (c - l) := by
      refine ⟨hlen'.symm, by omega, ?_⟩
      cases ad with
      | none =>
        obtain ⟨rfl, rfl⟩ := h3
        have e1 : (if 0 = l then none else Option.map (fun x => Addr.add x (l * sz)) none) = (none : Option Addr) := by split <;> rfl
        simp only [e1]
        exact ⟨by simp, by omega⟩
      | some ad =>
        by_cases hcl : c = l
        · have e1 : (ls.take h).drop l = [] := List.eq_nil_of_length_eq_zero (by rw [hlen']; omega)
          rw [if_pos hcl]
          exact .inl e1
        · rw [if_neg hcl]
          rcases h3 with rfl | ⟨hsp, hI, vss, hat, hall⟩
          · left; simp
          · have had : ad.add (l * sz) = ⟨ad.block, ad.off + l * sz, none⟩ := by cases ad; unfold Addr.add; split <;> simp_all
            simp only [Option.map_some, had]
            right
            refine ⟨trivial, ?_⟩
            have hd := part_drop (E := ⟨w, m, s.hp, I⟩) hat hall l (by omega)
            refine ⟨hI, (vss.take h).drop l, ?_, (hall.take h).drop l⟩
            have hh : All2 (repT w I e) (ls.drop l) (vss.drop l) := hall.drop l
            have := part_take (E := ⟨w, m, s.hp, I⟩) hd hh (h - l) (by simp; omega)
            rw [← hs, List.drop_take]
            exact this
    refine ⟨_, _, _, rfl, hrep, ?_, ?_⟩
    · intro hnn
      have := hn1 hnn
      cases ad with
      | none => simp at this
      | some ad => split <;> simp
    · intro hnn
      have := hn2 hnn
      subst this; split <;> rfl
  · rename_i hh l0 len
    simp only [Option.some.injEq] at hv; subst hv
    have go : ∀ (e : Ty) (n : Nat), k = lenL n l0 len → e.sz = sz → refR w (m hh) e n l0 len x →
        ∃ ad c, x = .slice ad k c ∧ k ≤ c ∧ refR w (m hh) e n (l + l0) (subN l ho len) (.slice (if c = l then ad else ad.map (·.add (l * sz))) (h - l) (c - l)) := by
      intro e n hk he hR
      obtain ⟨hb, hR⟩ := hR
      rw [← hk] at hb
      have hnew : lenL n (l + l0) (subN l ho len) = h - l := by
        rcases hho with rfl | ⟨rfl, rfl⟩
        · rfl
        · cases len with
          | none => simp only [lenL, subN] at hk ⊢; omega
          | some q => simp only [lenL, subN] at hk ⊢; omega
      rcases hR with ⟨h0, ad, rfl⟩ | ⟨b, of, c, hm, rfl, hkc, hsz⟩
      · rw [← hk] at h0
        subst h0
        have : l = 0 := by omega
        subst this
        have : h = 0 := by omega
        subst this
        refine ⟨ad, 0, rfl, Nat.le_refl _, ?_⟩
        refine ⟨by rw [hnew]; omega, .inl ⟨hnew, ad, by simp⟩⟩
      · rw [← hk] at hkc
        refine ⟨_, c, by rw [← hk], hkc, ?_⟩
        refine ⟨by rw [hnew]; omega, ?_⟩
        by_cases hcl : c = l
        · left
          exact ⟨by rw [hnew]; omega, _, by simp only [hcl, if_true]; congr 1 <;> omega⟩
        · right
          refine ⟨b, of, c - l, hm, ?_, by rw [hnew]; omega, ?_⟩
          · simp only [hcl, if_false, Option.map_some, hnew]
            have hadd : (⟨b, of + l0 * e.sz, none⟩ : Addr).add (l * sz) = ⟨b, of + l0 * e.sz + l * sz, none⟩ := by unfold Addr.add; split <;> simp_all
            rw [hadd, ← he, Nat.add_mul]; congr 3; omega
          · rw [show l + l0 + (c - l) = l0 + c by omega]; exact hsz
    simp only [relV] at hx ⊢
    simp only [St.len, St.szOk] at hlen hs
    cases hgt : getH s.hp hh with
    | gone => rw [hgt] at hlen; cases hlen
    | box cs =>
      rw [hgt] at hlen hs hx
      simp only [Option.some.injEq] at hlen
      exact go .bool cs.length hlen.symm (Nat.eq_of_beq_eq_true hs) hx
    | arr e ls =>
      rw [hgt] at hlen hs hx
      simp only [Option.some.injEq] at hlen
      exact go e ls.length hlen.symm (Nat.eq_of_beq_eq_true hs) hx
    | imm e ls =>
      rw [hgt] at hlen hs hx
      simp only [Option.some.injEq] at hlen
      exact go e ls.length hlen.symm (Nat.eq_of_beq_eq_true hs) hx
  · cases hv

/-- the bounds of a slice expression as numbers -/
def loI (s : St) : Option Operand → Option Int
  | none => some 0
  | some y => intOf? (s.ev y)

theorem op_slice_s {t : TypeId} {x : Operand} {lo hi : Option Operand} {n sz : Nat} {v2 : AV} (l h : Int) (ho : o.op = .slice t x lo hi none) (hg : Good A keep ⟨w, m, s.hp, I⟩ s.tm a.tmps)
    (hn : s.len (s.ev x) = some n) (hz : elemSz P t = some sz) (hs : s.szOk sz (s.ev x) = true)
    (hl : match lo with | none => l = 0 | some y => intOf? (s.ev y) = some l) (hh : match hi with | none => h = (n : Nat) | some y => intOf? (s.ev y) = some h) (h0 : 0 ≤ l) (h1 : l ≤ h) (h2 : h ≤ (n : Nat))
    (hv : subV (s.ev x) l.toNat (match hi with | none => none | some _ => some h.toNat) = some v2) (hK : K s v2 = some r) : Done P o a w A keep K r := by
  have hx := ev_rel hg.tm x
  obtain ⟨e, i, hu, hi', hisz⟩ := elemSz_ok hz
  subst hisz
  obtain ⟨ad, c, hxe, hnc, hrel⟩ := subV_ok (h := h.toNat) hg.heap hx hn hs hv (by omega) (by omega) (by
    cases hi with
    | none => simp only at hh; subst hh; exact .inr ⟨rfl, by omega⟩
    | some y => exact .inl rfl)
  have hb := run_sliceBounds (P := P) (w := w) (isSlice := true) (n := n) (c := c) (lo := lo.map a.eval) (hi := hi.map a.eval) (l := l.toNat) (h := h.toNat)
    (by
      cases hi with
      | none => simp only at hh ⊢; simp [hh]
      | some y =>
        obtain ⟨k, hk⟩ := intOf_ok hh (ev_rel hg.tm y)
        exact ⟨k, by rw [hk]; congr 1; omega⟩)
    (by
      cases lo with
      | none => simp only at hl ⊢; simp [hl]
      | some y =>
        obtain ⟨k, hk⟩ := intOf_ok hl (ev_rel hg.tm y)
        exact ⟨k, by rw [hk]; congr 1; omega⟩) (by omega) (by simp; omega) (by simp)
  refine Done.same hg hK ?_ hrel
  simp [execOp, ho, hxe, run_slice_of hu hi' hb]

theorem op_slice_str {t : TypeId} {x : Operand} {lo hi : Option Operand} {b : ByteArray} (l h : Int) (ho : o.op = .slice t x lo hi none) (hg : Good A keep ⟨w, m, s.hp, I⟩ s.tm a.tmps)
    (hx : s.ev x = .val (.string b)) (hu : P.underlying t = some .string)
    (hl : match lo with | none => l = 0 | some y => intOf? (s.ev y) = some l) (hh : match hi with | none => h = (b.size : Nat) | some y => intOf? (s.ev y) = some h) (h0 : 0 ≤ l) (h1 : l ≤ h) (h2 : h ≤ (b.size : Nat))
    (hK : K s (.val (.string (b.extract l.toNat h.toNat))) = some r) : Done P o a w A keep K r := by
  have hx' := ev_rel hg.tm x
  rw [hx] at hx'; simp only [relV] at hx'
  have hb := run_sliceBounds (P := P) (w := w) (isSlice := false) (n := b.size) (c := b.size) (lo := lo.map a.eval) (hi := hi.map a.eval) (l := l.toNat) (h := h.toNat)
    (by
      cases hi with
      | none => simp only at hh ⊢; simp [hh]
      | some y =>
        obtain ⟨k, hk⟩ := intOf_ok hh (ev_rel hg.tm y)
        exact ⟨k, by rw [hk]; congr 1; omega⟩)
    (by
      cases lo with
      | none => simp only at hl ⊢; simp [hl]
      | some y =>
        obtain ⟨k, hk⟩ := intOf_ok hl (ev_rel hg.tm y)
        exact ⟨k, by rw [hk]; congr 1; omega⟩) (by omega) (by simp; omega) (by simp)
  refine Done.same hg hK (x := .string (b.extract l.toNat h.toNat)) ?_ (by simp [relV])
  simp [execOp, ho, hx', Instr.sliceAt, Instr.slice, underlying, hu, hb]

theorem op_field {t : TypeId} {y : Operand} {f : Nat} (ho : o.op = .field t y f) (hg : Good A keep ⟨w, m, s.hp, I⟩ s.tm a.tmps)
    (h : (match fieldT P t f, s.ev y with
    | some fd, .agg cs => (match ldT P fd.type with
      | some (true, n) => cond (Nat.ble (fd.offset + n) cs.length) (K s (.agg ((cs.drop fd.offset).take n))) none
      | some (false, _) => (match (cs.drop fd.offset).take 1 with | [v] => K s v | _ => none)
      | none => none)
    | _, _ => none) = some r) : Done P o a w A keep K r := by
  have hy := ev_rel hg.tm y
  split at h
  · rename_i fd cs hf hv
    rw [hv] at hy; simp only [relV] at hy
    obtain ⟨vs, hx, hc⟩ := hy
    have hu : ∃ fs, P.underlying t = some (.struct fs) ∧ fs[f]? = some fd := by
      unfold fieldT at hf
      split at hf
      · exact ⟨_, by assumption, hf⟩
      · cases hf
    obtain ⟨fs, hu, hfd⟩ := hu
    have hl := relC_length hc
    split at h
    · rename_i n hld
      obtain ⟨hle, h⟩ := cond_none h
      have hle := Nat.le_of_ble_eq_true hle
      refine Done.same hg h (x := .agg (vs.extract fd.offset (fd.offset + n))) ?_ ?_
      · simp [execOp, ho, hx, Instr.field, underlying, hu, hfd, asAgg, part, (ldT_agg (P := P) (w := w) hld).1, (ldT_agg (P := P) (w := w) hld).2]
      · simp only [relV]
        refine ⟨_, rfl, ?_⟩
        have := relC_take n (relC_drop fd.offset hc)
        have e : (vs.extract fd.offset (fd.offset + n)).toList = (vs.toList.drop fd.offset).take n := by
          rw [Array.toList_extract]; simp [List.extract_eq_take_drop]
        rw [e]; exact this
    · rename_i n hld
      split at h
      · rename_i v hv1
        have hd := relC_take 1 (relC_drop fd.offset hc)
        rw [hv1] at hd
        cases hvs : (vs.toList.drop fd.offset).take 1 with
        | nil => rw [hvs] at hd; simp [relC] at hd
        | cons u us =>
          rw [hvs] at hd
          simp only [relC] at hd
          have hu' : vs[fd.offset]? = some u := by
            have := congrArg (fun l => l[0]?) hvs
            simpa using this
          refine Done.same hg h (x := u) ?_ hd.2.1
          simp [execOp, ho, hx, Instr.field, underlying, hu, hfd, asAgg, part, (ldT_one (P := P) (w := w) hld).1, hu']
      · cases h
    · cases h
  · cases h

/-- s[:0:0] -/
theorem op_slice_0 {t et : TypeId} {x b y : Operand} {e : Ty} {bytes n id : Nat} (ho : o.op = .slice t x none (some b) (some y)) (hg : Good A keep ⟨w, m, s.hp, I⟩ s.tm a.tmps)
    (hk : intOf? (s.ev y) = some 0) (hj : intOf? (s.ev b) = some 0) (hel : elemI P t = some (et, e, bytes)) (hn : s.len (s.ev x) = some n)
    (h : (s.new id (.arr e []) fun s1 => K s1 (.ref id 0 none)) = some r) : Done P o a w A keep K r := by
  have hx := ev_rel hg.tm x
  obtain ⟨i, z, hu, hi, hiz, hsz, he, _⟩ := elemI_ok hel
  obtain ⟨ad, c, hxe, hnc⟩ := len_ok hg.heap rfl hx hn
  obtain ⟨k1, hy⟩ := intOf_ok hk (ev_rel hg.tm y)
  obtain ⟨k2, hb⟩ := intOf_ok hj (ev_rel hg.tm b)
  obtain ⟨hnew, h⟩ := St.new_some h
  have hbounds : (Instr.sliceBounds true n c none (some (.int k2 0)) (some (.int k1 0))).run P w = .ok (0, 0, 0) w := by
    unfold Instr.sliceBounds
    simp [Instr.sliceBound, asIntOf]
  have st : Stays A ⟨w, m, s.hp, I⟩ id w I (fun _ => False) :=
    ⟨Nat.le_refl _, fun _ _ _ => rfl, fun _ h => h.elim, fun _ => Nat.le_refl _, fun _ h => h, fun b hb => ⟨hg.heap.lt b hb, .inl hb⟩, rfl, rfl, rfl⟩
  obtain ⟨g1, _⟩ := change1 hg id (.arr e []) none st (fun h => by rw [hnew] at h; cases h) (fun _ b o h => by cases h) (fun _ => ⟨he, .inl ⟨upd_same _ _ _, rfl⟩⟩)
  refine ⟨_, _, h, .inl ⟨.slice (if 0 = 0 then ad else ad.map (·.add (0 * i.size))) 0 0, w, ?_, upd m id none, I, g1, ?_⟩⟩
  · simp [execOp, ho, hxe, hy, hb, Instr.sliceAt, Instr.slice, underlying, hu, hbounds, sizeOf, typeInfo, hi]
  · simp only [relV, St.setH, getH_same]
    exact ⟨by simp [lenL], .inl ⟨by simp [lenL], ad, by simp⟩⟩

end
end Go.AI
end

section
/- SOUNDNESS: literals, make; every operation but a call. -/
namespace Go.AI
set_option linter.unusedVariables false
set_option linter.unusedSimpArgs false

theorem repl_cons {α : Type} (l : List α) (p : Nat) (x : α) (xs : List α) (h : p < l.length) : repl (l.set p x) (p + 1) xs = repl l p (x :: xs) := by
  unfold repl
  have h1 : (l.set p x).take (p + 1) = l.take p ++ [x] := by
    rw [List.take_set, List.take_succ_eq_append_getElem h]
    rw [List.set_append_right _ _ (by simp; omega)]
    simp [Nat.min_eq_left (Nat.le_of_lt h)]
  have h2 : (l.set p x).drop (p + 1 + xs.length) = l.drop (p + (x :: xs).length) := by
    rw [List.drop_set_of_lt (by omega)]
    simp only [List.length_cons]; congr 1; omega
  rw [h1, h2]; simp

theorem fold_set (off : Nat) : ∀ (xs : List Value) (k : Nat) (cells : Array Value), off + k + xs.length ≤ cells.size →
    ((xs.zipIdx k).foldl (fun cs p => cs.setIfInBounds (off + p.2) p.1) cells).toList = repl cells.toList (off + k) xs
  | [], k, cells, _ => by simp [repl]
  | x :: xs, k, cells, h => by
    simp only [List.length_cons] at h
    simp only [List.zipIdx_cons, List.foldl_cons]
    rw [fold_set off xs (k + 1) (cells.setIfInBounds (off + k) x) (by simp; omega)]
    rw [Array.toList_setIfInBounds, ← Nat.add_assoc]
    exact repl_cons _ _ _ _ (by simp; omega)

section
variable {P : Program} {A : Env} {keep : Nat} {w : World} {m : Nat → Option (Nat × Nat)} {I : Nat → Prop} {s : St} {o : Oper} {a : Act} {K : St → AV → R} {r : Res}

theorem fill_ok {E : Env} {size : Nat → Option (Nat × Nat)} : ∀ {parts : List (Nat × AV)} {vparts : List (Nat × Value)} {cs cs' : List AV} {cells : Array Value},
    All2 (fun p q => p.1 = q.1 ∧ relV E p.2 q.2) parts vparts → relC E cs cells.toList → fillC size cs parts = some cs' → ∃ cells', Instr.fill size cells vparts = some cells' ∧ relC E cs' cells'.toList
  | [], [], cs, cs', cells, _, hc, h => by
    simp only [fillC, Option.some.injEq] at h; subst h
    exact ⟨cells, rfl, hc⟩
  | (i, v) :: parts, (j, x) :: vparts, cs, cs', cells, hp, hc, h => by
    obtain ⟨⟨rfl, hv⟩, hp⟩ := hp
    simp only [fillC] at h
    split at h
    · rename_i off n xs hs hx
      obtain ⟨hb, h⟩ := cond_none h
      simp only [Bool.and_eq_true] at hb
      have hn := Nat.eq_of_beq_eq_true hb.1
      have hle := Nat.le_of_ble_eq_true hb.2
      have hxc := cellsOfV_ok hv hx
      have hxl := relC_length hxc
      have hcl := relC_length hc
      have hsz : x.cells.size = n := by simp at hxl; omega
      have hfold : (x.cells.zipIdx.foldl (fun cs p => cs.setIfInBounds (off + p.2) p.1) cells).toList = repl cells.toList off x.cells.toList := by
        have := fold_set off x.cells.toList 0 cells (by simp at hxl hcl ⊢; omega)
        rw [Nat.add_zero] at this
        rw [← this]
        congr 1
        rw [← Array.foldl_toList]
        simp
      have hc' : relC E (repl cs off xs) (x.cells.zipIdx.foldl (fun cs p => cs.setIfInBounds (off + p.2) p.1) cells).toList := by
        rw [hfold]; exact relC_repl hc hxc
      rw [replAt_eq _ _ _ (by omega)] at h
      obtain ⟨cells', h1, h2⟩ := fill_ok hp hc' h
      refine ⟨cells', ?_, h2⟩
      simp only [Instr.fill, hs]
      rw [if_neg (by simp; simp at hcl; omega)]
      exact h1
    · cases h
  | [], _ :: _, _, _, _, hp, _, _ => by simp [All2] at hp
  | _ :: _, [], _, _, _, hp, _, _ => by simp [All2] at hp

theorem parts_rel (hg : Good A keep ⟨w, m, s.hp, I⟩ s.tm a.tmps) (l : List (Nat × Operand)) :
    All2 (fun p q => p.1 = q.1 ∧ relV ⟨w, m, s.hp, I⟩ p.2 q.2) (l.map fun p => (p.1, s.ev p.2)) (l.map fun p => (p.1, a.eval p.2)) := by
  induction l with
  | nil => trivial
  | cons x l ih => exact ⟨⟨rfl, ev_rel hg.tm x.2⟩, ih⟩

theorem op_build {t : TypeId} {parts : Array (Nat × Operand)} (ho : o.op = .build t parts) (hg : Good A keep ⟨w, m, s.hp, I⟩ s.tm a.tmps)
    (h : (match zeroOf P t, P.underlying t with
    | some z, some (.struct fs) => (match fs.toList.mapM (fun f => (P.info? f.type).map fun i => (f.offset, i.size)) with
      | some places => (match fillC (fun i => places.toArray[i]?) z (parts.toList.map fun p => (p.1, s.ev p.2)) with
        | some cs => K s (.agg cs)
        | none => none)
      | none => none)
    | _, _ => none) = some r) : Done P o a w A keep K r := by
  split at h
  · rename_i z fs hz hu
    obtain ⟨zv, hzv, hzc⟩ := zeroOf_ok (P := P) (w := w) (m := m) (I := I) (s := s) hz
    split at h
    · rename_i places hpl
      split at h
      · rename_i cs hcs
        obtain ⟨cells', h1, h2⟩ := fill_ok (parts_rel hg parts.toList) hzc hcs
        have hi : ∃ i, P.info? t = some i ∧ i.zero = some zv := by
          unfold zeroV at hzv
          split at hzv
          · rename_i i hi; exact ⟨i, hi, hzv⟩
          · cases hzv
        obtain ⟨i, hi, hiz⟩ := hi
        have hbuilt : P.built t (parts.map fun p => (p.1, a.eval p.2)).toList = some cells' := by
          unfold Program.built
          simp only [hi, hu, hiz, hpl]
          simpa using h1
        have hrun := run_build (P := P) w t _ cells' hbuilt
        refine Done.same hg h (x := .agg cells') ?_ (by simp only [relV]; exact ⟨_, rfl, h2⟩)
        simp only [execOp, ho]
        rw [Sem.run_bind]
        have e : (parts.map fun x => match x with | (i, x) => (i, a.eval x)) = parts.map fun p => (p.1, a.eval p.2) := rfl
        rw [e, hrun]; rfl
      · cases h
    · cases h
  · cases h

theorem takeAll_ok {tmps : Array Value} {tm : List (Nat × AV)} {e : Ty} : ∀ {n : Nat} {s s1 : St} {cs : List AV} {l : List e.D} {I : Nat → Prop} {vs : List Value}, takeAll e s n cs = some (s1, l) → Good A keep ⟨w, m, s.hp, I⟩ tm tmps → relC ⟨w, m, s.hp, I⟩ cs vs →
      ∃ I1, Froze A keep tm tmps w m s s1 I I1 ∧ l.length = n ∧ ∃ vss rest, vs = vss.flatten ++ rest ∧ All2 (repT w I1 e) l vss
  | 0, s, s1, cs, l, I, vs, h, hg, hc => by
    simp only [takeAll, Option.some.injEq, Prod.mk.injEq] at h
    obtain ⟨rfl, rfl⟩ := h
    exact ⟨I, ⟨hg, Grows.refl _, rfl⟩, rfl, [], vs, rfl, trivial⟩
  | n + 1, s, s1, cs, l, I, vs, h, hg, hc => by
    simp only [takeAll] at h
    split at h
    · rename_i s2 x cs2 h1
      split at h
      · rename_i s3 l2 h2
        simp only [Option.some.injEq, Prod.mk.injEq] at h
        obtain ⟨rfl, rfl⟩ := h
        obtain ⟨I1, f1, v1, v2, rfl, r1, c1⟩ := takeD_ok h1 hg hc
        obtain ⟨I2, f2, hl, vss, rest, rfl, hall⟩ := takeAll_ok h2 f1.good c1
        exact ⟨I2, ⟨f2.good, f1.grow.trans f2.grow, f2.tms.trans f1.tms⟩, by simp [hl], v1 :: vss, rest, by simp, repT_mono f2.grow.imm f2.grow.sub r1, hall⟩
      · cases h
    · cases h

theorem madeRows (z : Array Value) (n : Nat) (hz : 0 < z.size) : ((Array.range (n * z.size)).map (z[· % z.size]!)).toList = (List.replicate n z.toList).flatten := by
  induction n with
  | zero => simp
  | succ n ih =>
    have h1 : (List.replicate (n + 1) z.toList).flatten = (List.replicate n z.toList).flatten ++ z.toList := by
      rw [List.replicate_succ', List.flatten_append]; simp
    rw [h1, ← ih]
    simp only [Array.toList_map, Array.toList_range]
    rw [Nat.add_mul, Nat.one_mul, List.range_add, List.map_append]
    congr 1
    apply List.ext_getElem
    · simp
    · intro i h1 h2
      simp only [List.length_map, List.length_range] at h1
      simp [Nat.mod_eq_of_lt h1, h1]

theorem replicate_flat {E : Env} {z : List AV} {zv : List Value} (h : relC E z zv) (n : Nat) : relC E (List.replicate n z).flatten (List.replicate n zv).flatten := by
  induction n with
  | zero => simp [relC]
  | succ n ih => simp only [List.replicate_succ, List.flatten_cons]; exact relC_append h ih

theorem Froze.new_root {tmps : Array Value} {tm : List (Nat × AV)} {s s1 : St} {I I1 : Nat → Prop} (f : Froze A keep tm tmps w m s s1 I I1) : True := trivial

theorem fillC_len {size : Nat → Option (Nat × Nat)} : ∀ {parts : List (Nat × AV)} {c0 c1 : List AV}, fillC size c0 parts = some c1 → c1.length = c0.length := by
  intro parts
  induction parts with
  | nil => intro c0 c1 h; simp only [fillC, Option.some.injEq] at h; rw [h]
  | cons p parts ih =>
    intro c0 c1 h
    simp only [fillC] at h
    split at h
    · rename_i off k xs hs hx
      obtain ⟨hb, h⟩ := cond_none h
      simp only [Bool.and_eq_true] at hb
      have q3 := Nat.eq_of_beq_eq_true hb.1
      have q4 := Nat.le_of_ble_eq_true hb.2
      rw [ih h, replAt_eq _ _ _ (by omega), repl_len (by omega)]
    · cases h

theorem elemP_ok {t : TypeId} {v : AV} (h : elemP P t = some v) : ∃ et e i, P.underlying t = some (.slice et) ∧ P.underlying et = some (.pointer e) ∧ P.info? et = some i ∧ i.zero = some (.pointer none) ∧ i.size = 1 ∧ 0 < i.bytes ∧ v = .val (.pointer none) := by
  unfold elemP at h
  split at h
  · cases h
  · rename_i et he
    split at h
    · rename_i e i hu hi
      split at h
      · rename_i hz
        obtain ⟨hb, h⟩ := cond_none h
        simp only [Bool.and_eq_true] at hb
        cases h
        unfold elemT at he
        split at he
        · simp only [Option.some.injEq] at he; subst he
          exact ⟨_, e, i, by assumption, hu, hi, hz, Nat.eq_of_beq_eq_true hb.1, Nat.le_of_ble_eq_true hb.2, rfl⟩
        · cases he
      · cases h
    · cases h

theorem op_buildSliceP {t : TypeId} {n id : Nat} {parts : Array (Nat × Operand)} (ho : o.op = .buildSlice t n parts) (hg : Good A keep ⟨w, m, s.hp, I⟩ s.tm a.tmps)
    (h : (match elemP P t with
      | some z => cond (Nat.ble n 16777216)
          (match fillC (fun i => some (i * 1, 1)) (List.replicate n [z]).flatten (parts.toList.map fun p => (p.1, s.ev p.2)) with
            | some cs => s.new id (.box cs) fun s2 => K s2 (.ref id 0 none)
            | none => none) none
      | none => none) = some r) : Done P o a w A keep K r := by
  split at h
  · rename_i z hz
    obtain ⟨et, e, i, hu, hue, hi, hiz, hsz, hb, rfl⟩ := elemP_ok hz
    obtain ⟨hle, h⟩ := cond_none h
    have hle := Nat.le_of_ble_eq_true hle
    split at h
    · rename_i cs hcs
      obtain ⟨hn, h⟩ := St.new_some h
      have hzc : relC ⟨w, m, s.hp, I⟩ [AV.val (.pointer none)] (Value.pointer none).cells.toList := by
        show relC _ _ [Value.pointer none]
        simp only [relC, relV]
        exact ⟨rfl, trivial, trivial⟩
      have hzs : (Value.pointer none).cells.size = 1 := rfl
      have hrows := madeRows (Value.pointer none).cells n (by decide)
      have hc0 : relC ⟨w, m, s.hp, I⟩ (List.replicate n [AV.val (.pointer none)]).flatten ((Array.range (n * (Value.pointer none).cells.size)).map ((Value.pointer none).cells[· % (Value.pointer none).cells.size]!)).toList := by
        rw [hrows]; exact replicate_flat hzc n
      obtain ⟨cells', h1, h2⟩ := fill_ok (parts_rel hg parts.toList) hc0 hcs
      have hlen : cs.length = n := by
        rw [fillC_len hcs]
        have : ∀ n, (List.replicate n [AV.val (.pointer none)]).flatten.length = n := by
          intro n; induction n with
          | zero => simp
          | succ n ih => simp only [List.replicate_succ, List.flatten_cons, List.length_append, ih]; simp; omega
        exact this n
      have hcl : cells'.size = n := by
        have := relC_length h2
        simp only [Array.length_toList] at this
        omega
      obtain ⟨g1, g2, g3⟩ := new_box hg hn h2 et
      have hbs : (Instr.buildSlice t n (parts.map fun p => (p.1, a.eval p.2))).run P w = .ok (.slice (some ⟨w.heap.size, 0, none⟩) n n) (w.alloc (.cells cells' et)) := by
        have hnle : ¬ (16777216 < n * i.size) := by rw [hsz]; omega
        by_cases h0 : n = 0
        · subst h0
          simp at h1
          have e0 : ∀ f : Nat → Value, (Array.range 0).map f = #[] := fun f => by apply Array.ext'; simp
          rw [e0] at h1
          simp [Instr.buildSlice, underlying, hu, sizeOf, typeInfo, hi, newRow, hsz]
          rw [e0, h1]; simp
        · have h0' : ¬ (n * i.size = 0) := by rw [hsz]; omega
          rw [hzs] at h1
          simp [Instr.buildSlice, underlying, hu, sizeOf, typeInfo, hi, hnle, h0', zeroValue, hiz, newRow, hsz, h0]
          simp only [Nat.mul_one] at h1
          rw [if_neg (by omega), hzs, h1]; simp
      refine ⟨_, _, h, .inl ⟨.slice (some ⟨w.heap.size, 0, none⟩) n n, w.alloc (.cells cells' et), ?_, upd m id (some (w.heap.size, 0)), I, g1, ?_⟩⟩
      · simp only [execOp, ho]
        rw [Sem.run_bind]
        have e' : (parts.map fun x => match x with | (i, x) => (i, a.eval x)) = parts.map fun p => (p.1, a.eval p.2) := rfl
        rw [e', hbs]; rfl
      · simp only [relV, St.setH, getH_same, upd_same]
        refine ⟨by simp [lenL], .inr ⟨w.heap.size, 0, n, rfl, by simp [lenL, hlen], by simp [lenL, hlen], ?_⟩⟩
        have : AI.bsz (w.alloc (.cells cells' et)) w.heap.size = cells'.size := by
          unfold AI.bsz
          rw [heap_alloc_new]
        rw [this, hcl]; simp [Ty.sz]
    · cases h
  · cases h

theorem op_buildSlice {t : TypeId} {n id : Nat} {parts : Array (Nat × Operand)} (ho : o.op = .buildSlice t n parts) (hg : Good A keep ⟨w, m, s.hp, I⟩ s.tm a.tmps)
    (h : (match elemI P t with
    | none => match elemP P t with
      | some z => cond (Nat.ble n 16777216)
          (match fillC (fun i => some (i * 1, 1)) (List.replicate n [z]).flatten (parts.toList.map fun p => (p.1, s.ev p.2)) with
            | some cs => s.new id (.box cs) fun s2 => K s2 (.ref id 0 none)
            | none => none) none
      | none => none
    | some (et, e, _) => match zeroOf P et with
      | some z => cond (Nat.ble (n * e.sz) 16777216)
          (match fillC (fun i => some (i * e.sz, e.sz)) (List.replicate n z).flatten (parts.toList.map fun p => (p.1, s.ev p.2)) with
            | some cs => match takeAll e s n cs with
              | some (s1, l) => s1.new id (.arr e l) fun s2 => K s2 (.ref id 0 none)
              | none => none
            | none => none) none
      | none => none) = some r) : Done P o a w A keep K r := by
  split at h
  · exact op_buildSliceP ho hg h
  · rename_i et e bytes hel
    obtain ⟨i, z, hu, hi, hiz, hsz, he, rfl, hb, hzs, _⟩ := elemI_ok hel
    split at h
    · rename_i zc hz
      obtain ⟨hle, h⟩ := cond_none h
      have hle := Nat.le_of_ble_eq_true hle
      obtain ⟨zv, hzv, hzc⟩ := zeroOf_ok (P := P) (w := w) (m := m) (I := I) (s := s) hz
      have : zv = z := by
        unfold zeroV at hzv
        rw [hi] at hzv; simp only at hzv
        rw [hiz] at hzv; simpa using hzv.symm
      subst this
      split at h
      · rename_i cs hcs
        split at h
        · rename_i s1 l hta
          obtain ⟨hn, h⟩ := St.new_some h
          have hrows := madeRows zv.cells n (by omega)
          have hc0 : relC ⟨w, m, s.hp, I⟩ (List.replicate n zc).flatten ((Array.range (n * zv.cells.size)).map (zv.cells[· % zv.cells.size]!)).toList := by
            rw [hrows]; exact replicate_flat hzc n
          obtain ⟨cells', h1, h2⟩ := fill_ok (parts_rel hg parts.toList) hc0 hcs
          obtain ⟨I1, f, hl, vss, rest, hvs, hall⟩ := takeAll_ok hta hg h2
          have hfsz : cells'.size = n * e.sz := by
            have q1 := relC_length h2
            have q2 : cs.length = (List.replicate n zc).flatten.length := by
              clear h1 h2 hta hall hvs
              have : ∀ {parts : List (Nat × AV)} {c0 c1 : List AV}, fillC (fun i => some (i * e.sz, e.sz)) c0 parts = some c1 → c1.length = c0.length := by
                intro parts
                induction parts with
                | nil => intro c0 c1 h; simp only [fillC, Option.some.injEq] at h; rw [h]
                | cons p parts ih =>
                  intro c0 c1 h
                  simp only [fillC] at h
                  split at h
                  · rename_i off k xs hs hx
                    simp only [Option.some.injEq, Prod.mk.injEq] at hs
                    obtain ⟨hb, h⟩ := cond_none h
                    simp only [Bool.and_eq_true] at hb
                    have q3 := Nat.eq_of_beq_eq_true hb.1
                    have q4 := Nat.le_of_ble_eq_true hb.2
                    rw [ih h, replAt_eq _ _ _ (by omega), repl_len (by omega)]
                  · cases h
              exact this hcs
            have q3 := relC_length hzc
            simp only [Array.length_toList] at q1 q3
            rw [← q1, q2]
            have : ∀ n, (List.replicate n zc).flatten.length = n * zc.length := by
              intro n; induction n with
              | zero => simp
              | succ n ih => simp only [List.replicate_succ, List.flatten_cons, List.length_append, ih, Nat.add_mul]; omega
            rw [this, q3, hzs]
          have hrest : rest = [] := by
            have q1 := congrArg List.length hvs
            have q2 := flat_split (sz := e.sz) vss.length (lens_of (E := ⟨w, m, s1.hp, I1⟩) hall) (Nat.le_refl _)
            rw [List.take_length] at q2
            rw [List.length_append, q2.2, ← hall.length, hl] at q1
            simp only [Array.length_toList] at q1
            exact List.eq_nil_of_length_eq_zero (by omega)
          subst hrest
          obtain ⟨g1, g2, g3⟩ := new_arr f.good hn he hall et cells' [] hvs n (by omega) (by omega) (w0 := w) rfl rfl rfl rfl
          have hbs : (Instr.buildSlice t n (parts.map fun p => (p.1, a.eval p.2))).run P w = .ok (.slice (some ⟨w.heap.size, 0, none⟩) n n) (w.alloc (.cells cells' et)) := by
            have hnle : ¬ (16777216 < n * i.size) := by rw [← hsz]; omega
            have hzsz : i.size = zv.cells.size := by rw [← hsz, hzs]
            by_cases h0 : n * i.size = 0
            · have h0' : n = 0 := by
                rcases Nat.mul_eq_zero.1 h0 with h | h
                · exact h
                · omega
              subst h0'
              simp at h1
              have e0 : ∀ f : Nat → Value, (Array.range 0).map f = #[] := fun f => by apply Array.ext'; simp
              simp [Instr.buildSlice, underlying, hu, sizeOf, typeInfo, hi, newRow]
              rw [hsz] at h1
              rw [e0] at h1 ⊢
              rw [h1]; simp
            · rw [hsz] at h1
              rw [← hzsz] at h1
              simp [Instr.buildSlice, underlying, hu, sizeOf, typeInfo, hi, hnle, h0, zeroValue, hiz, newRow]
              rw [← hzsz]
              rw [show (List.map (fun p => (p.fst, a.eval p.snd)) parts.toList) = (parts.toList.map fun p => (p.1, a.eval p.2)) from rfl]
              rw [h1]; simp
          refine ⟨_, _, h, .inl ⟨.slice (some ⟨w.heap.size, 0, none⟩) n n, w.alloc (.cells cells' et), ?_, upd m id (some (w.heap.size, 0)), I1, ?_, ?_⟩⟩
          rotate_left
          · simp only [St.setH, f.tms]; exact g1
          · rw [hl] at g3; exact g3
          · simp only [execOp, ho]
            rw [Sem.run_bind]
            have e' : (parts.map fun x => match x with | (i, x) => (i, a.eval x)) = parts.map fun p => (p.1, a.eval p.2) := rfl
            rw [e', hbs]; rfl
        · cases h
      · cases h
    · cases h

theorem isZero_ok {e : Ty} {z : Value} (h : isZero e z = true) : repT w I e e.d0 z.cells.toList := by
  have go : ∀ (e : Ty) (cs rest : List Value), isZero.takeZ e cs = some rest → ∃ c1, cs = c1 ++ rest ∧ repT w I e e.d0 c1 := by
    intro e
    induction e with
    | unit => intro cs rest h; simp [isZero.takeZ] at h; exact ⟨[], by simp [h], rfl⟩
    | int k =>
      intro cs rest h
      simp only [isZero.takeZ] at h
      split at h
      · obtain ⟨hc, hb⟩ := cond_none h
        clear h
        simp only [Bool.and_eq_true, decide_eq_true_eq] at hc
        simp only [Option.some.injEq] at hb; subst hb
        obtain ⟨rfl, rfl⟩ := hc
        exact ⟨[_], rfl, rfl⟩
      · cases h
    | bool =>
      intro cs rest h
      simp only [isZero.takeZ] at h
      split at h
      · simp only [Option.some.injEq] at h; subst h
        exact ⟨[_], rfl, rfl⟩
      · cases h
    | str =>
      intro cs rest h
      simp only [isZero.takeZ] at h
      split at h
      · rename_i b rs
        obtain ⟨hc, h⟩ := cond_none h
        have hc := Nat.eq_of_beq_eq_true hc
        simp only [Option.some.injEq] at h; subst h
        have : b = ByteArray.empty := by
          cases b with
          | mk d =>
            have : d = #[] := Array.eq_empty_of_size_eq_zero hc
            subst this; rfl
        subst this
        exact ⟨[_], rfl, rfl⟩
      · cases h
    | sl e ih =>
      intro cs rest h
      simp only [isZero.takeZ] at h
      split at h
      · simp only [Option.some.injEq] at h; subst h
        exact ⟨[_], rfl, none, 0, 0, rfl, rfl, Nat.le_refl _, rfl, rfl⟩
      · cases h
    | pair a b iha ihb =>
      intro cs rest h
      simp only [isZero.takeZ] at h
      split at h
      · rename_i cs1 h1
        obtain ⟨c1, rfl, r1⟩ := iha _ _ h1
        obtain ⟨c2, rfl, r2⟩ := ihb _ _ h
        exact ⟨c1 ++ c2, by simp, c1, c2, rfl, r1, r2⟩
      · cases h
  unfold isZero at h
  split at h
  · rename_i h1
    obtain ⟨c1, h2, h3⟩ := go _ _ _ h1
    rw [h2]; simpa using h3
  · cases h


theorem op_makeSlice {t : TypeId} {x y : Operand} {id : Nat} (ho : o.op = .makeSlice t x y) (hg : Good A keep ⟨w, m, s.hp, I⟩ s.tm a.tmps)
    (h : (match elemI P t with
    | none => none
    | some (et, e, bytes) => match zeroV P et, s.ev x, s.ev y with
      | some z, .val (.int .i64 n), .val (.int .i64 m) => cond (isZero e z)
            (chk (decide (n = m)) (chk (decide (0 ≤ n)) (chk (fitBytes n.toNat bytes) (s.new id (.arr e (List.replicate n.toNat e.d0)) fun s1 => K s1 (.ref id 0 none))))) none
      | _, _, _ => none) = some r) : Done P o a w A keep K r := by
  have hx := ev_rel hg.tm x
  have hy := ev_rel hg.tm y
  split at h
  · cases h
  · rename_i et e bytes hel
    obtain ⟨i, z, hu, hi, hiz, hsz, he, rfl, hb, hzs, _⟩ := elemI_ok hel
    split at h
    · rename_i zv n m' hzv hxe hye
      have : zv = z := by
        unfold zeroV at hzv
        rw [hi] at hzv; simp only at hzv
        rw [hiz] at hzv; simpa using hzv.symm
      subst this
      rw [hxe] at hx; rw [hye] at hy
      simp only [relV] at hx hy
      obtain ⟨hz0, ha⟩ := cond_none h
      clear h
      obtain ⟨h1, hb'⟩ := chk_some ha
      clear ha
      obtain ⟨h2, hc⟩ := chk_some hb'
      clear hb'
      obtain ⟨h3, hd⟩ := chk_some hc
      clear hc
      have h1 : n = m' := of_decide_eq_true h1
      have h2 : 0 ≤ n := of_decide_eq_true h2
      have h3 : n.toNat * i.bytes ≤ 140737488355328 := of_decide_eq_true h3
      obtain ⟨hn, h⟩ := St.new_some hd
      clear hd
      subst h1
      have hle : n.toNat ≤ n.toNat * i.bytes := Nat.le_mul_of_pos_right _ hb
      have hbn : (i.bytes : Int) * n ≤ 281474976710656 := by
        have : ((n.toNat * i.bytes : Nat) : Int) ≤ 140737488355328 := by omega
        rw [Int.natCast_mul, Int.toNat_of_nonneg h2, Int.mul_comm] at this
        omega
      have hrun := run_make (P := P) w t et i zv hu hi hiz .i64 .i64 n n h2 (Int.le_refl _) hbn (by omega)
      have hrep := isZero_ok (w := w) (I := I) hz0
      have hall : All2 (repT w I e) (List.replicate n.toNat e.d0) (List.replicate n.toNat zv.cells.toList) := All2.replicate hrep _
      have hrows := madeRows zv.cells n.toNat (by omega)
      have hcells : madeCells zv.cells (n.toNat * i.size) = (Array.range (n.toNat * zv.cells.size)).map (zv.cells[· % zv.cells.size]!) := by
        rw [hzs, hsz]; unfold madeCells; rw [hzs, hsz]
      obtain ⟨g1, g2, g3⟩ := new_arr hg hn he hall et (madeCells zv.cells (n.toNat * i.size)) [] (by rw [hcells, hrows]; simp) n.toNat (by simp) (by rw [hcells]; simp [hzs]) (w0 := w) rfl rfl rfl rfl
      refine ⟨_, _, h, .inl ⟨.slice (some ⟨w.heap.size, 0, none⟩) n.toNat n.toNat, _, ?_, _, I, g1, ?_⟩⟩
      · simp only [execOp, ho, hx, hy]
        rw [Sem.run_bind, hrun]; rfl
      · rw [List.length_replicate] at g3; exact g3
    · cases h

end
end Go.AI
end

section
/- SOUNDNESS: handles named anew; what a call makes becomes the caller's; calls that borrow. -/
namespace Go.AI
set_option linter.unusedVariables false
set_option linter.unusedSimpArgs false

/-- a call comes to a value -/
def CallOk (P : Program) (f : FuncId) (vals : Array Value) (w : World) (G : Value → World → Prop) : Prop :=
  (∃ x w', (callFunc f vals).run P w = .ok (.value x) w' ∧ G x w') ∨
  (∃ g args w', (callFunc f vals).run P w = .ok (.enter g args) w' ∧ Calls P g args w' fun e w'' => ∃ x, e = .returned x ∧ G x w'')

/-- what a function's abstract meaning promises -/
def Sound (P : Program) (f : FuncId) (S : Sm) : Prop :=
  ∀ (A : Env) (args : List AV) (vals : Array Value) (roots : List Root) (r : AV) (roots' : List Root), A.hp = numbered 0 roots → HeapRel A → relL A args vals.toList → S args roots some = some (r, roots') →
    CallOk P f vals A.w fun x w' => ∃ m' I', HeapRel ⟨w', m', numbered 0 roots', I'⟩ ∧ Hist A roots.length ⟨w', m', numbered 0 roots', I'⟩ ∧ relV ⟨w', m', numbered 0 roots', I'⟩ r x

def like (r r' : Root) : Prop := fits r r' ∧ (r' = .gone → r = .gone)

theorem memN_iff {x : Nat} {l : List Nat} : memN x l = true ↔ x ∈ l := by
  induction l with
  | nil => simp [memN]
  | cons y l ih =>
    simp only [memN, Bool.or_eq_true, ih, List.mem_cons]
    constructor
    · rintro (h | h)
      · exact .inl (Nat.eq_of_beq_eq_true h).symm
      · exact .inr h
    · rintro (h | h)
      · left; rw [h]; exact Nat.beq_refl _
      · exact .inr h

theorem getH_gone_of {hp : List (Nat × Root)} {h : Nat} (g : hasH hp h = false) : getH hp h = .gone := by
  cases hx : getH hp h with
  | gone => rfl
  | box cs => have := hasH_of_getH (hp := hp) (h := h) (by rw [hx]; simp); rw [g] at this; cases this
  | arr e l => have := hasH_of_getH (hp := hp) (h := h) (by rw [hx]; simp); rw [g] at this; cases this
  | imm e l => have := hasH_of_getH (hp := hp) (h := h) (by rw [hx]; simp); rw [g] at this; cases this

/-- an environment whose handles are those of another by other names -/
structure Ren (g : Nat → Option Nat) (E E' : Env) : Prop where
  w : E'.w = E.w
  m : ∀ h k, g h = some k → E'.m k = E.m h
  like : ∀ h k, g h = some k → like (getH E.hp h) (getH E'.hp k)
  has : ∀ h k, g h = some k → hasH E'.hp k = true

theorem any_false {α : Type} {p : α → Bool} {l : List α} (h : l.any p = false) : ∀ x ∈ l, p x = false := by
  intro x hx
  cases hp : p x with
  | false => rfl
  | true => rw [List.any_eq_true.2 ⟨x, hx, hp⟩] at h; cases h

theorem repT_world {w : World} {I : Nat → Prop} {t : Ty} {x : t.D} {cs : List Value} (h : repT w I t x cs) : repT w I t x cs := h

theorem repT_flat {w w' : World} {I I' : Nat → Prop} : ∀ {t : Ty} {x : t.D} {cs : List Value}, t.flat = true → repT w I t x cs → repT w' I' t x cs
  | .unit, _, _, _, h => h
  | .int _, _, _, _, h => h
  | .bool, _, _, _, h => h
  | .str, _, _, _, h => h
  | .sl e, _, _, h, _ => by simp [Ty.flat] at h
  | .pair a b, _, _, hf, h => by
    simp only [Ty.flat, Bool.and_eq_true] at hf
    obtain ⟨c1, c2, rfl, h1, h2⟩ := h
    exact ⟨c1, c2, rfl, repT_flat hf.1 h1, repT_flat hf.2 h2⟩

theorem relL_map {E E' : Env} {f : AV → AV} : ∀ {cs : List AV} {vs : List Value}, (∀ c ∈ cs, ∀ v, relV E c v → relV E' (f c) v) → relL E cs vs → relL E' (cs.map f) vs
  | [], [], _, _ => by simp [relL]
  | c :: cs, v :: vs, hf, h => by
    simp only [relL, List.map_cons] at h ⊢
    exact ⟨hf c (by simp) v h.1, relL_map (fun c hc => hf c (by simp [hc])) h.2⟩
theorem relC_map {E E' : Env} {f : AV → AV} : ∀ {cs : List AV} {vs : List Value}, (∀ c ∈ cs, ∀ v, relV E c v → relV E' (f c) v) → relC E cs vs → relC E' (cs.map f) vs
  | [], [], _, _ => by simp [relC]
  | c :: cs, v :: vs, hf, h => by
    simp only [relC, List.map_cons] at h ⊢
    exact ⟨h.1, hf c (by simp) v h.2.1, relC_map (fun c hc => hf c (by simp [hc])) h.2.2⟩

theorem ren_ok {g : Nat → Option Nat} {E E' : Env} (R : Ren g E E') : ∀ (n : Nat) {v : AV} {x : Value}, ((∀ b, E.I b → E'.I b) ∨ immF n v = false) → relV E v x → relV E' (renG g n v) x
  | 0, v, x, _, _ => by simp [renG, relV]
  | n + 1, v, x, hI, h => by
    have sub : ∀ cs : List AV, ((∀ b, E.I b → E'.I b) ∨ cs.any (immF n) = false) → ∀ c ∈ cs, ∀ v, relV E c v → relV E' (renG g n c) v := by
      intro cs hI c hc v hv
      refine ren_ok R n ?_ hv
      rcases hI with hI | hI
      · exact .inl hI
      · exact .inr (any_false hI c hc)
    cases v with
    | any => simp [renG, relV]
    | val u => simpa [renG, relV] using h
    | ifc b => simpa [renG, relV] using h
    | agg cs =>
      simp only [renG, relV] at h ⊢
      obtain ⟨vs, rfl, hc⟩ := h
      exact ⟨vs, rfl, relC_map (sub cs (by simpa [immF] using hI)) hc⟩
    | tup cs =>
      simp only [renG, relV] at h ⊢
      obtain ⟨vs, rfl, hc⟩ := h
      exact ⟨vs, rfl, relL_map (sub cs (by simpa [immF] using hI)) hc⟩
    | fn f cs =>
      simp only [renG, relV] at h ⊢
      obtain ⟨vs, rfl, hc⟩ := h
      exact ⟨vs, rfl, relL_map (sub cs (by simpa [immF] using hI)) hc⟩
    | sl e ls nn =>
      rcases hI with hI | hI
      · simp only [renG, relV] at h ⊢
        obtain ⟨a, k, c, rfl, hs, h1, h2⟩ := h
        rw [R.w]
        exact ⟨a, k, c, rfl, repS_mono hs (fun _ _ => rfl) hI (fun _ _ hx => repT_mono (fun _ _ => rfl) hI hx), h1, h2⟩
      · simp [immF] at hI
    | cp cs =>
      rcases hI with hI | hI
      · simp only [renG, relV] at h ⊢
        obtain ⟨b, o, vs, rfl, hb, hat, hc⟩ := h
        rw [R.w]
        exact ⟨b, o, vs, rfl, hI _ hb, hat, relC_map (sub cs (.inl hI)) hc⟩
      · simp [immF] at hI
    | ref h0 lo len =>
      cases hm : g h0 with
      | none => simp [renG, hm, relV]
      | some k0 =>
        have hlk := R.like h0 k0 hm
        have hmm := R.m h0 k0 hm
        have hh := R.has h0 k0 hm
        simp only [renG, hm, relV] at h ⊢
        cases h1 : getH E.hp h0 with
        | gone =>
          rw [h1] at h hlk
          cases h2 : getH E'.hp k0 with
          | gone => exact ⟨hh, h.2⟩
          | box cs => rw [h2] at hlk; exact hlk.1.elim
          | arr e ls => rw [h2] at hlk; exact hlk.1.elim
          | imm e ls => rw [h2] at hlk; exact hlk.1.elim
        | box cs =>
          rw [h1] at h hlk
          cases h2 : getH E'.hp k0 with
          | gone => rw [h2] at hlk; exact absurd (hlk.2 rfl) (by simp)
          | box cs' => rw [h2] at hlk; have hl : cs.length = cs'.length := hlk.1; simp only; rw [R.w, hmm, ← hl]; exact h
          | arr e ls => rw [h2] at hlk; exact hlk.1.elim
          | imm e ls => rw [h2] at hlk; exact hlk.1.elim
        | arr e ls =>
          rw [h1] at h hlk
          cases h2 : getH E'.hp k0 with
          | gone => rw [h2] at hlk; exact absurd (hlk.2 rfl) (by simp)
          | box cs => rw [h2] at hlk; exact hlk.1.elim
          | arr e' ls' => rw [h2] at hlk; obtain ⟨rfl, hl⟩ := hlk.1; simp only; rw [R.w, hmm, ← hl]; exact h
          | imm e' ls' => rw [h2] at hlk; obtain ⟨rfl, hl⟩ := hlk.1; simp only; rw [R.w, hmm, ← hl]; exact h
        | imm e ls =>
          rw [h1] at h hlk
          cases h2 : getH E'.hp k0 with
          | gone => rw [h2] at hlk; exact absurd (hlk.2 rfl) (by simp)
          | box cs => rw [h2] at hlk; exact hlk.1.elim
          | arr e' ls' => rw [h2] at hlk; exact hlk.1.elim
          | imm e' ls' => rw [h2] at hlk; obtain ⟨rfl, hl⟩ := hlk.1; simp only; rw [R.w, hmm, ← hl]; exact h
    | ptr h0 i f =>
      cases hm : g h0 with
      | none => simp [renG, hm, relV]
      | some k0 =>
        have hlk := R.like h0 k0 hm
        have hmm := R.m h0 k0 hm
        have hh := R.has h0 k0 hm
        simp only [renG, hm, relV] at h ⊢
        cases h1 : getH E.hp h0 with
        | gone =>
          rw [h1] at h hlk
          cases h2 : getH E'.hp k0 with
          | gone => exact ⟨hh, h.2⟩
          | box cs => rw [h2] at hlk; exact hlk.1.elim
          | arr e ls => rw [h2] at hlk; exact hlk.1.elim
          | imm e ls => rw [h2] at hlk; exact hlk.1.elim
        | box cs =>
          rw [h1] at h hlk
          cases h2 : getH E'.hp k0 with
          | gone => rw [h2] at hlk; exact absurd (hlk.2 rfl) (by simp)
          | box cs' => obtain ⟨b, h3, h4⟩ := h; exact ⟨b, hmm.trans h3, h4⟩
          | arr e ls => rw [h2] at hlk; exact hlk.1.elim
          | imm e ls => rw [h2] at hlk; exact hlk.1.elim
        | arr e ls =>
          rw [h1] at h hlk
          cases h2 : getH E'.hp k0 with
          | gone => rw [h2] at hlk; exact absurd (hlk.2 rfl) (by simp)
          | box cs => rw [h2] at hlk; exact hlk.1.elim
          | arr e' ls' => rw [h2] at hlk; obtain ⟨rfl, hl⟩ := hlk.1; obtain ⟨b, o, h3, h4, h5⟩ := h; exact ⟨b, o, hmm.trans h3, h4, by rw [← hl]; exact h5⟩
          | imm e' ls' => rw [h2] at hlk; obtain ⟨rfl, hl⟩ := hlk.1; obtain ⟨b, o, h3, h4, h5⟩ := h; exact ⟨b, o, hmm.trans h3, h4, by rw [← hl]; exact h5⟩
        | imm e ls =>
          rw [h1] at h hlk
          cases h2 : getH E'.hp k0 with
          | gone => rw [h2] at hlk; exact absurd (hlk.2 rfl) (by simp)
          | box cs => rw [h2] at hlk; exact hlk.1.elim
          | arr e' ls' => rw [h2] at hlk; exact hlk.1.elim
          | imm e' ls' => rw [h2] at hlk; obtain ⟨rfl, hl⟩ := hlk.1; obtain ⟨b, o, h3, h4, h5⟩ := h; exact ⟨b, o, hmm.trans h3, h4, by rw [← hl]; exact h5⟩

/-- a root by its new name -/
theorem rootOk_ren {g : Nat → Option Nat} {E E' : Env} (R : Ren g E E') {h k : Nat} {x : Root} (hm : E'.m k = E.m h) (hI : (∀ b, E.I b → E'.I b) ∨ immR x = false)
    (hn : owned x = true → ∀ b o, E.m h = some (b, o) → ¬ E.I b → ¬ E'.I b) (H : rootOk E h x) : rootOk E' k (renRoot g x) := by
  cases x with
  | gone => trivial
  | box cs =>
    obtain ⟨b, vs, T, h1, h2, h3, h4⟩ := H
    refine ⟨b, vs, T, hm.trans h1, hn rfl b 0 h1 h2, by rw [R.w]; exact h3, relC_map (fun c hc v hv => ren_ok R 6 ?_ hv) h4⟩
    rcases hI with hI | hI
    · exact .inl hI
    · exact .inr (any_false hI c hc)
  | arr e ls =>
    refine ⟨H.1, ?_⟩
    rcases H.2 with ⟨h1, h2⟩ | ⟨b, o, vss, h1, h2, h3⟩
    · exact .inl ⟨hm.trans h1, h2⟩
    · simp only [if_true] at h2
      refine .inr ⟨b, o, vss, hm.trans h1, ?_, ?_⟩
      · simp only [if_true]; rw [R.w]; exact ⟨hn rfl b o h1 h2.1, h2.2⟩
      · rw [R.w]
        rcases hI with hI | hI
        · exact h3.mono fun _ _ => repT_mono (fun _ _ => rfl) hI
        · have hf : e.flat = true := by simpa [immR] using hI
          exact h3.mono fun _ _ => repT_flat hf
  | imm e ls =>
    refine ⟨H.1, ?_⟩
    rcases hI with hI | hI
    · rcases H.2 with ⟨h1, h2⟩ | ⟨b, o, vss, h1, h2, h3⟩
      · exact .inl ⟨hm.trans h1, h2⟩
      · simp only [Bool.false_eq_true, if_false] at h2
        refine .inr ⟨b, o, vss, hm.trans h1, ?_, ?_⟩
        · simp only [Bool.false_eq_true, if_false]; rw [R.w]; exact ⟨hI _ h2.1, h2.2⟩
        · rw [R.w]; exact h3.mono fun _ _ => repT_mono (fun _ _ => rfl) hI
    · simp [immR] at hI

theorem like_ren (g : Nat → Option Nat) (x : Root) : like x (renRoot g x) := by
  cases x with
  | gone => exact ⟨trivial, fun _ => rfl⟩
  | box cs => exact ⟨by simp [renRoot, fits], by simp [renRoot]⟩
  | arr e ls => exact ⟨⟨rfl, rfl⟩, by simp [renRoot]⟩
  | imm e ls => exact ⟨⟨rfl, rfl⟩, by simp [renRoot]⟩

theorem getH_numbered : ∀ (roots : List Root) (base h : Nat), getH (numbered base roots) h = if base ≤ h ∧ h < base + roots.length then roots.getD (h - base) .gone else .gone
  | [], base, h => by
    have : ¬ (base ≤ h ∧ h < base + 0) := by omega
    simp [numbered, getH]
  | x :: r, base, h => by
    simp only [numbered, getH]
    cases hb : Nat.beq base h with
    | true =>
      have := Nat.eq_of_beq_eq_true hb
      subst this
      simp
    | false =>
      have hne : base ≠ h := fun e => by subst e; rw [Nat.beq_refl] at hb; cases hb
      rw [cond_false, getH_numbered r (base + 1) h]
      simp only [List.length_cons]
      by_cases hc : base + 1 ≤ h ∧ h < base + 1 + r.length
      · rw [if_pos hc, if_pos (by omega)]
        rw [show h - base = h - (base + 1) + 1 by omega, List.getD_cons_succ]
      · rw [if_neg hc, if_neg (by omega)]
theorem hasH_numbered : ∀ (roots : List Root) (base h : Nat), hasH (numbered base roots) h = decide (base ≤ h ∧ h < base + roots.length)
  | [], base, h => by
    have : ¬ (base ≤ h ∧ h < base + 0) := by omega
    simp [numbered, hasH]
  | x :: r, base, h => by
    simp only [numbered, hasH]
    rw [hasH_numbered r (base + 1) h]
    cases hb : Nat.beq base h with
    | true =>
      have := Nat.eq_of_beq_eq_true hb
      subst this
      simp
    | false =>
      have hne : base ≠ h := fun e => by subst e; rw [Nat.beq_refl] at hb; cases hb
      simp only [Bool.false_or, List.length_cons, decide_eq_decide]
      omega
theorem getH_append {hp hq : List (Nat × Root)} {h : Nat} : getH (hp ++ hq) h = if hasH hp h = true then getH hp h else getH hq h := by
  induction hp with
  | nil => simp [hasH]
  | cons p hp ih =>
    obtain ⟨j, x⟩ := p
    simp only [List.cons_append, getH, hasH]
    by_cases hb : Nat.beq j h = true
    · simp [hb]
    · have hb : Nat.beq j h = false := by
        cases h' : Nat.beq j h with
        | false => rfl
        | true => exact absurd h' hb
      simp only [hb, cond_false, Bool.false_or]; exact ih
theorem hasH_append {hp hq : List (Nat × Root)} {h : Nat} : hasH (hp ++ hq) h = (hasH hp h || hasH hq h) := by
  induction hp with
  | nil => simp [hasH]
  | cons p hp ih =>
    obtain ⟨j, x⟩ := p
    simp only [List.cons_append, hasH, ih, Bool.or_assoc]

theorem idxG_ok {l : List Nat} : ∀ {i h k : Nat}, idxG l i h = some k → i ≤ k ∧ l[k - i]? = some h := by
  induction l with
  | nil => intro i h k e; cases e
  | cons y l ih =>
    intro i h k e
    simp only [idxG] at e
    cases hb : Nat.beq y h with
    | true =>
      rw [hb] at e; cases e
      have := Nat.eq_of_beq_eq_true hb
      subst this; simp
    | false =>
      rw [hb, cond_false] at e
      obtain ⟨h1, h2⟩ := ih e
      refine ⟨by omega, ?_⟩
      rw [show k - i = k - (i + 1) + 1 by omega, List.getElem?_cons_succ]; exact h2
theorem idxO_ok {l : List Nat} {h k : Nat} (e : idxO l h = some k) : l[k]? = some h := by simpa using (idxG_ok e).2
theorem idxG_of {l : List Nat} (hl : l.Nodup) : ∀ {i k h : Nat}, l[k]? = some h → idxG l i h = some (i + k) := by
  induction l with
  | nil => intro i k h e; simp at e
  | cons y l ih =>
    intro i k h e
    have hl := List.nodup_cons.1 hl
    cases k with
    | zero => simp at e; subst e; simp [idxG, Nat.beq_refl]
    | succ k =>
      rw [List.getElem?_cons_succ] at e
      have hne : Nat.beq y h = false := by
        cases hb : Nat.beq y h with
        | false => rfl
        | true => have := Nat.eq_of_beq_eq_true hb; subst this; exact absurd (List.mem_of_getElem? e) hl.1
      simp only [idxG, hne, cond_false]
      rw [ih hl.2 e]; congr 1; omega
theorem idxO_of {l : List Nat} (hl : l.Nodup) {k h : Nat} (e : l[k]? = some h) : idxO l h = some k := by simpa [idxO] using idxG_of hl (i := 0) e
theorem shiftO_ok {n base h k : Nat} (e : shiftO n base h = some k) : h < n ∧ k = base + h := by
  unfold shiftO at e
  cases hb : Nat.blt h n with
  | false => rw [hb] at e; cases e
  | true => rw [hb] at e; cases e; exact ⟨Nat.le_of_ble_eq_true hb, rfl⟩

end Go.AI
end

section
/- SOUNDNESS: calls that borrow. -/
namespace Go.AI
set_option linter.unusedVariables false
set_option linter.unusedSimpArgs false

section
variable {w : World} {m : Nat → Option (Nat × Nat)} {I : Nat → Prop} {s : St}

theorem snapL_ok {f : AV → Option (AV × List Nat)} {E E' : Env} (good : List Nat → Prop) (happ : ∀ a b, good (a ++ b) → good a ∧ good b) : ∀ {cs cs' : List AV} {vis : List Nat} {vs : List Value}, snapL f cs = some (cs', vis) → good vis →
    (∀ c ∈ cs, ∀ v c' a, f c = some (c', a) → good a → relV E c v → relV E' c' v) → relC E cs vs → relC E' cs' vs
  | [], cs', vis, vs, h, _, _, hc => by
    simp only [snapL, Option.some.injEq, Prod.mk.injEq] at h
    obtain ⟨rfl, rfl⟩ := h
    cases vs <;> simp_all [relC]
  | c :: cs, cs', vis, vs, h, hv, hf, hc => by
    simp only [snapL] at h
    split at h
    · rename_i c' a h1
      split at h
      · rename_i r' b h2
        simp only [Option.some.injEq, Prod.mk.injEq] at h
        obtain ⟨rfl, rfl⟩ := h
        obtain ⟨ga, gb⟩ := happ a b hv
        cases vs with
        | nil => simp [relC] at hc
        | cons v vs =>
          simp only [relC] at hc ⊢
          exact ⟨hc.1, hf c (by simp) v c' a h1 ga hc.2.1, snapL_ok good happ h2 gb (fun c hc => hf c (by simp [hc])) hc.2.2⟩
      · cases h
    · cases h
theorem snapL_okL {f : AV → Option (AV × List Nat)} {E E' : Env} (good : List Nat → Prop) (happ : ∀ a b, good (a ++ b) → good a ∧ good b) : ∀ {cs cs' : List AV} {vis : List Nat} {vs : List Value}, snapL f cs = some (cs', vis) → good vis →
    (∀ c ∈ cs, ∀ v c' a, f c = some (c', a) → good a → relV E c v → relV E' c' v) → relL E cs vs → relL E' cs' vs
  | [], cs', vis, vs, h, _, _, hc => by
    simp only [snapL, Option.some.injEq, Prod.mk.injEq] at h
    obtain ⟨rfl, rfl⟩ := h
    cases vs <;> simp_all [relL]
  | c :: cs, cs', vis, vs, h, hv, hf, hc => by
    simp only [snapL] at h
    split at h
    · rename_i c' a h1
      split at h
      · rename_i r' b h2
        simp only [Option.some.injEq, Prod.mk.injEq] at h
        obtain ⟨rfl, rfl⟩ := h
        obtain ⟨ga, gb⟩ := happ a b hv
        cases vs with
        | nil => simp [relL] at hc
        | cons v vs =>
          simp only [relL] at hc ⊢
          exact ⟨hf c (by simp) v c' a h1 ga hc.1, snapL_okL good happ h2 gb (fun c hc => hf c (by simp [hc])) hc.2⟩
      · cases h
    · cases h

/-- the blocks of the roots shown are in J -/
def shown (m : Nat → Option (Nat × Nat)) (J : Nat → Prop) (vis : List Nat) : Prop := ∀ h ∈ vis, ∀ b o, m h = some (b, o) → J b

theorem elem_imm {J : Nat → Prop} {h : Nat} {e : Ty} {l : List e.D} {own : Bool} {i f : Nat} {x : Value} (H : arrOk ⟨w, m, s.hp, I⟩ h e l own) (hJ : ∀ b, I b → J b) (hb : ∀ b o, m h = some (b, o) → J b)
    (hr : ∃ b o, m h = some (b, o) ∧ x = .pointer (some ⟨b, o + i * e.sz + f, none⟩) ∧ i < l.length) (hf : f ≤ e.sz) {m0 : Nat → Option (Nat × Nat)} :
    relV ⟨w, m0, [], J⟩ (.cp ((cellsI e (l.getD i e.d0)).drop f)) x := by
  obtain ⟨b, o, hm, rfl, hi⟩ := hr
  obtain ⟨vss, hat, hall⟩ := arr_at H hm
  obtain ⟨h1, h2⟩ := elem_at hat hall i hi
  have hc : relC ⟨w, m0, [], J⟩ (cellsI e (l.getD i e.d0)) (vss.getD i []) := cellsI_ok (E := ⟨w, m0, [], J⟩) rfl (repT_mono (fun _ _ => rfl) hJ h2)
  have hl := repT_len h2
  simp only [relV]
  have := h1.sub' f (e.sz - f) (by omega)
  refine ⟨b, _, _, rfl, hb b o hm, this, ?_⟩
  have q := relC_drop f hc
  rwa [show ((vss.getD i []).drop f).take (e.sz - f) = (vss.getD i []).drop f from List.take_of_length_le (by simp only [List.length_drop]; omega)]

theorem snap_ok (H : HeapRel ⟨w, m, s.hp, I⟩) {J : Nat → Prop} (hJ : ∀ b, I b → J b) {m0 : Nat → Option (Nat × Nat)} : ∀ (n : Nat) {v v' : AV} {x : Value} {vis : List Nat}, s.snapF n v = some (v', vis) → shown m J vis → relV ⟨w, m, s.hp, I⟩ v x →
    relV ⟨w, m0, [], J⟩ v' x
  | 0, v, v', x, vis, h, _, _ => by simp [St.snapF] at h
  | n + 1, v, v', x, vis, h, hv, hx => by
    have happ : ∀ a b, shown m J (a ++ b) → shown m J a ∧ shown m J b := fun a b h => ⟨fun k hk => h k (by simp [hk]), fun k hk => h k (by simp [hk])⟩
    have hrec : ∀ (cs : List AV), ∀ c ∈ cs, ∀ v c' a, s.snapF n c = some (c', a) → shown m J a → relV ⟨w, m, s.hp, I⟩ c v → relV ⟨w, m0, [], J⟩ c' v := fun cs c _ v c' a h1 h2 h3 => snap_ok H hJ n h1 h2 h3
    simp only [St.snapF] at h
    split at h
    · rename_i h0 lo len
      have hroot := H.root h0
      simp only [relV] at hx
      split at h
      · rename_i e l hgt
        simp only [Option.some.injEq, Prod.mk.injEq] at h
        obtain ⟨rfl, rfl⟩ := h
        simp only [hgt] at hroot hx
        obtain ⟨a, k, c, rfl, hr, _⟩ := ref_ok hroot hx
        simp only [relV]
        exact ⟨a, k, c, rfl, repS_mono hr (fun _ _ => rfl) (fun b hb => by obtain ⟨o, hb⟩ := hb; exact hv h0 (by simp) b o hb) (fun _ _ hx => repT_mono (fun _ _ => rfl) hJ hx), by simp, by simp⟩
      · rename_i e l hgt
        simp only [Option.some.injEq, Prod.mk.injEq] at h
        obtain ⟨rfl, rfl⟩ := h
        simp only [hgt] at hroot hx
        obtain ⟨a, k, c, rfl, hr, _⟩ := ref_ok hroot hx
        simp only [relV]
        refine ⟨a, k, c, rfl, repS_mono hr (fun _ _ => rfl) (fun b hb => ?_) (fun _ _ hx => repT_mono (fun _ _ => rfl) hJ hx), by simp, by simp⟩
        obtain ⟨o, hb⟩ := hb
        rcases hroot.2 with ⟨h1, _⟩ | ⟨b', o', vss, h1, h2, _⟩
        · rw [h1] at hb; cases hb
        · rw [h1] at hb; obtain ⟨rfl, rfl⟩ := Prod.mk.inj (Option.some.inj hb)
          simp only [Bool.false_eq_true, if_false] at h2; exact hJ _ h2.1
      · cases h
    · rename_i h0 i f
      have hroot := H.root h0
      simp only [relV] at hx
      split at h
      · rename_i cs hgt
        obtain ⟨hfl, h⟩ := cond_none h
        have hfl := Nat.le_of_ble_eq_true hfl
        split at h
        · rename_i cs' a h1
          simp only [Option.some.injEq, Prod.mk.injEq] at h
          obtain ⟨rfl, rfl⟩ := h
          simp only [hgt] at hroot hx
          obtain ⟨b, hm, rfl⟩ := hx
          obtain ⟨b', vs, T, h2, h3, h4, h5⟩ := hroot
          have h2 : m h0 = some (b', 0) := h2
          rw [h2] at hm; obtain ⟨rfl, _⟩ := Prod.mk.inj (Option.some.inj hm)
          simp only [relV]
          have hat : At w b' 0 vs.toList := ⟨vs, T, _, h4, [], [], by simp, rfl⟩
          have hd := relC_drop f h5
          have hga : shown m J a := fun k hk => hv k (by simp [hk])
          have hrel := snapL_ok (E := ⟨w, m, s.hp, I⟩) (E' := ⟨w, m0, [], J⟩) (shown m J) happ h1 hga (hrec _) hd
          have hf : f ≤ vs.toList.length := by have := relC_length h5; omega
          have hs := hat.sub' f (vs.toList.length - f) hf
          rw [List.take_of_length_le (by simp), Nat.zero_add] at hs
          exact ⟨b', f, _, rfl, hv h0 (by simp) b' 0 h2, hs, hrel⟩
        · cases h
      · rename_i e l hgt
        obtain ⟨hf, h⟩ := cond_none h
        simp only [Option.some.injEq, Prod.mk.injEq] at h
        obtain ⟨rfl, rfl⟩ := h
        simp only [hgt] at hroot hx
        exact elem_imm hroot hJ (fun b o hb => hv h0 (by simp) b o hb) hx (Nat.le_of_ble_eq_true hf)
      · rename_i e l hgt
        obtain ⟨hf, h⟩ := cond_none h
        simp only [Option.some.injEq, Prod.mk.injEq] at h
        obtain ⟨rfl, rfl⟩ := h
        simp only [hgt] at hroot hx
        refine elem_imm hroot hJ (fun b o hb => ?_) hx (Nat.le_of_ble_eq_true hf)
        rcases hroot.2 with ⟨h1, _⟩ | ⟨b', o', vss, h1, h2, _⟩
        · have h1 : m h0 = none := h1
          rw [h1] at hb; cases hb
        · have h1 : m h0 = some (b', o') := h1
          rw [h1] at hb; obtain ⟨rfl, rfl⟩ := Prod.mk.inj (Option.some.inj hb)
          simp only [Bool.false_eq_true, if_false] at h2; exact hJ _ h2.1
      · cases h
    · rename_i cs
      split at h
      · rename_i cs' a h1
        simp only [Option.some.injEq, Prod.mk.injEq] at h
        obtain ⟨rfl, rfl⟩ := h
        simp only [relV] at hx ⊢
        obtain ⟨vs, rfl, hc⟩ := hx
        exact ⟨vs, rfl, snapL_ok (E := ⟨w, m, s.hp, I⟩) (E' := ⟨w, m0, [], J⟩) (shown m J) happ h1 hv (hrec _) hc⟩
      · cases h
    · rename_i cs
      split at h
      · rename_i cs' a h1
        simp only [Option.some.injEq, Prod.mk.injEq] at h
        obtain ⟨rfl, rfl⟩ := h
        simp only [relV] at hx ⊢
        obtain ⟨vs, rfl, hc⟩ := hx
        exact ⟨vs, rfl, snapL_okL (E := ⟨w, m, s.hp, I⟩) (E' := ⟨w, m0, [], J⟩) (shown m J) happ h1 hv (hrec _) hc⟩
      · cases h
    · rename_i f cs
      split at h
      · rename_i cs' a h1
        simp only [Option.some.injEq, Prod.mk.injEq] at h
        obtain ⟨rfl, rfl⟩ := h
        simp only [relV] at hx ⊢
        obtain ⟨vs, rfl, hc⟩ := hx
        exact ⟨vs, rfl, snapL_okL (E := ⟨w, m, s.hp, I⟩) (E' := ⟨w, m0, [], J⟩) (shown m J) happ h1 hv (hrec _) hc⟩
      · cases h
    · simp only [Option.some.injEq, Prod.mk.injEq] at h
      obtain ⟨rfl, rfl⟩ := h
      simp [relV]
    · simp only [Option.some.injEq, Prod.mk.injEq] at h
      obtain ⟨rfl, rfl⟩ := h
      simpa [relV] using hx
    · simp only [Option.some.injEq, Prod.mk.injEq] at h
      obtain ⟨rfl, rfl⟩ := h
      simpa [relV] using hx
    · simp only [Option.some.injEq, Prod.mk.injEq] at h
      obtain ⟨rfl, rfl⟩ := h
      simp only [relV] at hx ⊢
      obtain ⟨a, k, c, rfl, hr, h1, h2⟩ := hx
      exact ⟨a, k, c, rfl, repS_mono hr (fun _ _ => rfl) hJ (fun _ _ hx => repT_mono (fun _ _ => rfl) hJ hx), h1, h2⟩
    · split at h
      · rename_i cs' a h1
        simp only [Option.some.injEq, Prod.mk.injEq] at h
        obtain ⟨rfl, rfl⟩ := h
        simp only [relV] at hx ⊢
        obtain ⟨b, o, vs, rfl, hI, hat, hc⟩ := hx
        exact ⟨b, o, vs, rfl, hJ _ hI, hat, snapL_ok (E := ⟨w, m, s.hp, I⟩) (E' := ⟨w, m0, [], J⟩) (shown m J) happ h1 hv (hrec _) hc⟩
      · cases h


section
variable {P : Program} {A : Env} {keep : Nat} {tmps : Array Value} {K : St → AV → R} {r : Res}

/-- what a call has made becomes the caller's -/
theorem imp_ok (hg : Good A keep ⟨w, m, s.hp, I⟩ s.tm tmps) {base : Nat} {rv : AV} {roots : List Root} (hn : ((List.range roots.length).any fun j => hasH s.hp (base + j)) = false)
    {w' : World} {m' : Nat → Option (Nat × Nat)} {I' J : Nat → Prop} {m0 : Nat → Option (Nat × Nat)} {x : Value} (H' : HeapRel ⟨w', m', numbered 0 roots, I'⟩) (hh : Hist ⟨w, m0, [], J⟩ 0 ⟨w', m', numbered 0 roots, I'⟩) (hx : relV ⟨w', m', numbered 0 roots, I'⟩ rv x)
    (hI : (∀ b, J b → I b) ∨ (immF 6 rv || roots.any immR) = false) :
    goodV A keep (s.impS base roots) tmps w' (ren (shiftO roots.length base) rv) x := by
  have hfree : ∀ j, j < roots.length → hasH s.hp (base + j) = false := fun j hj => any_false hn j (List.mem_range.2 hj)
  have hnoOwn : ∀ b, ¬ Own ⟨w, m0, [], J⟩ b := by rintro b ⟨k, o, ho, _⟩; simp [getH, owned] at ho
  have old : ∀ b, b < w.heap.size → w'.heap[b]? = w.heap[b]? := fun b hb => hh.old b hb (hnoOwn b)
  have newOwn : ∀ b, Own ⟨w', m', numbered 0 roots, I'⟩ b → w.heap.size ≤ b := fun b hb => (hh.own b hb).resolve_left (hnoOwn b)
  have himm : ∀ b, I' b → J b ∨ w.heap.size ≤ b := fun b hb => by
    rcases hh.imm b hb with h | h | h
    · exact .inl h
    · exact absurd h (hnoOwn b)
    · exact .inr h
  -- the new environment
  let inNew : Nat → Prop := fun k => base ≤ k ∧ k < base + roots.length
  let m1 : Nat → Option (Nat × Nat) := fun k => if base ≤ k ∧ k < base + roots.length then m' (k - base) else m k
  let I1 : Nat → Prop := fun b => I b ∨ (I' b ∧ w.heap.size ≤ b)
  let hp1 := numbered base (roots.map (renRoot (shiftO roots.length base))) ++ s.hp
  have hlenm : (roots.map (renRoot (shiftO roots.length base))).length = roots.length := by simp
  have gNew : ∀ k, base ≤ k ∧ k < base + roots.length → getH hp1 k = renRoot (shiftO roots.length base) (getH (numbered 0 roots) (k - base)) := by
    intro k hk
    have h1 : hasH (numbered base (roots.map (renRoot (shiftO roots.length base)))) k = true := by rw [hasH_numbered, hlenm]; simpa using hk
    rw [getH_append, if_pos h1, getH_numbered, hlenm, if_pos hk, getH_numbered, if_pos (by omega)]
    rw [Nat.sub_zero]
    have hlt : k - base < roots.length := by omega
    simp [List.getD_eq_getElem?_getD, List.getElem?_map, List.getElem?_eq_getElem hlt]
  have gOld : ∀ k, ¬ (base ≤ k ∧ k < base + roots.length) → getH hp1 k = getH s.hp k := by
    intro k hk
    have h1 : ¬ hasH (numbered base (roots.map (renRoot (shiftO roots.length base)))) k = true := by rw [hasH_numbered, hlenm]; simpa using hk
    rw [getH_append, if_neg h1]
  have hasNew : ∀ k, hasH hp1 k = (decide (base ≤ k ∧ k < base + roots.length) || hasH s.hp k) := by
    intro k
    rw [hasH_append, hasH_numbered, hlenm]
  have notNew : ∀ k, hasH s.hp k = true → ¬ (base ≤ k ∧ k < base + roots.length) := by
    intro k hk hc
    have := hfree (k - base) (by omega)
    rw [show base + (k - base) = k by omega, hk] at this; cases this
  have bszOld : ∀ b, AI.bsz w b ≤ AI.bsz w' b := fun b => hh.bsz b
  have g : Grows ⟨w, m, s.hp, I⟩ ⟨w', m1, hp1, I1⟩ := by
    refine ⟨fun b hb => old b (hg.heap.lt b hb), fun b hb => .inl hb, fun k hk => by rw [hasNew, hk]; simp, ?_, ?_, bszOld⟩
    · intro k hk; simp only [gOld k (notNew k hk)]; exact fits_refl _
    · intro k hk _; simp only [m1, if_neg (notNew k hk)]
  have R : Ren (shiftO roots.length base) ⟨w', m', numbered 0 roots, I'⟩ ⟨w', m1, hp1, I1⟩ := by
    refine ⟨rfl, ?_, ?_, ?_⟩
    · intro h k e
      obtain ⟨h1, rfl⟩ := shiftO_ok e
      simp only [m1, if_pos (show base ≤ base + h ∧ base + h < base + roots.length by omega)]
      rw [show base + h - base = h by omega]
    · intro h k e
      obtain ⟨h1, rfl⟩ := shiftO_ok e
      simp only [gNew _ (show base ≤ base + h ∧ base + h < base + roots.length by omega)]
      rw [show base + h - base = h by omega]
      exact like_ren _ _
    · intro h k e
      obtain ⟨h1, rfl⟩ := shiftO_ok e
      rw [hasNew]; simp [h1]
  have hI1 : (∀ b, I' b → I1 b) ∨ (immF 6 rv || roots.any immR) = false := by
    rcases hI with hI | hI
    · left; intro b hb
      rcases himm b hb with h1 | h1
      · exact .inl (hI b h1)
      · exact .inr ⟨hb, h1⟩
    · exact .inr hI
  have hrel : relV ⟨w', m1, hp1, I1⟩ (ren (shiftO roots.length base) rv) x := by
    refine ren_ok R 6 ?_ hx
    rcases hI1 with h1 | h1
    · exact .inl h1
    · exact .inr (by simp only [Bool.or_eq_false_iff] at h1; exact h1.1)
  have ownNew : ∀ k b o, (base ≤ k ∧ k < base + roots.length) → owned (getH hp1 k) = true → m1 k = some (b, o) → w.heap.size ≤ b ∧ owned (getH (numbered 0 roots) (k - base)) = true ∧ m' (k - base) = some (b, o) := by
    intro k b o hk ho hm
    simp only [m1, if_pos hk] at hm
    rw [gNew k hk] at ho
    have ho' : owned (getH (numbered 0 roots) (k - base)) = true := by
      cases hq : getH (numbered 0 roots) (k - base) <;> rw [hq] at ho <;> simp_all [renRoot, owned]
    exact ⟨newOwn b ⟨k - base, o, ho', hm⟩, ho', hm⟩
  have ownOld : ∀ k b o, ¬ (base ≤ k ∧ k < base + roots.length) → owned (getH hp1 k) = true → m1 k = some (b, o) → owned (getH s.hp k) = true ∧ m k = some (b, o) ∧ b < w.heap.size ∧ ¬ I b := by
    intro k b o hk ho hm
    simp only [m1, if_neg hk] at hm
    rw [gOld k hk] at ho
    have := hg.heap.own_lt (b := b) ⟨k, o, ho, hm⟩
    exact ⟨ho, hm, this.1, this.2⟩
  have HR : HeapRel ⟨w', m1, hp1, I1⟩ := by
    refine ⟨?_, ?_, ?_⟩
    · intro k
      by_cases hk : base ≤ k ∧ k < base + roots.length
      · simp only [gNew k hk]
        refine rootOk_ren R (h := k - base) (by simp only [m1, if_pos hk]) ?_ ?_ (H'.root (k - base))
        · rcases hI1 with h1 | h1
          · exact .inl h1
          · right
            simp only [Bool.or_eq_false_iff] at h1
            rw [getH_numbered, if_pos (by omega), Nat.sub_zero]
            have hlt : k - base < roots.length := by omega
            simp only [List.getD_eq_getElem?_getD, List.getElem?_eq_getElem hlt, Option.getD_some]
            exact any_false h1.2 _ (List.getElem_mem hlt)
        · intro ho b o hm hnI
          have := newOwn b ⟨k - base, o, ho, hm⟩
          rintro (h1 | h1)
          · exact absurd (hg.heap.lt b h1) (by simp; omega)
          · exact hnI h1.1
      · simp only [gOld k hk]
        refine rootOk_mono g (by simp only [m1, if_neg hk]) ?_ (hg.heap.root k)
        intro ho b o hm
        have hl := hg.heap.own_lt (b := b) ⟨k, o, ho, hm⟩
        refine ⟨old b hl.1, ?_⟩
        rintro (h1 | h1)
        · exact hl.2 h1
        · exact absurd hl.1 (by have := h1.2; simp; omega)
    · intro k k' b o o' h1 h2 h3 h4
      by_cases hk : base ≤ k ∧ k < base + roots.length
      · obtain ⟨q1, q2, q3⟩ := ownNew k b o hk h1 h3
        by_cases hk' : base ≤ k' ∧ k' < base + roots.length
        · obtain ⟨p1, p2, p3⟩ := ownNew k' b o' hk' h2 h4
          have := H'.inj (k - base) (k' - base) b o o' q2 p2 q3 p3
          omega
        · obtain ⟨p1, p2, p3, p4⟩ := ownOld k' b o' hk' h2 h4
          omega
      · obtain ⟨q1, q2, q3, q4⟩ := ownOld k b o hk h1 h3
        by_cases hk' : base ≤ k' ∧ k' < base + roots.length
        · obtain ⟨p1, p2, p3⟩ := ownNew k' b o' hk' h2 h4
          omega
        · obtain ⟨p1, p2, p3, p4⟩ := ownOld k' b o' hk' h2 h4
          exact hg.heap.inj k k' b o o' q1 p1 q2 p2
    · intro b hb
      rcases hb with h1 | h1
      · exact Nat.lt_of_lt_of_le (hg.heap.lt b h1) hh.sz
      · exact H'.lt b h1.1
  have HH : Hist A keep ⟨w', m1, hp1, I1⟩ := by
    have a := hg.hist
    refine ⟨?_, Nat.le_trans a.sz hh.sz, ?_, ?_, fun b hb => .inl (a.sub b hb), ?_, ?_, ?_, hh.os.trans a.os, hh.tape.trans a.tape, hh.output.trans a.output, fun b => Nat.le_trans (a.bsz b) (bszOld b)⟩
    · intro b hb hn'
      exact (old b (Nat.lt_of_lt_of_le hb a.sz)).trans (a.old b hb hn')
    · rintro b ⟨k, o, ho, hm⟩
      by_cases hk : base ≤ k ∧ k < base + roots.length
      · exact .inr (Nat.le_trans a.sz (ownNew k b o hk ho hm).1)
      · obtain ⟨q1, q2, _⟩ := ownOld k b o hk ho hm
        exact a.own b ⟨k, o, q1, q2⟩
    · intro b hb
      rcases hb with h1 | h1
      · exact a.imm b h1
      · exact .inr (.inr (Nat.le_trans a.sz h1.2))
    · intro k hk
      have := notNew k (a.has k hk)
      simp only [gOld k this]; exact a.fit k hk
    · intro k hk hn'
      have := notNew k (a.has k hk)
      simp only [gOld k this, m1, if_neg this] at hn' ⊢
      exact a.map k hk hn'
    · intro k hk
      rw [hasNew, a.has k hk]; simp
  exact ⟨m1, I1, ⟨HR, tmR_mono g hg.tm, HH⟩, hrel⟩

theorem freeze_ok : ∀ {vis : List Nat} {s s1 : St} {I : Nat → Prop}, s.freeze vis = some s1 → Good A keep ⟨w, m, s.hp, I⟩ s.tm tmps →
    ∃ I1, Froze A keep s.tm tmps w m s s1 I I1 ∧ shown m I1 vis
  | [], s, s1, I, h, hg => by
    simp only [St.freeze, Option.some.injEq] at h; subst h
    exact ⟨I, ⟨hg, Grows.refl _, rfl⟩, by intro h hh; cases hh⟩
  | k :: vis, s, s1, I, h, hg => by
    simp only [St.freeze] at h
    have step : ∀ {s2 : St} {I2 : Nat → Prop}, Froze A keep s.tm tmps w m s s2 I I2 → (∀ b o, m k = some (b, o) → I2 b) → s2.freeze vis = some s1 → ∃ I1, Froze A keep s.tm tmps w m s s1 I I1 ∧ shown m I1 (k :: vis) := by
      intro s2 I2 f hk h2
      have hg2 : Good A keep ⟨w, m, s2.hp, I2⟩ s2.tm tmps := by rw [f.tms]; exact f.good
      obtain ⟨I1, f1, hv⟩ := freeze_ok h2 hg2
      refine ⟨I1, ⟨by have := f1.good; rw [f.tms] at this; exact this, f.grow.trans f1.grow, f1.tms.trans f.tms⟩, ?_⟩
      intro j hj b o hm
      rcases List.mem_cons.1 hj with rfl | hj
      · exact f1.grow.sub b (hk b o hm)
      · exact hv j hj b o hm
    have hroot := hg.heap.root k
    split at h
    · rename_i e l hgt
      obtain ⟨g1, g2⟩ := freeze1 hg k e l hgt
      exact step (s2 := s.setH k (.imm e l)) ⟨g1, g2, rfl⟩ (fun b o hm => .inr ⟨o, hm⟩) h
    · rename_i e l hgt
      refine step ⟨hg, Grows.refl _, rfl⟩ (fun b o hm => ?_) h
      simp only [hgt] at hroot
      rcases hroot.2 with ⟨h1, _⟩ | ⟨b', o', vss, h1, h2, _⟩
      · have h1 : m k = none := h1
        rw [h1] at hm; cases hm
      · have h1 : m k = some (b', o') := h1
        rw [h1] at hm; obtain ⟨rfl, rfl⟩ := Prod.mk.inj (Option.some.inj hm)
        simp only [Bool.false_eq_true, if_false] at h2; exact h2.1
    · cases h

end
end
end Go.AI
end

section
/- SOUNDNESS: calls. -/
namespace Go.AI
set_option linter.unusedVariables false
set_option linter.unusedSimpArgs false

section
variable {P : Program} {A : Env} {keep : Nat} {w : World} {m : Nat → Option (Nat × Nat)} {I : Nat → Prop} {s : St} {tmps : Array Value} {K : St → AV → R} {r : Res}

/-! ### nil slices get their types -/

theorem nil_sl {E : Env} (e : Ty) : relV E (.sl e [] (some false)) (.slice none 0 0) := by
  simp only [relV]
  exact ⟨none, 0, 0, rfl, ⟨rfl, Nat.le_refl _, rfl, rfl⟩, by simp, by simp⟩

/-! ### a call that borrows -/

theorem snapL_own {f : AV → Option (AV × List Nat)} {Q : Nat → Prop} : ∀ {cs cs' : List AV} {vis : List Nat}, snapL f cs = some (cs', vis) →
    (∀ c ∈ cs, ∀ c' a, f c = some (c', a) → ∀ h ∈ a, Q h) → ∀ h ∈ vis, Q h
  | [], cs', vis, h, _ => by simp only [snapL, Option.some.injEq, Prod.mk.injEq] at h; obtain ⟨_, rfl⟩ := h; intro h hh; cases hh
  | c :: cs, cs', vis, h, hf => by
    simp only [snapL] at h
    split at h
    · rename_i c' a h1
      split at h
      · rename_i r' b h2
        simp only [Option.some.injEq, Prod.mk.injEq] at h
        obtain ⟨_, rfl⟩ := h
        intro k hk
        rcases List.mem_append.1 hk with hk | hk
        · exact hf c (by simp) c' a h1 k hk
        · exact snapL_own h2 (fun c hc => hf c (by simp [hc])) k hk
      · cases h
    · cases h

theorem snapF_own : ∀ (n : Nat) {v v' : AV} {vis : List Nat}, s.snapF n v = some (v', vis) → ∀ h ∈ vis, owned (getH s.hp h) = true
  | 0, _, _, _, h => by simp [St.snapF] at h
  | n + 1, v, v', vis, h => by
    have hrec : ∀ {cs cs' : List AV} {a : List Nat}, snapL (s.snapF n) cs = some (cs', a) → ∀ h ∈ a, owned (getH s.hp h) = true :=
      fun h => snapL_own h fun c _ c' a h1 => snapF_own n h1
    cases v with
    | ref h0 lo len =>
      simp only [St.snapF] at h
      split at h
      · rename_i e l hg; simp only [Option.some.injEq, Prod.mk.injEq] at h; obtain ⟨_, rfl⟩ := h; intro k hk; simp at hk; subst hk; rw [hg]; rfl
      · simp only [Option.some.injEq, Prod.mk.injEq] at h; obtain ⟨_, rfl⟩ := h; intro k hk; cases hk
      · cases h
    | ptr h0 i f =>
      simp only [St.snapF] at h
      split at h
      · rename_i cs hg
        obtain ⟨_, h⟩ := cond_none h
        split at h
        · rename_i cs' a h1
          simp only [Option.some.injEq, Prod.mk.injEq] at h; obtain ⟨_, rfl⟩ := h
          intro k hk
          rcases List.mem_cons.1 hk with rfl | hk
          · rw [hg]; rfl
          · exact hrec h1 k hk
        · cases h
      · rename_i e l hg
        obtain ⟨_, h⟩ := cond_none h
        simp only [Option.some.injEq, Prod.mk.injEq] at h; obtain ⟨_, rfl⟩ := h; intro k hk; simp at hk; subst hk; rw [hg]; rfl
      · obtain ⟨_, h⟩ := cond_none h
        simp only [Option.some.injEq, Prod.mk.injEq] at h; obtain ⟨_, rfl⟩ := h; intro k hk; cases hk
      · cases h
    | agg cs =>
      simp only [St.snapF] at h
      split at h
      · rename_i cs' a h1; simp only [Option.some.injEq, Prod.mk.injEq] at h; obtain ⟨_, rfl⟩ := h; exact hrec h1
      · cases h
    | tup cs =>
      simp only [St.snapF] at h
      split at h
      · rename_i cs' a h1; simp only [Option.some.injEq, Prod.mk.injEq] at h; obtain ⟨_, rfl⟩ := h; exact hrec h1
      · cases h
    | fn f cs =>
      simp only [St.snapF] at h
      split at h
      · rename_i cs' a h1; simp only [Option.some.injEq, Prod.mk.injEq] at h; obtain ⟨_, rfl⟩ := h; exact hrec h1
      · cases h
    | cp cs =>
      simp only [St.snapF] at h
      split at h
      · rename_i cs' a h1; simp only [Option.some.injEq, Prod.mk.injEq] at h; obtain ⟨_, rfl⟩ := h; exact hrec h1
      · cases h
    | any => simp only [St.snapF, Option.some.injEq, Prod.mk.injEq] at h; obtain ⟨_, rfl⟩ := h; intro k hk; cases hk
    | val u => simp only [St.snapF, Option.some.injEq, Prod.mk.injEq] at h; obtain ⟨_, rfl⟩ := h; intro k hk; cases hk
    | ifc b => simp only [St.snapF, Option.some.injEq, Prod.mk.injEq] at h; obtain ⟨_, rfl⟩ := h; intro k hk; cases hk
    | sl e l nn => simp only [St.snapF, Option.some.injEq, Prod.mk.injEq] at h; obtain ⟨_, rfl⟩ := h; intro k hk; cases hk

theorem CallOk.mono {f : FuncId} {vals : Array Value} {G G' : Value → World → Prop} (h : CallOk P f vals w G) (hG : ∀ x w', G x w' → G' x w') : CallOk P f vals w G' := by
  rcases h with ⟨x, w', h1, h2⟩ | ⟨g, args, w', h1, h2⟩
  · exact .inl ⟨x, w', h1, hG _ _ h2⟩
  · refine .inr ⟨g, args, w', h1, h2.mono ?_⟩
    rintro e w'' ⟨x, rfl, hx⟩
    exact ⟨x, rfl, hG _ _ hx⟩

/-- what is to be shown of a call -/
def Called (P : Program) (f : FuncId) (vals : Array Value) (w : World) (A : Env) (keep : Nat) (tmps : Array Value) (K : St → AV → R) (r : Res) : Prop :=
  ∃ s2 v2, K s2 v2 = some r ∧ CallOk P f vals w fun x w' => goodV A keep s2 tmps w' v2 x

theorem empty_heap {J : Nat → Prop} (hJ : ∀ b, J b → b < w.heap.size) : HeapRel ⟨w, fun _ => none, [], J⟩ where
  root := fun h => by simp [getH, rootOk]
  inj := by intro h h' b o o' h1; simp [getH, owned] at h1
  lt := hJ

theorem callB_ok {e : Ent} (he : Sound P e.f e.S) (hg : Good A keep ⟨w, m, s.hp, I⟩ s.tm tmps) {args : List AV} {vals : Array Value} {base : Nat} (hv : relL ⟨w, m, s.hp, I⟩ args vals.toList)
    (h : callB e args base s K = some r) : Called P e.f vals w A keep tmps K r := by
  unfold callB at h
  split at h
  · cases h
  · rename_i args' vis h1
    · obtain ⟨⟨rv, roots⟩, hK, hdet⟩ := e.det _ _ _ _ h
      have h2 := hdet some
      replace h := hK
      simp only at h
      clear hK hdet
      cases hc : (immF 6 rv || roots.any immR) with
      | true =>
        rw [hc, cond_true] at h
        split at h
        · rename_i s1 hf
          unfold St.imp at h
          obtain ⟨hn, h⟩ := cond_none' h
          obtain ⟨I1, F, hs⟩ := freeze_ok hf hg
          have hargs := snapL_okL (E := ⟨w, m, s.hp, I⟩) (E' := ⟨w, fun _ => none, [], I1⟩) (shown m I1) (fun a b hk => ⟨fun k h => hk k (by simp [h]), fun k h => hk k (by simp [h])⟩) h1 hs
            (fun c hc v c' a hh hsh hr => snap_ok hg.heap F.grow.sub 6 hh hsh hr) hv
          have hg1 : Good A keep ⟨w, m, s1.hp, I1⟩ s1.tm tmps := by rw [F.tms]; exact F.good
          have := he ⟨w, fun _ => none, [], I1⟩ args' vals [] rv roots rfl (empty_heap hg1.heap.lt) hargs h2
          refine ⟨_, _, h, this.mono ?_⟩
          rintro x w' ⟨m', I', q1, q2, q3⟩
          exact imp_ok hg1 hn q1 q2 q3 (.inl fun _ h => h)
        · cases h
      | false =>
        rw [hc, cond_false] at h
        unfold St.imp at h
        obtain ⟨hn, h⟩ := cond_none' h
        have hown : ∀ k ∈ vis, owned (getH s.hp k) = true := snapL_own h1 fun c _ c' a hh => snapF_own 6 hh
        have hs : shown m (fun b => b < w.heap.size) vis := fun k hk b o hm => (hg.heap.own_lt (b := b) ⟨k, o, hown k hk, hm⟩).1
        have hargs := snapL_okL (E := ⟨w, m, s.hp, I⟩) (E' := ⟨w, fun _ => none, [], fun b => b < w.heap.size⟩) (shown m fun b => b < w.heap.size) (fun a b hk => ⟨fun k h => hk k (by simp [h]), fun k h => hk k (by simp [h])⟩) h1 hs
            (fun c hc v c' a hh hsh hr => snap_ok hg.heap hg.heap.lt 6 hh hsh hr) hv
        have := he ⟨w, fun _ => none, [], fun b => b < w.heap.size⟩ args' vals [] rv roots rfl (empty_heap fun b h => h) hargs h2
        refine ⟨_, _, h, this.mono ?_⟩
        rintro x w' ⟨m', I', q1, q2, q3⟩
        exact imp_ok hg hn q1 q2 q3 (.inr hc)

end
end Go.AI
end
