/- DEFINITIONS: the abstract machine: canonical shapes, code, functions. -/
import Derived.Test.YtaaliglpbjjclaaA2
namespace Go.AI

/-! ### shapes with typed holes -/

inductive Pat where
  | nil
  | cons (a b : Pat)
  | dat (t : Ty)
  | agg (p : Pat)
  | tup (p : Pat)
  | fn (f : FuncId) (p : Pat)
  | cp (p : Pat)
  | ref (h : Nat) (e : Ty)
  | ptr (h f : Nat)
  | ptrI (h f : Nat)
  | nilS
  | nilP
  | ifc
  | any
  | slT (e : Ty)

@[reducible] def Pat.D : Pat → Type
  | .nil => Unit
  | .cons a b => a.D × b.D
  | .dat t => t.D
  | .agg p | .tup p | .fn _ p | .cp p => p.D
  | .ref .. | .ptr .. => Unit
  | .ptrI .. => Nat
  | .nilS | .nilP | .any => Unit
  | .ifc => Bool
  | .slT e => List e.D

/-- the values of a shape -/
def Pat.build : (p : Pat) → p.D → List AV
  | .nil, _ => []
  | .cons a b, x => a.build x.1 ++ b.build x.2
  | .dat t, x => cellsI t x
  | .agg p, x => [.agg (p.build x)]
  | .tup p, x => [.tup (p.build x)]
  | .fn f p, x => [.fn f (p.build x)]
  | .cp p, x => [.cp (p.build x)]
  | .ref h _, _ => [.ref h 0 none]
  | .ptr h f, _ => [.ptr h 0 f]
  | .ptrI h f, i => [.ptr h i f]
  | .nilS, _ => [.val (.slice none 0 0)]
  | .nilP, _ => [.val (.pointer none)]
  | .ifc, b => [.ifc b]
  | .any, _ => [.any]
  | .slT e, l => [.sl e l (some true)]

/-- a datum read out of cells, and the cells left -/
def rdC : (t : Ty) → List AV → Option (t.D × List AV)
  | .unit => fun cs => some ((), cs)
  | .int k => fun cs => match cs with
    | .val (.int k' n) :: r => cond (decide (k' = k)) (some (n, r)) none
    | _ => none
  | .bool => fun cs => match cs with
    | .val (.bool b) :: r => some (b, r)
    | _ => none
  | .str => fun cs => match cs with
    | .val (.string b) :: r => some (b, r)
    | _ => none
  | .sl e => fun cs => match cs with
    | .sl e' l _ :: r => (match castL e' e l with | some l' => some (l', r) | none => none)
    | .val (.slice none 0 0) :: r => some (([] : List e.D), r)
    | _ => none
  | .pair a b => fun cs => match rdC a cs with
    | some (x, cs1) => (match rdC b cs1 with
      | some (y, cs2) => some ((x, y), cs2)
      | none => none)
    | none => none

/-- reads the holes of a shape -/
def Pat.read : (p : Pat) → List AV → Option (p.D × List AV)
  | .nil => fun cs => some ((), cs)
  | .cons a b => fun cs => match a.read cs with
    | some (x, cs1) => (match b.read cs1 with
      | some (y, cs2) => some ((x, y), cs2)
      | none => none)
    | none => none
  | .dat t => fun cs => rdC t cs
  | .agg p => fun cs => match cs with
    | .agg xs :: r => (match p.read xs with | some (x, []) => some (x, r) | _ => none)
    | _ => none
  | .tup p => fun cs => match cs with
    | .tup xs :: r => (match p.read xs with | some (x, []) => some (x, r) | _ => none)
    | _ => none
  | .fn f p => fun cs => match cs with
    | .fn f' xs :: r => cond (Nat.beq f f') (match p.read xs with | some (x, []) => some (x, r) | _ => none) none
    | _ => none
  | .cp p => fun cs => match cs with
    | .cp xs :: r => (match p.read xs with | some (x, []) => some (x, r) | _ => none)
    | _ => none
  | .ref h _ => fun cs => match cs with
    | .ref h' lo none :: r => cond (Nat.beq h h' && Nat.beq lo 0) (some ((), r)) none
    | _ => none
  | .ptr h f => fun cs => match cs with
    | .ptr h' i f' :: r => cond (Nat.beq h h' && (Nat.beq i 0 && Nat.beq f f')) (some ((), r)) none
    | _ => none
  | .ptrI h f => fun cs => match cs with
    | .ptr h' i f' :: r => cond (Nat.beq h h' && Nat.beq f f') (some (i, r)) none
    | _ => none
  | .nilS => fun cs => match cs with
    | .val (.slice none 0 0) :: r => some ((), r)
    | _ => none
  | .nilP => fun cs => match cs with
    | .val (.pointer none) :: r => some ((), r)
    | _ => none
  | .ifc => fun cs => match cs with
    | .ifc b :: r => some (b, r)
    | _ => none
  | .any => fun cs => match cs with
    | _ :: r => some ((), r)
    | _ => none
  | .slT e => fun cs => match cs with
    | .sl e' l (some true) :: r => (match castL e' e l with | some l' => some (l', r) | none => none)
    | _ => none

/-- the shape of a root -/
inductive RPat where
  | gone
  | box (p : Pat)
  | arr (e : Ty)
  | imm (e : Ty)

@[reducible] def RPat.D : RPat → Type
  | .gone => Unit
  | .box p => p.D
  | .arr e | .imm e => List e.D
def RPat.build : (p : RPat) → p.D → Root
  | .gone, _ => .gone
  | .box p, x => .box (p.build x)
  | .arr e, l => .arr e l
  | .imm e, l => .imm e l
def RPat.read : (p : RPat) → Root → Option p.D
  | .gone => fun _ => some ()
  | .box p => fun x => match x with
    | .box cs => (match p.read cs with | some (y, []) => some y | _ => none)
    | _ => none
  | .arr e => fun x => match x with
    | .arr e' l => castL e' e l
    | _ => none
  | .imm e => fun x => match x with
    | .imm e' l => castL e' e l
    | _ => none

@[reducible] def RsD : List RPat → Type
  | [] => Unit
  | p :: ps => p.D × RsD ps
def buildRs : (ps : List RPat) → RsD ps → List Root
  | [], _ => []
  | p :: ps, x => p.build x.1 :: buildRs ps x.2
def readRs : (ps : List RPat) → List Root → Option (RsD ps)
  | [] => fun rs => match rs with | [] => some () | _ => none
  | p :: ps => fun rs => match rs with
    | r :: rs => (match p.read r with
      | some x => (match readRs ps rs with
        | some y => some (x, y)
        | none => none)
      | none => none)
    | [] => none

/-- a shape of values and of the roots that they lead to -/
structure Form where
  p : Pat
  rs : List RPat

@[reducible] def Form.D (F : Form) : Type := F.p.D × RsD F.rs
def Form.vals (F : Form) (d : F.D) : List AV := F.p.build d.1
def Form.roots (F : Form) (d : F.D) : List Root := buildRs F.rs d.2
def Form.read (F : Form) (vs : List AV) (rs : List Root) : Option F.D := match F.p.read vs with
  | some (x, []) => (match readRs F.rs rs with
    | some y => some (x, y)
    | none => none)
  | _ => none

/-! ### values are brought into a shape: nil becomes an owned empty array, what is owned becomes immutable -/

def wkL (rs : List RPat) : Nat → (p : Pat) → St → Nat → List AV → Option (St × Nat × List AV × List AV)
  | 0, _, _, _, _ => none
  | n + 1, p, s, id, cs => match p with
    | .nil => some (s, id, [], cs)
    | .cons a b => match wkL rs n a s id cs with
      | some (s1, id1, x, cs1) => (match wkL rs n b s1 id1 cs1 with
        | some (s2, id2, y, cs2) => some (s2, id2, x ++ y, cs2)
        | none => none)
      | none => none
    | .dat (.pair a b) => match wkL rs n (.dat a) s id cs with
      | some (s1, id1, x, cs1) => (match wkL rs n (.dat b) s1 id1 cs1 with
        | some (s2, id2, y, cs2) => some (s2, id2, x ++ y, cs2)
        | none => none)
      | none => none
    | .dat .unit => some (s, id, [], cs)
    | .dat (.sl e) => match cs with
      | .ref h lo len :: r => (match takeS e s [.ref h lo len] with
        | some (s1, l, _) => some (s1, id, [.sl e l none], r)
        | none => none)
      | v :: r => some (s, id, [v], r)
      | [] => none
    | .agg p => match cs with
      | .agg xs :: r => (match wkL rs n p s id xs with
        | some (s1, id1, ys, []) => some (s1, id1, [.agg ys], r)
        | _ => none)
      | _ => none
    | .tup p => match cs with
      | .tup xs :: r => (match wkL rs n p s id xs with
        | some (s1, id1, ys, []) => some (s1, id1, [.tup ys], r)
        | _ => none)
      | _ => none
    | .ref _ e => match cs with
      | .val (.slice none 0 0) :: r => cond (Nat.blt 0 e.sz && !hasH s.hp id) (some (s.setH id (.arr e []), id + 1, [.ref id 0 none], r)) none
      | v :: r => some (s, id, [v], r)
      | [] => none
    | .ptr h _ => match cs with
      | .ptr h0 i f :: r => (match rs[h]?, getH s.hp h0 with
        | some (.box q), .box xs => (match wkL rs n q s id xs with
          | some (s1, id1, ys, []) => (match getH s1.hp h0 with
            | .box zs => cond (Nat.beq ys.length zs.length) (some (s1.setH h0 (.box ys), id1, [.ptr h0 i f], r)) none
            | _ => none)
          | _ => none)
        | _, _ => some (s, id, [.ptr h0 i f], r))
      | v :: r => some (s, id, [v], r)
      | [] => none
    | _ => match cs with
      | v :: r => some (s, id, [v], r)
      | [] => none

/-- values, and the roots that they lead to, brought into a shape -/
def toForm (F : Form) (keep : Nat) (s : St) (vs : List AV) : Option F.D :=
  match wkL F.rs 60 F.p s 100000 vs with
  | some (s1, _, vs1, []) => let l := gather s1 keep (vs1.flatMap hs)
    F.read (vs1.map (ren (idxO l))) (l.map fun h => renRoot (idxO l) (getH s1.hp h))
  | _ => none

/-! ### code -/

structure Lab where
  live : List Nat
  F : Form

structure Ctx where
  P : Program
  tab : List Ent
  res : List ResultVar
  nt : Nat
  keep : Nat
  ann : List (Nat × Lab)
  out : Form

def annOf (l : List (Nat × Lab)) (i : Nat) : Option Lab :=
  match l with
  | [] => none
  | (j, x) :: r => cond (Nat.beq j i) (some x) (annOf r i)

def firstRegion : Code → Option Nat
  | .region id _ _ => some id
  | .seq a b => match firstRegion a with | some i => some i | none => firstRegion b
  | .block _ b => firstRegion b
  | .scope b => firstRegion b
  | .loop b => firstRegion b
  | _ => none

def itemsRegion : List Item → Option Nat
  | .code c :: _ => firstRegion c
  | _ => none

def oneOf : List AV → AV
  | [v] => v
  | vs => .tup vs
def resA (P : Program) (s : St) : ResultVar → Option AV
  | .tmp t => some (getT s.tm t)
  | .cell a t => match ldT P t with
    | some (true, n) => (match s.cells n (getT s.tm a) with | some cs => some (.agg cs) | none => none)
    | some (false, _) => (match s.cells 1 (getT s.tm a) with | some [v] => some v | _ => none)
    | none => none
def resAs (P : Program) (s : St) : List ResultVar → Option (List AV)
  | [] => some []
  | x :: r => match resA P s x with
    | some v => (match resAs P s r with
      | some vs => some (v :: vs)
      | none => none)
    | none => none

/-- the one value of a shape -/
def hd1 : List AV → AV
  | [v] => v
  | _ => .any
def Form.res (F : Form) (d : F.D) : Res := (hd1 (F.vals d), F.roots d)

/-- the end of a function: its results are brought into their shape -/
def fin (C : Ctx) (K : Res → R) (s : St) : R := match resAs C.P s C.res with
  | none => none
  | some vs => match toForm C.out C.keep s [oneOf vs] with
    | some d => K (C.out.res d)
    | none => none

/-- the way through code, up to a loop, to a place with a shape, to the end -/
def body (C : Ctx) (E : St → R) (L : List Item → St → R) : Nat → Bool → List Item → St → R
  | 0, _, _, _ => none
  | n + 1, first, items, s => match items with
    | [] => E s
    | .inBlock _ :: k => body C E L n false k s
    | .inLoop b :: k => L (.code b :: .inLoop b :: k) s
    | .code c :: k => match c with
      | .skip => body C E L n false k s
      | .seq a b => body C E L n first (.code a :: .code b :: k) s
      | .cond x a b => match s.ev x with
        | .val (.bool v) => cond v (body C E L n false (.code a :: k) s) (body C E L n false (.code b :: k) s)
        | _ => none
      | .block id b => body C E L n first (.code b :: .inBlock id :: k) s
      | .loop b => L (.code b :: .inLoop b :: k) s
      | .exit id => match exitTo id k with
        | some k' => body C E L n false k' s
        | none => none
      | .ret => E s
      | .region id ops draw => (match first, annOf C.ann id with
        | false, some _ => L items s
        | _, _ => cond draw (drawA C.P C.tab C.nt ops s fun s1 => body C E L n false k s1) (opsA C.P C.tab C.nt ops ops.toList s fun s1 => body C E L n false k s1))
      | _ => none
    | _ => none

def lives (s : St) (live : List Nat) : List AV := live.map (getT s.tm)

/-- a state of a shape -/
def Lab.st (B : Lab) (d : B.F.D) : St := ⟨B.live.zip (B.F.vals d), numbered 0 (B.F.roots d)⟩

/-- a place that has a shape is entered in it -/
def stepL (C : Ctx) (N : List Item → St → R) (items : List Item) (s : St) : R := match itemsRegion items with
  | some i => (match annOf C.ann i with
    | some B => (match toForm B.F C.keep s (lives s B.live) with
      | some d => N items (B.st d)
      | none => none)
    | none => N items s)
  | none => N items s

def run (C : Ctx) (K : Res → R) : Nat → List Item → St → R
  | 0, items, s => body C (fin C K) (fun _ _ => none) 1000 true items s
  | n + 1, items, s => body C (fin C K) (stepL C (run C K n)) 1000 true items s

/-- the way to a place in the code: what is left to do from there on -/
def at_ : Code → List Nat → List Item → List Item
  | c, [], k => .code c :: k
  | .seq a b, 0 :: p, k => at_ a p (.code b :: k)
  | .seq _ b, _ :: p, k => at_ b p k
  | .cond _ a _, 0 :: p, k => at_ a p k
  | .cond _ _ b, _ :: p, k => at_ b p k
  | .block id b, _ :: p, k => at_ b p (.inBlock id :: k)
  | .scope b, _ :: p, k => at_ b p (.inScope b :: k)
  | .loop b, _ :: p, k => at_ b p (.inLoop b :: k)
  | _, _, _ => []

def bodyOf (f : Func) : Code := match f.body with | some c => c | none => .skip
def args0 (i : Nat) : List AV → List (Nat × AV)
  | [] => []
  | v :: r => (i, v) :: args0 (i + 1) r

def ctxOf (P : Program) (tab : List Ent) (fn : Func) (keep : Nat) (ann : List (Nat × Lab)) (out : Form) : Ctx := ⟨P, tab, fn.results.toList, fn.ntmps, keep, ann, out⟩

/-- a call of a function -/
def runF (P : Program) (tab : List Ent) (ann : List (Nat × Lab)) (out : Form) (fn : Func) (K : Res → R) (n : Nat) (args : List AV) (roots : List Root) : R :=
  run (ctxOf P tab fn roots.length ann out) K n [.code (bodyOf fn)] ⟨args0 0 args, numbered 0 roots⟩

end Go.AI
