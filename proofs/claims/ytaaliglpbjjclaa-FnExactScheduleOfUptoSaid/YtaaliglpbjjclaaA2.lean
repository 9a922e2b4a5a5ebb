/- DEFINITIONS: the abstract machine: calls, regions, code. -/
import Derived.Test.YtaaliglpbjjclaaA1
namespace Go.AI

/-! ### handles: which occur, how they are named anew -/

def hsF : Nat → AV → List Nat
  | 0, _ => []
  | n + 1, v => match v with
    | .ref h _ _ | .ptr h _ _ => [h]
    | .agg cs => cs.flatMap (hsF n)
    | .tup cs => cs.flatMap (hsF n)
    | .fn _ cs => cs.flatMap (hsF n)
    | .cp cs => cs.flatMap (hsF n)
    | _ => []
def hs (v : AV) : List Nat := hsF 6 v

def memN (x : Nat) : List Nat → Bool
  | [] => false
  | y :: r => Nat.beq y x || memN x r

def idxN (x : Nat) : List Nat → Nat
  | [] => 0
  | y :: r => cond (Nat.beq y x) 0 (idxN x r + 1)

def rootHs : Root → List Nat
  | .box cs => cs.flatMap hs
  | _ => []

/-- the handles in order of their first occurrence, those that the boxes hold too -/
def collect (hp : List (Nat × Root)) : Nat → List Nat → List Nat → List Nat
  | 0, _, acc => acc
  | _, [], acc => acc
  | n + 1, h :: r, acc => cond (memN h acc) (collect hp n r acc) (match getH hp h with
      | .gone => collect hp n r acc
      | x => collect hp n (r ++ rootHs x) (acc ++ [h]))

/-- names handles anew; what gets no name is unknown -/
def renG (g : Nat → Option Nat) : Nat → AV → AV
  | 0, _ => .any
  | n + 1, v => match v with
    | .ref h a b => (match g h with | some k => .ref k a b | none => .any)
    | .ptr h a b => (match g h with | some k => .ptr k a b | none => .any)
    | .agg cs => .agg (cs.map (renG g n))
    | .tup cs => .tup (cs.map (renG g n))
    | .fn f cs => .fn f (cs.map (renG g n))
    | .cp cs => .cp (cs.map (renG g n))
    | v => v
def ren (g : Nat → Option Nat) (v : AV) : AV := renG g 6 v

def renRoot (g : Nat → Option Nat) : Root → Root
  | .box cs => .box (cs.map (ren g))
  | x => x

/-- where a handle stands in a list -/
def idxG : List Nat → Nat → Nat → Option Nat
  | [], _, _ => none
  | y :: r, i, h => cond (Nat.beq y h) (some i) (idxG r (i + 1) h)
def idxO (l : List Nat) (h : Nat) : Option Nat := idxG l 0 h
def nthO (l : List Nat) (h : Nat) : Option Nat := l[h]?
def shiftO (n base h : Nat) : Option Nat := cond (Nat.blt h n) (some (base + h)) none

def numbered (base : Nat) : List Root → List (Nat × Root)
  | [] => []
  | x :: r => (base, x) :: numbered (base + 1) r

def gather (s : St) (keep : Nat) (more : List Nat) : List Nat :=
  let k := List.range keep
  k ++ (collect s.hp 200 (k ++ more) []).filter fun h => !memN h k

/-- the state with the live slots alone, its handles numbered from 0 on (those below keep stay) -/
def St.canon (s : St) (keep : Nat) (live : List Nat) : St :=
  let vs := live.map fun i => (i, getT s.tm i)
  let l := gather s keep (vs.flatMap fun p => hs p.2)
  ⟨vs.map fun p => (p.1, ren (idxO l) p.2), numbered 0 (l.map fun h => renRoot (idxO l) (getH s.hp h))⟩

/-! ### calls -/

abbrev Sm := List AV → List Root → (Res → R) → R
/-- a meaning comes to a result, whatever follows -/
def Det (S : Sm) : Prop := ∀ (args : List AV) (roots : List Root) (K : Res → R) (r : Res), S args roots K = some r → ∃ x, K x = some r ∧ ∀ K', S args roots K' = K' x
structure Ent where
  f : FuncId
  mv : Bool
  S : Sm
  det : Det S

def find (tab : List Ent) (f : FuncId) : Option Ent :=
  match tab with
  | [] => none
  | e :: r => cond (Nat.beq e.f f) (some e) (find r f)

def snapL (f : AV → Option (AV × List Nat)) : List AV → Option (List AV × List Nat)
  | [] => some ([], [])
  | v :: r => match f v with
    | some (v', a) => (match snapL f r with
      | some (r', b) => some (v' :: r', a ++ b)
      | none => none)
    | none => none

/-- a value as it reads now, as an immutable one; the roots that it shows -/
def St.snapF (s : St) : Nat → AV → Option (AV × List Nat)
  | 0, _ => none
  | n + 1, v => match v with
    | .ref h lo len => (match getH s.hp h with
      | .arr e l => some (.sl e (takeL l lo len) none, [h])
      | .imm e l => some (.sl e (takeL l lo len) none, [])
      | _ => none)
    | .ptr h i f => (match getH s.hp h with
      | .box cs => cond (Nat.ble f cs.length) (match snapL (s.snapF n) (cs.drop f) with
        | some (cs', a) => some (.cp cs', h :: a)
        | none => none) none
      | .arr e l => cond (Nat.ble f e.sz) (some (.cp ((cellsI e (l.getD i e.d0)).drop f), [h])) none
      | .imm e l => cond (Nat.ble f e.sz) (some (.cp ((cellsI e (l.getD i e.d0)).drop f), [])) none
      | _ => none)
    | .agg cs => (match snapL (s.snapF n) cs with | some (cs', a) => some (.agg cs', a) | none => none)
    | .tup cs => (match snapL (s.snapF n) cs with | some (cs', a) => some (.tup cs', a) | none => none)
    | .fn f cs => (match snapL (s.snapF n) cs with | some (cs', a) => some (.fn f cs', a) | none => none)
    | .any => some (.any, [])
    | .val v => some (.val v, [])
    | .ifc b => some (.ifc b, [])
    | .sl e l nn => some (.sl e l nn, [])
    | .cp cs => (match snapL (s.snapF n) cs with | some (cs', a) => some (.cp cs', a) | none => none)

/-- does a value hold immutable memory? -/
def immF : Nat → AV → Bool
  | 0, _ => true
  | n + 1, v => match v with
    | .sl .. | .cp .. => true
    | .agg cs => cs.any (immF n)
    | .tup cs => cs.any (immF n)
    | .fn _ cs => cs.any (immF n)
    | _ => false
def immR : Root → Bool
  | .box cs => cs.any (immF 6)
  | .arr e _ => !e.flat
  | .imm .. => true
  | .gone => false

/-- freezes roots; a box can't be -/
def St.freeze (s : St) : List Nat → Option St
  | [] => some s
  | h :: r => match getH s.hp h with
    | .arr e l => (s.setH h (.imm e l)).freeze r
    | .imm .. => s.freeze r
    | _ => none

def putBack : List Nat → List Root → St → Option St
  | h :: r, x :: xs, s => putBack r xs (s.setH h x)
  | [], _, s => some s
  | _, _, _ => none

/-- what a call has made becomes the caller's -/
def St.impS (s : St) (base : Nat) (roots : List Root) : St := ⟨s.tm, numbered base (roots.map (renRoot (shiftO roots.length base))) ++ s.hp⟩
def St.imp (s : St) (base : Nat) (r : AV) (roots : List Root) (K : St → AV → R) : R :=
  cond ((List.range roots.length).any fun j => hasH s.hp (base + j)) none (K (s.impS base roots) (ren (shiftO roots.length base) r))

/-- a call that borrows: the callee sees what is owned as immutable -/
def callB (e : Ent) (args : List AV) (base : Nat) (s : St) (K : St → AV → R) : R :=
  match snapL (s.snapF 6) args with
  | none => none
  | some (args', vis) => e.S args' [] fun x => cond (immF 6 x.1 || x.2.any immR)
        (match s.freeze vis with
          | some s1 => s1.imp base x.1 x.2 K
          | none => none)
        (s.imp base x.1 x.2 K)

/-- the names that a callee's roots have with the caller -/
def homes (l : List Nat) (base n : Nat) : List Nat := l ++ (List.range (n - l.length)).map (base + ·)

/-- a call that is handed what is owned, and gives it back -/
def callM (e : Ent) (args : List AV) (base : Nat) (s : St) (K : St → AV → R) : R :=
  let l := collect s.hp 200 (args.flatMap hs) []
  e.S (args.map (ren (idxO l))) (l.map fun h => renRoot (idxO l) (getH s.hp h)) fun x =>
    cond ((List.range (x.2.length - l.length)).any fun j => hasH s.hp (base + j)) none
      (match putBack (homes l base x.2.length) (x.2.map (renRoot (nthO (homes l base x.2.length)))) s with
      | some s1 => K s1 (ren (nthO (homes l base x.2.length)) x.1)
      | none => none)

def callA (P : Program) (tab : List Ent) (f : FuncId) (args : List AV) (base : Nat) (s : St) (K : St → AV → R) : R :=
  match find tab f with
  | none => none
  | some e => cond e.mv (callM e args base s K) (callB e args base s K)

/-! ### operations -/

def cellsOfV : AV → Option (List AV)
  | .agg cs => some cs
  | .tup _ | .any => none
  | .val v => cond (oneC v) (some [.val v]) none
  | v => some [v]

def elemSz (P : Program) (t : TypeId) : Option Nat := match elemT P t with
  | some et => match P.info? et with
    | some i => some i.size
    | none => none
  | none => none

/-- fills parts into cells -/
def fillC (size : Nat → Option (Nat × Nat)) : List AV → List (Nat × AV) → Option (List AV)
  | cs, [] => some cs
  | cs, (i, v) :: r => match size i, cellsOfV v with
    | some (off, n), some xs => cond (Nat.beq xs.length n && Nat.ble (off + n) cs.length) (fillC size (replAt cs off xs) r) none
    | _, _ => none

def chunk (n : Nat) : Nat → List AV → List (List AV)
  | 0, _ => []
  | k + 1, cs => cs.take n :: chunk n k (cs.drop n)

/-- takes elements out of cells -/
def takeAll (e : Ty) : St → Nat → List AV → Option (St × List e.D)
  | s, 0, _ => some (s, [])
  | s, n + 1, cs => match takeD e s cs with
    | some (s1, x, cs1) => match takeAll e s1 n cs1 with
      | some (s2, l) => some (s2, x :: l)
      | none => none
    | none => none

/-- a new root -/
def St.new (s : St) (id : Nat) (x : Root) (k : St → R) : R := cond (hasH s.hp id) none (k (s.setH id x))

/-- what append appends -/
def St.appSrc (s : St) (e : Ty) (x : AV) : Option (List e.D) :=
  match x with
  | .val (.slice none 0 0) => some []
  | x => match s.slice x with
    | some ⟨e', l'⟩ => castL e' e l'
    | none => none

/-- may a value of this type be appended: a slice -/
def srcTy (P : Program) (u : TypeId) : Bool := match P.underlying u with
  | some (.slice _) => true
  | _ => false

/-- an element type: its number, its kind, its cells and bytes -/
def elemI (P : Program) (t : TypeId) : Option (TypeId × Ty × Nat) := match elemT P t with
  | none => none
  | some et => match tyOf P et, P.info? et with
    | some e, some i => match i.zero with
      | some z => cond (Nat.beq e.sz i.size && Nat.blt 0 e.sz && Nat.blt 0 i.bytes && Nat.beq z.cells.size e.sz) (some (et, e, i.bytes)) none
      | none => none
    | _, _ => none

def appendA (P : Program) (t u : TypeId) (x y : AV) (id : Nat) (s : St) (K : St → AV → R) : R :=
  match elemI P t with
  | none => none
  | some (_, e, bytes) => cond (srcTy P u) (match s.appSrc e y with
      | none => none
      | some xs => match x with
        | .val (.slice none 0 0) => chk (fitBytes xs.length bytes) (s.new id (.arr e xs) fun s1 => K s1 (.ref id 0 none))
        | .ref h lo none => match getH s.hp h with
          | .arr e' l => match castL e' e (l.drop lo) with
            | some l' => chk (fitBytes (l'.length + xs.length) bytes) ((s.setH h .gone).new id (.arr e (l' ++ xs)) fun s1 => K s1 (.ref id 0 none))
            | none => none
          | _ => none
        | _ => none) none

def asStr : AV → Option ByteArray
  | .val (.string s) => some s
  | _ => none

def bytesStr (l : List Int) : ByteArray := l.foldl (fun r n => r.push (UInt8.ofNat n.toNat)) ByteArray.empty

def zeroV (P : Program) (t : TypeId) : Option Value := match P.info? t with
  | some i => i.zero
  | none => none
/-- the cells of a type's zero value -/
def zeroOf (P : Program) (t : TypeId) : Option (List AV) := match zeroV P t with
  | some z => cond (z.cells.toList.all oneC) (some (zeroCs z)) none
  | none => none

/-- an element type of one cell that is a pointer: its zero value -/
def elemP (P : Program) (t : TypeId) : Option AV := match elemT P t with
  | none => none
  | some et => match P.underlying et, P.info? et with
    | some (.pointer _), some i => (match i.zero with
      | some (.pointer none) => cond (Nat.beq i.size 1 && Nat.blt 0 i.bytes) (some (.val (.pointer none))) none
      | _ => none)
    | _, _ => none

def builtA (P : Program) (b : Builtin) (ts : List TypeId) (args : List AV) (id : Nat) (s : St) (K : St → AV → R) : R :=
  match b, ts, args with
  | .len, [t], [x] => (match x, P.underlying t with
    | .val (.string b), some .string => K s (.val (.int .i64 (b.size : Nat)))
    | v, some (.slice _) => (match s.len v with
      | some n => K s (.val (.int .i64 (n : Nat)))
      | none => none)
    | _, _ => none)
  | .append, [t, u], [x, y] => appendA P t u x y id s K
  | .max, _, [.val (.int k p), .val (.int _ q)] => K s (.val (.int k (cond (decide (p < q)) q p)))
  | .min, _, [.val (.int k p), .val (.int _ q)] => K s (.val (.int k (cond (decide (q < p)) q p)))
  | _, _, _ => none

/-- a bound of a slice expression -/
def St.bnd (s : St) (d : Int) : Option Operand → Int
  | some y => (match intOf? (s.ev y) with | some n => n | none => -1)
  | none => d

def opA (P : Program) (tab : List Ent) (o : Oper) (s : St) (K : St → AV → R) : R :=
  let id := 100 * ((match o.dst with | some d => d | none => 0) + 1)
  match o.op with
  | .move x | .assign x => K s (s.ev x)
  | .pick c a b => match s.ev c with
    | .val (.bool v) => match s.ev a, s.ev b with
      | .val (.bool x), .val (.bool y) => K s (.val (.bool (cond v x y)))
      | x, y => cond v (K s x) (K s y)
    | _ => none
  | .alloc t => match zeroOf P t with
    | some cs => s.new id (.box cs) fun s1 => K s1 (.ptr id 0 0)
    | none => none
  | .box _ x => match cellsOfV (s.ev x) with
    | some cs => s.new id (.box cs) fun s1 => K s1 (.ptr id 0 0)
    | none => none
  | .build t parts => match zeroOf P t, P.underlying t with
    | some z, some (.struct fs) => (match fs.toList.mapM (fun f => (P.info? f.type).map fun i => (f.offset, i.size)) with
      | some places => (match fillC (fun i => places.toArray[i]?) z (parts.toList.map fun p => (p.1, s.ev p.2)) with
        | some cs => K s (.agg cs)
        | none => none)
      | none => none)
    | _, _ => none
  | .buildSlice t n parts => match elemI P t with
    | none => match elemP P t with
      | some z => cond (Nat.ble n 16777216)
          (match fillC (fun i => some (i * 1, 1)) (List.replicate n [z]).flatten (parts.toList.map fun p => (p.1, s.ev p.2)) with
            | some cs => s.new id (.box cs) fun s2 => K s2 (.ref id 0 none)
            | none => none) none
      | none => none
    | some (et, e, _) => match zeroOf P et with
      | some z => cond (Nat.ble (n * e.sz) 16777216)
          (match fillC (fun i => some (i * e.sz, e.sz)) (List.replicate n z).flatten (parts.toList.map fun p => (p.1, s.ev p.2)) with
            | some cs => match takeAll e s n cs with
              | some (s1, l) => s1.new id (.arr e l) fun s2 => K s2 (.ref id 0 none)
              | none => none
            | none => none) none
      | none => none
  | .load t a => match ldT P t with
    | some (true, n) => (match s.cells n (s.ev a) with | some cs => K s (.agg cs) | none => none)
    | some (false, _) => (match s.cells 1 (s.ev a) with | some [v] => K s v | _ => none)
    | none => none
  | .store t a x => match cellsOfV (s.ev x), ldT P t with
    | some cs, some (_, n) => cond (Nat.beq cs.length n) (s.store cs (fun s1 => K s1 .any) (s.ev a)) none
    | _, _ => none
  | .nilCheck x => match s.ev x with
    | .cp cs => K s (.cp cs)
    | .ptr h i f => (match getH s.hp h with | .gone => none | _ => K s (.ptr h i f))
    | .fn f cs => K s (.fn f cs)
    | _ => none
  | .binOp op t x y _ => binA P t op (match y with | .const _ => true | _ => false) (s.ev x) (s.ev y) (K s)
  | .unOp op _ x => match unA op (s.ev x) with | some v => K s v | none => none
  | .convert src dst x => match s.ev x, P.underlying src, P.underlying dst with
    | .val (.int _ n), some (.int _), some (.int k) => K s (.val (.int k (k.wrap n)))
    | .val (.string b), some .string, some .string => K s (.val (.string b))
    | v, some (.slice e), some .string => (match P.underlying e, s.slice v with
      | some (.int .u8), some ⟨.int .u8, l⟩ => K s (.val (.string (bytesStr l)))
      | _, _ => none)
    | _, _, _ => none
  | .makeFunc (.func f) first caps => cond (Nat.beq first.size 0) (K s (.fn f (caps.toList.map s.ev))) none
  | .makeSlice t l c => match elemI P t with
    | none => none
    | some (et, e, bytes) => match zeroV P et, s.ev l, s.ev c with
      | some z, .val (.int .i64 n), .val (.int .i64 m) => cond (isZero e z)
            (chk (decide (n = m)) (chk (decide (0 ≤ n)) (chk (fitBytes n.toNat bytes) (s.new id (.arr e (List.replicate n.toNat e.d0)) fun s1 => K s1 (.ref id 0 none))))) none
      | _, _, _ => none
  | .slice t x lo hi mx => match mx with
    | some y => match lo, hi, intOf? (s.ev y) with
      | none, some b, some k => (match intOf? (s.ev b), elemI P t, s.len (s.ev x) with
        | some j, some (_, e, _), some _ => chk (decide (j = 0) && decide (k = 0)) (s.new id (.arr e []) fun s1 => K s1 (.ref id 0 none))
        | _, _, _ => none)
      | _, _, _ => none
    | none => match asStr (s.ev x) with
      | some b => (match P.underlying t with
        | some .string =>
          chk (decide (0 ≤ s.bnd 0 lo)) (chk (decide (s.bnd 0 lo ≤ s.bnd (b.size : Nat) hi)) (chk (decide (s.bnd (b.size : Nat) hi ≤ (b.size : Nat))) (K s (.val (.string (b.extract (s.bnd 0 lo).toNat (s.bnd (b.size : Nat) hi).toNat))))))
        | _ => none)
      | none => match s.len (s.ev x), elemSz P t with
        | some n, some sz => cond (s.szOk sz (s.ev x)) (match lo, hi with
          | none, none => match subV (s.ev x) 0 none with | some w => K s w | none => none
          | some a, none => match intOf? (s.ev a) with
            | some a => chk (decide (0 ≤ a)) (chk (decide (a ≤ (n : Nat))) (match subV (s.ev x) a.toNat none with | some w => K s w | none => none))
            | none => none
          | none, some b => match intOf? (s.ev b) with
            | some b => chk (decide (0 ≤ b)) (chk (decide (b ≤ (n : Nat))) (match subV (s.ev x) 0 (some b.toNat) with | some w => K s w | none => none))
            | none => none
          | some a, some b => match intOf? (s.ev a), intOf? (s.ev b) with
            | some a, some b => chk (decide (0 ≤ a)) (chk (decide (a ≤ b)) (chk (decide (b ≤ (n : Nat))) (match subV (s.ev x) a.toNat (some b.toNat) with | some w => K s w | none => none)))
            | _, _ => none) none
        | _, _ => none
  | .fieldAddr t x f => match fieldT P t f with
    | some fd => cond (Nat.blt 0 (szT P fd.type)) (match fldAddr s (s.ev x) fd.offset with | some v => K s v | none => none) none
    | none => none
  | .field t x f => match fieldT P t f, s.ev x with
    | some fd, .agg cs => (match ldT P fd.type with
      | some (true, n) => cond (Nat.ble (fd.offset + n) cs.length) (K s (.agg ((cs.drop fd.offset).take n))) none
      | some (false, _) => (match (cs.drop fd.offset).take 1 with | [v] => K s v | _ => none)
      | none => none)
    | _, _ => none
  | .indexAddr t x i => match elemSz P t, intOf? (s.ev i), s.len (s.ev x) with
    | some sz, some n, some len => cond (s.szOk sz (s.ev x)) (chk (decide (0 ≤ n)) (chk (decide (n < (len : Nat))) (match idxAddr s (s.ev x) n.toNat with | some v => K s v | none => none))) none
    | _, _, _ => none
  | .index t x i => match s.ev x, intOf? (s.ev i), P.underlying t with
    | .val (.string b), some n, some .string => chk (decide (0 ≤ n)) (chk (decide (n < (b.size : Nat))) (K s (.val (.int .u8 (b.data.getD n.toNat 0).toNat))))
    | _, _, _ => none
  | .extract x i => match s.ev x with
    | .tup vs => match vs[i]? with | some v => K s v | none => none
    | _ => none
  | .call c => match c.callee with
    | .builtin b => builtA P b c.argTypes.toList (c.args.toList.map s.ev) id s K
    | .value f => match s.ev f with
      | .fn g caps => callA P tab g (c.args.toList.map s.ev ++ caps) id s K
      | _ => none
    | _ => none
  | _ => none

/-- is an operation wanted? -/
def wantA (ops : Array Oper) (o : Oper) (s : St) (k : Bool → St → R) : R :=
  match o.guard with
  | none => k true s
  | some (j, want) => match ops[j]? with
    | some oj => match oj.dst with
      | some d => match getT s.tm d with
        | .val (.bool b) => cond b (k want (s.setT d (.val (.bool true)))) (k (!want) (s.setT d (.val (.bool false))))
        | .tup [] => k false s
        | _ => none
      | none => none
    | none => none

/-- a value into a slot, of which there are nt -/
def St.putK (nt : Nat) (s : St) (d : Option Nat) (v : AV) (k : St → R) : R := match d with
  | some i => cond (Nat.blt i nt) (k (s.setT i v)) none
  | none => k s

def oneA (P : Program) (tab : List Ent) (nt : Nat) (ops : Array Oper) (o : Oper) (s : St) (k : St → R) : R :=
  wantA ops o s fun w s1 => cond w (opA P tab o s1 fun s2 v => s2.putK nt o.dst v k) (s1.putK nt o.dst (.tup []) k)

def opsA (P : Program) (tab : List Ent) (nt : Nat) (ops : Array Oper) : List Oper → St → (St → R) → R
  | [], s, k => k s
  | o :: r, s, k => oneA P tab nt ops o s fun s1 => opsA P tab nt ops r s1 k

/-! ### a region that draws its order -/

/-- the handles that collecting looks at -/
def looked (hp : List (Nat × Root)) : Nat → List Nat → List Nat → List Nat
  | 0, _, _ => []
  | _, [], _ => []
  | n + 1, h :: r, acc => cond (memN h acc) (looked hp n r acc) (h :: match getH hp h with
      | .gone => looked hp n r acc
      | x => looked hp n (r ++ rootHs x) (acc ++ [h]))

/-- the handles that reading a value looks at -/
def rdF (hp : List (Nat × Root)) : Nat → AV → List Nat
  | 0, _ => []
  | n + 1, v => match v with
    | .ref h _ _ => [h]
    | .ptr h _ f => h :: match getH hp h with
      | .box cs => (cs.drop f).flatMap (rdF hp n)
      | _ => []
    | .agg cs => cs.flatMap (rdF hp n)
    | .tup cs => cs.flatMap (rdF hp n)
    | .fn _ cs => cs.flatMap (rdF hp n)
    | .cp cs => cs.flatMap (rdF hp n)
    | _ => []

/-- the roots on which an operation depends -/
def readsA (P : Program) (o : Oper) (s : St) : List Nat :=
  match o.op with
  | .load _ a => hs (s.ev a)
  | .store _ a x => hs (s.ev a) ++ hs (s.ev x)
  | .indexAddr _ x _ | .convert _ _ x | .slice _ x _ _ _ | .nilCheck x | .fieldAddr _ x _ => hs (s.ev x)
  | .buildSlice _ _ ps => ps.toList.flatMap fun p => hs (s.ev p.2)
  | .call c => match c.callee with
    | .builtin _ => c.args.toList.flatMap fun x => hs (s.ev x)
    | .value f => (match s.ev f with
      | .fn g caps => looked s.hp 200 ((c.args.toList.map s.ev ++ caps).flatMap hs) [] ++ (c.args.toList.map s.ev ++ caps).flatMap (rdF s.hp 6)
      | _ => [])
    | _ => []
  | _ => []

/-- the roots that have been written between two states, the second of which has been made of the first -/
def wroteA (s s' : St) : List Nat := (s'.hp.take (s'.hp.length - s.hp.length)).map (·.1)

/-- the operations of which an operation is surely behind (bit by bit), for each -/
def bitE (acc : List Nat) (b : Nat) (e : Edge) : Nat := match e.ground with
  | .textOnly _ | .gcOnly _ => b
  | _ => b ||| (2 ^ e.on) ||| acc.getD e.on 0
def beforeA (ops : List Oper) (acc : List Nat) : List Nat :=
  match ops with
  | [] => acc
  | o :: r => beforeA r (acc ++ [o.after.toList.foldl (bitE acc) 0])

def tmpsOf (o : Oper) : List Nat := o.op.operands.toList.filterMap fun x => match x with | .tmp t => some t | _ => none

def dstOf (ops : Array Oper) (j : Nat) : List Nat := match ops[j]? with | some o => o.dst.toList | none => []

/-- the slots that an operation reads -/
def slotsR (ops : Array Oper) (o : Oper) : List Nat := tmpsOf o ++ (match o.guard with | some (j, _) => dstOf ops j | none => [])

def meetN (a b : List Nat) : Bool := a.any fun x => memN x b

structure Foot where
  dst : List Nat
  slots : List Nat
  reads : List Nat
  writes : List Nat

def apart (a b : Foot) : Bool :=
  !(meetN a.dst b.dst || meetN a.dst b.slots || meetN b.dst a.slots || meetN a.writes b.writes || meetN a.writes b.reads || meetN b.writes a.reads)

/-- every two operations, of which neither is surely behind the other, do not touch the same -/
def freeOf (i : Nat) (f : Foot) : List Nat → List Foot → Bool
  | b :: bs, g :: gs => (b.testBit i || apart f g) && freeOf i f bs gs
  | _, _ => true
def allFree (i : Nat) : List Nat → List Foot → Bool
  | _ :: bs, f :: fs => freeOf i f bs fs && allFree (i + 1) bs fs
  | _, _ => true

def oneD (P : Program) (tab : List Ent) (nt : Nat) (ops : Array Oper) (o : Oper) (s : St) (k : Foot → St → R) : R :=
  wantA ops o s fun w s1 => cond w (opA P tab o s1 fun s2 v => s2.putK nt o.dst v (k ⟨o.dst.toList, slotsR ops o, readsA P o s1, wroteA s1 s2⟩)) (s1.putK nt o.dst (.tup []) (k ⟨o.dst.toList, slotsR ops o, [], []⟩))

def opsD (P : Program) (tab : List Ent) (nt : Nat) (ops : Array Oper) : List Oper → List Foot → St → (List Foot → St → R) → R
  | [], acc, s, k => k acc s
  | o :: r, acc, s, k => oneD P tab nt ops o s fun f s1 => opsD P tab nt ops r (acc ++ [f]) s1 k

/-- do the edges that bind lead to what is earlier in an order? -/
def edgesFor (md : Region.Mode) (n : Nat) (pos : Nat → Nat) (i : Nat) : List Oper → Bool
  | [] => true
  | o :: r => (o.after.toList.all fun e => !Region.binds md e || (Nat.blt e.on n && Nat.blt (pos e.on) (pos i))) && edgesFor md n pos (i + 1) r
def posIn (l : List Nat) (i : Nat) : Nat := match idxO l i with | some k => k | none => 0
def edgesOk (ops : Array Oper) : Bool :=
  edgesFor .text ops.size id 0 ops.toList && (!Region.departs ops || edgesFor .gc ops.size (posIn (Region.linearise .gc ops 0)) 0 ops.toList)

def drawA (P : Program) (tab : List Ent) (nt : Nat) (ops : Array Oper) (s : St) (k : St → R) : R :=
  cond (edgesOk ops) (opsD P tab nt ops ops.toList [] s fun fs s1 => cond (allFree 0 (beforeA ops.toList []) fs) (k s1) none) none

end Go.AI
