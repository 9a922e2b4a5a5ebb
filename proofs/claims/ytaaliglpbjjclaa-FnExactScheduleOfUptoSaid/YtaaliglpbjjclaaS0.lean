/- SOUNDNESS, first part: what the abstract values stand for in the model's memory, and that this stays under changes elsewhere. -/
import Derived.Test.YtaaliglpbjjclaaA2
import Derived.Laws.Sem
import Derived.Laws.Cells
import Derived.Laws.World
import Derived.Laws.Rows
import Derived.Laws.Append
namespace Go.AI

def All2 {α β : Type} (R : α → β → Prop) : List α → List β → Prop
  | [], [] => True
  | a :: as, b :: bs => R a b ∧ All2 R as bs
  | _, _ => False

section
variable {α β : Type} {R R' : α → β → Prop}
theorem All2.length {l : List α} {m : List β} (h : All2 R l m) : l.length = m.length := by
  induction l generalizing m with
  | nil => cases m <;> simp_all [All2]
  | cons a l ih => cases m with
    | nil => simp [All2] at h
    | cons b m => simp [All2] at h; simp [ih h.2]
theorem All2.mono (hr : ∀ a b, R a b → R' a b) : ∀ {l : List α} {m : List β}, All2 R l m → All2 R' l m
  | [], [], _ => trivial
  | _ :: _, _ :: _, h => ⟨hr _ _ h.1, All2.mono hr h.2⟩
theorem All2.append : ∀ {l : List α} {m : List β} {l' : List α} {m' : List β}, All2 R l m → All2 R l' m' → All2 R (l ++ l') (m ++ m')
  | [], [], _, _, _, h' => h'
  | _ :: _, _ :: _, _, _, h, h' => ⟨h.1, All2.append h.2 h'⟩
theorem All2.drop : ∀ (n : Nat) {l : List α} {m : List β}, All2 R l m → All2 R (l.drop n) (m.drop n)
  | 0, _, _, h => h
  | n + 1, [], [], _ => by simp [All2]
  | n + 1, _ :: _, _ :: _, h => by simpa using All2.drop n h.2
theorem All2.take : ∀ (n : Nat) {l : List α} {m : List β}, All2 R l m → All2 R (l.take n) (m.take n)
  | 0, _, _, _ => by simp [All2]
  | n + 1, [], [], _ => by simp [All2]
  | n + 1, _ :: _, _ :: _, h => by simp only [List.take_succ_cons, All2]; exact ⟨h.1, All2.take n h.2⟩
theorem All2.get : ∀ {l : List α} {m : List β} (i : Nat) (d : α) (e : β), All2 R l m → i < l.length → R (l.getD i d) (m.getD i e)
  | _ :: _, _ :: _, 0, _, _, h, _ => by simpa using h.1
  | _ :: l, _ :: m, i + 1, d, e, h, hi => by
    have := All2.get i d e h.2 (by simpa using hi)
    simpa using this
theorem All2.set : ∀ {l : List α} {m : List β} (i : Nat) {x : α} {y : β}, All2 R l m → R x y → All2 R (l.set i x) (m.set i y)
  | [], [], _, _, _, _, _ => by simp [All2]
  | _ :: _, _ :: _, 0, _, _, h, hx => ⟨hx, h.2⟩
  | _ :: _, _ :: _, i + 1, _, _, h, hx => ⟨h.1, All2.set i h.2 hx⟩
theorem All2.split : ∀ {l l' : List α} {m : List β}, All2 R (l ++ l') m → ∃ m1 m2, m = m1 ++ m2 ∧ All2 R l m1 ∧ All2 R l' m2
  | [], _, m, h => ⟨[], m, rfl, trivial, h⟩
  | _ :: _, _, b :: _, h => by
    obtain ⟨m1, m2, rfl, h1, h2⟩ := All2.split h.2
    exact ⟨b :: m1, m2, rfl, ⟨h.1, h1⟩, h2⟩
theorem All2.map {γ : Type} {f : γ → α} {l : List γ} {m : List β} (h : All2 (fun c b => R (f c) b) l m) : All2 R (l.map f) m := by
  induction l generalizing m with
  | nil => cases m <;> simp_all [All2]
  | cons a l ih => cases m with
    | nil => simp [All2] at h
    | cons b m => exact ⟨h.1, ih h.2⟩
theorem All2.replicate {a : α} {b : β} (h : R a b) : ∀ n, All2 R (List.replicate n a) (List.replicate n b)
  | 0 => trivial
  | n + 1 => ⟨h, All2.replicate h n⟩
end

/-- the cells of block b from o on begin with these -/
def At (w : World) (b o : Nat) (vs : List Value) : Prop :=
  ∃ cs T fz, w.heap[b]? = some (.cells cs T fz) ∧ ∃ pre post, cs.toList = pre ++ vs ++ post ∧ pre.length = o

theorem At.cell {w : World} {b o : Nat} {vs : List Value} (h : At w b o vs) (j : Nat) (hj : j < vs.length) : w.cell? ⟨b, o + j, none⟩ = some (vs.getD j undef) := by
  obtain ⟨cs, T, fz, hg, pre, post, hcs, rfl⟩ := h
  rw [cell_of_row w b _ cs T fz hg]
  have : cs[pre.length + j]? = cs.toList[pre.length + j]? := by simp
  rw [this, hcs, List.append_assoc, List.getElem?_append_right (by omega)]
  rw [show pre.length + j - pre.length = j by omega, List.getElem?_append_left hj]
  simp [List.getD_eq_getElem?_getD, List.getElem?_eq_getElem hj]
theorem At.mono {w w' : World} {b o : Nat} {vs : List Value} (h : At w b o vs) (hb : w'.heap[b]? = w.heap[b]?) : At w' b o vs := by
  obtain ⟨cs, T, fz, hg, r⟩ := h
  exact ⟨cs, T, fz, hb.trans hg, r⟩
theorem At.part {w : World} {b o : Nat} {l m r : List Value} (h : At w b o (l ++ m ++ r)) : At w b (o + l.length) m := by
  obtain ⟨cs, T, fz, hg, pre, post, hcs, rfl⟩ := h
  exact ⟨cs, T, fz, hg, pre ++ l, r ++ post, by simp [hcs], by simp⟩
theorem At.lt {w : World} {b o : Nat} {vs : List Value} (h : At w b o vs) : b < w.heap.size := by
  obtain ⟨cs, T, fz, hg, _⟩ := h
  exact (Array.getElem?_eq_some_iff.1 hg).1

/-- a slice's parts hold a list -/
def repS {α : Type} (w : World) (I : Nat → Prop) (R : α → List Value → Prop) (l : List α) (a : Option Addr) (n c : Nat) : Prop :=
  n = l.length ∧ n ≤ c ∧ match a with
    | none => l = [] ∧ c = 0
    | some ad => l = [] ∨ (ad.spot = none ∧ I ad.block ∧ ∃ vss : List (List Value), At w ad.block ad.off vss.flatten ∧ All2 R l vss)

/-- cells hold a datum; what it leads to lies in the blocks I -/
def repT (w : World) (I : Nat → Prop) : (t : Ty) → t.D → List Value → Prop
  | .unit, _, cs => cs = []
  | .int k, n, cs => cs = [.int k n]
  | .bool, b, cs => cs = [.bool b]
  | .str, s, cs => cs = [.string s]
  | .sl e, l, cs => ∃ a n c, cs = [.slice a n c] ∧ repS w I (repT w I e) l a n c
  | .pair a b, x, cs => ∃ c1 c2, cs = c1 ++ c2 ∧ repT w I a x.1 c1 ∧ repT w I b x.2 c2

theorem repT_len {w : World} {I : Nat → Prop} : ∀ {t : Ty} {x : t.D} {cs : List Value}, repT w I t x cs → cs.length = t.sz
  | .unit, _, _, h => by simp [repT] at h; simp [h, Ty.sz]
  | .int _, _, _, h => by simp [repT] at h; simp [h, Ty.sz]
  | .bool, _, _, h => by simp [repT] at h; simp [h, Ty.sz]
  | .str, _, _, h => by simp [repT] at h; simp [h, Ty.sz]
  | .sl e, _, _, h => by obtain ⟨a, n, c, rfl, _⟩ := h; simp [Ty.sz]
  | .pair a b, _, _, h => by
    obtain ⟨c1, c2, rfl, h1, h2⟩ := h
    simp [Ty.sz, repT_len h1, repT_len h2]
theorem repT_one {w : World} {I : Nat → Prop} : ∀ {t : Ty} {x : t.D} {cs : List Value}, repT w I t x cs → ∀ v ∈ cs, v.oneCell' = true
  | .unit, _, _, h => by simp [repT] at h; simp [h]
  | .int _, _, _, h => by simp [repT] at h; simp [h, Value.oneCell']
  | .bool, _, _, h => by simp [repT] at h; simp [h, Value.oneCell']
  | .str, _, _, h => by simp [repT] at h; simp [h, Value.oneCell']
  | .sl e, _, _, h => by obtain ⟨a, n, c, rfl, _⟩ := h; simp [Value.oneCell']
  | .pair a b, _, _, h => by
    obtain ⟨c1, c2, rfl, h1, h2⟩ := h
    intro v hv
    rcases List.mem_append.1 hv with hv | hv
    · exact repT_one h1 v hv
    · exact repT_one h2 v hv

theorem repS_mono {α : Type} {w w' : World} {I I' : Nat → Prop} {R R' : α → List Value → Prop} {l : List α} {a : Option Addr} {n c : Nat}
    (h : repS w I R l a n c) (hw : ∀ b, I b → w'.heap[b]? = w.heap[b]?) (hI : ∀ b, I b → I' b) (hR : ∀ x y, R x y → R' x y) : repS w' I' R' l a n c := by
  obtain ⟨h1, h2, h3⟩ := h
  refine ⟨h1, h2, ?_⟩
  cases a with
  | none => exact h3
  | some ad =>
    rcases h3 with h3 | ⟨hs, hi, vss, hat, hall⟩
    · exact .inl h3
    · exact .inr ⟨hs, hI _ hi, vss, hat.mono (hw _ hi), hall.mono hR⟩
theorem repT_mono {w w' : World} {I I' : Nat → Prop} (hw : ∀ b, I b → w'.heap[b]? = w.heap[b]?) (hI : ∀ b, I b → I' b) :
    ∀ {t : Ty} {x : t.D} {cs : List Value}, repT w I t x cs → repT w' I' t x cs
  | .unit, _, _, h => h
  | .int _, _, _, h => h
  | .bool, _, _, h => h
  | .str, _, _, h => h
  | .sl e, _, _, h => by
    obtain ⟨a, n, c, rfl, hs⟩ := h
    exact ⟨a, n, c, rfl, repS_mono hs hw hI (fun x y hx => repT_mono hw hI hx)⟩
  | .pair a b, _, _, h => by
    obtain ⟨c1, c2, rfl, h1, h2⟩ := h
    exact ⟨c1, c2, rfl, repT_mono hw hI h1, repT_mono hw hI h2⟩

theorem castL_eq {a b : Ty} {l : List a.D} {l' : List b.D} (h : castL a b l = some l') : ∃ e : a = b, e ▸ l = l' := by
  unfold castL at h
  split at h
  · rename_i e; exact ⟨e, by simpa using h⟩
  · cases h

theorem hasH_of_getH : ∀ {hp : List (Nat × Root)} {h : Nat}, getH hp h ≠ .gone → hasH hp h = true
  | [], _, g => by simp [getH] at g
  | (j, x) :: r, h, g => by
    by_cases e : Nat.beq j h = true
    · simp [hasH, e]
    · simp only [getH, e, cond_false] at g
      have := hasH_of_getH (hp := r) (h := h) (by simpa [e] using g)
      simp [hasH, this]

structure Env where
  w : World
  m : Nat → Option (Nat × Nat)
  hp : List (Nat × Root)
  I : Nat → Prop

def bsz (w : World) (b : Nat) : Nat := match w.heap[b]? with | some (.cells cs _ _) => cs.size | _ => 0

/-- a slice of an array root of n elements: it is empty and has no room, or it lies in the root's block -/
def refR (w : World) (p : Option (Nat × Nat)) (e : Ty) (n lo : Nat) (len : Option Nat) (x : Value) : Prop :=
  lo + lenL n lo len ≤ n ∧
  ((lenL n lo len = 0 ∧ ∃ a : Option Addr, x = .slice a 0 0) ∨
   (∃ b o c, p = some (b, o) ∧ x = .slice (some ⟨b, o + lo * e.sz, none⟩) (lenL n lo len) c ∧ lenL n lo len ≤ c ∧ o + (lo + c) * e.sz ≤ bsz w b))

mutual
/-- what an abstract value stands for -/
def relV (E : Env) : AV → Value → Prop
  | .any, _ => True
  | .val v, x => x = v
  | .agg cs, x => ∃ vs : Array Value, x = .agg vs ∧ relC E cs vs.toList
  | .tup cs, x => ∃ vs : Array Value, x = .tuple vs ∧ relL E cs vs.toList
  | .fn f cs, x => ∃ vs : Array Value, x = .func (.func f) #[] vs ∧ relL E cs vs.toList
  | .ifc b, x => (b = true → x = .nilIface) ∧ (b = false → ∃ t v, x = .iface t v)
  | .sl e l nn, x => ∃ a n c, x = .slice a n c ∧ repS E.w E.I (repT E.w E.I e) l a n c ∧ (nn = some true → a.isSome = true) ∧ (nn = some false → a = none)
  | .cp cs, x => ∃ b o vs, x = .pointer (some ⟨b, o, none⟩) ∧ E.I b ∧ At E.w b o vs ∧ relC E cs vs
  | .ref h lo len, x => match getH E.hp h with
    | .arr e l | .imm e l => refR E.w (E.m h) e l.length lo len x
    | .box cs => refR E.w (E.m h) .bool cs.length lo len x
    | .gone => hasH E.hp h = true ∧ x.oneCell' = true
  | .ptr h i f, x => match getH E.hp h with
    | .box _ => ∃ b, E.m h = some (b, 0) ∧ x = .pointer (some ⟨b, f, none⟩)
    | .arr e l | .imm e l => ∃ b o, E.m h = some (b, o) ∧ x = .pointer (some ⟨b, o + i * e.sz + f, none⟩) ∧ i < l.length
    | .gone => hasH E.hp h = true ∧ x.oneCell' = true
/-- values one by one -/
def relL (E : Env) : List AV → List Value → Prop
  | [], [] => True
  | c :: cs, v :: vs => relV E c v ∧ relL E cs vs
  | _, _ => False
/-- cells one by one -/
def relC (E : Env) : List AV → List Value → Prop
  | [], [] => True
  | c :: cs, v :: vs => v.oneCell' = true ∧ relV E c v ∧ relC E cs vs
  | _, _ => False
end

theorem relL_iff {E : Env} : ∀ {cs : List AV} {vs : List Value}, relL E cs vs ↔ All2 (relV E) cs vs
  | [], [] => by simp [relL, All2]
  | [], _ :: _ => by simp [relL, All2]
  | _ :: _, [] => by simp [relL, All2]
  | _ :: _, _ :: _ => by simp [relL, All2, relL_iff]
theorem relC_iff {E : Env} : ∀ {cs : List AV} {vs : List Value}, relC E cs vs ↔ All2 (fun c v => v.oneCell' = true ∧ relV E c v) cs vs
  | [], [] => by simp [relC, All2]
  | [], _ :: _ => by simp [relC, All2]
  | _ :: _, [] => by simp [relC, All2]
  | _ :: _, _ :: _ => by simp [relC, All2, relC_iff, and_assoc]

/-- two roots of one shape: what refers to the one can refer to the other -/
def fits : Root → Root → Prop
  | _, .gone => True
  | .box a, .box b => a.length = b.length
  | .arr e l, .arr e' l' | .arr e l, .imm e' l' | .imm e l, .imm e' l' => e = e' ∧ l.length = l'.length
  | _, _ => False

/-- what an environment's values stand for, they stand for in another -/
structure Grows (E E' : Env) : Prop where
  imm : ∀ b, E.I b → E'.w.heap[b]? = E.w.heap[b]?
  sub : ∀ b, E.I b → E'.I b
  has : ∀ h, hasH E.hp h = true → hasH E'.hp h = true
  fit : ∀ h, hasH E.hp h = true → fits (getH E.hp h) (getH E'.hp h)
  map : ∀ h, hasH E.hp h = true → getH E'.hp h ≠ .gone → E'.m h = E.m h
  size : ∀ b, bsz E.w b ≤ bsz E'.w b

end Go.AI
