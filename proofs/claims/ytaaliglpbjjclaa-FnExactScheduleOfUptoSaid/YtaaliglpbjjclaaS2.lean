/- SOUNDNESS, third part: operators. -/
import Derived.Test.YtaaliglpbjjclaaS1
namespace Go.AI

theorem chk_some {b : Bool} {k : R} {r : Res} (h : chk b k = some r) : b = true ∧ k = some r := by
  cases b <;> simp_all [chk]
theorem cond_none {b : Bool} {α : Type} {k : Option α} {r : α} (h : cond b k none = some r) : b = true ∧ k = some r := by
  cases b <;> simp_all
theorem cond_none' {b : Bool} {α : Type} {k : Option α} {r : α} (h : cond b none k = some r) : b = false ∧ k = some r := by
  cases b <;> simp_all

section
variable {P : Program} {w : World} {E : Env}

theorem intOp_ok {op : BinOp} {k : IntKind} {a b : Int} {K : Value → R} {r : Res} (h : intOp op k a b K = some r) (t : TypeId) (h1 : op ≠ .shl) (h2 : op ≠ .shr) :
    ∃ v, K v = some r ∧ (binOp op t (.int k a) (.int k b)).run P w = .ok v w := by
  cases op <;> simp only [intOp] at h <;> first
    | exact absurd rfl h1
    | exact absurd rfl h2
    | (cases h; done)
    | (obtain ⟨hc, h⟩ := chk_some h
       have hb : b ≠ 0 := by simpa using hc
       exact ⟨_, h, by simp [binOp, Op.intDiv, hb]⟩)
    | exact ⟨_, h, by simp [binOp, Op.intArith, Op.intBits, Op.intCmp]⟩

theorem eqGuard_ok (op : BinOp) (t : TypeId) (x y : Operand) (a b : Value) (h : ∀ c d, ¬ (a = .agg c ∧ b = .agg d)) (h' : ¬ (a = .nilIface ∧ b = .nilIface)) :
    (eqGuard op t x y a b).run P w = .ok () w := by
  cases a <;> cases b <;> first
    | exact absurd ⟨rfl, rfl⟩ h'
    | exact absurd ⟨rfl, rfl⟩ (h _ _)
    | simp [eqGuard]

theorem strOp_ok {op : BinOp} {a b : ByteArray} {K : Value → R} {r : Res} (h : strOp op a b K = some r) (t : TypeId) :
    ∃ v, K v = some r ∧ (binOp op t (.string a) (.string b)).run P w = .ok v w := by
  cases op <;> simp only [strOp] at h <;> first
    | (cases h; done)
    | (obtain ⟨hc, h⟩ := chk_some h
       have hb' : (a.size : Int) + (b.size : Int) ≤ 9223372036854775807 := by have := of_decide_eq_true hc; omega
       exact ⟨_, h, by simpa [binOp, Op.stringOp] using hb'⟩)
    | exact ⟨_, h, by simp [binOp, Op.stringOp]⟩


theorem run_underlying' (t : TypeId) (d : TypeDesc) (h : P.underlying t = some d) : (underlying t).run P w = .ok d w := by
  simp [underlying, h]
theorem run_sizeOf (t : TypeId) (i : TypeInfo) (h : P.info? t = some i) : (sizeOf t).run P w = .ok i.size w := by
  simp [sizeOf, typeInfo, h]

theorem relV_int {k : IntKind} {n : Int} {x : Value} (h : relV E (.val (.int k n)) x) : x = .int k n := by simpa [relV] using h

/-- two values of one cell, of which neither is nil, are not guarded -/
theorem unA_ok {op : UnOp} {a v : AV} {x : Value} (h : unA op a = some v) (hx : relV E a x) :
    ∃ z, (Op.unary op x).run P w = .ok z w ∧ relV E v z := by
  unfold unA at h
  split at h
  · simp only [Option.some.injEq] at h; subst h
    simp only [relV] at hx; subst hx
    rename_i k n
    exact ⟨.int k (k.wrap (0 - n)), by simp [Op.unary, Op.intArith], by simp [relV]⟩
  · simp only [Option.some.injEq] at h; subst h
    simp only [relV] at hx; subst hx
    rename_i b
    exact ⟨.bool (!b), by simp [Op.unary], by simp [relV]⟩
  · cases h

theorem cells_of_one {x : Value} (h : x.oneCell' = true) : x.cells = #[x] := by
  cases x <;> simp_all [Value.oneCell', Value.cells]

theorem relV_one {v : AV} {x : Value} (h : relV E v x) (h1 : ∀ cs, v ≠ .agg cs) (h2 : ∀ cs, v ≠ .tup cs) (h3 : v ≠ .any) (h4 : ∀ u, v = .val u → oneC u = true) : x.oneCell' = true := by
  cases v with
  | any => exact absurd rfl h3
  | val u =>
    simp only [relV] at h; subst h
    have := h4 _ rfl
    cases x <;> simp_all [oneC, Value.oneCell']
  | agg cs => exact absurd rfl (h1 cs)
  | tup cs => exact absurd rfl (h2 cs)
  | fn f cs => simp only [relV] at h; obtain ⟨vs, rfl, _⟩ := h; rfl
  | ifc b =>
    simp only [relV] at h
    cases b with
    | true => rw [h.1 rfl]; rfl
    | false => obtain ⟨t, v, rfl⟩ := h.2 rfl; rfl
  | sl e l nn => simp only [relV] at h; obtain ⟨a, n, c, rfl, _⟩ := h; rfl
  | cp cs => simp only [relV] at h; obtain ⟨b, o, vs, rfl, _⟩ := h; rfl
  | ref h' lo len =>
    simp only [relV] at h
    cases ho : getH E.hp h' with
    | gone => rw [ho] at h; exact h.2
    | box cs => rw [ho] at h; exact refR_one h
    | arr e l => rw [ho] at h; exact refR_one h
    | imm e l => rw [ho] at h; exact refR_one h
  | ptr h' i f =>
    simp only [relV] at h
    cases ho : getH E.hp h' with
    | gone => rw [ho] at h; exact h.2
    | box cs => rw [ho] at h; obtain ⟨b, _, rfl⟩ := h; rfl
    | arr e l => rw [ho] at h; obtain ⟨b, o, _, rfl, _⟩ := h; rfl
    | imm e l => rw [ho] at h; obtain ⟨b, o, _, rfl, _⟩ := h; rfl

theorem cellsOfV_ok {v : AV} {x : Value} {cs : List AV} (h : relV E v x) (hc : cellsOfV v = some cs) : relC E cs x.cells.toList := by
  have go : v ≠ .any → (∀ cs, v ≠ .agg cs) → (∀ cs, v ≠ .tup cs) → (∀ u, v = .val u → oneC u = true) → relC E [v] x.cells.toList := by
    intro h1 h2 h3 h4
    have := relV_one h h2 h3 h1 h4
    rw [cells_of_one this]
    simp [relC, this, h]
  cases v <;> simp only [cellsOfV, Option.some.injEq] at hc
  case val u =>
    obtain ⟨h1, h2⟩ := cond_none hc
    cases h2
    exact go (by simp) (by simp) (by simp) (by intro u' e; cases e; exact h1)
  case agg cs' =>
    subst hc
    simp only [relV] at h
    obtain ⟨vs, rfl, hv⟩ := h
    exact hv
  all_goals first
    | (cases hc; done)
    | (subst hc; exact go (by simp) (by simp) (by simp) (by simp))

theorem relV_of_cells {cs : List AV} {vs : List Value} (h : relC E cs vs) : relV E (.agg cs) (.agg vs.toArray) := by
  simp only [relV]; exact ⟨_, rfl, by simpa using h⟩

theorem relC_append {a b : List AV} {x y : List Value} (h : relC E a x) (h' : relC E b y) : relC E (a ++ b) (x ++ y) :=
  relC_iff.2 ((relC_iff.1 h).append (relC_iff.1 h'))
theorem relC_drop {a : List AV} {x : List Value} (n : Nat) (h : relC E a x) : relC E (a.drop n) (x.drop n) := relC_iff.2 ((relC_iff.1 h).drop n)
theorem relC_take {a : List AV} {x : List Value} (n : Nat) (h : relC E a x) : relC E (a.take n) (x.take n) := relC_iff.2 ((relC_iff.1 h).take n)
theorem relC_length {a : List AV} {x : List Value} (h : relC E a x) : a.length = x.length := (relC_iff.1 h).length
theorem relC_one {a : List AV} {x : List Value} (h : relC E a x) : ∀ v ∈ x, v.oneCell' = true := by
  induction a generalizing x with
  | nil => cases x <;> simp_all [relC]
  | cons c a ih => cases x with
    | nil => simp
    | cons v x =>
      simp only [relC] at h
      intro u hu
      rcases List.mem_cons.1 hu with rfl | hu
      · exact h.1
      · exact ih h.2.2 u hu

theorem cellsI_ok {w : World} {E : Env} (hw : E.w = w) : ∀ {t : Ty} {x : t.D} {cs : List Value}, repT w E.I t x cs → relC E (cellsI t x) cs
  | .unit, _, _, h => by simp [repT] at h; simp [h, cellsI, relC]
  | .int _, _, _, h => by simp [repT] at h; simp [h, cellsI, relC, relV, Value.oneCell']
  | .bool, _, _, h => by simp [repT] at h; simp [h, cellsI, relC, relV, Value.oneCell']
  | .str, _, _, h => by simp [repT] at h; simp [h, cellsI, relC, relV, Value.oneCell']
  | .sl e, l, _, h => by
    obtain ⟨a, n, c, rfl, hs⟩ := h
    subst hw
    simp only [cellsI, relC, relV, Value.oneCell', and_true, true_and]
    exact ⟨a, n, c, rfl, hs, by simp, by simp⟩
  | .pair a b, _, _, h => by
    obtain ⟨c1, c2, rfl, h1, h2⟩ := h
    exact relC_append (cellsI_ok hw h1) (cellsI_ok hw h2)
end

end Go.AI
