/- SOUNDNESS: binary operators. -/
import Derived.Test.YtaaliglpbjjclaaS2
import Derived.Laws.StructEq
namespace Go.AI
section
variable {P : Program} {w : World} {E : Env}

/-- what an operator's two steps come to -/
def BinRun (P : Program) (w : World) (op : BinOp) (t : TypeId) (xo yo : Operand) (x y z : Value) : Prop :=
  ((do eqGuard op t xo yo x y; binOp op t x y : Sem Value)).run P w = .ok z w

theorem binRun_plain {op : BinOp} {t : TypeId} {xo yo : Operand} {x y z : Value} (h : ∀ c d, ¬ (x = .agg c ∧ y = .agg d)) (h' : ¬ (x = .nilIface ∧ y = .nilIface))
    (hr : (binOp op t x y).run P w = .ok z w) : BinRun P w op t xo yo x y z := by
  simp [BinRun, eqGuard_ok (P := P) (w := w) op t xo yo x y h h', hr]

theorem eqNe_ok {op : BinOp} {b : Bool} {K : AV → R} {r : Res} (h : eqNe op b K = some r) :
    (op = .eql ∧ K (.val (.bool b)) = some r) ∨ (op = .neq ∧ K (.val (.bool (!b))) = some r) := by
  cases op <;> simp_all [eqNe]

theorem run_eql_of {t : TypeId} {x y : Value} {b : Bool} (hx : ∀ k n, x ≠ .int k n) (hs : ∀ s, x ≠ .string s) (hp : ∀ a, x ≠ .pointer a) (hf : ∀ k n, x ≠ .float k n) (hc : ∀ k n m, x ≠ .complex k n m)
    (h : (Op.equalIn 10000 t x y).run P w = .ok b w) :
    (binOp .eql t x y).run P w = .ok (.bool b) w ∧ (binOp .neq t x y).run P w = .ok (.bool (!b)) w := by
  cases x <;> first
    | exact absurd rfl (hx _ _)
    | exact absurd rfl (hs _)
    | exact absurd rfl (hp _)
    | exact absurd rfl (hf _ _)
    | exact absurd rfl (hc _ _ _)
    | (constructor <;> simp [binOp, Op.equal, Op.maxDepth, h])

theorem eqFs_ok (d : Nat) : ∀ (fs : List Field) (n : Nat) (a b : List AV) (xs ys : Array Value) (r : Bool),
    eqFs P n fs a b = some r → relC E a (xs.toList.drop n) → relC E b (ys.toList.drop n) → (Op.eqFields (d + 1) xs ys fs).run P w = .ok r w
  | [], n, a, b, xs, ys, r, h, ha, hb => by
    cases a <;> cases b <;> simp [eqFs] at h
    subst h; simp [Op.eqFields]
  | f :: fs, n, a, b, xs, ys, r, h, ha, hb => by
    cases a with
    | nil => simp [eqFs] at h
    | cons u a =>
      cases b with
      | nil => cases u <;> simp [eqFs] at h
      | cons v b =>
        cases u <;> try (simp [eqFs] at h; done)
        cases v <;> try (simp [eqFs] at h; done)
        rename_i x y
        simp only [eqFs] at h
        obtain ⟨hc, h⟩ := cond_none h
        simp only [Bool.and_eq_true, Bool.not_eq_true', beq_eq_false_iff_ne, ne_eq] at hc
        obtain ⟨hname, hoff⟩ := hc
        have hoff : f.offset = n := Nat.eq_of_beq_eq_true hoff
        have hx : xs.toList.drop n = x :: xs.toList.drop (n + 1) ∧ relC E a (xs.toList.drop (n + 1)) := by
          cases hd : xs.toList.drop n with
          | nil => rw [hd] at ha; simp [relC] at ha
          | cons x' r' =>
            rw [hd] at ha; simp only [relC, relV] at ha
            have : r' = xs.toList.drop (n + 1) := by rw [← List.drop_drop, hd]; simp
            subst this
            exact ⟨by rw [ha.2.1], ha.2.2⟩
        have hy : ys.toList.drop n = y :: ys.toList.drop (n + 1) ∧ relC E b (ys.toList.drop (n + 1)) := by
          cases hd : ys.toList.drop n with
          | nil => rw [hd] at hb; simp [relC] at hb
          | cons x' r' =>
            rw [hd] at hb; simp only [relC, relV] at hb
            have : r' = ys.toList.drop (n + 1) := by rw [← List.drop_drop, hd]; simp
            subst this
            exact ⟨by rw [hb.2.1], hb.2.2⟩
        have gx : xs[n]? = some x := by
          have := congrArg (fun l => l[0]?) hx.1
          simpa using this
        have gy : ys[n]? = some y := by
          have := congrArg (fun l => l[0]?) hy.1
          simpa using this
        have part : ∀ (zs : Array Value) (z : Value) (ty : TypeDesc), P.underlying f.type = some ty → (ty = .string ∨ ty = .bool ∨ ∃ k, ty = .int k) → zs[n]? = some z → (part f.type zs f.offset).run P w = .ok z w := by
          intro zs z ty hu ht hz
          rcases ht with rfl | rfl | ⟨k, rfl⟩ <;> simp [part, isAgg, underlying, hu, hoff, hz]
        simp only [Op.eqFields, Sem.run_ite]
        rw [if_pos hname]
        split at h
        · obtain ⟨k0, hu⟩ : ∃ k0, P.underlying f.type = some (.int k0) := ⟨_, by assumption⟩
          obtain ⟨hk, h⟩ := cond_none h
          split at h
          · rename_i t ht
            simp only [Option.some.injEq] at h; subst h
            have ih := eqFs_ok d fs (n + 1) a b xs ys t ht hx.2 hy.2
            have hk := of_decide_eq_true hk; subst hk
            simp only [Sem.run_bind, part xs _ _ hu (.inr (.inr ⟨_, rfl⟩)) gx, part ys _ _ hu (.inr (.inr ⟨_, rfl⟩)) gy, Result.andThen_ok, run_equalIn_int (P := P) w d f.type _ _ _ _ hu]
            split <;> simp_all
          · cases h
        · obtain hu : P.underlying f.type = some .bool := by assumption
          split at h
          · rename_i t ht
            simp only [Option.some.injEq] at h; subst h
            have ih := eqFs_ok d fs (n + 1) a b xs ys t ht hx.2 hy.2
            simp only [Sem.run_bind, part xs _ _ hu (.inr (.inl rfl)) gx, part ys _ _ hu (.inr (.inl rfl)) gy, Result.andThen_ok, run_equalIn_bool' (P := P) w d f.type _ _ hu]
            split <;> simp_all
          · cases h
        · obtain hu : P.underlying f.type = some .string := by assumption
          split at h
          · rename_i t ht
            simp only [Option.some.injEq] at h; subst h
            have ih := eqFs_ok d fs (n + 1) a b xs ys t ht hx.2 hy.2
            simp only [Sem.run_bind, part xs _ _ hu (.inl rfl) gx, part ys _ _ hu (.inl rfl) gy, Result.andThen_ok, run_equalIn_string (P := P) w d f.type _ _ hu]
            split <;> simp_all
          · cases h
        · cases h

theorem eql_nil_nil (d : Nat) {t e : TypeId} (ht : P.underlying t = some (.slice e)) : (Op.equalIn (d + 1) t (.slice none 0 0) (.slice none 0 0)).run P w = .ok true w := by
  simp [Op.equalIn, underlying, ht]
theorem eql_some_nil (d : Nat) {t e : TypeId} (ht : P.underlying t = some (.slice e)) (a : Addr) (n c : Nat) : (Op.equalIn (d + 1) t (.slice (some a) n c) (.slice none 0 0)).run P w = .ok false w := by
  simp [Op.equalIn, underlying, ht]
theorem eql_none_nil (d : Nat) {t e : TypeId} (ht : P.underlying t = some (.slice e)) (n c : Nat) : (Op.equalIn (d + 1) t (.slice none n c) (.slice none 0 0)).run P w = .ok true w := by
  simp [Op.equalIn, underlying, ht]

set_option maxHeartbeats 1000000 in
theorem binA_ok {op : BinOp} {t : TypeId} {yc : Bool} {a b : AV} {K : AV → R} {r : Res} {x y : Value} {xo yo : Operand} (h : binA P t op yc a b K = some r)
    (hyc : yc = true → ∃ v, yo = .const v) (ha : relV E a x) (hb : relV E b y) : ∃ v z, K v = some r ∧ BinRun P w op t xo yo x y z ∧ relV E v z := by
  unfold binA at h
  split at h
  · -- whole numbers
    simp only [relV] at ha hb; subst ha hb
    rename_i k x k' y
    split at h
    · obtain ⟨hc, h⟩ := chk_some h
      have hc : ¬ y < 0 := by have := of_decide_eq_true hc; omega
      exact ⟨_, .int k (k.wrap (x * 2 ^ min y.toNat k.bits)), h, binRun_plain (by simp) (by simp) (by simp [binOp, Op.shift, hc]), by simp [relV]⟩
    · obtain ⟨hc, h⟩ := chk_some h
      have hc : ¬ y < 0 := by have := of_decide_eq_true hc; omega
      exact ⟨_, .int k (x.fdiv (2 ^ min y.toNat k.bits)), h, binRun_plain (by simp) (by simp) (by simp [binOp, Op.shift, hc]), by simp [relV]⟩
    · rename_i h1 h2
      obtain ⟨hc, h'⟩ := cond_none h
      have hc := of_decide_eq_true hc; subst hc
      obtain ⟨v, hv, hr⟩ := intOp_ok (P := P) (w := w) h' t h1 h2
      exact ⟨_, v, hv, binRun_plain (by simp) (by simp) hr, by simp [relV]⟩
  · -- strings
    simp only [relV] at ha hb; subst ha hb
    obtain ⟨v, hv, hr⟩ := strOp_ok (P := P) (w := w) h t
    exact ⟨_, v, hv, binRun_plain (by simp) (by simp) hr, by simp [relV]⟩
  · -- bools
    simp only [relV] at ha hb; subst ha hb
    rename_i x y
    split at h
    · rename_i ht
      have hq := run_eql_of (P := P) (w := w) (x := .bool x) (y := .bool y) (t := t) (b := x == y) (by simp) (by simp) (by simp) (by simp) (by simp) (run_equalIn_bool' (P := P) w 9999 t x y ht)
      rcases eqNe_ok h with ⟨rfl, h⟩ | ⟨rfl, h⟩
      · exact ⟨_, _, h, binRun_plain (by simp) (by simp) hq.1, by simp [relV]⟩
      · exact ⟨_, _, h, binRun_plain (by simp) (by simp) hq.2, by simp [relV]⟩
    · cases h
  · -- an interface value and nil
    rename_i n
    simp only [relV] at ha hb; subst hb
    split at h
    · rename_i ms ht
      obtain ⟨hc, h⟩ := cond_none h
      obtain ⟨v, rfl⟩ := hyc hc
      have hrun : ∀ x', (n = true → x' = .nilIface) ∧ (n = false → ∃ t v, x' = .iface t v) → (Op.equalIn 10000 t x' .nilIface).run P w = .ok n w := by
        intro x' hx'
        have e1 : ∀ d, (Op.equalIn (d + 1) t .nilIface .nilIface).run P w = .ok true w := by intro d; simp [Op.equalIn, underlying, ht]
        have e2 : ∀ d t' v', (Op.equalIn (d + 1) t (.iface t' v') .nilIface).run P w = .ok false w := by intro d t' v'; simp [Op.equalIn, underlying, ht]
        cases n with
        | true => rw [hx'.1 rfl]; exact e1 9999
        | false => obtain ⟨t', v', rfl⟩ := hx'.2 rfl; exact e2 9999 t' v'
      have hg : ∀ op, (eqGuard op t xo (.const v) x .nilIface).run P w = .ok () w := by
        intro op
        cases n with
        | true => rw [ha.1 rfl]; cases op <;> simp [eqGuard]
        | false => obtain ⟨t', v', rfl⟩ := ha.2 rfl; exact eqGuard_ok op t xo (.const v) _ _ (by simp) (by simp)
      have hq := run_eql_of (P := P) (w := w) (x := x) (y := .nilIface) (t := t) (b := n)
        (by cases n <;> simp_all; obtain ⟨_, _, rfl⟩ := ha; simp) (by cases n <;> simp_all; obtain ⟨_, _, rfl⟩ := ha; simp) (by cases n <;> simp_all; obtain ⟨_, _, rfl⟩ := ha; simp)
        (by cases n <;> simp_all; obtain ⟨_, _, rfl⟩ := ha; simp) (by cases n <;> simp_all; obtain ⟨_, _, rfl⟩ := ha; simp) (hrun x ha)
      rcases eqNe_ok h with ⟨rfl, h⟩ | ⟨rfl, h⟩
      · exact ⟨_, _, h, by unfold BinRun; rw [Sem.run_bind, hg]; exact hq.1, by simp [relV]⟩
      · exact ⟨_, _, h, by unfold BinRun; rw [Sem.run_bind, hg]; exact hq.2, by simp [relV]⟩
    · cases h
  · -- nil slices
    simp only [relV] at ha hb; subst ha hb
    split at h
    · rename_i e ht
      have hq := run_eql_of (P := P) (w := w) (x := .slice none 0 0) (y := .slice none 0 0) (t := t) (b := true) (by simp) (by simp) (by simp) (by simp) (by simp) (eql_nil_nil 9999 ht)
      rcases eqNe_ok h with ⟨rfl, h⟩ | ⟨rfl, h⟩
      · exact ⟨_, _, h, binRun_plain (by simp) (by simp) hq.1, by simp [relV]⟩
      · exact ⟨_, _, h, binRun_plain (by simp) (by simp) hq.2, by simp [relV]⟩
    · cases h
  · -- a slice of which it is known
    rename_i e l nn
    simp only [relV] at ha hb; subst hb
    obtain ⟨ad, n, c, rfl, hs, h1, h2⟩ := ha
    split at h
    · rename_i e' ht
      have hrun : (Op.equalIn 10000 t (.slice ad n c) (.slice none 0 0)).run P w = .ok (!nn) w := by
        cases nn with
        | true =>
          have := h1 rfl
          obtain ⟨ad', rfl⟩ := Option.isSome_iff_exists.1 this
          exact eql_some_nil 9999 ht ad' n c
        | false => rw [h2 rfl]; exact eql_none_nil 9999 ht n c
      have hq := run_eql_of (P := P) (w := w) (x := .slice ad n c) (y := .slice none 0 0) (t := t) (b := !nn) (by simp) (by simp) (by simp) (by simp) (by simp) hrun
      rcases eqNe_ok h with ⟨rfl, h⟩ | ⟨rfl, h⟩
      · exact ⟨_, _, h, binRun_plain (by simp) (by simp) hq.1, by simp [relV]⟩
      · exact ⟨_, _, h, binRun_plain (by simp) (by simp) hq.2, by simp [relV]⟩
    · cases h
  · -- structs
    rename_i xs ys
    simp only [relV] at ha hb
    obtain ⟨vx, rfl, hx⟩ := ha
    obtain ⟨vy, rfl, hy⟩ := hb
    split at h
    · rename_i fs ht
      obtain ⟨hc, h⟩ := cond_none h
      simp only [Bool.and_eq_true, Bool.not_eq_true'] at hc
      split at h
      · rename_i b hb
        have hfs : P.fieldsOf t = fs := by simp [Program.fieldsOf, ht]
        have ht' : P.underlying t = some (.struct (P.fieldsOf t)) := by rw [hfs]; exact ht
        have hrun := run_equalIn_struct (P := P) w 9999 t vx vy ht' hc.1
        rw [hfs, eqFs_ok (P := P) (w := w) 9998 fs.toList 0 xs ys vx vy b hb (by simpa using hx) (by simpa using hy)] at hrun
        have hg := run_eqGuard_agg (P := P) w op t xo yo vx vy hc.2
        rcases eqNe_ok h with ⟨rfl, h⟩ | ⟨rfl, h⟩
        · exact ⟨_, .bool b, h, by unfold BinRun; rw [Sem.run_bind, hg, Result.andThen_ok, run_eql_struct, hrun]; rfl, by simp [relV]⟩
        · exact ⟨_, .bool (!b), h, by unfold BinRun; rw [Sem.run_bind, hg, Result.andThen_ok, run_neq_struct, hrun]; rfl, by simp [relV]⟩
      · cases h
    · cases h
  · cases h
end
end Go.AI
