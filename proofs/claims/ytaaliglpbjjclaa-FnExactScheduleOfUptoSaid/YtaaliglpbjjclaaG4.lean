/- PLAIN: a part of a graph, as the reference finds it: all of it. -/
import Derived.Test.YtaaliglpbjjclaaG3
namespace Go.AI
set_option linter.unusedVariables false
set_option linter.unusedSimpArgs false

/-- is an edge inside or outside of a part? -/
def clo (part : List Bool) (e : E5) : Prop := atB part e.1 = atB part e.2.1

theorem edge53 {m : Int} {es : List E5} {q0 q : List Int} {part : List Bool} (hm : m ≤ 8) (hG : ∀ e ∈ es, okE m e = true) (hD : ∀ e ∈ es, at0 q0 e.1 = 0 ↔ at0 q0 e.2.1 = 0) (hl : es.length ≤ 16) (h : PInv m es q0 q part) (r : Int) (i : Nat) (hi : i < es.length) :
    ∃ q' part', t53_7 m r es es.length i q m es part = t53_7 m r es es.length ((i + 1 : Nat) : Int) q' m es part' ∧ PInv m es q0 q' part' ∧ (∀ i, 0 ≤ i → i < m → atB part i = true → atB part' i = true) ∧
      (part' = part ∨ part.count true < part'.count true) ∧ clo part' es[i] ∧ (clo part es[i] → part' = part) := by
  have hmem : es[i] ∈ es := List.getElem_mem hi
  have hok := okE_iff.1 (hG _ hmem)
  have hz := hD _ hmem
  have hBP : ∀ p, BP m es p → p es[i].1 * es[i].2.2.1 = p es[i].2.1 * es[i].2.2.2.1 := fun p hp => hp.2 _ hmem
  rw [t53_7_eq, r53_7]
  have h1 : ((i : Int) < (es.length : Int)) := by omega
  have h2 : (0 : Int) ≤ i := by omega
  simp only [h1, h2, decide_true, cond_true, Int.toNat_natCast, getD_lt hi]
  generalize es[i] = e at *
  obtain ⟨a, b, one, two, tok⟩ := e
  simp only at hok hz hBP ⊢
  obtain ⟨ha, hb, ho, ht, _⟩ := hok
  have hpl := h.pl
  have e1 : a < (part.length : Int) := by omega
  have e2 : b < (part.length : Int) := by omega
  simp only [ha.1, hb.1, e1, e2, decide_true, cond_true]
  have next : ∀ q' part', t53_21 m r es es.length i q' m es part' = t53_7 m r es es.length ((i + 1 : Nat) : Int) q' m es part' := by
    intro q' part'
    rw [t53_21_eq, r53_21, wrap_ok (n := (i : Int) + 1) (by omega) (by omega)]
    rfl
  have straight : (atB part b = true → atB part a = true) → ∃ q' part', t53_16 a b one two m r es es.length i q m es part = t53_7 m r es es.length ((i + 1 : Nat) : Int) q' m es part' ∧ PInv m es q0 q' part' ∧ (∀ i, 0 ≤ i → i < m → atB part i = true → atB part' i = true) ∧
      (part' = part ∨ part.count true < part'.count true) ∧ clo part' (a, b, one, two, tok) ∧ (clo part (a, b, one, two, tok) → part' = part) := by
    intro hba
    obtain ⟨q', part', k1, k2, k3, k4, k5, k6, k7⟩ := step53 hm h ⟨ha.1, by omega⟩ ⟨hb.1, by omega⟩ ho ht hBP hz m r es es.length i m es
    refine ⟨q', part', k1.trans (next q' part'), k2, k3, k4, ?_, fun hc => k6 (fun hh => by have hc : atB part a = atB part b := hc; rw [← hc]; exact hh)⟩
    show atB part' a = atB part' b
    cases hx : atB part' a with
    | true => rw [k5 hx]
    | false =>
      cases hy : atB part' b with
      | false => rfl
      | true =>
        by_cases hab : a = b
        · subst hab; rw [hx] at hy; cases hy
        · have hx2 := k7 a ha.1 (by omega) hab
          rw [hx] at hx2
          have : part' = part := k6 (fun hh => by rw [← hx2] at hh; cases hh)
          rw [this] at hy
          have := hba hy
          rw [← hx2] at this; cases this
  cases hpb : List.getD part (Int.toNat b) false with
  | false =>
    simp only [cond_false]
    exact straight fun hh => by rw [show atB part b = false from hpb] at hh; cases hh
  | true =>
    simp only [cond_true]
    cases hpa : List.getD part (Int.toNat a) false with
    | true =>
      simp only [Bool.not_true, cond_false]
      exact straight fun _ => hpa
    | false =>
      simp only [Bool.not_false, cond_true]
      obtain ⟨q', part', k1, k2, k3, k4, k5, k6, k7⟩ := step53 hm h (a := b) (b := a) (one := two) (two := one) ⟨hb.1, by omega⟩ ⟨ha.1, by omega⟩ ht ho (fun p hp => (hBP p hp).symm) hz.symm m r es es.length i m es
      refine ⟨q', part', k1.trans (next q' part'), k2, k3, k4, ?_, fun hc => k6 (fun _ => ?_)⟩
      · show atB part' a = atB part' b
        have hb' := k3 b hb.1 (by omega) hpb
        rw [hb', k5 hb']
      · have hc : atB part a = atB part b := hc
        rw [hc]; exact hpb

/-- a round over the edges -/
theorem round53 {m : Int} {es : List E5} {q0 : List Int} (hm : m ≤ 8) (hG : ∀ e ∈ es, okE m e = true) (hD : ∀ e ∈ es, at0 q0 e.1 = 0 ↔ at0 q0 e.2.1 = 0) (hl : es.length ≤ 16) (r : Int) (hr : 0 ≤ r ∧ r ≤ 8) :
    ∀ (d i : Nat) (q : List Int) (part : List Bool), i + d = es.length → PInv m es q0 q part →
    ∃ q' part', t53_7 m r es es.length i q m es part = t53_5 m (r + 1) q' m es part' ∧ PInv m es q0 q' part' ∧ (∀ i, 0 ≤ i → i < m → atB part i = true → atB part' i = true) ∧
      ((part' = part ∧ ∀ e ∈ es.drop i, clo part e) ∨ part.count true < part'.count true) ∧ ((∀ e ∈ es.drop i, clo part e) → part' = part)
  | 0, i, q, part, hi, h => by
    rw [t53_7_eq, r53_7]
    have h1 : ¬ ((i : Int) < (es.length : Int)) := by omega
    simp only [h1, decide_false, cond_false]
    rw [wrap_ok (n := r + 1) (by omega) (by omega)]
    exact ⟨q, part, rfl, h, fun _ _ _ h => h, .inl ⟨rfl, by rw [List.drop_eq_nil_of_le (by omega)]; intro e he; cases he⟩, fun _ => rfl⟩
  | d + 1, i, q, part, hi, h => by
    obtain ⟨q1, part1, k1, k2, k3, k4, k5, k6⟩ := edge53 hm hG hD hl h r i (by omega)
    obtain ⟨q2, part2, j1, j2, j3, j4, j5⟩ := round53 hm hG hD hl r hr d (i + 1) q1 part1 (by omega) k2
    have hdrop : es.drop i = es[i] :: es.drop (i + 1) := List.drop_eq_getElem_cons (by omega)
    refine ⟨q2, part2, k1.trans j1, j2, fun i a b c => j3 i a b (k3 i a b c), ?_, fun hc => ?_⟩
    · rcases k4 with k4 | k4
      · subst k4
        rcases j4 with ⟨j4, j6⟩ | j4
        · left
          refine ⟨j4, fun e he => ?_⟩
          rw [hdrop] at he
          rcases List.mem_cons.1 he with he | he
          · rw [he]; exact k5
          · exact j6 e he
        · exact .inr j4
      · right
        rcases j4 with ⟨j4, _⟩ | j4
        · rw [j4]; exact k4
        · omega
    · have e1 := k6 (hc _ (by rw [hdrop]; exact List.mem_cons_self ..))
      subst e1
      exact j5 fun e he => hc e (by rw [hdrop]; exact List.mem_cons_of_mem _ he)

/-- the rounds -/
theorem rounds53 {m : Int} {es : List E5} {q0 : List Int} (hm : 0 ≤ m ∧ m ≤ 8) (hG : ∀ e ∈ es, okE m e = true) (hD : ∀ e ∈ es, at0 q0 e.1 = 0 ↔ at0 q0 e.2.1 = 0) (hl : es.length ≤ 16) :
    ∀ (d r : Nat) (q : List Int) (part : List Bool), (r : Int) + d = m → PInv m es q0 q part → ((∀ e ∈ es, clo part e) ∨ 1 + r ≤ part.count true) →
    ∃ q' part', t53_5 m r q m es part = t53_25 0 m 0 q' part' ∧ PInv m es q0 q' part' ∧ (∀ i, 0 ≤ i → i < m → atB part i = true → atB part' i = true) ∧ ∀ e ∈ es, clo part' e
  | 0, r, q, part, hi, h, hc => by
    rw [t53_5_eq, r53_5]
    have h1 : ¬ ((r : Int) < m) := by omega
    simp only [h1, decide_false, cond_false]
    have hql := h.ql
    have hpl := h.pl
    rw [hql]
    refine ⟨q, part, rfl, h, fun _ _ _ h => h, ?_⟩
    rcases hc with hc | hc
    · exact hc
    · have := count_le part; omega
  | d + 1, r, q, part, hi, h, hc => by
    rw [t53_5_eq, r53_5]
    have h1 : ((r : Int) < m) := by omega
    simp only [h1, decide_true, cond_true]
    obtain ⟨q1, part1, k1, k2, k3, k4, k5⟩ := round53 hm.2 hG hD hl r (by omega) es.length 0 q part (by omega) h
    simp only [List.drop_zero] at k4 k5
    obtain ⟨q2, part2, j1, j2, j3, j4⟩ := rounds53 hm hG hD hl d (r + 1) q1 part1 (by omega) k2 (by
      rcases hc with hc | hc
      · left; rw [k5 hc]; exact hc
      · rcases k4 with ⟨k4, k6⟩ | k4
        · left; rw [k4]; exact k6
        · right; omega)
    refine ⟨q2, part2, ?_, j2, fun i a b c => j3 i a b (k3 i a b c), j4⟩
    rw [← j1]
    exact k1

end Go.AI
