/- PLAIN: a part of a graph, as the program finds it: fractions along the edges. -/
import Derived.Test.YtaaliglpbjjclaaG6
namespace Go.AI
set_option linter.unusedVariables false
set_option linter.unusedSimpArgs false

def at2 (q : List (Int × Int)) (a : Int) : Int × Int := q.getD a.toNat (0, 0)
theorem at2_set {q : List (Int × Int)} {a b : Int} {v : Int × Int} (ha : 0 ≤ a) (hb : 0 ≤ b) (hl : a < q.length) : at2 (q.set a.toNat v) b = if a = b then v else at2 q b := by
  unfold at2
  rw [getD_set]
  by_cases h : a = b
  · subst h; simp; omega
  · have : ¬ (a.toNat = b.toNat ∧ a.toNat < q.length) := by omega
    simp [h, this]

def f5 : Nat → Int
  | 0 => 1
  | n + 1 => 5 * f5 n
theorem f5_le (c : Nat) (h : c ≤ 8) : 1 ≤ f5 c ∧ f5 c ≤ 390625 := by
  have : ∀ c : Fin 9, 1 ≤ f5 c ∧ f5 c ≤ 390625 := by decide
  exact this ⟨c, by omega⟩

theorem M119_is {o u a b : Int} (ho : 1 ≤ o ∧ o ≤ 390625) (hu : 1 ≤ u ∧ u ≤ 390625) (ha : 1 ≤ a ∧ a ≤ 5) (hb : 1 ≤ b ∧ b ≤ 5) :
    ∃ o' u' d, M119 o u a b = some ((o', u'), ()) ∧ 1 ≤ d ∧ o * a = d * o' ∧ u * b = d * u' ∧ 1 ≤ o' ∧ 1 ≤ u' ∧ o' ≤ o * a := by
  have h1 : o * a ≤ 390625 * 5 := Int.mul_le_mul ho.2 ha.2 (by omega) (by omega)
  have h2 : u * b ≤ 390625 * 5 := Int.mul_le_mul hu.2 hb.2 (by omega) (by omega)
  have h3 : 1 * 1 ≤ o * a := Int.mul_le_mul ho.1 ha.1 (by omega) (by omega)
  have h4 : 1 * 1 ≤ u * b := Int.mul_le_mul hu.1 hb.1 (by omega) (by omega)
  rw [M119_eq, r119]
  rw [wrap_ok (n := o * a) (by omega) (by omega), wrap_ok (n := u * b) (by omega) (by omega), M51_is (by omega) (by omega), bind_some']
  generalize hg : ((Int.gcd (o * a) (u * b) : Nat) : Int) = g
  have hg1 : g ∣ o * a := by rw [← hg]; exact Int.gcd_dvd_left ..
  have hg2 : g ∣ u * b := by rw [← hg]; exact Int.gcd_dvd_right ..
  obtain ⟨s, hs⟩ := hg1
  obtain ⟨t, ht⟩ := hg2
  have hgp : 1 ≤ g := by
    have h0 : 0 ≤ g := by rw [← hg]; omega
    rcases Int.lt_or_eq_of_le h0 with h | h
    · omega
    · rw [← h] at hs; omega
  have pos : ∀ s x : Int, 1 ≤ x → x = g * s → 1 ≤ s ∧ s ≤ x := by
    intro s x hx e
    have h1 : 1 ≤ s := by
      by_cases h' : s < 1
      · have : g * s ≤ 0 := Int.mul_nonpos_of_nonneg_of_nonpos (by omega) (by omega)
        omega
      · omega
    have : 1 * s ≤ g * s := Int.mul_le_mul_of_nonneg_right hgp (by omega)
    omega
  obtain ⟨p1, p2⟩ := pos s _ (by omega) hs
  obtain ⟨p3, p4⟩ := pos t _ (by omega) ht
  have hne : g ≠ 0 := by omega
  simp only [hne, ne_eq, not_false_eq_true, decide_true, cond_true]
  rw [hs, ht, Int.mul_tdiv_cancel_left _ hne, Int.mul_tdiv_cancel_left _ hne, wrap_ok (n := s) (by omega) (by omega), wrap_ok (n := t) (by omega) (by omega)]
  exact ⟨s, t, g, rfl, hgp, rfl, rfl, p1, p3, by omega⟩

structure SInv (m : Int) (es : List E5) (node : Int) (of0 of : List (Int × Int)) (part : List Int) : Prop where
  ol : (of.length : Int) = m
  pd : ∀ k ∈ part, (0 ≤ k ∧ k < m) ∧ at2 of0 k = (0, 0)
  cnt : part.length + of.count (0, 0) = of0.count (0, 0)
  inn : ∀ k ∈ part, 1 ≤ (at2 of k).1 ∧ 1 ≤ (at2 of k).2 ∧ (at2 of k).1 * 5 ≤ f5 part.length
  den : ∃ D : Int, 1 ≤ D ∧ D * 5 ≤ f5 part.length ∧ ∀ k ∈ part, (at2 of k).2 ∣ D
  out : ∀ k, 0 ≤ k → k < m → k ∉ part → at2 of k = at2 of0 k
  prop : ∀ p, BP m es p → ∀ k ∈ part, (at2 of k).1 * p node = (at2 of k).2 * p k
  nn : node ∈ part
  nd : part.Nodup

theorem count0_le {l : List (Int × Int)} : l.count (0, 0) ≤ l.length := List.count_le_length
theorem count0_set {l : List (Int × Int)} {b : Int} {v : Int × Int} (h0 : 0 ≤ b) (h : b < l.length) (hf : at2 l b = (0, 0)) (hv : v ≠ (0, 0)) : (l.set b.toNat v).count (0, 0) + 1 = l.count (0, 0) := by
  have hlt : b.toNat < l.length := by omega
  have he : l[b.toNat] = (0, 0) := by
    unfold at2 at hf
    rw [getD_lt hlt] at hf
    exact hf
  have hpos : 0 < l.count (0, 0) := List.count_pos_iff.2 (he ▸ List.getElem_mem hlt)
  rw [List.count_set hlt]
  have : (v == (0, 0)) = false := by simpa using hv
  simp [he, this]
  omega

/-- a node is added -/
theorem add50 {m : Int} {es : List E5} {node : Int} {of0 of : List (Int × Int)} {part : List Int} (hm : m ≤ 8) (hof0 : (of0.length : Int) = m) (h : SInv m es node of0 of part) {k b one two : Int} (hk : k ∈ part) (hb : 0 ≤ b ∧ b < m) (h1 : 1 ≤ one ∧ one ≤ 5) (h2 : 1 ≤ two ∧ two ≤ 5)
    (hp : ∀ p, BP m es p → p k * one = p b * two) (hz : at2 of b = (0, 0)) (i : Int) (x2 : List E5) (x3 x4 : Int) (x6 : Int) (x7 : List E5) :
    ∃ of', (Option.bind (M119 (at2 of k).1 (at2 of k).2 one two) fun d => t50_14 i b x2 x3 x4 of x6 x7 part (Prod.fst (Prod.fst d)) (Prod.snd (Prod.fst d))) = t50_16 i x2 x3 x4 of' x6 x7 (part ++ [b]) ∧ SInv m es node of0 of' (part ++ [b]) ∧ (∀ j, 0 ≤ j → j < m → at2 of j ≠ (0, 0) → at2 of' j ≠ (0, 0)) ∧ at2 of' b ≠ (0, 0) := by
  have hol := h.ol
  have hlen : part.length + 1 ≤ 8 := by
    have h1 := h.cnt
    have h2 : 0 < of.count (0, 0) := by
      have hlt : b.toNat < of.length := by omega
      refine List.count_pos_iff.2 ?_
      have : of[b.toNat] = (0, 0) := by
        unfold at2 at hz; rw [getD_lt hlt] at hz; exact hz
      exact this ▸ List.getElem_mem hlt
    have h3 := count0_le (l := of0)
    omega
  obtain ⟨a1, a2, a3⟩ := h.inn k hk
  obtain ⟨c1, c2⟩ := f5_le part.length (by omega)
  obtain ⟨D, D1, D2, D3⟩ := h.den
  have hu : (at2 of k).2 ≤ D := Int.le_of_dvd (by omega) (D3 k hk)
  obtain ⟨o', u', d, k1, k2, k3, k4, k5, k6, k7⟩ := M119_is (o := (at2 of k).1) (u := (at2 of k).2) (a := one) (b := two) ⟨a1, by omega⟩ ⟨a2, by omega⟩ h1 h2
  rw [k1, bind_some', t50_14_eq, r50_14]
  have e1 : b < (of.length : Int) := by omega
  simp only [hb.1, e1, decide_true, cond_true]
  rw [fit_ok (by simp; omega), cond_true]
  have hnb : b ∉ part := fun hc => by have := h.inn b hc; rw [hz] at this; simp at this
  have hset : ∀ j, 0 ≤ j → j < m → at2 (of.set b.toNat (o', u')) j = if b = j then (o', u') else at2 of j := fun j a _ => at2_set hb.1 a e1
  have hne : ((o', u') : Int × Int) ≠ (0, 0) := by intro hc; have := congrArg Prod.fst hc; simp at this; omega
  have hsb := hset b hb.1 hb.2
  rw [if_pos rfl] at hsb
  have hsk : ∀ j ∈ part, at2 (of.set b.toNat (o', u')) j = at2 of j := fun j hj => by
    have := (h.pd j hj).1
    rw [hset j this.1 this.2, if_neg]
    rintro rfl; exact hnb hj
  have hf : f5 (part ++ [b]).length = 5 * f5 part.length := by simp [f5]
  have hmem : ∀ j, j ∈ part ++ [b] ↔ (j ∈ part ∨ j = b) := by intro j; simp
  refine ⟨_, rfl, ⟨by simp; omega, ?_, ?_, ?_, ?_, ?_, ?_, ?_, ?_⟩, ?_, ?_⟩
  · intro j hj
    rcases (hmem j).1 hj with hj | rfl
    · exact h.pd j hj
    · exact ⟨hb, by rw [← h.out _ hb.1 hb.2 hnb]; exact hz⟩
  · have := count0_set hb.1 e1 hz hne
    have := h.cnt
    simp only [List.length_append, List.length_cons, List.length_nil]
    omega
  · intro j hj
    rw [hf]
    rcases (hmem j).1 hj with hj | rfl
    · rw [hsk j hj]
      have := h.inn j hj
      omega
    · rw [hsb]
      simp only
      have : (at2 of k).1 * one ≤ (at2 of k).1 * 5 := Int.mul_le_mul_of_nonneg_left h1.2 (by omega)
      omega
  · refine ⟨D * two, ?_, ?_, ?_⟩
    · have : 1 * 1 ≤ D * two := Int.mul_le_mul D1 h2.1 (by omega) (by omega)
      omega
    · rw [hf]
      have : D * two ≤ D * 5 := Int.mul_le_mul_of_nonneg_left h2.2 (by omega)
      omega
    · intro j hj
      rcases (hmem j).1 hj with hj | rfl
      · rw [hsk j hj]; exact Int.dvd_trans (D3 j hj) (Int.dvd_mul_right ..)
      · rw [hsb]
        have e2 : u' ∣ (at2 of k).2 * two := ⟨d, by rw [k4, Int.mul_comm]⟩
        exact Int.dvd_trans e2 (Int.mul_dvd_mul (D3 k hk) (Int.dvd_refl _))
  · intro j j0 j1 hj
    have hj' : j ∉ part ∧ j ≠ b := by
      constructor
      · intro hc; exact hj ((hmem j).2 (.inl hc))
      · intro hc; exact hj ((hmem j).2 (.inr hc))
    rw [hset j j0 j1, if_neg (Ne.symm hj'.2)]
    exact h.out j j0 j1 hj'.1
  · intro p hP j hj
    rcases (hmem j).1 hj with hj | rfl
    · rw [hsk j hj]; exact h.prop p hP j hj
    · rw [hsb]
      simp only
      have h7 := h.prop p hP k hk
      have h8 := hp p hP
      refine Int.eq_of_mul_eq_mul_left (show d ≠ 0 by omega) ?_
      calc d * (o' * p node) = ((at2 of k).1 * p node) * one := by rw [← Int.mul_assoc, ← k3]; simp only [Int.mul_assoc, Int.mul_comm, Int.mul_left_comm]
        _ = ((at2 of k).2 * p k) * one := by rw [h7]
        _ = (at2 of k).2 * (p k * one) := by rw [Int.mul_assoc]
        _ = (at2 of k).2 * (p j * two) := by rw [h8]
        _ = d * (u' * p j) := by rw [← Int.mul_assoc d, ← k4]; simp only [Int.mul_assoc, Int.mul_comm, Int.mul_left_comm]
  · exact (hmem node).2 (.inl h.nn)
  · rw [List.nodup_append]
    exact ⟨h.nd, by simp, fun a ha b' hb' e => by simp at hb'; subst hb'; subst e; exact hnb ha⟩
  · intro j j0 j1 hj
    rw [hset j j0 j1]
    by_cases e : b = j
    · rw [if_pos e]; exact hne
    · rw [if_neg e]; exact hj
  · rw [hsb]; exact hne

end Go.AI
