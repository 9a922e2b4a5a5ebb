/- PLAIN: a part of a graph, as the reference finds it: one edge. -/
import Derived.Test.YtaaliglpbjjclaaG2
namespace Go.AI
set_option linter.unusedVariables false
set_option linter.unusedSimpArgs false

/-- positive numbers that balance all edges -/
def BP (m : Int) (es : List E5) (p : Int → Int) : Prop := (∀ i, 0 ≤ i → i < m → 1 ≤ p i) ∧ ∀ e ∈ es, p e.1 * e.2.2.1 = p e.2.1 * e.2.2.2.1

def bnd : Nat → Int
  | 0 => 1
  | c + 1 => 25 * bnd c
theorem bnd_le (c : Nat) (h : c ≤ 8) : 1 ≤ bnd c ∧ bnd c ≤ 152587890625 := by
  have : ∀ c : Fin 9, 1 ≤ bnd c ∧ bnd c ≤ 152587890625 := by decide
  exact this ⟨c, by omega⟩

structure PInv (m : Int) (es : List E5) (q0 q : List Int) (part : List Bool) : Prop where
  ql : (q.length : Int) = m
  pl : (part.length : Int) = m
  pos : ∀ i, 0 ≤ i → i < m → atB part i = true → 1 ≤ at0 q i
  bound : ∀ i, 0 ≤ i → i < m → atB part i = true → at0 q i * 25 ≤ bnd (part.count true)
  prop : ∀ p, BP m es p → ∀ i j, 0 ≤ i → i < m → 0 ≤ j → j < m → atB part i = true → atB part j = true → at0 q i * p j = at0 q j * p i
  out : ∀ i, 0 ≤ i → i < m → atB part i = false → at0 q i = at0 q0 i
  zero : ∀ i, 0 ≤ i → i < m → atB part i = true → at0 q0 i = 0

theorem count_le (l : List Bool) : l.count true ≤ l.length := List.count_le_length

theorem count_set {l : List Bool} {b : Int} (h0 : 0 ≤ b) (h : b < l.length) (hf : atB l b = false) : (l.set b.toNat true).count true = l.count true + 1 := by
  have hlt : b.toNat < l.length := by omega
  have he : l[b.toNat] = false := by
    unfold atB at hf
    rw [getD_lt hlt] at hf
    exact hf
  rw [List.count_set hlt]
  simp [he]

/-- one edge, in the direction in which it is used: the new state -/
theorem step53 {m : Int} {es : List E5} {q0 q : List Int} {part : List Bool} (hm : m ≤ 8) (h : PInv m es q0 q part) {a b one two : Int} (ha : 0 ≤ a ∧ a < m) (hb : 0 ≤ b ∧ b < m) (h1 : 1 ≤ one ∧ one ≤ 5) (h2 : 1 ≤ two ∧ two ≤ 5)
    (hp : ∀ p, BP m es p → p a * one = p b * two) (hz : at0 q0 a = 0 ↔ at0 q0 b = 0) (x4 x5 : Int) (x6 : List E5) (x7 x8 x10 : Int) (x11 : List E5) :
    ∃ q' part', t53_16 a b one two x4 x5 x6 x7 x8 q x10 x11 part = t53_21 x4 x5 x6 x7 x8 q' x10 x11 part' ∧ PInv m es q0 q' part' ∧ (∀ i, 0 ≤ i → i < m → atB part i = true → atB part' i = true) ∧
      (part' = part ∨ part.count true < part'.count true) ∧ (atB part' a = true → atB part' b = true) ∧ ((atB part a = true → atB part b = true) → part' = part) ∧ (∀ i, 0 ≤ i → i < m → i ≠ b → atB part' i = atB part i) := by
  have hql := h.ql
  have hpl := h.pl
  rw [t53_16_eq, r53_16]
  have e1 : a < (part.length : Int) := by omega
  have e2 : b < (part.length : Int) := by omega
  simp only [ha.1, hb.1, e1, e2, decide_true, cond_true]
  cases hpa : List.getD part (Int.toNat a) false with
  | false =>
    have hpa' : atB part a = false := hpa
    simp only [Bool.not_false, cond_true]
    exact ⟨q, part, rfl, h, fun _ _ _ h => h, .inl rfl, (fun hh => by rw [hpa'] at hh; cases hh), fun _ => rfl, fun _ _ _ _ => rfl⟩
  | true =>
    have hpa' : atB part a = true := hpa
    simp only [Bool.not_true, cond_false]
    cases hpb : List.getD part (Int.toNat b) false with
    | true =>
      have hpb' : atB part b = true := hpb
      simp only [cond_true]
      exact ⟨q, part, rfl, h, fun _ _ _ h => h, .inl rfl, fun _ => hpb', fun _ => rfl, fun _ _ _ _ => rfl⟩
    | false =>
      have hpb' : atB part b = false := hpb
      simp only [cond_false]
      have e3 : a < (q.length : Int) := by omega
      have e4 : b < (q.length : Int) := by omega
      have hqa := h.pos a ha.1 ha.2 hpa'
      have hqb := h.bound a ha.1 ha.2 hpa'
      have hc8 : part.count true ≤ 8 := by have := count_le part; omega
      have hc7 : part.count true + 1 ≤ 8 := by
        have := count_set hb.1 e2 hpb'
        have := count_le (part.set b.toNat true)
        simp at this
        omega
      obtain ⟨c1, c2⟩ := bnd_le _ hc8
      have hone : 0 ≤ at0 q a * one ∧ at0 q a * one ≤ 152587890625 := by
        constructor
        · exact Int.mul_nonneg (by omega) (by omega)
        · have : at0 q a * one ≤ at0 q a * 5 := Int.mul_le_mul_of_nonneg_left h1.2 (by omega)
          omega
      have hw : IntKind.wrap .i64 (List.getD q (Int.toNat a) 0 * one) = at0 q a * one := wrap_ok (by show -9223372036854775808 ≤ at0 q a * one; omega) (by show at0 q a * one ≤ 9223372036854775807; omega)
      simp only [e3, decide_true, cond_true, hw]
      rw [M115_is hone.1 (by omega), bind_some']
      generalize hg : ((Int.gcd (at0 q a * one) two : Nat) : Int) = g
      have hg2 : g ∣ two := by rw [← hg]; exact Int.gcd_dvd_right ..
      have hg1 : g ∣ at0 q a * one := by rw [← hg]; exact Int.gcd_dvd_left ..
      obtain ⟨t, ht⟩ := hg2
      obtain ⟨s, hs⟩ := hg1
      have hgp : 0 < g := by
        have h0 : 0 ≤ g := by rw [← hg]; omega
        rcases Int.lt_or_eq_of_le h0 with h | h
        · exact h
        · rw [← h] at ht; omega
      have htp : 1 ≤ t := by
        by_cases h' : t < 1
        · have : g * t ≤ 0 := Int.mul_nonpos_of_nonneg_of_nonpos (by omega) (by omega)
          omega
        · omega
      have ht5 : t ≤ 5 := by
        have : 1 * t ≤ g * t := Int.mul_le_mul_of_nonneg_right (by omega) (by omega)
        omega
      have hsp : 1 ≤ s := by
        have hpos : 0 < at0 q a * one := Int.mul_pos (by omega) (by omega)
        by_cases h' : s < 1
        · have : g * s ≤ 0 := Int.mul_nonpos_of_nonneg_of_nonpos (by omega) (by omega)
          omega
        · omega
      have hgne : g ≠ 0 := by omega
      have hdiv : Int.tdiv two g = t := by rw [ht]; exact Int.mul_tdiv_cancel_left _ hgne
      simp only [hgne, ne_eq, not_false_eq_true, decide_true, cond_true, hdiv]
      rw [wrap_ok (n := t) (by omega) (by omega)]
      obtain ⟨q', hM, hq'l, hq'⟩ := M120_is (by' := t) (part := part) (q := q) (by omega) (by omega) (by
        intro i i0 i1 ip
        have a1 := h.pos i i0 (by omega) ip
        have a2 := h.bound i i0 (by omega) ip
        refine ⟨Int.mul_nonneg (by omega) (by omega), ?_⟩
        have : at0 q i * t ≤ at0 q i * 5 := Int.mul_le_mul_of_nonneg_left ht5 (by omega)
        omega)
      rw [hM, bind_some']
      have e5 : a < (q'.length : Int) := by omega
      have e6 : b < (q'.length : Int) := by omega
      have htwo : two ≠ 0 := by omega
      have hq'a : at0 q' a = at0 q a * t := by rw [hq' a ha.1 e3, if_pos hpa']
      have hval : at0 q' a * one = two * s := by
        rw [hq'a, ht, Int.mul_right_comm, hs, Int.mul_assoc, Int.mul_assoc, Int.mul_comm s t]
      have hs5 : s ≤ at0 q a * one := by
        rw [hs]
        have : 1 * s ≤ g * s := Int.mul_le_mul_of_nonneg_right (by omega) (by omega)
        omega
      have hw2 : IntKind.wrap .i64 (List.getD q' (Int.toNat a) 0 * one) = two * s := by
        rw [show List.getD q' (Int.toNat a) 0 = at0 q' a from rfl, hval]
        have h3 : two * s ≤ 5 * s := Int.mul_le_mul_of_nonneg_right h2.2 (by omega)
        have h4 : 0 ≤ two * s := Int.mul_nonneg (by omega) (by omega)
        exact wrap_ok (by omega) (by omega)
      simp only [e2, e5, e6, decide_true, cond_true, htwo, ne_eq, not_false_eq_true, hw2, Int.mul_tdiv_cancel_left _ htwo]
      rw [wrap_ok (n := s) (by omega) (by omega)]
      have hpset : ∀ i, 0 ≤ i → i < m → atB (part.set b.toNat true) i = if b = i then true else atB part i := fun i i0 i1 => atB_set hb.1 i0 e2
      have hqset : ∀ i, 0 ≤ i → i < m → at0 (q'.set b.toNat s) i = if b = i then s else at0 q' i := fun i i0 i1 => at0_set hb.1 i0 e6
      have hcnt := count_set hb.1 e2 hpb'
      have hold : ∀ i, 0 ≤ i → i < m → atB part i = true → at0 q' i = at0 q i * t := fun i i0 i1 ip => by rw [hq' i i0 (by omega), if_pos ip]
      refine ⟨_, _, rfl, ⟨by simp; omega, by simp; omega, ?_, ?_, ?_, ?_, ?_⟩, ?_, .inr (by omega), ?_, ?_, ?_⟩
      · intro i i0 i1 ip
        rw [hpset i i0 i1] at ip
        rw [hqset i i0 i1]
        by_cases e : b = i
        · rw [if_pos e]; exact hsp
        · rw [if_neg e] at ip ⊢
          rw [hold i i0 i1 ip]
          have a1 := h.pos i i0 i1 ip
          have : 1 * 1 ≤ at0 q i * t := Int.mul_le_mul a1 htp (by omega) (by omega)
          omega
      · intro i i0 i1 ip
        rw [hpset i i0 i1] at ip
        rw [hqset i i0 i1, hcnt, bnd]
        by_cases e : b = i
        · rw [if_pos e]
          have : at0 q a * one ≤ at0 q a * 5 := Int.mul_le_mul_of_nonneg_left h1.2 (by omega)
          omega
        · rw [if_neg e] at ip ⊢
          rw [hold i i0 i1 ip]
          have a1 := h.pos i i0 i1 ip
          have a2 := h.bound i i0 i1 ip
          have : at0 q i * t ≤ at0 q i * 5 := Int.mul_le_mul_of_nonneg_left ht5 (by omega)
          omega
      · intro p hP i j i0 i1 j0 j1 ip jp
        rw [hpset i i0 i1] at ip
        rw [hpset j j0 j1] at jp
        rw [hqset i i0 i1, hqset j j0 j1]
        -- the new number against an old one
        have key : ∀ k, 0 ≤ k → k < m → atB part k = true → s * p k = at0 q' k * p b := by
          intro k k0 k1 kp
          have h3 := h.prop p hP a k ha.1 ha.2 k0 k1 hpa' kp
          have h4 := hp p hP
          have h5 : two * (s * p k) = two * (at0 q' k * p b) := by
            rw [hold k k0 k1 kp, ← Int.mul_assoc, ← hval, hq'a]
            calc at0 q a * t * one * p k = (at0 q a * p k) * (t * one) := by simp only [Int.mul_assoc, Int.mul_comm, Int.mul_left_comm]
              _ = (at0 q k * p a) * (t * one) := by rw [h3]
              _ = (at0 q k * t) * (p a * one) := by simp only [Int.mul_assoc, Int.mul_comm, Int.mul_left_comm]
              _ = (at0 q k * t) * (p b * two) := by rw [h4]
              _ = two * (at0 q k * t * p b) := by simp only [Int.mul_assoc, Int.mul_comm, Int.mul_left_comm]
          exact Int.eq_of_mul_eq_mul_left htwo h5
        by_cases e : b = i
        · rw [if_pos e]
          by_cases f : b = j
          · rw [if_pos f, ← e, ← f]
          · rw [if_neg f] at jp ⊢
            rw [← e]; exact key j j0 j1 jp
        · rw [if_neg e] at ip ⊢
          by_cases f : b = j
          · rw [if_pos f, ← f]; exact (key i i0 i1 ip).symm
          · rw [if_neg f] at jp ⊢
            rw [hold i i0 i1 ip, hold j j0 j1 jp]
            have h3 := h.prop p hP i j i0 i1 j0 j1 ip jp
            rw [Int.mul_right_comm, h3, Int.mul_right_comm]
      · intro i i0 i1 ip
        rw [hpset i i0 i1] at ip
        rw [hqset i i0 i1]
        by_cases e : b = i
        · rw [if_pos e] at ip; cases ip
        · rw [if_neg e] at ip ⊢
          rw [hq' i i0 (by omega), if_neg (by rw [ip]; simp)]
          exact h.out i i0 i1 ip
      · intro i i0 i1 ip
        rw [hpset i i0 i1] at ip
        by_cases e : b = i
        · subst e; exact hz.1 (h.zero a ha.1 ha.2 hpa')
        · rw [if_neg e] at ip; exact h.zero i i0 i1 ip
      · intro i i0 i1 ip
        rw [hpset i i0 i1]
        by_cases e : b = i
        · rw [if_pos e]
        · rw [if_neg e]; exact ip
      · intro _; rw [hpset b hb.1 hb.2, if_pos rfl]
      · intro hc; rw [hc hpa'] at hpb'; cases hpb'
      · intro i i0 i1 hne
        rw [hpset i i0 i1, if_neg (Ne.symm hne)]

end Go.AI
