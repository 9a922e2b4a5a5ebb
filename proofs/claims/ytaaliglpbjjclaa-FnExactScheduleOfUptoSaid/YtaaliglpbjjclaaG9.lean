/- PLAIN: the program's repetition is the least one: one part. -/
import Derived.Test.YtaaliglpbjjclaaG8
namespace Go.AI
set_option linter.unusedVariables false
set_option linter.unusedSimpArgs false

/-- the least common multiple divides -/
theorem lcm_dvd' {a b D g : Int} (hg : ((Int.gcd a b : Nat) : Int) = g) (hg0 : g ≠ 0) (ha : a ∣ D) (hb : b ∣ D) : a.tdiv g * b ∣ D := by
  have h1 : g ∣ a := by rw [← hg]; exact Int.gcd_dvd_left ..
  have h2 : g ∣ b := by rw [← hg]; exact Int.gcd_dvd_right ..
  obtain ⟨s, hs⟩ := h1
  obtain ⟨t, ht⟩ := h2
  obtain ⟨x, hx⟩ := ha
  obtain ⟨y, hy⟩ := hb
  rw [hs, Int.mul_tdiv_cancel_left _ hg0]
  -- s * b divides s * D and t * D; gcd (s, t) = 1
  have k1 : s * b ∣ s * D := ⟨y, by rw [hy, Int.mul_assoc]⟩
  have k2 : s * b ∣ t * D := ⟨x, by rw [hx, hs, ht]; simp only [Int.mul_assoc, Int.mul_comm, Int.mul_left_comm]⟩
  have k3 : s * b ∣ ((Int.gcd (s * D) (t * D) : Nat) : Int) := Int.dvd_coe_gcd k1 k2
  rw [Int.gcd_mul_right] at k3
  have hst : Int.gcd s t = 1 := by
    have e : Int.gcd (g * s) (g * t) = g.natAbs * Int.gcd s t := Int.gcd_mul_left ..
    rw [← hs, ← ht] at e
    have hgn : g.natAbs ≠ 0 := by omega
    have e2 : g.natAbs = Int.gcd a b := by omega
    rw [e2] at e hgn
    have : Int.gcd a b * 1 = Int.gcd a b * Int.gcd s t := by omega
    exact (Nat.eq_of_mul_eq_mul_left (by omega) this).symm
  rw [hst, Nat.one_mul] at k3
  exact Int.dvd_natAbs.1 k3

section
variable {m : Int} {es : List E5}

/-- the common denominator -/
theorem lcm11 {of : List (Int × Int)} {part : List Int} {D : Int} (hpl : part.length ≤ 8) (hol : (of.length : Int) = m) (hr : ∀ k ∈ part, 0 ≤ k ∧ k < m) (hu : ∀ k ∈ part, 1 ≤ (at2 of k).2 ∧ (at2 of k).2 ∣ D) (hD : 1 ≤ D ∧ D ≤ 390625) (n nd : Int) (out : List Int) :
    ∀ (d i : Nat) (u : Int), i + d = part.length → 1 ≤ u → u ∣ D → (∀ k ∈ part.take i, (at2 of k).2 ∣ u) →
    ∃ u', t11_11 u n nd part.length i m es of out part = t11_17 u' 0 n nd part.length 0 m es of out part ∧ 1 ≤ u' ∧ u' ∣ D ∧ ∀ k ∈ part, (at2 of k).2 ∣ u'
  | 0, i, u, hi, h1, h2, h3 => by
    rw [t11_11_eq, r11_11]
    have q1 : ¬ ((i : Int) < (part.length : Int)) := by omega
    simp only [q1, decide_false, cond_false]
    exact ⟨u, rfl, h1, h2, fun k hk => h3 k (by rw [List.take_of_length_le (by omega)]; exact hk)⟩
  | d + 1, i, u, hi, h1, h2, h3 => by
    rw [t11_11_eq, r11_11]
    have q1 : ((i : Int) < (part.length : Int)) := by omega
    have q2 : (0 : Int) ≤ i := by omega
    have hlt : i < part.length := by omega
    have hk : part[i] ∈ part := List.getElem_mem hlt
    have htake : part.take (i + 1) = part.take i ++ [part[i]] := List.take_succ_eq_append_getElem hlt
    simp only [q1, q2, decide_true, cond_true, Int.toNat_natCast, getD_lt hlt]
    generalize part[i] = k at *
    have hkr := hr k hk
    obtain ⟨k1, k2⟩ := hu k hk
    have q3 : k < (of.length : Int) := by omega
    have hrd : List.getD of (Int.toNat k) (0, 0) = at2 of k := rfl
    simp only [hkr.1, q3, decide_true, cond_true, hrd]
    rw [M51_is (by omega) (by omega), bind_some']
    generalize hg : ((Int.gcd u (at2 of k).2 : Nat) : Int) = g
    have hg1 : g ∣ u := by rw [← hg]; exact Int.gcd_dvd_left ..
    have hg2 : g ∣ (at2 of k).2 := by rw [← hg]; exact Int.gcd_dvd_right ..
    have hgp : 1 ≤ g := by
      have h0 : 0 ≤ g := by rw [← hg]; omega
      rcases Int.lt_or_eq_of_le h0 with h | h
      · omega
      · rw [← h] at hg1; have := Int.zero_dvd.1 hg1; omega
    have hgne : g ≠ 0 := by omega
    have hD2 := lcm_dvd' hg hgne h2 k2
    obtain ⟨s, hs⟩ := hg1
    have htd : u.tdiv g = s := by rw [hs, Int.mul_tdiv_cancel_left _ hgne]
    rw [htd] at hD2
    have hs1 : 1 ≤ s := by
      by_cases h' : s < 1
      · have : g * s ≤ 0 := Int.mul_nonpos_of_nonneg_of_nonpos (by omega) (by omega)
        omega
      · omega
    have hsu : s ≤ u := by
      have : 1 * s ≤ g * s := Int.mul_le_mul_of_nonneg_right hgp (by omega)
      omega
    have huD : u ≤ D := Int.le_of_dvd (by omega) h2
    have hle : s * (at2 of k).2 ≤ D := Int.le_of_dvd (by omega) hD2
    have hpos : 1 * 1 ≤ s * (at2 of k).2 := Int.mul_le_mul hs1 k1 (by omega) (by omega)
    simp only [hgne, ne_eq, not_false_eq_true, decide_true, cond_true, htd]
    rw [wrap_ok (n := s) (by omega) (by omega), wrap_ok (n := s * (at2 of k).2) (by omega) (by omega), wrap_ok (n := (i : Int) + 1) (by omega) (by omega)]
    refine lcm11 hpl hol hr hu hD n nd out d (i + 1) _ (by omega) (by omega) hD2 fun j hj => ?_
    rw [htake] at hj
    obtain ⟨t, ht⟩ := hg2
    have e1 : u ∣ s * (at2 of k).2 := ⟨t, by rw [ht, hs]; simp only [Int.mul_assoc, Int.mul_comm, Int.mul_left_comm]⟩
    rcases List.mem_append.1 hj with hj | hj
    · exact Int.dvd_trans (h3 j hj) e1
    · simp at hj; subst hj; exact Int.dvd_mul_left ..

/-- the numbers that belong to the fractions -/
def outOf (of : List (Int × Int)) (u : Int) (k : Int) : Int := (at2 of k).1 * u.tdiv (at2 of k).2

/-- g is the greatest common divisor of the numbers of a list -/
structure GL (f : Int → Int) (l : List Int) (g : Int) : Prop where
  nn : 0 ≤ g
  dvd : ∀ k ∈ l, g ∣ f k
  univ : ∀ x y : Int, 0 ≤ y → (∀ k ∈ l, x ∣ f k * y) → x ∣ g * y

theorem outs11 {of : List (Int × Int)} {part : List Int} {u : Int} {out0 : List Int} (hpl : part.length ≤ 8) (hol : (of.length : Int) = m) (hql : (out0.length : Int) = m) (hr : ∀ k ∈ part, 0 ≤ k ∧ k < m) (hu : ∀ k ∈ part, 1 ≤ (at2 of k).2 ∧ (at2 of k).2 ∣ u) (ho : ∀ k ∈ part, 1 ≤ (at2 of k).1 ∧ (at2 of k).1 ≤ 390625) (hu1 : 1 ≤ u ∧ u ≤ 390625) (n nd : Int) :
    ∀ (d i : Nat) (g : Int) (out : List Int), i + d = part.length → (out.length : Int) = m → GL (outOf of u) (part.take i) g → (∀ j, 0 ≤ j → j < m → at0 out j = if j ∈ part.take i then outOf of u j else at0 out0 j) →
    ∃ g' out', t11_17 u g n nd part.length i m es of out part = t11_23 g' n nd part.length 0 m es of out' part ∧ GL (outOf of u) part g' ∧ (out'.length : Int) = m ∧ ∀ j, 0 ≤ j → j < m → at0 out' j = if j ∈ part then outOf of u j else at0 out0 j
  | 0, i, g, out, hi, hl, h, h' => by
    rw [t11_17_eq, r11_17]
    have q1 : ¬ ((i : Int) < (part.length : Int)) := by omega
    simp only [q1, decide_false, cond_false]
    rw [List.take_of_length_le (by omega)] at h h'
    exact ⟨g, out, rfl, h, hl, h'⟩
  | d + 1, i, g, out, hi, hl, h, h' => by
    rw [t11_17_eq, r11_17]
    have q1 : ((i : Int) < (part.length : Int)) := by omega
    have q2 : (0 : Int) ≤ i := by omega
    have hlt : i < part.length := by omega
    have hk : part[i] ∈ part := List.getElem_mem hlt
    have htake : part.take (i + 1) = part.take i ++ [part[i]] := List.take_succ_eq_append_getElem hlt
    simp only [q1, q2, decide_true, cond_true, Int.toNat_natCast, getD_lt hlt]
    generalize part[i] = k at *
    have hkr := hr k hk
    obtain ⟨k1, k2⟩ := hu k hk
    obtain ⟨k3, k4⟩ := ho k hk
    have q3 : k < (of.length : Int) := by omega
    have q4 : k < (out.length : Int) := by omega
    have hrd : List.getD of (Int.toNat k) (0, 0) = at2 of k := rfl
    have hne : (at2 of k).2 ≠ 0 := by omega
    obtain ⟨t, ht⟩ := k2
    have htd : u.tdiv (at2 of k).2 = t := by rw [ht]; exact Int.mul_tdiv_cancel_left _ hne
    have ht1 : 1 ≤ t := by
      by_cases h' : t < 1
      · have : (at2 of k).2 * t ≤ 0 := Int.mul_nonpos_of_nonneg_of_nonpos (by omega) (by omega)
        omega
      · omega
    have htu : t ≤ u := by
      have : 1 * t ≤ (at2 of k).2 * t := Int.mul_le_mul_of_nonneg_right k1 (by omega)
      omega
    have ho2 : outOf of u k = (at2 of k).1 * t := by unfold outOf; rw [htd]
    have hb1 : (at2 of k).1 * t ≤ 390625 * 390625 := Int.mul_le_mul k4 (by omega) (by omega) (by omega)
    have hb2 : 1 * 1 ≤ (at2 of k).1 * t := Int.mul_le_mul k3 ht1 (by omega) (by omega)
    have w1 : IntKind.wrap .i64 t = t := wrap_ok (by omega) (by omega)
    have w2 : IntKind.wrap .i64 ((at2 of k).1 * t) = outOf of u k := by rw [ho2]; exact wrap_ok (by omega) (by omega)
    simp only [hkr.1, q3, q4, decide_true, cond_true, hrd, hne, ne_eq, not_false_eq_true, htd, w1, w2]
    have q5 : k < ((List.set out (Int.toNat k) (outOf of u k)).length : Int) := by simp; omega
    have hset : ∀ j, 0 ≤ j → j < m → at0 (out.set (Int.toNat k) (outOf of u k)) j = if k = j then outOf of u k else at0 out j := fun j a _ => at0_set hkr.1 a q4
    have hv : List.getD (List.set out (Int.toNat k) (outOf of u k)) (Int.toNat k) 0 = outOf of u k := by
      have := hset k hkr.1 hkr.2
      rw [if_pos rfl] at this; exact this
    simp only [q5, decide_true, cond_true, hv]
    rw [M51_is h.nn (by rw [ho2]; omega), bind_some', wrap_ok (n := (i : Int) + 1) (by omega) (by omega)]
    have hmem : ∀ j, j ∈ part.take (i + 1) ↔ (j ∈ part.take i ∨ j = k) := by intro j; rw [htake]; simp
    refine outs11 hpl hol hql hr hu ho hu1 n nd d (i + 1) _ _ (by omega) (by simp; omega) ⟨by omega, fun j hj => ?_, fun x y hy hh => ?_⟩ fun j a b => ?_
    · rcases (hmem j).1 hj with hj | rfl
      · exact Int.dvd_trans (Int.gcd_dvd_left ..) (h.dvd j hj)
      · exact Int.gcd_dvd_right ..
    · have c1 : x ∣ g * y := h.univ x y hy fun j hj => hh j ((hmem j).2 (.inl hj))
      have c2 : x ∣ outOf of u k * y := hh k ((hmem k).2 (.inr rfl))
      have c3 : x ∣ ((Int.gcd (g * y) (outOf of u k * y) : Nat) : Int) := Int.dvd_coe_gcd c1 c2
      rw [Int.gcd_mul_right] at c3
      have : ((Int.gcd g (outOf of u k) * y.natAbs : Nat) : Int) = ((Int.gcd g (outOf of u k) : Nat) : Int) * y := by
        rw [Int.natCast_mul]; congr 1; omega
      rw [this] at c3
      exact c3
    · rw [hset j a b]
      by_cases e : k = j
      · subst e
        rw [if_pos rfl, if_pos ((hmem _).2 (.inr rfl))]
      · rw [if_neg e, h' j a b]
        have : (j ∈ part.take (i + 1)) ↔ (j ∈ part.take i) := by
          rw [hmem]
          constructor
          · rintro (h | rfl)
            · exact h
            · exact absurd rfl e
          · exact .inl
        simp only [this]

end
end Go.AI
