/- PLAIN: a part of a graph, as the reference finds it: in lowest terms. -/
import Derived.Test.YtaaliglpbjjclaaG4
namespace Go.AI
set_option linter.unusedVariables false
set_option linter.unusedSimpArgs false

/-- g is the greatest common divisor of the numbers of a part below n -/
structure GI (m : Int) (q : List Int) (part : List Bool) (n : Int) (g : Int) : Prop where
  nn : 0 ≤ g
  dvd : ∀ j, 0 ≤ j → j < m → j < n → atB part j = true → g ∣ at0 q j
  univ : ∀ x y : Int, 0 ≤ y → (∀ j, 0 ≤ j → j < m → j < n → atB part j = true → x ∣ at0 q j * y) → x ∣ g * y

theorem gcd53 {m : Int} {q : List Int} {part : List Bool} (hm : m ≤ 8) (hq : (q.length : Int) = m) (hp : (part.length : Int) = m) (hpos : ∀ i, 0 ≤ i → i < m → atB part i = true → 1 ≤ at0 q i) :
    ∀ (d i : Nat) (g : Int), (i : Int) + d = m → GI m q part i g → ∃ g', t53_25 g m i q part = t53_31 g' m 0 q part ∧ GI m q part m g'
  | 0, i, g, hi, h => by
    rw [t53_25_eq, r53_25]
    have h1 : ¬ ((i : Int) < m) := by omega
    simp only [h1, decide_false, cond_false, hq]
    refine ⟨g, rfl, ⟨h.nn, fun j a b c => h.dvd j a b (by omega), fun x y hy hh => h.univ x y hy fun j a b c => hh j a b (by omega)⟩⟩
  | d + 1, i, g, hi, h => by
    rw [t53_25_eq, r53_25]
    have h1 : ((i : Int) < m) := by omega
    have h2 : (0 : Int) ≤ i := by omega
    have h3 : ((i : Int) < (part.length : Int)) := by omega
    have h4 : ((i : Int) < (q.length : Int)) := by omega
    simp only [h1, h2, h3, h4, decide_true, cond_true]
    have next : ∀ g, t53_29 g m i q part = t53_25 g m ((i + 1 : Nat) : Int) q part := by
      intro g
      rw [t53_29_eq, r53_29, wrap_ok (n := (i : Int) + 1) (by omega) (by omega)]
      rfl
    cases hpi : List.getD part (Int.toNat i) false with
    | false =>
      simp only [cond_false, next]
      refine gcd53 hm hq hp hpos d (i + 1) g (by omega) ⟨h.nn, fun j a b c e => h.dvd j a b ?_ e, fun x y hy hh => h.univ x y hy fun j a b c => hh j a b (by omega)⟩
      by_cases e' : j = i
      · subst e'; rw [show atB part i = false from hpi] at e; cases e
      · omega
    | true =>
      have hqi := hpos i h2 h1 hpi
      have hrd : List.getD q (Int.toNat i) 0 = at0 q i := rfl
      rw [hrd, M115_is h.nn (by omega)]
      simp only [cond_true, bind_some', next]
      refine gcd53 hm hq hp hpos d (i + 1) _ (by omega) ⟨by omega, fun j a b c e => ?_, fun x y hy hh => ?_⟩
      · by_cases e' : j = i
        · subst e'; exact Int.gcd_dvd_right ..
        · exact Int.dvd_trans (Int.gcd_dvd_left ..) (h.dvd j a b (by omega) e)
      · have k1 : x ∣ g * y := h.univ x y hy fun j a b c => hh j a b (by omega)
        have k2 : x ∣ at0 q i * y := hh i h2 h1 (by omega) hpi
        have k3 : x ∣ ((Int.gcd (g * y) (at0 q i * y) : Nat) : Int) := Int.dvd_coe_gcd k1 k2
        rw [Int.gcd_mul_right] at k3
        have : ((Int.gcd g (at0 q i) * y.natAbs : Nat) : Int) = ((Int.gcd g (at0 q i) : Nat) : Int) * y := by
          rw [Int.natCast_mul]; congr 1; omega
        rw [this] at k3
        exact k3

/-- the numbers of a part are divided -/
theorem div53 {m : Int} {q0 : List Int} {part : List Bool} {g : Int} (hm : m ≤ 8) (hq0 : (q0.length : Int) = m) (hp : (part.length : Int) = m) (hg : 1 ≤ g) (hdvd : ∀ j, 0 ≤ j → j < m → atB part j = true → ∃ t, at0 q0 j = g * t ∧ 1 ≤ t ∧ t ≤ 152587890625) :
    ∀ (d i : Nat) (q : List Int), (i : Int) + d = m → (q.length : Int) = m → (∀ j, 0 ≤ j → j < m → atB part j = true → j < i → g * at0 q j = at0 q0 j) → (∀ j, 0 ≤ j → j < m → (atB part j = false ∨ i ≤ j) → at0 q j = at0 q0 j) →
    ∃ q', t53_31 g m i q part = some (true, q', ()) ∧ (q'.length : Int) = m ∧ (∀ j, 0 ≤ j → j < m → atB part j = true → g * at0 q' j = at0 q0 j) ∧ (∀ j, 0 ≤ j → j < m → atB part j = false → at0 q' j = at0 q0 j)
  | 0, i, q, hi, hq, h, h' => by
    rw [t53_31_eq, r53_31]
    have h1 : ¬ ((i : Int) < m) := by omega
    simp only [h1, decide_false, cond_false]
    exact ⟨q, rfl, hq, fun j a b c => h j a b c (by omega), fun j a b c => h' j a b (.inl c)⟩
  | d + 1, i, q, hi, hq, h, h' => by
    rw [t53_31_eq, r53_31]
    have h1 : ((i : Int) < m) := by omega
    have h2 : (0 : Int) ≤ i := by omega
    have h3 : ((i : Int) < (part.length : Int)) := by omega
    have h4 : ((i : Int) < (q.length : Int)) := by omega
    have h5 : g ≠ 0 := by omega
    simp only [h1, h2, h3, h4, h5, ne_eq, not_false_eq_true, decide_true, cond_true]
    have next : ∀ q, t53_35 g m i q part = t53_31 g m ((i + 1 : Nat) : Int) q part := by
      intro q
      rw [t53_35_eq, r53_35, wrap_ok (n := (i : Int) + 1) (by omega) (by omega)]
      rfl
    cases hpi : List.getD part (Int.toNat i) false with
    | false =>
      have hpi' : atB part i = false := hpi
      simp only [cond_false, next]
      refine div53 hm hq0 hp hg hdvd d (i + 1) q (by omega) hq (fun j a b c e => h j a b c ?_) (fun j a b c => h' j a b ?_)
      · by_cases e' : j = i
        · subst e'; rw [hpi'] at c; cases c
        · omega
      · rcases c with c | c
        · exact .inl c
        · exact .inr (by omega)
    | true =>
      have hpi' : atB part i = true := hpi
      obtain ⟨t, ht, t1, t2⟩ := hdvd i h2 h1 hpi'
      have hrd : List.getD q (Int.toNat i) 0 = g * t := by
        rw [← ht]; exact h' i h2 h1 (.inr (Int.le_refl _))
      simp only [cond_true, hrd, Int.mul_tdiv_cancel_left _ h5, next]
      rw [wrap_ok (n := t) (by omega) (by omega)]
      have hset : ∀ j, 0 ≤ j → j < m → at0 (q.set (Int.toNat i) t) j = if (i : Int) = j then t else at0 q j := fun j a b => at0_set h2 a h4
      refine div53 hm hq0 hp hg hdvd d (i + 1) _ (by omega) (by simp; omega) (fun j a b c e => ?_) (fun j a b c => ?_)
      · rw [hset j a b]
        by_cases e' : (i : Int) = j
        · rw [if_pos e', ← e', ht]
        · rw [if_neg e']; exact h j a b c (by omega)
      · rw [hset j a b, if_neg, h' j a b]
        · rcases c with c | c
          · exact .inl c
          · exact .inr (by omega)
        · rintro rfl
          rcases c with c | c
          · rw [hpi'] at c; cases c
          · omega

/-- what finding a part does -/
theorem M53_is {m : Int} {es : List E5} {q0 : List Int} {first : Int} (hm : 0 ≤ m ∧ m ≤ 8) (hG : ∀ e ∈ es, okE m e = true) (hD : ∀ e ∈ es, at0 q0 e.1 = 0 ↔ at0 q0 e.2.1 = 0) (hl : es.length ≤ 16) (hq0 : (q0.length : Int) = m) (hf : 0 ≤ first ∧ first < m) (hz : at0 q0 first = 0) :
    ∃ q' part, M53 m es first q0 = some (true, q', ()) ∧ (q'.length : Int) = m ∧ atB part first = true ∧ (∀ e ∈ es, clo part e) ∧ (∀ i, 0 ≤ i → i < m → atB part i = true → 1 ≤ at0 q' i ∧ at0 q' i ≤ 152587890625) ∧
      (∀ p, BP m es p → ∀ i, 0 ≤ i → i < m → atB part i = true → at0 q' i ≤ p i) ∧ (∀ p, BP m es p → ∀ i j, 0 ≤ i → i < m → 0 ≤ j → j < m → atB part i = true → atB part j = true → at0 q' i * p j = at0 q' j * p i) ∧
      (∀ i, 0 ≤ i → i < m → atB part i = false → at0 q' i = at0 q0 i) ∧ (∀ i, 0 ≤ i → i < m → atB part i = true → at0 q0 i = 0) := by
  rw [M53_eq, r53]
  have hrl : (List.replicate (Int.toNat m) false).length = Int.toNat m := by simp
  have f1 : first < ((List.replicate (Int.toNat m) false).length : Int) := by rw [hrl]; omega
  have f2 : first < (q0.length : Int) := by omega
  have hrep : ∀ j, atB (List.replicate (Int.toNat m) false) j = false := by
    intro j
    unfold atB
    simp only [List.getD_eq_getElem?_getD, List.getElem?_replicate]
    split <;> rfl
  have hcr : (List.replicate (Int.toNat m) false).count true = 0 := by simp [List.count_replicate]
  simp only [hm.1, hf.1, f2, decide_true, cond_true, fit_ok (show Int.toNat m * 1 ≤ 140737488355328 by omega)]
  have f1' : decide (first < ((List.length (@List.replicate (Ty.D Ty.bool) (Int.toNat m) false) : Nat) : Int)) = true := decide_eq_true f1
  simp only [f1', cond_true]
  have hpset : ∀ i, 0 ≤ i → i < m → atB ((List.replicate (Int.toNat m) false).set first.toNat true) i = if first = i then true else false := by
    intro i i0 i1
    rw [atB_set hf.1 i0 f1, hrep]
  have hqset : ∀ i, 0 ≤ i → i < m → at0 (q0.set first.toNat 1) i = if first = i then 1 else at0 q0 i := fun i i0 i1 => at0_set hf.1 i0 f2
  have hcnt := count_set hf.1 f1 (hrep first)
  have hin : ∀ i, 0 ≤ i → i < m → atB ((List.replicate (Int.toNat m) false).set first.toNat true) i = true → i = first := by
    intro i i0 i1 h
    rw [hpset i i0 i1] at h
    by_cases e : first = i
    · exact e.symm
    · rw [if_neg e] at h; cases h
  have P0 : PInv m es q0 (q0.set first.toNat 1) ((List.replicate (Int.toNat m) false).set first.toNat true) := by
    refine ⟨by simp; omega, by simp; omega, ?_, ?_, ?_, ?_, ?_⟩
    · intro i i0 i1 h
      rw [hqset i i0 i1, if_pos (hin i i0 i1 h).symm]; omega
    · intro i i0 i1 h
      rw [hqset i i0 i1, if_pos (hin i i0 i1 h).symm, hcnt, hcr]
      decide
    · intro p hp i j i0 i1 j0 j1 h h'
      rw [hin i i0 i1 h, hin j j0 j1 h']
    · intro i i0 i1 h
      rw [hqset i i0 i1, if_neg]
      rintro rfl
      rw [hpset _ i0 i1] at h; simp at h
    · intro i i0 i1 h
      rw [hin i i0 i1 h]; exact hz
  obtain ⟨q1, part, k1, k2, k3, k4⟩ := rounds53 hm hG hD hl m.toNat 0 _ _ (by omega) P0 (.inr (by rw [hcnt]; omega))
  have hfirst : atB part first = true := k3 first hf.1 hf.2 (by rw [hpset _ hf.1 hf.2, if_pos rfl])
  obtain ⟨g, j1, j2⟩ := gcd53 hm.2 k2.ql k2.pl k2.pos m.toNat 0 0 (by omega) ⟨Int.le_refl _, fun j a b c => by omega, fun x y _ _ => by rw [Int.zero_mul]; exact Int.dvd_zero x⟩
  have hgpos : 1 ≤ g := by
    have h1 := j2.dvd first hf.1 hf.2 hf.2 hfirst
    have h2 := k2.pos first hf.1 hf.2 hfirst
    have h3 := j2.nn
    rcases Int.lt_or_eq_of_le h3 with h | h
    · omega
    · rw [← h] at h1
      have := Int.zero_dvd.1 h1
      omega
  have hdv : ∀ j, 0 ≤ j → j < m → atB part j = true → ∃ t, at0 q1 j = g * t ∧ 1 ≤ t ∧ t ≤ 152587890625 := by
    intro j a b c
    obtain ⟨t, ht⟩ := j2.dvd j a b b c
    have h1 := k2.pos j a b c
    have h2 := k2.bound j a b c
    have h3 := bnd_le (part.count true) (by have := count_le part; have := k2.pl; omega)
    have ht1 : 1 ≤ t := by
      by_cases h' : t < 1
      · have : g * t ≤ 0 := Int.mul_nonpos_of_nonneg_of_nonpos (by omega) (by omega)
        omega
      · omega
    refine ⟨t, ht, ht1, ?_⟩
    have : 1 * t ≤ g * t := Int.mul_le_mul_of_nonneg_right (by omega) (by omega)
    omega
  obtain ⟨q', l1, l2, l3, l4⟩ := div53 hm.2 k2.ql k2.pl hgpos hdv m.toNat 0 q1 (by omega) k2.ql (fun j a b c e => by omega) (fun j a b c => rfl)
  have hgne : g ≠ 0 := by omega
  refine ⟨q', part, ?_, l2, hfirst, k4, ?_, ?_, ?_, ?_, k2.zero⟩
  · exact (k1.trans j1).trans l1
  · intro i a b c
    obtain ⟨t, t1, t2, t3⟩ := hdv i a b c
    have := l3 i a b c
    rw [t1] at this
    have := Int.eq_of_mul_eq_mul_left hgne this
    omega
  · intro p hp i a b c
    have h1 : at0 q1 i ∣ g * p i := by
      refine j2.univ _ _ (by have := hp.1 i a b; omega) fun j a' b' _ c' => ?_
      exact ⟨p j, (k2.prop p hp i j a b a' b' c c').symm⟩
    rw [← l3 i a b c] at h1
    have h2 : at0 q' i ∣ p i := Int.dvd_of_mul_dvd_mul_left hgne h1
    exact Int.le_of_dvd (by have := hp.1 i a b; omega) h2
  · intro p hp i j a b a' b' c c'
    have h1 := k2.prop p hp i j a b a' b' c c'
    rw [← l3 i a b c, ← l3 j a' b' c', Int.mul_assoc, Int.mul_assoc] at h1
    exact Int.eq_of_mul_eq_mul_left hgne h1
  · intro i a b c
    rw [l4 i a b c]; exact k2.out i a b c

end Go.AI
