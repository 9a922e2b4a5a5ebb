/- PLAIN: both programs' repetitions are the same. -/
import Derived.Test.YtaaliglpbjjclaaG10
namespace Go.AI
set_option linter.unusedVariables false
set_option linter.unusedSimpArgs false

section
variable {m : Int} {es : List E5}

theorem nodes11 (hm : 0 ≤ m ∧ m ≤ 8) (hG : ∀ e ∈ es, okE m e = true) (hl : es.length ≤ 16) :
    ∀ (d k : Nat) (of : List (Int × Int)) (out : List Int), (k : Int) + d = m → (of.length : Int) = m → RInv m es out → (∀ j, 0 ≤ j → j < m → (at2 of j = (0, 0) ↔ at0 out j = 0)) → (∀ j : Int, 0 ≤ j → j < k → at0 out j ≠ 0) → (∀ j, 0 ≤ j → j < m → at0 out j ≤ 200) →
    (t11_5 m k m es of out = some (((), false), [], ()) ∧ ¬ ∃ p, GoodV m es p) ∨
    ∃ out', t11_5 m k m es of out = t11_31 es es.length 0 out' ∧ RInv m es out' ∧ (∀ j, 0 ≤ j → j < m → at0 out' j ≠ 0) ∧ ∀ j, 0 ≤ j → j < m → at0 out' j ≤ 200
  | 0, k, of, out, hk, hof, h, hs, hd, hb => by
    rw [t11_5_eq, r11_5]
    have h1 : ¬ ((k : Int) < m) := by omega
    simp only [h1, decide_false, cond_false]
    exact .inr ⟨out, rfl, h, fun j a b => hd j a (by omega), hb⟩
  | d + 1, k, of, out, hk, hof, h, hs, hd, hb => by
    rw [t11_5_eq, r11_5]
    have h1 : ((k : Int) < m) := by omega
    have h2 : (0 : Int) ≤ k := by omega
    have h3 : ((k : Int) < (of.length : Int)) := by omega
    simp only [h1, h2, h3, decide_true, cond_true]
    have z1 := zero2 (at2 of k)
    unfold at2 at z1
    simp only [z1]
    by_cases hz : List.getD of (Int.toNat k) (0, 0) = (0, 0)
    · simp only [hz, decide_true, Bool.not_true, cond_false]
      obtain ⟨of1, part, k1, k2⟩ := part11 hm hG hl hof h hs hb ⟨h2, h1⟩ hz m
      rw [k1, bind_some']
      rcases k2 with ⟨k2, k3⟩ | ⟨out1, k2, k3, k4, k5, k6, k7, k8⟩
      · exact .inl ⟨k2, k3⟩
      · have k2 : t11_11 1 m k part.length 0 m es of1 out part = t11_5 m ((k + 1 : Nat) : Int) m es of1 out1 := by
          rw [k2, wrap_ok (n := (k : Int) + 1) (by omega) (by omega)]; rfl
        have := nodes11 hm hG hl d (k + 1) of1 out1 (by omega) k3 k4 k5 (by
          intro j a b
          by_cases e : j = k
          · subst e; exact k6
          · exact k7 j a (by omega) (hd j a (by omega))) k8
        rw [← k2] at this
        exact this
    · have hd' : decide (List.getD of (Int.toNat k) (0, 0) = (0, 0)) = false := by simpa using hz
      simp only [hd', Bool.not_false, cond_true]
      rw [wrap_ok (n := (k : Int) + 1) (by omega) (by omega)]
      refine nodes11 hm hG hl d (k + 1) of out (by omega) hof h hs (fun j a b => ?_) hb
      by_cases e : j = k
      · subst e
        intro hc
        exact hz ((hs _ h2 h1).2 hc)
      · exact hd j a (by omega)

theorem edges11 {q : List Int} (hm : 0 ≤ m ∧ m ≤ 8) (hG : ∀ e ∈ es, okE m e = true) (hl : es.length ≤ 16) (hq : (q.length : Int) = m) (hb : ∀ i, 0 ≤ i → i < m → 0 ≤ at0 q i ∧ at0 q i ≤ 152587890625) :
    ∀ (d i : Nat), i + d = es.length → t11_31 es es.length i q = if (es.drop i).all (balE q) = true then some (((), true), q, ()) else some (((), false), [], ())
  | 0, i, hi => by
    rw [t11_31_eq, r11_31]
    have h1 : ¬ ((i : Int) < (es.length : Int)) := by omega
    simp only [h1, decide_false, cond_false]
    rw [List.drop_eq_nil_of_le (by omega)]
    simp
  | d + 1, i, hi => by
    rw [t11_31_eq, r11_31]
    have h1 : ((i : Int) < (es.length : Int)) := by omega
    have h2 : (0 : Int) ≤ i := by omega
    have hlt : i < es.length := by omega
    have ih := edges11 hm hG hl hq hb d (i + 1) (by omega)
    have hok := okE_iff.1 (hG _ (List.getElem_mem hlt))
    rw [List.drop_eq_getElem_cons hlt]
    simp only [h1, h2, decide_true, cond_true, Int.toNat_natCast, getD_lt hlt, List.all_cons]
    rw [wrap_ok (n := (i : Int) + 1) (by omega) (by omega)]
    generalize es[i] = e at *
    obtain ⟨a, b, one, two, tok⟩ := e
    simp only [balE] at hok ⊢
    obtain ⟨ha, hb', ho, ht, _⟩ := hok
    have e1 : a < (q.length : Int) := by omega
    have e2 : b < (q.length : Int) := by omega
    have ba := hb a ha.1 (by omega)
    have bb := hb b hb'.1 (by omega)
    have w1 : IntKind.wrap .i64 (List.getD q (Int.toNat a) 0 * one) = at0 q a * one := by
      have : at0 q a * one ≤ at0 q a * 5 := Int.mul_le_mul_of_nonneg_left ho.2 ba.1
      have : 0 ≤ at0 q a * one := Int.mul_nonneg ba.1 (by omega)
      exact wrap_ok (n := at0 q a * one) (by omega) (by omega)
    have w2 : IntKind.wrap .i64 (List.getD q (Int.toNat b) 0 * two) = at0 q b * two := by
      have : at0 q b * two ≤ at0 q b * 5 := Int.mul_le_mul_of_nonneg_left ht.2 bb.1
      have : 0 ≤ at0 q b * two := Int.mul_nonneg bb.1 (by omega)
      exact wrap_ok (n := at0 q b * two) (by omega) (by omega)
    simp only [ha.1, hb'.1, e1, e2, decide_true, cond_true, w1, w2]
    by_cases hh : at0 q a * one = at0 q b * two
    · have : (at0 q a * one != at0 q b * two) = false := by simpa using hh
      simp only [this, cond_false]
      simp only [hh, decide_true, Bool.true_and]
      exact ih
    · have : (at0 q a * one != at0 q b * two) = true := by simpa using hh
      simp [this, hh]

theorem M11_no (h : isG m es = false) : M11 m es = some (((), false), [], ()) := by
  rw [M11_eq, r11, M49_is, bind_some', h]; rfl

end

/-- every number of a list is at most 200 where every positive balanced one is matched from below -/
theorem M11_is {m : Int} {es : List E5} (h : isG m es = true) : RepIs m es (M11 m es) := by
  obtain ⟨hm, hl, hG⟩ := isG_iff.1 h
  rw [M11_eq, r11, M49_is, bind_some', h]
  simp only [Bool.not_true, cond_false, hm.1, decide_true, cond_true, fit_ok (show Int.toNat m * 8 ≤ 140737488355328 by omega), fit_ok (show Int.toNat m * 16 ≤ 140737488355328 by omega)]
  have hz : ∀ j, at0 (List.replicate (Int.toNat m) (0 : Int)) j = 0 := by
    intro j
    unfold at0
    simp only [List.getD_eq_getElem?_getD, List.getElem?_replicate]
    split <;> rfl
  have hz2 : ∀ j, at2 (List.replicate (Int.toNat m) ((0, 0) : Int × Int)) j = (0, 0) := by
    intro j
    unfold at2
    simp only [List.getD_eq_getElem?_getD, List.getElem?_replicate]
    split <;> rfl
  have R0 : RInv m es (List.replicate (Int.toNat m) (0 : Int)) := by
    refine ⟨by simp; omega, ?_, ?_, ?_, ?_⟩
    · intro i a b; rw [hz]; omega
    · intro e he; rw [hz, hz]
    · intro p hp i a b; rw [hz]; have := hp.1 i a b; omega
    · intro p hp e he; rw [hz, hz]; simp
  rcases nodes11 hm hG hl m.toNat 0 (List.replicate (Int.toNat m) ((0, 0) : Int × Int)) _ (by omega) (by simp; omega) R0 (fun j _ _ => by rw [hz, hz2]; simp) (fun j a b => by omega) (fun j _ _ => by rw [hz]; omega) with ⟨k1, k2⟩ | ⟨q, k1, k2, k3, k4⟩
  · have k1' : t11_5 m 0 m es (@List.replicate (Ty.D (Ty.pair (Ty.int IntKind.i64) (Ty.int IntKind.i64))) (Int.toNat m) (0, 0)) (@List.replicate (Ty.D (Ty.int IntKind.i64)) (Int.toNat m) 0) = some (((), false), [], ()) := k1
    exact .inr ⟨k2, k1'⟩
  · have k1' : t11_5 m 0 m es (@List.replicate (Ty.D (Ty.pair (Ty.int IntKind.i64) (Ty.int IntKind.i64))) (Int.toNat m) (0, 0)) (@List.replicate (Ty.D (Ty.int IntKind.i64)) (Int.toNat m) 0) = t11_31 es es.length 0 q := k1
    rw [k1']
    have hE := edges11 hm hG hl k2.ql k2.pos es.length 0 (by omega)
    simp only [List.drop_zero] at hE
    have hE : t11_31 es es.length 0 q = if es.all (balE q) = true then some (((), true), q, ()) else some (((), false), [], ()) := hE
    rw [hE]
    by_cases hb : es.all (balE q) = true
    · rw [if_pos hb]
      exact .inl ⟨q, rfl, k2.ql, ⟨⟨fun i a b => by have := k2.pos i a b; have := k3 i a b; omega, fun e he => by have := List.all_eq_true.1 hb e he; simpa [balE] using this⟩, k4⟩, k2.le⟩
    · rw [if_neg hb]
      refine .inr ⟨?_, rfl⟩
      rintro ⟨p, hp1, hp2⟩
      refine hb (List.all_eq_true.2 fun e he => ?_)
      simpa [balE] using k2.bal p hp1 e he

/-- the program's repetition is the reference's -/
theorem M11_M12 (m : Int) (es : List E5) : M11 m es = M12 m es := by
  cases h : isG m es with
  | true => exact (M11_is h).one (M12_is h)
  | false => rw [M11_no h, M12_no h]

end Go.AI
