/- PLAIN: the program's repetition is the least one. -/
import Derived.Test.YtaaliglpbjjclaaG9
namespace Go.AI
set_option linter.unusedVariables false
set_option linter.unusedSimpArgs false

section
variable {m : Int} {es : List E5}

/-- the numbers are divided -/
theorem divs11 {of : List (Int × Int)} {part : List Int} {f : Int → Int} {out0 : List Int} {g : Int} (hpl : part.length ≤ 8) (hr : ∀ k ∈ part, 0 ≤ k ∧ k < m) (hnd : part.Nodup) (hg : 1 ≤ g) (hf : ∀ k ∈ part, ∃ t, f k = g * t ∧ 1 ≤ t ∧ t ≤ 152587890625) (n nd : Int) :
    ∀ (d i : Nat) (out : List Int), i + d = part.length → (out.length : Int) = m → (∀ j ∈ part.take i, g * at0 out j = f j ∧ at0 out j ≤ 200) → (∀ j ∈ part.drop i, at0 out j = f j) → (∀ j, 0 ≤ j → j < m → j ∉ part → at0 out j = at0 out0 j) →
    (t11_23 g n nd part.length i m es of out part = some (((), false), [], ()) ∧ ∃ k ∈ part, ∃ t, f k = g * t ∧ 200 < t) ∨
    ∃ out', t11_23 g n nd part.length i m es of out part = t11_5 n (IntKind.wrap .i64 (nd + 1)) m es of out' ∧ (out'.length : Int) = m ∧ (∀ j ∈ part, g * at0 out' j = f j ∧ at0 out' j ≤ 200) ∧ (∀ j, 0 ≤ j → j < m → j ∉ part → at0 out' j = at0 out0 j)
  | 0, i, out, hi, hl, h, h', h'' => by
    rw [t11_23_eq, r11_23]
    have q1 : ¬ ((i : Int) < (part.length : Int)) := by omega
    simp only [q1, decide_false, cond_false]
    rw [List.take_of_length_le (by omega)] at h
    exact .inr ⟨out, rfl, hl, h, h''⟩
  | d + 1, i, out, hi, hl, h, h', h'' => by
    rw [t11_23_eq, r11_23]
    have q1 : ((i : Int) < (part.length : Int)) := by omega
    have q2 : (0 : Int) ≤ i := by omega
    have hlt : i < part.length := by omega
    have hk : part[i] ∈ part := List.getElem_mem hlt
    have htake : part.take (i + 1) = part.take i ++ [part[i]] := List.take_succ_eq_append_getElem hlt
    have hdrop : part.drop i = part[i] :: part.drop (i + 1) := List.drop_eq_getElem_cons hlt
    have hsplit : part = part.take i ++ part[i] :: part.drop (i + 1) := by rw [← hdrop, List.take_append_drop]
    simp only [q1, q2, decide_true, cond_true, Int.toNat_natCast, getD_lt hlt]
    generalize part[i] = k at *
    have hkr := hr k hk
    obtain ⟨t, ht, t1, t2⟩ := hf k hk
    have q4 : k < (out.length : Int) := by omega
    have hgne : g ≠ 0 := by omega
    have hko : at0 out k = g * t := by rw [← ht]; exact h' k (by rw [hdrop]; exact List.mem_cons_self ..)
    have hrd : List.getD out (Int.toNat k) 0 = g * t := hko
    have w1 : IntKind.wrap .i64 t = t := wrap_ok (by omega) (by omega)
    simp only [hkr.1, q4, hgne, ne_eq, not_false_eq_true, decide_true, cond_true, hrd, Int.mul_tdiv_cancel_left _ hgne, w1]
    have hset : ∀ j, 0 ≤ j → at0 (out.set (Int.toNat k) t) j = if k = j then t else at0 out j := fun j a => at0_set hkr.1 a q4
    have hv : List.getD (List.set out (Int.toNat k) t) (Int.toNat k) 0 = t := by
      have := hset k hkr.1
      rw [if_pos rfl] at this; exact this
    have q5 : k < ((List.set out (Int.toNat k) t).length : Int) := by simp; omega
    simp only [q5, decide_true, cond_true, hv]
    by_cases hbig : t > 200
    · simp only [hbig, decide_true, cond_true]
      exact .inl ⟨trivial, k, hk, t, ht, hbig⟩
    · simp only [hbig, decide_false, cond_false]
      rw [wrap_ok (n := (i : Int) + 1) (by omega) (by omega)]
      have hnd' := hnd
      rw [hsplit, List.nodup_append] at hnd'
      obtain ⟨_, n2, n3⟩ := hnd'
      have n2' := List.nodup_cons.1 n2
      refine divs11 hpl hr hnd hg hf n nd d (i + 1) _ (by omega) (by simp; omega) (fun j hj => ?_) (fun j hj => ?_) (fun j a b hj => ?_)
      · rw [htake] at hj
        have hjm : j ∈ part := by
          rcases List.mem_append.1 hj with hj | hj
          · exact List.mem_of_mem_take hj
          · simp at hj; subst hj; exact hk
        rw [hset j (hr j hjm).1]
        rcases List.mem_append.1 hj with hj | hj
        · have hne : k ≠ j := fun e => n3 j hj k (List.mem_cons_self ..) e.symm
          rw [if_neg hne]; exact h j hj
        · simp at hj; subst hj
          rw [if_pos rfl]; exact ⟨ht.symm, by omega⟩
      · have hjm : j ∈ part := List.mem_of_mem_drop hj
        rw [hset j (hr j hjm).1]
        have hne : k ≠ j := fun e => n2'.1 (by rw [e]; exact hj)
        rw [if_neg hne]
        exact h' j (by rw [hdrop]; exact List.mem_cons_of_mem _ hj)
      · rw [hset j a, if_neg (fun e => hj (by rw [← e]; exact hk))]
        exact h'' j a b hj

/-- one part -/
theorem part11 (hm : 0 ≤ m ∧ m ≤ 8) (hG : ∀ e ∈ es, okE m e = true) (hl : es.length ≤ 16) {of0 : List (Int × Int)} {out0 : List Int} (hof0 : (of0.length : Int) = m) (hR : RInv m es out0) (hsame : ∀ j, 0 ≤ j → j < m → (at2 of0 j = (0, 0) ↔ at0 out0 j = 0)) (hbnd : ∀ j, 0 ≤ j → j < m → at0 out0 j ≤ 200) {node : Int} (hn : 0 ≤ node ∧ node < m) (hz : at2 of0 node = (0, 0)) (n : Int) :
    ∃ of part, M50 m es node of0 = some ((), of, part, ()) ∧
      ((t11_11 1 n node part.length 0 m es of out0 part = some (((), false), [], ()) ∧ ¬ ∃ p, GoodV m es p) ∨
      ∃ out, t11_11 1 n node part.length 0 m es of out0 part = t11_5 n (IntKind.wrap .i64 (node + 1)) m es of out ∧ (of.length : Int) = m ∧ RInv m es out ∧ (∀ j, 0 ≤ j → j < m → (at2 of j = (0, 0) ↔ at0 out j = 0)) ∧ at0 out node ≠ 0 ∧ (∀ j, 0 ≤ j → j < m → at0 out0 j ≠ 0 → at0 out j ≠ 0) ∧ ∀ j, 0 ≤ j → j < m → at0 out j ≤ 200) := by
  obtain ⟨of, part, k1, h, hdone⟩ := M50_is hm.2 hof0 hG hl hn hz
  refine ⟨of, part, k1, ?_⟩
  have hc := h.cnt
  have hc2 := count0_le (l := of0)
  have hpl : part.length ≤ 8 := by omega
  have hr : ∀ k ∈ part, 0 ≤ k ∧ k < m := fun k hk => (h.pd k hk).1
  obtain ⟨f1, f2⟩ := f5_le part.length hpl
  obtain ⟨D, D1, D2, D3⟩ := h.den
  obtain ⟨u, a1, a2, a3, a4⟩ := lcm11 (es := es) (of := of) (part := part) hpl h.ol hr (fun k hk => ⟨(h.inn k hk).2.1, D3 k hk⟩) ⟨D1, by omega⟩ n node out0 part.length 0 1 (by omega) (by omega) (Int.one_dvd D) (by simp)
  have huD : u ≤ D := Int.le_of_dvd (by omega) a3
  have hu1 : 1 ≤ u ∧ u ≤ 390625 := ⟨a2, by omega⟩
  have ho1 : ∀ k ∈ part, 1 ≤ (at2 of k).1 ∧ (at2 of k).1 ≤ 390625 := fun k hk => by have := h.inn k hk; omega
  have hu2 : ∀ k ∈ part, 1 ≤ (at2 of k).2 ∧ (at2 of k).2 ∣ u := fun k hk => ⟨(h.inn k hk).2.1, a4 k hk⟩
  obtain ⟨g, out1, b1, b2, b3, b4⟩ := outs11 (es := es) hpl h.ol hR.ql hr hu2 ho1 hu1 n node part.length 0 0 out0 (by omega) hR.ql ⟨Int.le_refl _, by simp, fun x y _ _ => by rw [Int.zero_mul]; exact Int.dvd_zero x⟩ (by intro j a b; simp)
  -- the numbers
  have hval : ∀ k ∈ part, ∃ t, u = (at2 of k).2 * t ∧ 1 ≤ t ∧ t ≤ u ∧ outOf of u k = (at2 of k).1 * t := by
    intro k hk
    obtain ⟨q1, t, ht⟩ := hu2 k hk
    have hne : (at2 of k).2 ≠ 0 := by omega
    have ht1 : 1 ≤ t := by
      by_cases h' : t < 1
      · have : (at2 of k).2 * t ≤ 0 := Int.mul_nonpos_of_nonneg_of_nonpos (by omega) (by omega)
        omega
      · omega
    refine ⟨t, ht, ht1, ?_, by unfold outOf; rw [ht, Int.mul_tdiv_cancel_left _ hne]⟩
    have : 1 * t ≤ (at2 of k).2 * t := Int.mul_le_mul_of_nonneg_right q1 (by omega)
    omega
  have hpos : ∀ k ∈ part, 1 ≤ outOf of u k ∧ outOf of u k ≤ 152587890625 := by
    intro k hk
    obtain ⟨t, t1, t2, t3, t4⟩ := hval k hk
    have := ho1 k hk
    rw [t4]
    have c1 : (at2 of k).1 * t ≤ 390625 * 390625 := Int.mul_le_mul this.2 (by omega) (by omega) (by omega)
    have c2 : 1 * 1 ≤ (at2 of k).1 * t := Int.mul_le_mul this.1 t2 (by omega) (by omega)
    omega
  have hprop1 : ∀ p, BP m es p → ∀ k ∈ part, outOf of u k * p node = u * p k := by
    intro p hp k hk
    obtain ⟨t, t1, t2, t3, t4⟩ := hval k hk
    have := h.prop p hp k hk
    rw [t4]
    calc (at2 of k).1 * t * p node = ((at2 of k).1 * p node) * t := by simp only [Int.mul_assoc, Int.mul_comm, Int.mul_left_comm]
      _ = ((at2 of k).2 * p k) * t := by rw [this]
      _ = ((at2 of k).2 * t) * p k := by simp only [Int.mul_assoc, Int.mul_comm, Int.mul_left_comm]
      _ = u * p k := by rw [← t1]
  have hprop : ∀ p, BP m es p → ∀ i j, i ∈ part → j ∈ part → outOf of u i * p j = outOf of u j * p i := by
    intro p hp i j hi hj
    have h1 := hprop1 p hp i hi
    have h2 := hprop1 p hp j hj
    have h3 := hp.1 node hn.1 hn.2
    refine Int.eq_of_mul_eq_mul_left (show u * p node ≠ 0 by
      have : 1 * 1 ≤ u * p node := Int.mul_le_mul hu1.1 h3 (by omega) (by omega)
      omega) ?_
    calc u * p node * (outOf of u i * p j) = (outOf of u i * p node) * (u * p j) := by simp only [Int.mul_assoc, Int.mul_comm, Int.mul_left_comm]
      _ = (u * p i) * (outOf of u j * p node) := by rw [h1, h2]
      _ = u * p node * (outOf of u j * p i) := by simp only [Int.mul_assoc, Int.mul_comm, Int.mul_left_comm]
  have hgpos : 1 ≤ g := by
    have q1 := b2.dvd node h.nn
    have q2 := hpos node h.nn
    rcases Int.lt_or_eq_of_le b2.nn with q | q
    · omega
    · rw [← q] at q1; have := Int.zero_dvd.1 q1; omega
  have hgne : g ≠ 0 := by omega
  have hfs : ∀ k ∈ part, ∃ t, outOf of u k = g * t ∧ 1 ≤ t ∧ t ≤ 152587890625 := by
    intro k hk
    obtain ⟨t, ht⟩ := b2.dvd k hk
    have := hpos k hk
    have ht1 : 1 ≤ t := by
      by_cases h' : t < 1
      · have : g * t ≤ 0 := Int.mul_nonpos_of_nonneg_of_nonpos (by omega) (by omega)
        omega
      · omega
    have : 1 * t ≤ g * t := Int.mul_le_mul_of_nonneg_right hgpos (by omega)
    exact ⟨t, ht, ht1, by omega⟩
  have hleast : ∀ p, BP m es p → ∀ k ∈ part, ∀ t, outOf of u k = g * t → t ≤ p k := by
    intro p hp k hk t ht
    have hpk := hp.1 k (hr k hk).1 (hr k hk).2
    have e1 : outOf of u k ∣ g * p k := b2.univ _ _ (by omega) fun j hj => ⟨p j, (hprop p hp k j hk hj).symm⟩
    rw [ht] at e1
    exact Int.le_of_dvd (by omega) (Int.dvd_of_mul_dvd_mul_left hgne e1)
  have c0 : t11_11 1 n node part.length 0 m es of out0 part = t11_23 g n node part.length 0 m es of out1 part := a1.trans b1
  rcases divs11 (es := es) (of := of) (out0 := out0) hpl hr h.nd hgpos hfs n node part.length 0 out1 (by omega) b3 (by simp) (by
      intro j hj
      simp only [List.drop_zero] at hj
      have := hr j hj
      rw [b4 j this.1 this.2, if_pos hj]) (by
      intro j a b hj
      rw [b4 j a b, if_neg hj]) with ⟨d1, k, d2, t, d3, d4⟩ | ⟨out, d1, d2, d3, d4⟩
  · left
    refine ⟨c0.trans d1, ?_⟩
    rintro ⟨p, hp1, hp2⟩
    have := hleast p hp1 k d2 t d3
    have := hp2 k (hr k d2).1 (hr k d2).2
    omega
  · right
    refine ⟨out, c0.trans d1, h.ol, ?_, ?_, ?_, ?_, ?_⟩
    all_goals
      have hin : ∀ k ∈ part, ∃ t, outOf of u k = g * t ∧ at0 out k = t ∧ 1 ≤ t ∧ t ≤ 152587890625 := by
        intro k hk
        obtain ⟨t, t1, t2, t3⟩ := hfs k hk
        refine ⟨t, t1, ?_, t2, t3⟩
        have := (d3 k hk).1
        rw [t1] at this
        exact Int.eq_of_mul_eq_mul_left hgne this
      have hnzo : ∀ k ∈ part, at2 of k ≠ (0, 0) := fun k hk hc => by have := h.inn k hk; rw [hc] at this; simp at this
    · -- both ends of an edge lie in the part, or none
      have hends : ∀ e ∈ es, (0 ≤ e.1 ∧ e.1 < m) ∧ (0 ≤ e.2.1 ∧ e.2.1 < m) := by
        intro e he
        have := okE_iff.1 (hG e he)
        omega
      have hclo : ∀ e ∈ es, e.1 ∈ part ↔ e.2.1 ∈ part := by
        intro e he
        obtain ⟨ha, hb⟩ := hends e he
        have one : ∀ x y : Int, (0 ≤ y ∧ y < m) → x ∈ part → at2 of y ≠ (0, 0) → (at0 out0 x = 0 ↔ at0 out0 y = 0) → y ∈ part := by
          intro x y hy hx hne hxy
          by_cases hyp : y ∈ part
          · exact hyp
          · exfalso
            rw [h.out y hy.1 hy.2 hyp] at hne
            have hx0 := (h.pd x hx).2
            have q1 := (hsame x (hr x hx).1 (hr x hx).2).1 hx0
            have q2 := hxy.1 q1
            exact hne ((hsame y hy.1 hy.2).2 q2)
        constructor
        · intro hx; exact one e.1 e.2.1 hb hx ((hdone _ hx e he).1 rfl) (hR.clo e he)
        · intro hx; exact one e.2.1 e.1 ha hx ((hdone _ hx e he).2 rfl) (hR.clo e he).symm
      refine ⟨d2, ?_, ?_, ?_, ?_⟩
      · intro i a b
        by_cases hi : i ∈ part
        · obtain ⟨t, t1, t2, t3, t4⟩ := hin i hi
          omega
        · rw [d4 i a b hi]; exact hR.pos i a b
      · intro e he
        obtain ⟨ha, hb⟩ := hends e he
        by_cases hi : e.1 ∈ part
        · have hj := (hclo e he).1 hi
          obtain ⟨t, t1, t2, t3, t4⟩ := hin _ hi
          obtain ⟨s, s1, s2, s3, s4⟩ := hin _ hj
          rw [t2, s2]
          constructor <;> intro <;> omega
        · have hj : e.2.1 ∉ part := fun hc => hi ((hclo e he).2 hc)
          rw [d4 _ ha.1 ha.2 hi, d4 _ hb.1 hb.2 hj]; exact hR.clo e he
      · intro p hp i a b
        by_cases hi : i ∈ part
        · obtain ⟨t, t1, t2, t3, t4⟩ := hin i hi
          rw [t2]; exact hleast p hp i hi t t1
        · rw [d4 i a b hi]; exact hR.le p hp i a b
      · intro p hp e he
        obtain ⟨ha, hb⟩ := hends e he
        by_cases hi : e.1 ∈ part
        · have hj := (hclo e he).1 hi
          obtain ⟨t, t1, t2, t3, t4⟩ := hin _ hi
          obtain ⟨s, s1, s2, s3, s4⟩ := hin _ hj
          have h7 := hprop p hp _ _ hi hj
          rw [t1, s1, Int.mul_assoc, Int.mul_assoc] at h7
          have h7 := Int.eq_of_mul_eq_mul_left hgne h7
          have h8 := hp.2 e he
          have h9 := hp.1 e.2.1 hb.1 hb.2
          rw [t2, s2]
          refine Int.eq_of_mul_eq_mul_left (show p e.2.1 ≠ 0 by omega) ?_
          calc p e.2.1 * (t * e.2.2.1) = (t * p e.2.1) * e.2.2.1 := by simp only [Int.mul_assoc, Int.mul_comm, Int.mul_left_comm]
            _ = (s * p e.1) * e.2.2.1 := by rw [h7]
            _ = s * (p e.1 * e.2.2.1) := by simp only [Int.mul_assoc]
            _ = s * (p e.2.1 * e.2.2.2.1) := by rw [h8]
            _ = p e.2.1 * (s * e.2.2.2.1) := by simp only [Int.mul_assoc, Int.mul_comm, Int.mul_left_comm]
        · have hj : e.2.1 ∉ part := fun hc => hi ((hclo e he).2 hc)
          rw [d4 _ ha.1 ha.2 hi, d4 _ hb.1 hb.2 hj]; exact hR.bal p hp e he
    · intro j a b
      by_cases hi : j ∈ part
      · obtain ⟨t, t1, t2, t3, t4⟩ := hin j hi
        constructor
        · intro hc; exact absurd hc (hnzo j hi)
        · intro hc; omega
      · rw [h.out j a b hi, d4 j a b hi]; exact hsame j a b
    · obtain ⟨t, t1, t2, t3, t4⟩ := hin _ h.nn
      omega
    · intro j a b hj
      by_cases hi : j ∈ part
      · obtain ⟨t, t1, t2, t3, t4⟩ := hin j hi
        omega
      · rw [d4 j a b hi]; exact hj
    · intro j a b
      by_cases hi : j ∈ part
      · exact (d3 j hi).2
      · rw [d4 j a b hi]; exact hbnd j a b

end
end Go.AI
