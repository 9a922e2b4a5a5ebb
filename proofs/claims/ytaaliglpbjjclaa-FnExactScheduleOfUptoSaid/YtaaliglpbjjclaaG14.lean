/- PLAIN: what the laws do with arguments and results: copies, equality, marks. -/
import Derived.Test.YtaaliglpbjjclaaG13
namespace Go.AI
set_option linter.unusedVariables false
set_option linter.unusedSimpArgs false

theorem M61_is {es : List E5} {x : Int} (hl : es.length ≤ 1048576) (hx : 0 ≤ x ∧ x ≤ 1048576) : M61 es x = some (bif decide (x - es.length < 0) then -1 else x - es.length, ()) := by
  rw [M61_eq, r61, wrap_ok (n := x - (es.length : Int)) (by omega) (by omega)]
  by_cases h : x - (es.length : Int) < 0 <;> simp [h]
theorem M17_is {es : List E5} {m x : Int} (hl : es.length ≤ 1048576) (hx : 0 ≤ x ∧ x ≤ 1048576) : M17 m es x = some (bif decide (x - es.length < 0) then -1 else x - es.length, ()) := by
  rw [M17_eq, r17, M61_is hl hx, bind_some']
  by_cases h : x - (es.length : Int) < 0 <;> simp [h]

/-! ### copies -/

theorem t62_is {l : List E5} (hl : l.length ≤ 1048576) : ∀ (S Q : List E5) (R : List E5), l = Q ++ S → R.length = S.length → t62_3 l (Q.length : Nat) (Q ++ R) = some ((), l, ())
  | [], Q, [], h, _ => by
    rw [t62_3_eq, r62_3]
    have : l.length = Q.length := by rw [h]; simp
    have h1 : ¬ ((Q.length : Int) < (l.length : Int)) := by omega
    simp only [h1, decide_false, cond_false]
    rw [h]
  | [], _, _ :: _, _, hr => by simp at hr
  | _ :: _, _, [], _, hr => by simp at hr
  | e :: S, Q, x :: R, h, hr => by
    rw [t62_3_eq, r62_3]
    have hlen : l.length = Q.length + (S.length + 1) := by rw [h]; simp
    have h1 : ((Q.length : Int) < (l.length : Int)) := by omega
    have h2 : (0 : Int) ≤ (Q.length : Nat) := by omega
    have h3 : ((Q.length : Int) < ((Q ++ x :: R).length : Int)) := by simp; omega
    have g1 : l.getD Q.length (0, 0, 0, 0, 0) = e := by rw [h]; exact getD_app rfl
    have g3 : ∀ v, (Q ++ x :: R).set Q.length v = Q ++ v :: R := fun v => set_app rfl
    simp only [h1, h2, h3, decide_true, cond_true, Int.toNat_natCast, g1, M123_eq, r123, bind_some', g3]
    rw [wrap_ok (n := (Q.length : Int) + 1) (by omega) (by omega)]
    have ih := t62_is hl S (Q ++ [e]) R (by rw [h]; simp) (by simpa using hr)
    have e1 : (((Q ++ [e]).length : Nat) : Int) = (Q.length : Int) + 1 := by simp
    rw [e1] at ih
    rw [snoc_app]
    exact ih
theorem M62_is {l : List E5} (hl : l.length ≤ 1048576) : M62 l = some ((), l, ()) := by
  rw [M62_eq, r62]
  simp only [decide_true, cond_true, Int.toNat_natCast]
  rw [fit_ok (by omega), cond_true]
  exact t62_is hl l [] (List.replicate l.length (0, 0, 0, 0, 0)) rfl (by simp)
theorem M18_is {m : Int} {l : List E5} (hl : l.length ≤ 1048576) : M18 m l = some ((m, ()), l, ()) := by
  rw [M18_eq, r18, M62_is hl]; rfl

/-! ### equality of what is the same -/

theorem t19_is {l : List Int} (hl : l.length ≤ 1048576) : ∀ (d i : Nat), i + d = l.length → t19_4 l l i = some (true, ())
  | 0, i, h => by
    rw [t19_4_eq, r19_4]
    have h1 : ¬ ((i : Int) < (l.length : Int)) := by omega
    simp only [h1, decide_false, cond_false]
  | d + 1, i, h => by
    rw [t19_4_eq, r19_4]
    have h1 : ((i : Int) < (l.length : Int)) := by omega
    have h2 : (0 : Int) ≤ i := by omega
    simp only [h1, h2, decide_true, cond_true, bne_self_eq_false, cond_false]
    rw [wrap_ok (n := (i : Int) + 1) (by omega) (by omega)]
    exact t19_is hl d (i + 1) (by omega)
theorem M19_is {l : List Int} (hl : l.length ≤ 1048576) : M19 l l = some (true, ()) := by
  rw [M19_eq, r19]
  simp only [bne_self_eq_false, cond_false]
  exact t19_is hl l.length 0 (by omega)

theorem t63_is {l : List E5} (hl : l.length ≤ 1048576) : ∀ (d i : Nat), i + d = l.length → t63_4 l l i = some (true, ())
  | 0, i, h => by
    rw [t63_4_eq, r63_4]
    have h1 : ¬ ((i : Int) < (l.length : Int)) := by omega
    simp only [h1, decide_false, cond_false]
  | d + 1, i, h => by
    rw [t63_4_eq, r63_4]
    have h1 : ((i : Int) < (l.length : Int)) := by omega
    have h2 : (0 : Int) ≤ i := by omega
    simp only [h1, h2, decide_true, cond_true, M124_eq, r124, bne_self_eq_false, cond_false, bind_some', Bool.not_true]
    rw [wrap_ok (n := (i : Int) + 1) (by omega) (by omega)]
    exact t63_is hl d (i + 1) (by omega)
theorem M20_is {m : Int} {l : List E5} (hl : l.length ≤ 1048576) : M20 m l m l = some (true, ()) := by
  rw [M20_eq, r20, M63_eq, r63]
  simp only [bne_self_eq_false, cond_false]
  have := t63_is hl l.length 0 (by omega)
  have : t63_4 l l 0 = some (true, ()) := this
  rw [this]; rfl

/-! ### marks -/

theorem t64_is {n : Nat} (hn : n ≤ 1048576) : ∀ (d i : Nat) (k : Int) (l : List E5), l.length = n → i + d = n → 0 ≤ k ∧ k ≤ 1 + 5 * i → ∃ k' l', t64_2 k i l = some (k', l', ()) ∧ 0 ≤ k'
  | 0, i, k, l, hl, h, hk => by
    rw [t64_2_eq, r64_2]
    have h1 : ¬ ((i : Int) < (l.length : Int)) := by omega
    simp only [h1, decide_false, cond_false, t64_14_eq, r64_14]
    exact ⟨k, l, rfl, hk.1⟩
  | d + 1, i, k, l, hl, h, hk => by
    have h2 : (0 : Int) ≤ i := by omega
    have h1 : ∀ l : List E5, l.length = n → ((i : Int) < (l.length : Int)) := by intro l hl; omega
    have w1 := wrap_ok (n := k + 1) (by omega) (by omega)
    have w2 := wrap_ok (n := k + 1 + 1) (by omega) (by omega)
    have w3 := wrap_ok (n := k + 1 + 1 + 1) (by omega) (by omega)
    have w4 := wrap_ok (n := k + 1 + 1 + 1 + 1) (by omega) (by omega)
    have w5 := wrap_ok (n := k + 1 + 1 + 1 + 1 + 1) (by omega) (by omega)
    have w6 := wrap_ok (n := (i : Int) + 1) (by omega) (by omega)
    have s1 : ∀ k l, l.length = n → ∃ l', t64_4 k i l = t64_5 k i l' ∧ l'.length = n := by
      intro k l hl
      rw [t64_4_eq, r64_4]; simp only [h2, h1 l hl, decide_true, cond_true]
      exact ⟨_, rfl, by simpa using hl⟩
    have s2 : ∀ k l, l.length = n → ∃ l', t64_6 k i l = t64_7 k i l' ∧ l'.length = n := by
      intro k l hl
      rw [t64_6_eq, r64_6]; simp only [h2, h1 l hl, decide_true, cond_true]
      exact ⟨_, rfl, by simpa using hl⟩
    have s3 : ∀ k l, l.length = n → ∃ l', t64_8 k i l = t64_9 k i l' ∧ l'.length = n := by
      intro k l hl
      rw [t64_8_eq, r64_8]; simp only [h2, h1 l hl, decide_true, cond_true]
      exact ⟨_, rfl, by simpa using hl⟩
    have s4 : ∀ k l, l.length = n → ∃ l', t64_10 k i l = t64_11 k i l' ∧ l'.length = n := by
      intro k l hl
      rw [t64_10_eq, r64_10]; simp only [h2, h1 l hl, decide_true, cond_true]
      exact ⟨_, rfl, by simpa using hl⟩
    have s5 : ∀ k l, l.length = n → ∃ l', t64_12 k i l = t64_13 k i l' ∧ l'.length = n := by
      intro k l hl
      rw [t64_12_eq, r64_12]; simp only [h2, h1 l hl, decide_true, cond_true]
      exact ⟨_, rfl, by simpa using hl⟩
    rw [t64_2_eq, r64_2]
    simp only [h1 l hl, decide_true, cond_true]
    obtain ⟨l1, e1, hl1⟩ := s1 k l hl
    rw [e1, t64_5_eq, r64_5, w1]
    obtain ⟨l2, e2, hl2⟩ := s2 (k + 1) l1 hl1
    rw [e2, t64_7_eq, r64_7, w2]
    obtain ⟨l3, e3, hl3⟩ := s3 (k + 1 + 1) l2 hl2
    rw [e3, t64_9_eq, r64_9, w3]
    obtain ⟨l4, e4, hl4⟩ := s4 (k + 1 + 1 + 1) l3 hl3
    rw [e4, t64_11_eq, r64_11, w4]
    obtain ⟨l5, e5, hl5⟩ := s5 (k + 1 + 1 + 1 + 1) l4 hl4
    rw [e5, t64_13_eq, r64_13, w5, t64_3_eq, r64_3, w6]
    exact t64_is hn d (i + 1) _ l5 hl5 (by omega) (by omega)
theorem M21_is {m : Int} {l : List E5} (hl : l.length ≤ 1048576) : ∃ k' l', M21 m 1 l = some (k', l', ()) ∧ 0 ≤ k' := by
  rw [M21_eq, r21, M64_eq, r64, t64_1_eq, r64_1]
  obtain ⟨k', l', h1, h2⟩ := t64_is hl l.length 0 1 l rfl (by omega) (by omega)
  have h1 : t64_2 1 0 l = some (k', l', ()) := h1
  rw [h1]
  exact ⟨k', l', rfl, h2⟩

/-- marks: one number behind the other -/
def marks : Int → Nat → List Int
  | _, 0 => []
  | k, n + 1 => k :: marks (k + 1) n
theorem marks_length : ∀ (k : Int) (n : Nat), (marks k n).length = n
  | _, 0 => rfl
  | k, n + 1 => by simp [marks, marks_length]

theorem t22_is : ∀ (R P : List Int) (k : Int), P.length + R.length ≤ 1048576 → 0 ≤ k ∧ k ≤ 1 + P.length → t22_2 k (P.length : Nat) (P ++ R) = some (k + R.length, P ++ marks k R.length, ())
  | [], P, k, h, hk => by
    rw [t22_2_eq, r22_2]
    have h1 : ¬ ((P.length : Int) < ((P ++ []).length : Int)) := by simp
    simp only [h1, decide_false, cond_false, marks, List.length_nil]
    simp
  | x :: R, P, k, h, hk => by
    simp only [List.length_cons] at h
    rw [t22_2_eq, r22_2]
    have h1 : ((P.length : Int) < ((P ++ x :: R).length : Int)) := by simp; omega
    have h2 : (0 : Int) ≤ (P.length : Nat) := by omega
    have g3 : ∀ v, (P ++ x :: R).set P.length v = P ++ v :: R := fun v => set_app rfl
    simp only [h1, h2, decide_true, cond_true, Int.toNat_natCast, g3]
    rw [wrap_ok (n := (P.length : Int) + 1) (by omega) (by omega), wrap_ok (n := k + 1) (by omega) (by omega)]
    have ih := t22_is R (P ++ [k]) (k + 1) (by simp; omega) (by simp; omega)
    have e1 : (((P ++ [k]).length : Nat) : Int) = (P.length : Int) + 1 := by simp
    rw [e1] at ih
    rw [snoc_app, ih]
    simp only [marks, List.length_cons, List.append_assoc, List.cons_append, List.nil_append]
    congr 2
    omega
theorem M22_is {l : List Int} (hl : l.length ≤ 1048576) : M22 1 l = some ((1 + (l.length : Int)), marks 1 l.length, ()) := by
  rw [M22_eq, r22]
  exact t22_is l [] 1 (by simpa using hl) (by simp)

theorem t23_is : ∀ (n : Nat) (P : List Int) (k : Int), P.length + n ≤ 1048576 → 0 ≤ k ∧ k ≤ 1 + P.length → t23_2 (P ++ marks k n) k (P.length : Nat) = some (k + n, ())
  | 0, P, k, h, hk => by
    rw [t23_2_eq, r23_2]
    have h1 : ¬ ((P.length : Int) < ((P ++ marks k 0).length : Int)) := by simp [marks]
    simp only [h1, decide_false, cond_false]
    simp
  | n + 1, P, k, h, hk => by
    rw [t23_2_eq, r23_2]
    have h1 : ((P.length : Int) < ((P ++ marks k (n + 1)).length : Int)) := by simp [marks_length]; omega
    have h2 : (0 : Int) ≤ (P.length : Nat) := by omega
    have g2 : (P ++ marks k (n + 1)).getD P.length 0 = k := getD_app rfl
    simp only [h1, h2, decide_true, cond_true, Int.toNat_natCast, g2, bne_self_eq_false, cond_false]
    rw [wrap_ok (n := (P.length : Int) + 1) (by omega) (by omega), wrap_ok (n := k + 1) (by omega) (by omega)]
    have ih := t23_is n (P ++ [k]) (k + 1) (by simp; omega) (by simp; omega)
    have e1 : (((P ++ [k]).length : Nat) : Int) = (P.length : Int) + 1 := by simp
    rw [e1] at ih
    have e2 : P ++ marks k (n + 1) = (P ++ [k]) ++ marks (k + 1) n := by simp [marks]
    rw [e2, ih]
    congr 2
    omega
theorem M23_is {n : Nat} (hn : n ≤ 1048576) : M23 (marks 1 n) 1 = some ((1 + (n : Int)), ()) := by
  rw [M23_eq, r23]
  exact t23_is n [] 1 (by simpa using hn) (by simp)

/-! ### the law -/

theorem sched_ok {m : Int} {es : List E5} (hm : 0 ≤ m ∧ m ≤ 8) (hG : ∀ e ∈ es, okE m e = true) : ∀ (n : Nat) (often toks out : List Int), SS m es n often toks out → ∃ d, sched m es n often toks out = some d ∧ d.2.1.length ≤ 1600
  | n, often, toks, out, h => by
    cases hp : pick es often toks m.toNat 0 with
    | none =>
      rw [sched_none hp]
      have := h.sz
      cases decide (sumI often > 0) with
      | true => exact ⟨_, rfl, by simp⟩
      | false => exact ⟨_, rfl, by simp; omega⟩
    | some k =>
      obtain ⟨n', rfl, _, _, _, h'⟩ := h.step hm hG hp
      rw [sched_some hp]
      exact sched_ok hm hG n' _ _ _ h'

/-- what the reference's schedule is -/
theorem M14_sched {m : Int} {es : List E5} (hg : isG m es = true) : (M14 m es = some (((), false), [], ()) ∧ ¬ ∃ p, GoodV m es p) ∨
    ∃ q, Least m es q ∧ M12 m es = some (((), true), q, ()) ∧ SS m es (sumI q).toNat q (tok0 es) [] ∧ M14 m es = sched m es (sumI q).toNat q (tok0 es) [] := by
  obtain ⟨hm, hl, hG⟩ := isG_iff.1 hg
  rcases M12_is hg with ⟨q, hq, hL⟩ | ⟨hn, hq⟩
  · right
    have hql := hL.ql
    have hb : ∀ x ∈ q, 0 ≤ x ∧ x ≤ 200 := by
      intro x hx
      obtain ⟨i, hi, rfl⟩ := List.getElem_of_mem hx
      have e : at0 q i = q[i] := by unfold at0; rw [Int.toNat_natCast, getD_lt hi]
      have h1 := hL.good.1.1 i (by omega) (by omega)
      have h2 := hL.good.2 i (by omega) (by omega)
      omega
    have hs0 : 0 ≤ sumI q := sumI_nonneg fun x hx => (hb x hx).1
    have hs1 : sumI q ≤ 200 * q.length := sumI_le fun x hx => (hb x hx).2
    have S0 : SS m es (sumI q).toNat q (tok0 es) [] := by
      refine ⟨hql, fun x hx => (hb x hx).1, by omega, by simp [tok0], ?_, by simp; omega⟩
      intro t ht
      simp only [tok0, List.mem_map] at ht
      obtain ⟨e, he, rfl⟩ := ht
      have := okE_iff.1 (hG e he)
      simp; omega
    refine ⟨q, hL, hq, S0, ?_⟩
    rw [M14_eq, r14, hq]
    simp only [bind_some', Bool.not_true, cond_false]
    have h6 := sum14 (m := m) (es := es) (q := q) (by omega) hb q.length 0 0 (by omega) (by omega) (by simp)
    have h6 : t14_6 0 q.length 0 m es q = Option.bind (M58 m es) fun d37 => t14_12 (sumI q) m es q (Prod.fst (Prod.snd d37)) [] := h6
    rw [h6, M58_is hl, bind_some']
    have h14 := sched14 hm hl hG _ _ _ _ S0
    rw [show (((sumI q).toNat : Nat) : Int) = sumI q by omega] at h14
    exact h14
  · left
    rw [M14_eq, r14, hq]
    exact ⟨rfl, hn⟩

theorem M14_some (m : Int) (es : List E5) : ∃ d, M14 m es = some d ∧ d.2.1.length ≤ 1600 := by
  cases hg : isG m es with
  | false => rw [M14_eq, r14, M12_no hg]; exact ⟨_, rfl, by simp⟩
  | true =>
    obtain ⟨hm, hl, hG⟩ := isG_iff.1 hg
    rcases M14_sched hg with ⟨h, _⟩ | ⟨q, _, _, S0, h⟩
    · rw [h]; exact ⟨_, rfl, by simp⟩
    · rw [h]; exact sched_ok hm hG _ _ _ _ S0

theorem law4 (m : Int) (es : List E5) (hl : es.length ≤ 1048576) : M4 m es = some (true, ()) := by
  rw [M4_eq, r4, M17_is hl (by omega), bind_some']
  by_cases h : (1048576 : Int) - es.length < 0
  · simp [h]
  · have h' : ¬ ((1048576 : Int) - es.length < 0) := h
    simp only [h', decide_false, cond_false]
    obtain ⟨d, hd, hdl⟩ := M14_some m es
    obtain ⟨k', l', hk, hk0⟩ := M21_is (m := m) hl
    have hk1 : ¬ k' < 0 := by omega
    have h1 : ¬ ((1 : Int) + d.2.1.length < 0) := by omega
    simp only [M18_is hl, bind_some', M13_M14, hd, M19_is (l := d.2.1) (by omega), M20_is hl, hk, hk1, M22_is (l := d.2.1) (by omega), M23_is (n := d.2.1.length) (by omega), h1, Bool.not_true, cond_false, decide_false, bne_self_eq_false]
    simp

end Go.AI
