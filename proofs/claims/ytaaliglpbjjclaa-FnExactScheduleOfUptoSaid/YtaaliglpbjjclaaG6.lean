/- PLAIN: the reference's repetition is the least one. -/
import Derived.Test.YtaaliglpbjjclaaG5
namespace Go.AI
set_option linter.unusedVariables false
set_option linter.unusedSimpArgs false

/-- numbers that balance all edges, none of which is too great -/
def GoodV (m : Int) (es : List E5) (p : Int → Int) : Prop := BP m es p ∧ ∀ i, 0 ≤ i → i < m → p i ≤ 200
/-- the least ones -/
structure Least (m : Int) (es : List E5) (q : List Int) : Prop where
  ql : (q.length : Int) = m
  good : GoodV m es (at0 q)
  least : ∀ p, BP m es p → ∀ i, 0 ≤ i → i < m → at0 q i ≤ p i

theorem Least.one {m : Int} {es : List E5} {q q' : List Int} (h : Least m es q) (h' : Least m es q') : q = q' := by
  have hl : q.length = q'.length := by have := h.ql; have := h'.ql; omega
  refine List.ext_getElem hl fun i h1 h2 => ?_
  have a := h.least _ h'.good.1 i (by omega) (by have := h.ql; omega)
  have b := h'.least _ h.good.1 i (by omega) (by have := h.ql; omega)
  have e1 : at0 q i = q[i] := by unfold at0; rw [Int.toNat_natCast, getD_lt h1]
  have e2 : at0 q' i = q'[i] := by unfold at0; rw [Int.toNat_natCast, getD_lt h2]
  omega

structure RInv (m : Int) (es : List E5) (q : List Int) : Prop where
  ql : (q.length : Int) = m
  pos : ∀ i, 0 ≤ i → i < m → 0 ≤ at0 q i ∧ at0 q i ≤ 152587890625
  clo : ∀ e ∈ es, at0 q e.1 = 0 ↔ at0 q e.2.1 = 0
  le : ∀ p, BP m es p → ∀ i, 0 ≤ i → i < m → at0 q i ≤ p i
  bal : ∀ p, BP m es p → ∀ e ∈ es, at0 q e.1 * e.2.2.1 = at0 q e.2.1 * e.2.2.2.1

theorem nodes12 {m : Int} {es : List E5} (hm : 0 ≤ m ∧ m ≤ 8) (hG : ∀ e ∈ es, okE m e = true) (hl : es.length ≤ 16) :
    ∀ (d k : Nat) (q : List Int), (k : Int) + d = m → RInv m es q → (∀ j : Int, 0 ≤ j → j < k → at0 q j ≠ 0) →
    ∃ q', t12_5 m k m es q = t12_11 es es.length 0 q' ∧ RInv m es q' ∧ ∀ j, 0 ≤ j → j < m → at0 q' j ≠ 0
  | 0, k, q, hk, h, hd => by
    rw [t12_5_eq, r12_5]
    have h1 : ¬ ((k : Int) < m) := by omega
    simp only [h1, decide_false, cond_false]
    exact ⟨q, rfl, h, fun j a b => hd j a (by omega)⟩
  | d + 1, k, q, hk, h, hd => by
    rw [t12_5_eq, r12_5]
    have h1 : ((k : Int) < m) := by omega
    have h2 : (0 : Int) ≤ k := by omega
    have h3 : ((k : Int) < (q.length : Int)) := by have := h.ql; omega
    simp only [h1, h2, h3, decide_true, cond_true]
    rw [wrap_ok (n := (k : Int) + 1) (by omega) (by omega)]
    have hrd : List.getD q (Int.toNat k) 0 = at0 q k := rfl
    rw [hrd]
    by_cases hz : at0 q k = 0
    · simp only [hz, beq_self_eq_true, cond_true]
      obtain ⟨q', part, k1, k2, k3, k4, k5, k6, k7, k8, k9⟩ := M53_is hm hG h.clo hl h.ql ⟨h2, h1⟩ hz
      rw [k1, bind_some']
      have hend : ∀ e ∈ es, (0 ≤ e.1 ∧ e.1 < m) ∧ (0 ≤ e.2.1 ∧ e.2.1 < m) := by
        intro e he
        have := okE_iff.1 (hG e he)
        omega
      have hnz : ∀ i, 0 ≤ i → i < m → atB part i = true → at0 q' i ≠ 0 := fun i a b c => by have := k5 i a b c; omega
      refine nodes12 hm hG hl d (k + 1) q' (by omega) ⟨k2, ?_, ?_, ?_, ?_⟩ ?_
      · intro i a b
        cases hp : atB part i with
        | true => have := k5 i a b hp; omega
        | false => rw [k8 i a b hp]; exact h.pos i a b
      · intro e he
        obtain ⟨ha, hb⟩ := hend e he
        have hc : atB part e.1 = atB part e.2.1 := k4 e he
        cases hp : atB part e.1 with
        | true =>
          have n1 := hnz _ ha.1 ha.2 hp
          have n2 := hnz _ hb.1 hb.2 (by rw [← hc]; exact hp)
          simp [n1, n2]
        | false =>
          rw [k8 _ ha.1 ha.2 hp, k8 _ hb.1 hb.2 (by rw [← hc]; exact hp)]
          exact h.clo e he
      · intro p hP i a b
        cases hp : atB part i with
        | true => exact k6 p hP i a b hp
        | false => rw [k8 i a b hp]; exact h.le p hP i a b
      · intro p hP e he
        obtain ⟨ha, hb⟩ := hend e he
        have hc : atB part e.1 = atB part e.2.1 := k4 e he
        cases hp : atB part e.1 with
        | true =>
          have hpb : atB part e.2.1 = true := by rw [← hc]; exact hp
          have h7 := k7 p hP e.1 e.2.1 ha.1 ha.2 hb.1 hb.2 hp hpb
          have h8 := hP.2 e he
          have h9 := hP.1 e.2.1 hb.1 hb.2
          refine Int.eq_of_mul_eq_mul_left (show p e.2.1 ≠ 0 by omega) ?_
          calc p e.2.1 * (at0 q' e.1 * e.2.2.1) = (at0 q' e.1 * p e.2.1) * e.2.2.1 := by simp only [Int.mul_assoc, Int.mul_comm, Int.mul_left_comm]
            _ = (at0 q' e.2.1 * p e.1) * e.2.2.1 := by rw [h7]
            _ = at0 q' e.2.1 * (p e.1 * e.2.2.1) := by simp only [Int.mul_assoc]
            _ = at0 q' e.2.1 * (p e.2.1 * e.2.2.2.1) := by rw [h8]
            _ = p e.2.1 * (at0 q' e.2.1 * e.2.2.2.1) := by simp only [Int.mul_assoc, Int.mul_comm, Int.mul_left_comm]
        | false =>
          rw [k8 _ ha.1 ha.2 hp, k8 _ hb.1 hb.2 (by rw [← hc]; exact hp)]
          exact h.bal p hP e he
      · intro j a b
        by_cases e : j = k
        · subst e; exact hnz _ h2 h1 k3
        · have hj := hd j a (by omega)
          cases hp : atB part j with
          | true => exact hnz j a (by omega) hp
          | false => rw [k8 j a (by omega) hp]; exact hj
    · have : (at0 q k == 0) = false := by simpa using hz
      simp only [this, cond_false]
      refine nodes12 hm hG hl d (k + 1) q (by omega) h fun j a b => ?_
      by_cases e : j = k
      · subst e; exact hz
      · exact hd j a (by omega)

/-- is an edge balanced? -/
def balE (q : List Int) (e : E5) : Bool := decide (at0 q e.1 * e.2.2.1 = at0 q e.2.1 * e.2.2.2.1)

theorem edges12 {m : Int} {es : List E5} {q : List Int} (hm : 0 ≤ m ∧ m ≤ 8) (hG : ∀ e ∈ es, okE m e = true) (hl : es.length ≤ 16) (hq : (q.length : Int) = m) (hb : ∀ i, 0 ≤ i → i < m → 0 ≤ at0 q i ∧ at0 q i ≤ 152587890625) :
    ∀ (d i : Nat), i + d = es.length → t12_11 es es.length i q = if (es.drop i).all (balE q) = true then t12_17 m 0 q else some (((), false), [], ())
  | 0, i, hi => by
    rw [t12_11_eq, r12_11]
    have h1 : ¬ ((i : Int) < (es.length : Int)) := by omega
    simp only [h1, decide_false, cond_false]
    rw [List.drop_eq_nil_of_le (by omega), hq]
    simp
  | d + 1, i, hi => by
    rw [t12_11_eq, r12_11]
    have h1 : ((i : Int) < (es.length : Int)) := by omega
    have h2 : (0 : Int) ≤ i := by omega
    have hlt : i < es.length := by omega
    have ih := edges12 hm hG hl hq hb d (i + 1) (by omega)
    have hok := okE_iff.1 (hG _ (List.getElem_mem hlt))
    rw [List.drop_eq_getElem_cons hlt]
    simp only [h1, h2, decide_true, cond_true, Int.toNat_natCast, getD_lt hlt, List.all_cons]
    rw [wrap_ok (n := (i : Int) + 1) (by omega) (by omega)]
    generalize es[i] = e at *
    obtain ⟨a, b, one, two, tok⟩ := e
    simp only [balE] at hok ⊢
    obtain ⟨ha, hb', ho, ht, _⟩ := hok
    have e1 : a < (q.length : Int) := by omega
    have e2 : b < (q.length : Int) := by omega
    have ba := hb a ha.1 (by omega)
    have bb := hb b hb'.1 (by omega)
    have w1 : IntKind.wrap .i64 (List.getD q (Int.toNat a) 0 * one) = at0 q a * one := by
      have : at0 q a * one ≤ at0 q a * 5 := Int.mul_le_mul_of_nonneg_left ho.2 ba.1
      have : 0 ≤ at0 q a * one := Int.mul_nonneg ba.1 (by omega)
      exact wrap_ok (n := at0 q a * one) (by omega) (by omega)
    have w2 : IntKind.wrap .i64 (List.getD q (Int.toNat b) 0 * two) = at0 q b * two := by
      have : at0 q b * two ≤ at0 q b * 5 := Int.mul_le_mul_of_nonneg_left ht.2 bb.1
      have : 0 ≤ at0 q b * two := Int.mul_nonneg bb.1 (by omega)
      exact wrap_ok (n := at0 q b * two) (by omega) (by omega)
    simp only [ha.1, hb'.1, e1, e2, decide_true, cond_true, w1, w2]
    by_cases hh : at0 q a * one = at0 q b * two
    · have : (at0 q a * one != at0 q b * two) = false := by simpa using hh
      simp only [this, cond_false]
      simp only [hh, decide_true, Bool.true_and]
      exact ih
    · have : (at0 q a * one != at0 q b * two) = true := by simpa using hh
      simp [this, hh]

open Classical in
/-- is none too great, from one on? -/
noncomputable def leB (m : Int) (q : List Int) (i : Int) : Bool := decide (∀ j, i ≤ j → j < m → at0 q j ≤ 200)
theorem leB_iff {m i : Int} {q : List Int} : leB m q i = true ↔ ∀ j, i ≤ j → j < m → at0 q j ≤ 200 := by simp [leB]

theorem most12 {m : Int} {q : List Int} (hm : m ≤ 8) (hq : (q.length : Int) = m) :
    ∀ (d i : Nat), (i : Int) + d = m → t12_17 m i q = if leB m q i then some (((), true), q, ()) else some (((), false), [], ())
  | 0, i, hi => by
    rw [t12_17_eq, r12_17]
    have h1 : ¬ ((i : Int) < m) := by omega
    simp only [h1, decide_false, cond_false]
    rw [if_pos (leB_iff.2 fun j a b => by omega)]
  | d + 1, i, hi => by
    rw [t12_17_eq, r12_17]
    have h1 : ((i : Int) < m) := by omega
    have h2 : (0 : Int) ≤ i := by omega
    have h3 : ((i : Int) < (q.length : Int)) := by omega
    have hrd : List.getD q (Int.toNat i) 0 = at0 q i := rfl
    simp only [h1, h2, h3, decide_true, cond_true, hrd]
    rw [wrap_ok (n := (i : Int) + 1) (by omega) (by omega)]
    by_cases hh : at0 q i > 200
    · simp only [hh, decide_true, cond_true]
      rw [if_neg]; intro hc; have := leB_iff.1 hc i (Int.le_refl _) h1; omega
    · simp only [hh, decide_false, cond_false]
      refine (most12 hm hq d (i + 1) (by omega)).trans ?_
      have : leB m q ((i + 1 : Nat) : Int) = leB m q i := by
        rw [Bool.eq_iff_iff, leB_iff, leB_iff]
        constructor
        · intro h j a b
          by_cases e : j = i
          · subst e; omega
          · exact h j (by omega) b
        · intro h j a b; exact h j (by omega) b
      rw [this]

/-- what both programs answer -/
def RepIs (m : Int) (es : List E5) (r : Option ((Unit × Bool) × List Int × Unit)) : Prop :=
  (∃ q, r = some (((), true), q, ()) ∧ Least m es q) ∨ ((¬ ∃ p, GoodV m es p) ∧ r = some (((), false), [], ()))

theorem RepIs.one {m : Int} {es : List E5} {r r' : Option ((Unit × Bool) × List Int × Unit)} (h : RepIs m es r) (h' : RepIs m es r') : r = r' := by
  rcases h with ⟨q, rfl, hq⟩ | ⟨hn, rfl⟩
  · rcases h' with ⟨q', rfl, hq'⟩ | ⟨hn, rfl⟩
    · rw [hq.one hq']
    · exact absurd ⟨_, hq.good⟩ hn
  · rcases h' with ⟨q', rfl, hq'⟩ | ⟨_, rfl⟩
    · exact absurd ⟨_, hq'.good⟩ hn
    · rfl

theorem M12_no {m : Int} {es : List E5} (h : isG m es = false) : M12 m es = some (((), false), [], ()) := by
  rw [M12_eq, r12, M52_is, bind_some', h]; rfl

theorem isG_iff {m : Int} {es : List E5} : isG m es = true ↔ (0 ≤ m ∧ m ≤ 8) ∧ es.length ≤ 16 ∧ ∀ e ∈ es, okE m e = true := by
  simp only [isG, Bool.and_eq_true, decide_eq_true_eq, List.all_eq_true]

theorem M12_is {m : Int} {es : List E5} (h : isG m es = true) : RepIs m es (M12 m es) := by
  obtain ⟨hm, hl, hG⟩ := isG_iff.1 h
  rw [M12_eq, r12, M52_is, bind_some', h]
  simp only [Bool.not_true, cond_false, hm.1, decide_true, cond_true, fit_ok (show Int.toNat m * 8 ≤ 140737488355328 by omega)]
  have hrl : ((List.length (@List.replicate (Ty.D (Ty.int IntKind.i64)) (Int.toNat m) 0) : Nat) : Int) = m := by
    have : (List.replicate (Int.toNat m) (0 : Int)).length = Int.toNat m := by simp
    show (((List.replicate (Int.toNat m) (0 : Int)).length : Nat) : Int) = m
    omega
  rw [hrl]
  have hz : ∀ j, at0 (List.replicate (Int.toNat m) (0 : Int)) j = 0 := by
    intro j
    unfold at0
    simp only [List.getD_eq_getElem?_getD, List.getElem?_replicate]
    split <;> rfl
  have R0 : RInv m es (List.replicate (Int.toNat m) (0 : Int)) := by
    refine ⟨by simp; omega, ?_, ?_, ?_, ?_⟩
    · intro i a b; rw [hz]; omega
    · intro e he; rw [hz, hz]
    · intro p hp i a b; rw [hz]; have := hp.1 i a b; omega
    · intro p hp e he; rw [hz, hz]; simp
  obtain ⟨q, k1, k2, k3⟩ := nodes12 hm hG hl m.toNat 0 _ (by omega) R0 (fun j a b => by omega)
  have k1' : t12_5 m 0 m es (@List.replicate (Ty.D (Ty.int IntKind.i64)) (Int.toNat m) 0) = t12_11 es es.length 0 q := k1
  rw [k1']
  have hE := edges12 hm hG hl k2.ql k2.pos es.length 0 (by omega)
  have hM := most12 hm.2 k2.ql m.toNat 0 (by omega)
  simp only [List.drop_zero] at hE
  have hE : t12_11 es es.length 0 q = if es.all (balE q) = true then t12_17 m 0 q else some (((), false), [], ()) := hE
  have hM : t12_17 m 0 q = if leB m q 0 then some (((), true), q, ()) else some (((), false), [], ()) := hM
  rw [hE]
  have hpos1 : ∀ i, 0 ≤ i → i < m → 1 ≤ at0 q i := fun i a b => by have := k2.pos i a b; have := k3 i a b; omega
  by_cases hb : es.all (balE q) = true
  · rw [if_pos hb, hM]
    have hBP : BP m es (at0 q) := ⟨hpos1, fun e he => by have := List.all_eq_true.1 hb e he; simpa [balE] using this⟩
    by_cases hs : leB m q 0 = true
    · rw [if_pos hs]
      exact .inl ⟨q, rfl, k2.ql, ⟨hBP, leB_iff.1 hs⟩, k2.le⟩
    · rw [if_neg hs]
      refine .inr ⟨?_, rfl⟩
      rintro ⟨p, hp1, hp2⟩
      exact hs (leB_iff.2 fun j a b => Int.le_trans (k2.le p hp1 j a b) (hp2 j a b))
  · rw [if_neg hb]
    refine .inr ⟨?_, rfl⟩
    rintro ⟨p, hp1, hp2⟩
    refine hb (List.all_eq_true.2 fun e he => ?_)
    simpa [balE] using k2.bal p hp1 e he

end Go.AI
