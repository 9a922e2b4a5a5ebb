/- PLAIN: the greatest common divisor; all numbers of a part times a number. -/
import Derived.Test.YtaaliglpbjjclaaG1
namespace Go.AI
set_option linter.unusedVariables false
set_option linter.unusedSimpArgs false

theorem getD_set {α : Type} (l : List α) (i j : Nat) (v d : α) : (l.set i v).getD j d = if i = j ∧ i < l.length then v else l.getD j d := by
  by_cases h : i = j
  · subst h
    by_cases h2 : i < l.length
    · simp [List.getD_eq_getElem?_getD, h2]
    · simp [List.getD_eq_getElem?_getD, h2, List.getElem?_eq_none (show l.length ≤ i by omega)]
  · simp [List.getD_eq_getElem?_getD, List.getElem?_set, h]

/-- element a, by a whole number -/
def at0 (q : List Int) (a : Int) : Int := q.getD a.toNat 0
def atB (q : List Bool) (a : Int) : Bool := q.getD a.toNat false

theorem at0_set {q : List Int} {a b v : Int} (ha : 0 ≤ a) (hb : 0 ≤ b) (hl : a < q.length) : at0 (q.set a.toNat v) b = if a = b then v else at0 q b := by
  unfold at0
  rw [getD_set]
  by_cases h : a = b
  · subst h; simp; omega
  · have : ¬ (a.toNat = b.toNat ∧ a.toNat < q.length) := by omega
    simp [h, this]
theorem atB_set {q : List Bool} {a b : Int} {v : Bool} (ha : 0 ≤ a) (hb : 0 ≤ b) (hl : a < q.length) : atB (q.set a.toNat v) b = if a = b then v else atB q b := by
  unfold atB
  rw [getD_set]
  by_cases h : a = b
  · subst h; simp; omega
  · have : ¬ (a.toNat = b.toNat ∧ a.toNat < q.length) := by omega
    simp [h, this]

theorem t51_is : ∀ (n : Nat) (a b : Int), 0 ≤ a → 0 ≤ b → b.natAbs ≤ n → t51_1 a b = some (((Int.gcd a b : Nat) : Int), ())
  | n, a, b, ha, hb, hn => by
    rw [t51_1_eq, r51_1]
    by_cases h : b = 0
    · subst h
      simp [Int.gcd]; omega
    · have h1 : (b != 0) = true := by simpa using h
      have h2 : decide (b ≠ 0) = true := by simpa using h
      simp only [h1, h2, cond_true]
      cases n with
      | zero => omega
      | succ n =>
        have hm : a.tmod b = a % b := Int.tmod_eq_emod_of_nonneg ha
        rw [t51_is n b (a.tmod b) hb (by rw [hm]; exact Int.emod_nonneg _ h) (by rw [hm]; have := Int.emod_lt_of_pos a (show 0 < b by omega); have := Int.emod_nonneg a h; omega)]
        have e : Int.gcd b (a.tmod b) = Int.gcd a b := by
          unfold Int.gcd
          rw [Int.natAbs_tmod, Nat.gcd_comm, ← Nat.gcd_rec, Nat.gcd_comm]
        rw [e]
theorem M51_is {a b : Int} (ha : 0 ≤ a) (hb : 0 ≤ b) : M51 a b = some (((Int.gcd a b : Nat) : Int), ()) := by
  rw [M51_eq, r51]; exact t51_is _ a b ha hb (Nat.le_refl _)

theorem t115_is : ∀ (n : Nat) (a b : Int), 0 ≤ a → 0 ≤ b → b.natAbs ≤ n → t115_1 a b = some (((Int.gcd a b : Nat) : Int), ())
  | n, a, b, ha, hb, hn => by
    rw [t115_1_eq, r115_1]
    by_cases h : b = 0
    · subst h
      simp [Int.gcd]; omega
    · have h1 : (b != 0) = true := by simpa using h
      have h2 : decide (b ≠ 0) = true := by simpa using h
      simp only [h1, h2, cond_true]
      cases n with
      | zero => omega
      | succ n =>
        have hm : a.tmod b = a % b := Int.tmod_eq_emod_of_nonneg ha
        rw [t115_is n b (a.tmod b) hb (by rw [hm]; exact Int.emod_nonneg _ h) (by rw [hm]; have := Int.emod_lt_of_pos a (show 0 < b by omega); have := Int.emod_nonneg a h; omega)]
        have e : Int.gcd b (a.tmod b) = Int.gcd a b := by
          unfold Int.gcd
          rw [Int.natAbs_tmod, Nat.gcd_comm, ← Nat.gcd_rec, Nat.gcd_comm]
        rw [e]
theorem M115_is {a b : Int} (ha : 0 ≤ a) (hb : 0 ≤ b) : M115 a b = some (((Int.gcd a b : Nat) : Int), ()) := by
  rw [M115_eq, r115]; exact t115_is _ a b ha hb (Nat.le_refl _)

/-- all numbers of a part are multiplied -/
theorem t120_is (by' : Int) (part : List Bool) (q0 : List Int) (hl : part.length = q0.length) (hs : q0.length ≤ 8) (hb : ∀ i : Int, 0 ≤ i → i < q0.length → atB part i = true → 0 ≤ at0 q0 i * by' ∧ at0 q0 i * by' ≤ 9223372036854775807) :
    ∀ (d i : Nat) (q : List Int), i + d = q0.length → q.length = q0.length → (∀ j : Int, 0 ≤ j → j < q0.length → at0 q j = if j < i ∧ atB part j = true then at0 q0 j * by' else at0 q0 j) →
    ∃ q', t120_1 by' q0.length i q part = some ((), q', part, ()) ∧ q'.length = q0.length ∧ ∀ j : Int, 0 ≤ j → j < q0.length → at0 q' j = if atB part j = true then at0 q0 j * by' else at0 q0 j
  | 0, i, q, hi, hq, h => by
    rw [t120_1_eq, r120_1]
    have h1 : ¬ ((i : Int) < (q0.length : Int)) := by omega
    simp only [h1, decide_false, cond_false]
    refine ⟨q, rfl, hq, fun j h0 h2 => ?_⟩
    rw [h j h0 h2]
    have : j < (i : Int) := by omega
    simp [this]
  | d + 1, i, q, hi, hq, h => by
    have h1 : ((i : Int) < (q0.length : Int)) := by omega
    have h2 : (0 : Int) ≤ i := by omega
    have h3 : ((i : Int) < (part.length : Int)) := by omega
    have h4 : ((i : Int) < (q.length : Int)) := by omega
    rw [t120_1_eq, r120_1]
    simp only [h1, h2, h3, h4, decide_true, cond_true]
    rw [wrap_ok (n := (i : Int) + 1) (by omega) (by omega)]
    have key : at0 q i = at0 q0 i := by
      rw [h i h2 h1]; simp
    cases hp : List.getD part (Int.toNat i) false with
    | true =>
      have hp' : atB part i = true := hp
      simp only [cond_true]
      obtain ⟨b1, b2⟩ := hb i h2 h1 hp'
      have hw : IntKind.wrap .i64 (List.getD q (Int.toNat i) 0 * by') = at0 q0 i * by' := by
        rw [show List.getD q (Int.toNat i) 0 = at0 q0 i from key]
        exact wrap_ok (by omega) b2
      rw [hw]
      refine t120_is by' part q0 hl hs hb d (i + 1) (q.set (Int.toNat i) (at0 q0 i * by')) (by omega) (by simpa using hq) fun j h0 hj => ?_
      rw [at0_set h2 h0 h4]
      by_cases e : (i : Int) = j
      · subst e; simp [hp']; intro hc; omega
      · rw [if_neg e, h j h0 hj]
        have : (j < (i : Int) ∧ atB part j = true) ↔ (j < ((i + 1 : Nat) : Int) ∧ atB part j = true) := by constructor <;> rintro ⟨a, b⟩ <;> exact ⟨by omega, b⟩
        simp only [this]
    | false =>
      have hp' : atB part i = false := hp
      simp only [cond_false]
      refine t120_is by' part q0 hl hs hb d (i + 1) q (by omega) hq fun j h0 hj => ?_
      rw [h j h0 hj]
      have : (j < (i : Int) ∧ atB part j = true) ↔ (j < ((i + 1 : Nat) : Int) ∧ atB part j = true) := by
        constructor
        · rintro ⟨a, b⟩; exact ⟨by omega, b⟩
        · rintro ⟨a, b⟩
          refine ⟨?_, b⟩
          by_cases e : (i : Int) = j
          · subst e; rw [hp'] at b; cases b
          · omega
      simp only [this]

theorem M120_is {by' : Int} {part : List Bool} {q : List Int} (hl : part.length = q.length) (hs : q.length ≤ 8) (hb : ∀ i : Int, 0 ≤ i → i < q.length → atB part i = true → 0 ≤ at0 q i * by' ∧ at0 q i * by' ≤ 9223372036854775807) :
    ∃ q', M120 by' q part = some ((), q', part, ()) ∧ q'.length = q.length ∧ ∀ j : Int, 0 ≤ j → j < q.length → at0 q' j = if atB part j = true then at0 q j * by' else at0 q j := by
  rw [M120_eq, r120]
  refine t120_is by' part q hl hs hb q.length 0 q (by omega) rfl fun j h0 hj => ?_
  rw [if_neg]
  rintro ⟨h1, _⟩
  omega

end Go.AI
