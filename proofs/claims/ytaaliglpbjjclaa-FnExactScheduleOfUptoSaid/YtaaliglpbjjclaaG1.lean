/- PLAIN: graphs that are valid; what the laws do with their arguments. -/
import Derived.Test.YtaaliglpbjjclaaW1
import Derived.Test.YtaaliglpbjjclaaQ0
namespace Go.AI
set_option linter.unusedVariables false
set_option linter.unusedSimpArgs false

abbrev E5 := Int × Int × Int × Int × Int

theorem M95_is (x lo hi : Int) : M95 x lo hi = some (decide (lo ≤ x ∧ x ≤ hi), ()) := by
  rw [M95_eq, r95]
  by_cases h : x ≥ lo
  · simp only [decide_eq_true h, cond_true]
    have h : lo ≤ x := h
    simp [h]
  · simp only [decide_eq_false h, cond_false]
    have h : ¬ lo ≤ x := h
    simp [h]

def okE (m : Int) (e : E5) : Bool := decide (0 ≤ e.1 ∧ e.1 ≤ m - 1) && (decide (0 ≤ e.2.1 ∧ e.2.1 ≤ m - 1) && (decide (1 ≤ e.2.2.1 ∧ e.2.2.1 ≤ 5) && (decide (1 ≤ e.2.2.2.1 ∧ e.2.2.2.1 ≤ 5) && decide (0 ≤ e.2.2.2.2 ∧ e.2.2.2.2 ≤ 50))))
/-- is a graph valid? -/
def isG (m : Int) (es : List E5) : Bool := decide (0 ≤ m ∧ m ≤ 8) && (decide (es.length ≤ 16) && es.all (okE m))

noncomputable def st52 (m : Int) : Int → E5 → Unit → (Unit → Option (Bool × Unit)) → Option (Bool × Unit) := fun _ e _ k =>
  Option.bind (M95 e.1 0 (IntKind.wrap IntKind.i64 (m - 1))) fun d10 => bif !Prod.fst d10 then some (false, ()) else Option.bind (M95 e.2.1 0 (IntKind.wrap IntKind.i64 (m - 1))) fun d11 => bif !Prod.fst d11 then some (false, ()) else Option.bind (M95 e.2.2.1 1 5) fun d12 => bif !Prod.fst d12 then some (false, ()) else Option.bind (M95 e.2.2.2.1 1 5) fun d13 => bif !Prod.fst d13 then some (false, ()) else Option.bind (M95 e.2.2.2.2 0 50) fun d14 => bif !Prod.fst d14 then some (false, ()) else k ()

theorem rng52 (m : Int) (h0 : 0 ≤ m) (h8 : m ≤ 8) : ∀ (es : List E5) (i : Int), rng (st52 m) (fun _ => some (true, ())) es i () = some (es.all (okE m), ())
  | [], i => rfl
  | e :: es, i => by
    simp only [rng, st52, M95_is, bind_some', List.all_cons, okE]
    rw [wrap_ok (by omega) (by omega), rng52 m h0 h8 es (i + 1)]
    generalize decide (0 ≤ e.1 ∧ e.1 ≤ m - 1) = b1
    generalize decide (0 ≤ e.2.1 ∧ e.2.1 ≤ m - 1) = b2
    generalize decide (1 ≤ e.2.2.1 ∧ e.2.2.1 ≤ 5) = b3
    generalize decide (1 ≤ e.2.2.2.1 ∧ e.2.2.2.1 ≤ 5) = b4
    generalize decide (0 ≤ e.2.2.2.2 ∧ e.2.2.2.2 ≤ 50) = b5
    cases b1 <;> cases b2 <;> cases b3 <;> cases b4 <;> cases b5 <;> simp

theorem M52_is (m : Int) (es : List E5) : M52 m es = some (isG m es, ()) := by
  rw [M52_eq, r52, M95_is, bind_some']
  unfold isG
  by_cases h : 0 ≤ m ∧ m ≤ 8
  · simp only [decide_eq_true h, Bool.not_true, cond_false, Bool.true_and]
    by_cases hl : es.length ≤ 16
    · have h1 : ¬ ((es.length : Int) > 16) := by omega
      simp only [decide_eq_false h1, decide_eq_true hl, cond_false, Bool.true_and]
      exact (rng0 (l := es) (d := (0, 0, 0, 0, 0)) (T := fun i (_ : Unit) => t52_4 es es.length i m es) (done := fun _ => some (true, ())) (step := st52 m) (by omega) (fun i _ => (t52_4_eq _ _ _ _ _).trans rfl) ()).trans (rng52 m h.1 h.2 es 0)
    · have h1 : (es.length : Int) > 16 := by omega
      simp only [decide_eq_true h1, decide_eq_false hl, cond_true, Bool.false_and]
  · simp only [decide_eq_false h, Bool.not_false, cond_true, Bool.false_and]

/-! ### the program's own test -/

theorem M118_is (e : E5) (m : Int) (es : List E5) : M118 e.1 e.2.1 e.2.2.1 e.2.2.2.1 e.2.2.2.2 m es = some (!okE m e, ()) := by
  rw [M118_eq, r118]
  unfold okE
  obtain ⟨a, b, c, d, t⟩ := e
  simp only
  by_cases h1 : a < 0
  · have : ¬ (0 ≤ a ∧ a ≤ m - 1) := by omega
    simp [h1, this]
  · by_cases h2 : a ≥ m
    · have : ¬ (0 ≤ a ∧ a ≤ m - 1) := by omega
      simp [h1, h2, this]
    · have q1 : (0 ≤ a ∧ a ≤ m - 1) := by omega
      by_cases h3 : b < 0
      · have : ¬ (0 ≤ b ∧ b ≤ m - 1) := by omega
        simp [h1, h2, h3, this]
      · by_cases h4 : b ≥ m
        · have : ¬ (0 ≤ b ∧ b ≤ m - 1) := by omega
          simp [h1, h2, h3, h4, this]
        · have q2 : (0 ≤ b ∧ b ≤ m - 1) := by omega
          by_cases h5 : c < 1
          · have : ¬ (1 ≤ c ∧ c ≤ 5) := by omega
            simp [h1, h2, h3, h4, h5, this]
          · by_cases h6 : c > 5
            · have : ¬ (1 ≤ c ∧ c ≤ 5) := by omega
              simp [h1, h2, h3, h4, h5, h6, this]
            · have q3 : (1 ≤ c ∧ c ≤ 5) := by omega
              by_cases h7 : d < 1
              · have : ¬ (1 ≤ d ∧ d ≤ 5) := by omega
                simp [h1, h2, h3, h4, h5, h6, h7, this]
              · by_cases h8 : d > 5
                · have : ¬ (1 ≤ d ∧ d ≤ 5) := by omega
                  simp [h1, h2, h3, h4, h5, h6, h7, h8, this]
                · have q4 : (1 ≤ d ∧ d ≤ 5) := by omega
                  by_cases h9 : t < 0
                  · have : ¬ (0 ≤ t ∧ t ≤ 50) := by omega
                    simp [h1, h2, h3, h4, h5, h6, h7, h8, h9, this]
                  · simp only [h1, h2, h3, h4, h5, h6, h7, h8, h9, q1, q2, q3, q4, and_self, decide_true, decide_false, cond_true, cond_false, Bool.true_and]
                    have : decide (t > 50) = !decide (0 ≤ t ∧ t ≤ 50) := by
                      by_cases h10 : t > 50
                      · have : ¬ (0 ≤ t ∧ t ≤ 50) := by omega
                        simp [h10, this]
                      · have : (0 ≤ t ∧ t ≤ 50) := by omega
                        simp [h10, this]
                    rw [this]

/-- where a test first holds -/
def findI {α : Type} (p : α → Bool) : List α → Int → Int
  | [], _ => -1
  | x :: l, i => bif p x then i else findI p l (i + 1)
theorem findI_any {α : Type} (p : α → Bool) : ∀ (l : List α) (i : Int), 0 ≤ i → decide (findI p l i ≥ 0) = l.any p
  | [], i, _ => rfl
  | x :: l, i, h => by
    simp only [findI, List.any_cons]
    have := findI_any p l (i + 1) (by omega)
    by_cases hp : p x = true
    · simp only [hp, cond_true]; simpa using h
    · have hp : p x = false := by simpa using hp
      simp only [hp, cond_false]; simpa using this

noncomputable def st160 (m : Int) (es : List E5) : Int → E5 → Unit → (Unit → Option (Int × Unit)) → Option (Int × Unit) := fun i e _ k =>
  Option.bind (M118 e.1 e.2.1 e.2.2.1 e.2.2.2.1 e.2.2.2.2 m es) fun d60 => bif Prod.fst d60 then some (i, ()) else k ()
theorem rng160 (m : Int) (es' : List E5) : ∀ (es : List E5) (i : Int), rng (st160 m es') (fun _ => some (-1, ())) es i () = some (findI (fun e => !okE m e) es i, ())
  | [], i => rfl
  | e :: es, i => by
    simp only [rng, st160, M118_is, bind_some', findI]
    rw [rng160 m es' es (i + 1)]
    cases okE m e <;> rfl

theorem M117_is (l es : List E5) (m : Int) (hl : l.length ≤ 4611686018427387904) : M117 l m es = some (l.any fun e => !okE m e, ()) := by
  rw [M117_eq, r117, M160_eq, r160]
  have := (rng0 (l := l) (d := (0, 0, 0, 0, 0)) (T := fun i (_ : Unit) => t160_2 l m es l.length i) (done := fun _ => some (-1, ())) (step := st160 m es) hl (fun i _ => (t160_2_eq _ _ _ _ _).trans rfl) ()).trans (rng160 m es l 0)
  have this : t160_2 l m es l.length 0 = some (findI (fun e => !okE m e) l 0, ()) := this
  rw [this, bind_some']
  simp only [findI_any _ _ _ (Int.le_refl 0)]

theorem M49_is (m : Int) (es : List E5) : M49 m es = some (isG m es, ()) := by
  rw [M49_eq, r49]
  unfold isG
  by_cases h1 : m < 0
  · have : ¬ (0 ≤ m ∧ m ≤ 8) := by omega
    simp [h1, this]
  · by_cases h2 : m > 8
    · have : ¬ (0 ≤ m ∧ m ≤ 8) := by omega
      simp [h1, h2, this]
    · have q1 : (0 ≤ m ∧ m ≤ 8) := by omega
      by_cases h3 : (es.length : Int) > 16
      · have : ¬ (es.length ≤ 16) := by omega
        simp [h1, h2, h3, this]
      · have q2 : es.length ≤ 16 := by omega
        rw [M117_is _ _ _ (by omega)]
        simp only [h1, h2, h3, q1, q2, and_self, decide_true, decide_false, cond_false, bind_some', Bool.true_and]
        congr 2
        simp [List.not_any_eq_all_not]

theorem okE_iff {m : Int} {e : E5} : okE m e = true ↔ (0 ≤ e.1 ∧ e.1 ≤ m - 1) ∧ (0 ≤ e.2.1 ∧ e.2.1 ≤ m - 1) ∧ (1 ≤ e.2.2.1 ∧ e.2.2.1 ≤ 5) ∧ (1 ≤ e.2.2.2.1 ∧ e.2.2.2.1 ≤ 5) ∧ (0 ≤ e.2.2.2.2 ∧ e.2.2.2.2 ≤ 50) := by
  simp only [okE, Bool.and_eq_true, decide_eq_true_eq]

end Go.AI
