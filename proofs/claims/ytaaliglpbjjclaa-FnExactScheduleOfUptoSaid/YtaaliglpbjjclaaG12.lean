/- PLAIN: a node fires. -/
import Derived.Test.YtaaliglpbjjclaaG11
namespace Go.AI
set_option linter.unusedVariables false
set_option linter.unusedSimpArgs false

theorem getD_app {α : Type} {P R : List α} {t d : α} {i : Nat} (h : i = P.length) : (P ++ t :: R).getD i d = t := by
  subst h; simp [List.getD_eq_getElem?_getD]
theorem set_app {α : Type} {P R : List α} {t v : α} {i : Nat} (h : i = P.length) : (P ++ t :: R).set i v = P ++ v :: R := by
  subst h; simp
theorem snoc_app {α : Type} {P R : List α} {t : α} : P ++ t :: R = (P ++ [t]) ++ R := by simp

/-- can a node fire? -/
def canF (k : Int) : List E5 → List Int → Bool
  | e :: es, t :: ts => (!(e.2.1 == k) || !decide (t < e.2.2.2.1)) && canF k es ts
  | _, _ => true
/-- the tokens behind that -/
def fired (k : Int) : List E5 → List Int → List Int
  | e :: es, t :: ts => ((t - (bif e.2.1 == k then e.2.2.2.1 else 0)) + (bif e.1 == k then e.2.2.1 else 0)) :: fired k es ts
  | _, _ => []

theorem fired_length (k : Int) : ∀ {es : List E5} {ts : List Int}, ts.length = es.length → (fired k es ts).length = es.length
  | [], [], _ => rfl
  | e :: es, t :: ts, h => by simp only [fired, List.length_cons]; rw [fired_length k (by simpa using h)]
  | [], _ :: _, h => by simp at h
  | _ :: _, [], h => by simp at h

/-- tokens of a size -/
def toksB (B : Int) (ts : List Int) : Prop := ∀ t ∈ ts, 0 ≤ t ∧ t ≤ B

theorem fired_B {k m B : Int} : ∀ {es : List E5} {ts : List Int}, (∀ e ∈ es, okE m e = true) → canF k es ts = true → toksB B ts → toksB (B + 5) (fired k es ts)
  | [], _, _, _, _ => by intro t ht; simp [fired] at ht
  | e :: es, [], _, _, _ => by intro t ht; simp [fired] at ht
  | e :: es, t :: ts, hG, hc, hB => by
    simp only [canF, Bool.and_eq_true] at hc
    have hok := okE_iff.1 (hG e (by simp))
    have ht := hB t (by simp)
    have ih := fired_B (fun e he => hG e (by simp [he])) hc.2 (fun t ht => hB t (by simp [ht]))
    intro x hx
    simp only [fired] at hx
    rcases List.mem_cons.1 hx with rfl | hx
    · obtain ⟨_, _, ho, htk, _⟩ := hok
      have h1 := hc.1
      cases he : (e.2.1 == k) with
      | true =>
        simp only [he, Bool.not_true, Bool.false_or, Bool.not_eq_true', decide_eq_false_iff_not] at h1
        simp only [cond_true]
        cases (e.1 == k) <;> simp only [cond_true, cond_false] <;> omega
      | false =>
        simp only [cond_false]
        cases (e.1 == k) <;> simp only [cond_true, cond_false] <;> omega
    · exact ih x hx

section
variable {m : Int} {es : List E5}

theorem t55_4_is (k : Int) (hl : es.length ≤ 16) : ∀ (S : List E5) (Q : List E5) (P R : List Int), es = Q ++ S → P.length = Q.length → R.length = S.length →
    t55_4 k es es.length (Q.length : Nat) (P ++ R) m es = bif canF k S R then t55_10 k es es.length 0 (P ++ R) else some (false, P ++ R, ())
  | [], Q, P, [], h, hp, hr => by
    rw [t55_4_eq, r55_4]
    have : es.length = Q.length := by rw [h]; simp
    have h1 : ¬ ((Q.length : Int) < (es.length : Int)) := by omega
    simp only [h1, decide_false, cond_false, canF, cond_true]
  | [], _, _, _ :: _, _, _, hr => by simp at hr
  | _ :: _, _, _, [], _, _, hr => by simp at hr
  | e :: S, Q, P, t :: R, h, hp, hr => by
    rw [t55_4_eq, r55_4]
    have hlen : es.length = Q.length + (S.length + 1) := by rw [h]; simp
    have h1 : ((Q.length : Int) < (es.length : Int)) := by omega
    have h2 : (0 : Int) ≤ (Q.length : Nat) := by omega
    have h3 : ((Q.length : Int) < ((P ++ t :: R).length : Int)) := by simp; omega
    have g1 : es.getD Q.length (0, 0, 0, 0, 0) = e := by rw [h]; exact getD_app rfl
    have g2 : (P ++ t :: R).getD Q.length 0 = t := getD_app hp.symm
    simp only [h1, h2, h3, decide_true, cond_true, Int.toNat_natCast, g1, g2]
    rw [wrap_ok (n := (Q.length : Int) + 1) (by omega) (by omega)]
    have ih := t55_4_is k hl S (Q ++ [e]) (P ++ [t]) R (by rw [h]; simp) (by simp [hp]) (by simpa using hr)
    have ih : t55_4 k es es.length ((Q.length : Int) + 1) (P ++ t :: R) m es = bif canF k S R then t55_10 k es es.length 0 (P ++ t :: R) else some (false, P ++ t :: R, ()) := by
      rw [snoc_app]
      have : (((Q ++ [e]).length : Nat) : Int) = (Q.length : Int) + 1 := by simp
      rw [← this]; exact ih
    rw [ih]
    simp only [canF]
    cases (e.2.1 == k) with
    | false => simp
    | true =>
      simp only [cond_true, Bool.not_true, Bool.false_or]
      by_cases hlt : t < e.2.2.2.1 <;> simp [hlt]

theorem t55_10_is (k : Int) {B : Int} (hB : 0 ≤ B ∧ B ≤ 1000000) (hl : es.length ≤ 16) (hG : ∀ e ∈ es, okE m e = true) : ∀ (S : List E5) (Q : List E5) (P R : List Int), es = Q ++ S → P.length = Q.length → R.length = S.length → toksB B R →
    t55_10 k es es.length (Q.length : Nat) (P ++ R) = some (true, P ++ fired k S R, ())
  | [], Q, P, [], h, hp, hr, _ => by
    rw [t55_10_eq, r55_10]
    have : es.length = Q.length := by rw [h]; simp
    have h1 : ¬ ((Q.length : Int) < (es.length : Int)) := by omega
    simp only [h1, decide_false, cond_false, fired]
  | [], _, _, _ :: _, _, _, hr, _ => by simp at hr
  | _ :: _, _, _, [], _, _, hr, _ => by simp at hr
  | e :: S, Q, P, t :: R, h, hp, hr, hb => by
    rw [t55_10_eq, r55_10]
    have hlen : es.length = Q.length + (S.length + 1) := by rw [h]; simp
    have h1 : ((Q.length : Int) < (es.length : Int)) := by omega
    have h2 : (0 : Int) ≤ (Q.length : Nat) := by omega
    have h3 : ∀ t, ((Q.length : Int) < ((P ++ t :: R).length : Int)) := by intro t; simp; omega
    have g1 : es.getD Q.length (0, 0, 0, 0, 0) = e := by rw [h]; exact getD_app rfl
    have g2 : ∀ t, (P ++ t :: R).getD Q.length 0 = t := fun t => getD_app hp.symm
    have g3 : ∀ t v, (P ++ t :: R).set Q.length v = P ++ v :: R := fun t v => set_app hp.symm
    have hok := okE_iff.1 (hG e (by rw [h]; simp))
    obtain ⟨_, _, ho, ht, _⟩ := hok
    have htb := hb t (by simp)
    have ih := fun v => t55_10_is k hB hl hG S (Q ++ [e]) (P ++ [v]) R (by rw [h]; simp) (by simp [hp]) (by simpa using hr) (fun t ht => hb t (by simp [ht]))
    have ih : ∀ v, t55_10 k es es.length ((Q.length : Int) + 1) (P ++ v :: R) = some (true, P ++ v :: fired k S R, ()) := by
      intro v
      rw [snoc_app, snoc_app (R := fired k S R)]
      have : (((Q ++ [e]).length : Nat) : Int) = (Q.length : Int) + 1 := by simp
      rw [← this]; exact ih v
    simp only [h1, h2, h3, decide_true, cond_true, Int.toNat_natCast, g1, g2, g3]
    rw [wrap_ok (n := (Q.length : Int) + 1) (by omega) (by omega), wrap_ok (n := t - e.2.2.2.1) (by omega) (by omega), wrap_ok (n := t - e.2.2.2.1 + e.2.2.1) (by omega) (by omega), wrap_ok (n := t + e.2.2.1) (by omega) (by omega)]
    simp only [ih, fired]
    cases (e.2.1 == k) <;> cases (e.1 == k) <;> simp

/-- the program's firing -/
theorem M55_is {k : Int} {ts : List Int} {B : Int} (hB : 0 ≤ B ∧ B ≤ 1000000) (hl : es.length ≤ 16) (hG : ∀ e ∈ es, okE m e = true) (hk : 0 ≤ k ∧ k < m) (hts : ts.length = es.length) (hb : toksB B ts) :
    M55 m es k ts = bif canF k es ts then some (true, fired k es ts, ()) else some (false, ts, ()) := by
  rw [M55_eq, r55]
  have h1 : ¬ k < 0 := by omega
  have h2 : ¬ k ≥ m := by omega
  simp only [h1, h2, decide_false, cond_false]
  have a := t55_4_is (m := m) k hl es [] [] ts rfl rfl hts
  have b := t55_10_is (m := m) k hB hl hG es [] [] ts rfl rfl hts hb
  have a : t55_4 k es es.length 0 ts m es = bif canF k es ts then t55_10 k es es.length 0 ts else some (false, ts, ()) := a
  have b : t55_10 k es es.length 0 ts = some (true, fired k es ts, ()) := b
  rw [a, b]

/-! ### the reference's firing -/

/-- what is taken -/
def taken (k : Int) : List E5 → List Int → List Int
  | e :: es, t :: ts => (t - (bif e.2.1 == k then e.2.2.2.1 else 0)) :: taken k es ts
  | _, _ => []
theorem taken_length (k : Int) : ∀ {es : List E5} {ts : List Int}, ts.length = es.length → (taken k es ts).length = es.length
  | [], [], _ => rfl
  | e :: es, t :: ts, h => by simp only [taken, List.length_cons]; rw [taken_length k (by simpa using h)]
  | [], _ :: _, h => by simp at h
  | _ :: _, [], h => by simp at h

theorem M122_is {l : List Int} (h : l.length ≤ 1000000000000) : M122 l = some ((), l, ()) := by
  rw [M122_eq, r122, fit_ok (by omega)]; rfl

theorem t59_3_is (k : Int) {B : Int} (hB : 0 ≤ B ∧ B ≤ 1000000) (hl : es.length ≤ 16) (hG : ∀ e ∈ es, okE m e = true) : ∀ (S : List E5) (Q : List E5) (P R : List Int), es = Q ++ S → P.length = Q.length → R.length = S.length → toksB B R →
    t59_3 k es es.length (Q.length : Nat) m es (P ++ R) = bif canF k S R then t59_11 k es es.length 0 (P ++ taken k S R) else some (((), false), [], ())
  | [], Q, P, [], h, hp, hr, _ => by
    rw [t59_3_eq, r59_3]
    have : es.length = Q.length := by rw [h]; simp
    have h1 : ¬ ((Q.length : Int) < (es.length : Int)) := by omega
    simp only [h1, decide_false, cond_false, canF, cond_true, taken]
  | [], _, _, _ :: _, _, _, hr, _ => by simp at hr
  | _ :: _, _, _, [], _, _, hr, _ => by simp at hr
  | e :: S, Q, P, t :: R, h, hp, hr, hb => by
    rw [t59_3_eq, r59_3]
    have hlen : es.length = Q.length + (S.length + 1) := by rw [h]; simp
    have h1 : ((Q.length : Int) < (es.length : Int)) := by omega
    have h2 : (0 : Int) ≤ (Q.length : Nat) := by omega
    have h3 : ∀ t, ((Q.length : Int) < ((P ++ t :: R).length : Int)) := by intro t; simp; omega
    have g1 : es.getD Q.length (0, 0, 0, 0, 0) = e := by rw [h]; exact getD_app rfl
    have g2 : ∀ t, (P ++ t :: R).getD Q.length 0 = t := fun t => getD_app hp.symm
    have g3 : ∀ t v, (P ++ t :: R).set Q.length v = P ++ v :: R := fun t v => set_app hp.symm
    have hok := okE_iff.1 (hG e (by rw [h]; simp))
    obtain ⟨_, _, ho, ht, _⟩ := hok
    have htb := hb t (by simp)
    have ih := fun v => t59_3_is k hB hl hG S (Q ++ [e]) (P ++ [v]) R (by rw [h]; simp) (by simp [hp]) (by simpa using hr) (fun t ht => hb t (by simp [ht]))
    have ih : ∀ v, t59_3 k es es.length ((Q.length : Int) + 1) m es (P ++ v :: R) = bif canF k S R then t59_11 k es es.length 0 (P ++ v :: taken k S R) else some (((), false), [], ()) := by
      intro v
      rw [snoc_app, snoc_app (R := taken k S R)]
      have : (((Q ++ [e]).length : Nat) : Int) = (Q.length : Int) + 1 := by simp
      rw [← this]; exact ih v
    simp only [h1, h2, h3, decide_true, cond_true, Int.toNat_natCast, g1, g2, g3]
    rw [wrap_ok (n := (Q.length : Int) + 1) (by omega) (by omega), wrap_ok (n := t - e.2.2.2.1) (by omega) (by omega)]
    simp only [ih, canF, taken]
    cases (e.2.1 == k) with
    | false => simp
    | true =>
      simp only [cond_true, Bool.not_true, Bool.false_or]
      by_cases hlt : t < e.2.2.2.1 <;> simp [hlt]

theorem t59_11_is (k : Int) {B : Int} (hB : 0 ≤ B ∧ B ≤ 1000000) (hl : es.length ≤ 16) (hG : ∀ e ∈ es, okE m e = true) : ∀ (S : List E5) (Q : List E5) (P R : List Int), es = Q ++ S → P.length = Q.length → R.length = S.length → toksB B R →
    t59_11 k es es.length (Q.length : Nat) (P ++ taken k S R) = some (((), true), P ++ fired k S R, ())
  | [], Q, P, [], h, hp, hr, _ => by
    rw [t59_11_eq, r59_11]
    have : es.length = Q.length := by rw [h]; simp
    have h1 : ¬ ((Q.length : Int) < (es.length : Int)) := by omega
    simp only [h1, decide_false, cond_false, fired, taken]
  | [], _, _, _ :: _, _, _, hr, _ => by simp at hr
  | _ :: _, _, _, [], _, _, hr, _ => by simp at hr
  | e :: S, Q, P, t :: R, h, hp, hr, hb => by
    have hok := okE_iff.1 (hG e (by rw [h]; simp))
    obtain ⟨_, _, ho, ht, _⟩ := hok
    have htb := hb t (by simp)
    simp only [taken, fired]
    have hx : t - 5 ≤ t - (bif e.2.1 == k then e.2.2.2.1 else 0) ∧ t - (bif e.2.1 == k then e.2.2.2.1 else 0) ≤ t := by
      cases (e.2.1 == k) <;> simp <;> omega
    generalize t - (bif e.2.1 == k then e.2.2.2.1 else 0) = x at hx
    rw [t59_11_eq, r59_11]
    have hlen : es.length = Q.length + (S.length + 1) := by rw [h]; simp
    have hrl : (taken k S R).length = S.length := taken_length k (by simpa using hr)
    have h1 : ((Q.length : Int) < (es.length : Int)) := by omega
    have h2 : (0 : Int) ≤ (Q.length : Nat) := by omega
    have h3 : ∀ t, ((Q.length : Int) < ((P ++ t :: taken k S R).length : Int)) := by intro t; simp; omega
    have g1 : es.getD Q.length (0, 0, 0, 0, 0) = e := by rw [h]; exact getD_app rfl
    have g2 : ∀ t, (P ++ t :: taken k S R).getD Q.length 0 = t := fun t => getD_app hp.symm
    have g3 : ∀ t v, (P ++ t :: taken k S R).set Q.length v = P ++ v :: taken k S R := fun t v => set_app hp.symm
    have ih := fun v => t59_11_is k hB hl hG S (Q ++ [e]) (P ++ [v]) R (by rw [h]; simp) (by simp [hp]) (by simpa using hr) (fun t ht => hb t (by simp [ht]))
    have ih : ∀ v, t59_11 k es es.length ((Q.length : Int) + 1) (P ++ v :: taken k S R) = some (((), true), P ++ v :: fired k S R, ()) := by
      intro v
      rw [snoc_app, snoc_app (R := fired k S R)]
      have : (((Q ++ [e]).length : Nat) : Int) = (Q.length : Int) + 1 := by simp
      rw [← this]; exact ih v
    simp only [h1, h2, h3, decide_true, cond_true, Int.toNat_natCast, g1, g2, g3]
    rw [wrap_ok (n := (Q.length : Int) + 1) (by omega) (by omega), wrap_ok (n := x + e.2.2.1) (by omega) (by omega)]
    simp only [ih]
    cases (e.1 == k) <;> simp

theorem M59_is {k : Int} {ts : List Int} {B : Int} (hB : 0 ≤ B ∧ B ≤ 1000000) (hl : es.length ≤ 16) (hG : ∀ e ∈ es, okE m e = true) (hts : ts.length = es.length) (hb : toksB B ts) :
    M59 m es ts k = bif canF k es ts then some (((), true), fired k es ts, ()) else some (((), false), [], ()) := by
  rw [M59_eq, r59, M122_is (by omega), bind_some']
  have a := t59_3_is (m := m) k hB hl hG es [] [] ts rfl rfl hts hb
  have b := t59_11_is (m := m) k hB hl hG es [] [] ts rfl rfl hts hb
  have a : t59_3 k es es.length 0 m es ts = bif canF k es ts then t59_11 k es es.length 0 (taken k es ts) else some (((), false), [], ()) := a
  have b : t59_11 k es es.length 0 (taken k es ts) = some (((), true), fired k es ts, ()) := b
  rw [a, b]

end
end Go.AI
