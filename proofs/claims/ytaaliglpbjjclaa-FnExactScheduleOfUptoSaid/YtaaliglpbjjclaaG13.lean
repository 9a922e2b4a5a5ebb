/- PLAIN: both programs' schedules are the same. -/
import Derived.Test.YtaaliglpbjjclaaG12
namespace Go.AI
set_option linter.unusedVariables false
set_option linter.unusedSimpArgs false

def tok0 (es : List E5) : List Int := es.map fun e => e.2.2.2.2

noncomputable def st54 : Int → E5 → List Int → (List Int → Option (Unit × List Int × Unit)) → Option (Unit × List Int × Unit) := fun _ e s k =>
  bif fitBytes (s.length + [e.2.2.2.2].length) 8 then k (s ++ [e.2.2.2.2]) else none
theorem rng54 : ∀ (es : List E5) (i : Int) (s : List Int), s.length + es.length ≤ 1000 → rng st54 (fun s => some ((), s, ())) es i s = some ((), s ++ tok0 es, ())
  | [], i, s, _ => by simp [rng, tok0]
  | e :: es, i, s, h => by
    simp only [List.length_cons] at h
    simp only [rng, st54]
    rw [fit_ok (by simp; omega), cond_true, rng54 es (i + 1) _ (by simp; omega)]
    simp [tok0]

section
variable {m : Int} {es : List E5}

theorem M54_is (hl : es.length ≤ 16) : M54 m es = some ((), tok0 es, ()) := by
  rw [M54_eq, r54]
  exact (rng0 (l := es) (d := (0, 0, 0, 0, 0)) (T := fun i s => t54_3 es es.length i s) (done := fun s => some ((), s, ())) (step := st54) (by omega) (fun i s => (t54_3_eq _ _ _ _).trans rfl) []).trans (rng54 es 0 [] (by simp; omega))
theorem M58_is (hl : es.length ≤ 16) : M58 m es = some ((), tok0 es, ()) := by
  rw [M58_eq, r58]
  exact (rng0 (l := es) (d := (0, 0, 0, 0, 0)) (T := fun i s => t58_3 es es.length i s) (done := fun s => some ((), s, ())) (step := st54) (by omega) (fun i s => (t58_3_eq _ _ _ _).trans rfl) []).trans (rng54 es 0 [] (by simp; omega))

/-- the first node that is wanted and can fire -/
def pick (es : List E5) (often toks : List Int) : Nat → Int → Option Int
  | 0, _ => none
  | d + 1, k => bif decide (at0 often k > 0) && canF k es toks then some k else pick es often toks d (k + 1)

theorem pick_some {es : List E5} {often toks : List Int} : ∀ {d : Nat} {k k' : Int}, pick es often toks d k = some k' → k ≤ k' ∧ k' < k + d ∧ at0 often k' > 0 ∧ canF k' es toks = true
  | 0, k, k', h => by cases h
  | d + 1, k, k', h => by
    simp only [pick] at h
    cases hc : (decide (at0 often k > 0) && canF k es toks) with
    | true =>
      rw [hc, cond_true] at h
      cases h
      simp only [Bool.and_eq_true, decide_eq_true_eq] at hc
      exact ⟨Int.le_refl _, by omega, hc⟩
    | false =>
      rw [hc, cond_false] at h
      obtain ⟨a, b, c⟩ := pick_some h
      exact ⟨by omega, by omega, c⟩

noncomputable def st121 : Int → Int → Unit → (Unit → Option (Int × Unit)) → Option (Int × Unit) := fun i n _ k => Option.bind (M57 n) fun d => bif Prod.fst d then some (i, ()) else k ()
theorem rng121 : ∀ (l : List Int) (i : Int), rng st121 (fun _ => some (-1, ())) l i () = some (findI (fun n => decide (n > 0)) l i, ())
  | [], i => rfl
  | n :: l, i => by
    simp only [rng, findI]
    rw [st121, M57_eq, r57, bind_some', rng121 l (i + 1)]
    cases decide (n > 0) <;> rfl
theorem M56_is (l : List Int) (hl : l.length ≤ 4611686018427387904) : M56 l = some (l.any fun n => decide (n > 0), ()) := by
  rw [M56_eq, r56, M121_eq, r121]
  have := (rng0 (l := l) (d := 0) (T := fun i (_ : Unit) => t121_2 l l.length i) (done := fun _ => some (-1, ())) (step := st121) hl (fun i _ => (t121_2_eq _ _ _).trans rfl) ()).trans (rng121 l 0)
  have this : t121_2 l l.length 0 = some (findI (fun n => decide (n > 0)) l 0, ()) := this
  rw [this, bind_some']
  simp only [findI_any _ _ _ (Int.le_refl 0)]

/-- how much is still wanted -/
def sumI : List Int → Int
  | [] => 0
  | x :: l => x + sumI l
theorem sumI_nonneg : ∀ {l : List Int}, (∀ x ∈ l, 0 ≤ x) → 0 ≤ sumI l
  | [], _ => Int.le_refl _
  | x :: l, h => by simp only [sumI]; have := h x (by simp); have := sumI_nonneg (l := l) (fun y hy => h y (by simp [hy])); omega
theorem sumI_zero : ∀ {l : List Int}, (∀ x ∈ l, 0 ≤ x) → (l.any fun n => decide (n > 0)) = decide (sumI l > 0)
  | [], _ => rfl
  | x :: l, h => by
    have h1 := h x (by simp)
    have h2 := sumI_nonneg (l := l) (fun y hy => h y (by simp [hy]))
    have ih := sumI_zero (l := l) (fun y hy => h y (by simp [hy]))
    simp only [List.any_cons, ih, sumI]
    by_cases a : x > 0
    · have : x + sumI l > 0 := by omega
      simp [a, this]
    · have : x = 0 := by omega
      subst this
      simp
theorem sumI_set : ∀ {l : List Int} {i : Nat} {v : Int}, i < l.length → sumI (l.set i v) = sumI l - l.getD i 0 + v
  | [], i, v, h => by simp at h
  | x :: l, 0, v, _ => by simp only [List.set_cons_zero, sumI, List.getD_cons_zero]; omega
  | x :: l, i + 1, v, h => by
    simp only [List.set_cons_succ, sumI, List.getD_cons_succ]
    rw [sumI_set (by simpa using h)]; omega
theorem sumI_le {B : Int} : ∀ {l : List Int}, (∀ x ∈ l, x ≤ B) → sumI l ≤ B * l.length
  | [], _ => by simp [sumI]
  | x :: l, h => by
    have h1 := h x (by simp)
    have ih := sumI_le (l := l) (fun y hy => h y (by simp [hy]))
    simp only [sumI, List.length_cons]
    have : B * ((l.length + 1 : Nat) : Int) = B * l.length + B := by rw [Int.natCast_add, Int.mul_add]; simp
    omega

/-- what both programs do, until no more can be done -/
def sched (m : Int) (es : List E5) : Nat → List Int → List Int → List Int → Option ((Unit × Bool) × List Int × Unit)
  | 0, often, toks, out => match pick es often toks m.toNat 0 with
    | some _ => none
    | none => bif decide (sumI often > 0) then some (((), false), [], ()) else some (((), true), out, ())
  | n + 1, often, toks, out => match pick es often toks m.toNat 0 with
    | some k => sched m es n (often.set k.toNat (at0 often k - 1)) (fired k es toks) (out ++ [k])
    | none => bif decide (sumI often > 0) then some (((), false), [], ()) else some (((), true), out, ())

theorem sched_none {n : Nat} {often toks out : List Int} (h : pick es often toks m.toNat 0 = none) : sched m es n often toks out = bif decide (sumI often > 0) then some (((), false), [], ()) else some (((), true), out, ()) := by
  cases n <;> simp only [sched, h]
theorem sched_some {n : Nat} {often toks out : List Int} {k : Int} (h : pick es often toks m.toNat 0 = some k) : sched m es (n + 1) often toks out = sched m es n (often.set k.toNat (at0 often k - 1)) (fired k es toks) (out ++ [k]) := by
  simp only [sched, h]

/-- a state of the schedule's making -/
structure SS (m : Int) (es : List E5) (n : Nat) (often toks out : List Int) : Prop where
  ol : (often.length : Int) = m
  nn : ∀ x ∈ often, 0 ≤ x
  sum : sumI often = n
  tl : toks.length = es.length
  tb : toksB (50 + 5 * out.length) toks
  sz : out.length + n ≤ 1600

theorem SS.step {n : Nat} {often toks out : List Int} {k : Int} (hm : 0 ≤ m ∧ m ≤ 8) (hG : ∀ e ∈ es, okE m e = true) (h : SS m es n often toks out) (hp : pick es often toks m.toNat 0 = some k) :
    ∃ n', n = n' + 1 ∧ (0 ≤ k ∧ k < m) ∧ at0 often k > 0 ∧ canF k es toks = true ∧ SS m es n' (often.set k.toNat (at0 often k - 1)) (fired k es toks) (out ++ [k]) := by
  obtain ⟨h1, h2, h3, h4⟩ := pick_some hp
  have hk : 0 ≤ k ∧ k < m := by omega
  have hlt : k.toNat < often.length := by have := h.ol; omega
  have hs := sumI_set (v := at0 often k - 1) hlt
  have hs : sumI (often.set k.toNat (at0 often k - 1)) = sumI often - 1 := by rw [hs]; show sumI often - at0 often k + (at0 often k - 1) = _; omega
  have hnn : ∀ x ∈ often.set k.toNat (at0 often k - 1), 0 ≤ x := by
    intro x hx
    rcases List.mem_or_eq_of_mem_set hx with hx | rfl
    · exact h.nn x hx
    · omega
  have h0 := sumI_nonneg hnn
  have hsum := h.sum
  cases n with
  | zero => omega
  | succ n =>
    refine ⟨n, rfl, hk, h3, h4, ⟨by simpa using h.ol, hnn, by omega, fired_length k h.tl, ?_, ?_⟩⟩
    · have := fired_B hG h4 h.tb
      intro t ht
      have := this t ht
      simp only [List.length_append, List.length_cons, List.length_nil]
      omega
    · have := h.sz
      simp only [List.length_append, List.length_cons, List.length_nil]
      omega

/-! ### the program -/

theorem turn13 {n : Nat} {often toks out : List Int} (hm : 0 ≤ m ∧ m ≤ 8) (hl : es.length ≤ 16) (hG : ∀ e ∈ es, okE m e = true) (h : SS m es n often toks out) : ∀ (d : Nat) (k : Int), 0 ≤ k → k + d = m →
    t13_6 k m es often toks out = match pick es often toks d k with
      | some k' => t13_5 m es (often.set k'.toNat (at0 often k' - 1)) (fired k' es toks) (out ++ [k'])
      | none => bif decide (sumI often > 0) then some (((), false), [], ()) else some (((), true), out, ())
  | 0, k, h0, hk => by
    rw [t13_6_eq, r13_6]
    have h1 : ¬ (k < m) := by omega
    have h2 : (k == m) = true := by simp; omega
    simp only [h1, decide_false, cond_false, h2, cond_true, pick]
    rw [M56_is _ (by have := h.ol; omega), bind_some', sumI_zero h.nn]
  | d + 1, k, h0, hk => by
    rw [t13_6_eq, r13_6]
    have h1 : k < m := by omega
    have h3 : k < (often.length : Int) := by have := h.ol; omega
    have hrd : List.getD often (Int.toNat k) 0 = at0 often k := rfl
    simp only [h1, h0, h3, decide_true, cond_true, hrd, pick]
    rw [wrap_ok (n := k + 1) (by omega) (by omega)]
    have ih := turn13 hm hl hG h d (k + 1) (by omega) (by omega)
    have hnk : 0 ≤ at0 often k := by
      have hlt : k.toNat < often.length := by omega
      have e : at0 often k = often[k.toNat] := by unfold at0; exact getD_lt hlt
      rw [e]; exact h.nn _ (List.getElem_mem hlt)
    have hub : at0 often k ≤ 1600 := by
      have hlt : k.toNat < often.length := by omega
      have hs := sumI_set (v := 0) hlt
      have : 0 ≤ sumI (often.set k.toNat 0) := sumI_nonneg fun x hx => by
        rcases List.mem_or_eq_of_mem_set hx with hx | rfl
        · exact h.nn x hx
        · exact Int.le_refl _
      have hz : often.getD k.toNat 0 = at0 often k := rfl
      have := h.sum
      have := h.sz
      omega
    have hsz := h.sz
    rw [M55_is (B := 50 + 5 * out.length) (by omega) hl hG ⟨h0, h1⟩ h.tl h.tb]
    by_cases hz : at0 often k = 0
    · have hz1 : (at0 often k == 0) = true := by simpa using hz
      have hz2 : ¬ (at0 often k > 0) := by omega
      simp only [hz1, cond_true, hz2, decide_false, Bool.false_and, cond_false]
      exact ih
    · have hz1 : (at0 often k == 0) = false := by simpa using hz
      have hz2 : at0 often k > 0 := by omega
      simp only [hz1, cond_false, hz2, decide_true, Bool.true_and]
      cases hc : canF k es toks with
      | false =>
        simp only [cond_false, bind_some', Bool.not_false, cond_true]
        exact ih
      | true =>
        have hne : (k == m) = false := by simp; omega
        simp only [cond_true, bind_some', Bool.not_true, cond_false, hne]
        rw [fit_ok (by simp; omega), cond_true, wrap_ok (n := at0 often k - 1) (by omega) (by omega)]

theorem sched13 (hm : 0 ≤ m ∧ m ≤ 8) (hl : es.length ≤ 16) (hG : ∀ e ∈ es, okE m e = true) : ∀ (n : Nat) (often toks out : List Int), SS m es n often toks out → t13_5 m es often toks out = sched m es n often toks out
  | n, often, toks, out, h => by
    rw [t13_5_eq, r13_5, turn13 hm hl hG h m.toNat 0 (Int.le_refl _) (by omega)]
    cases hp : pick es often toks m.toNat 0 with
    | none => rw [sched_none hp]
    | some k =>
      obtain ⟨n', rfl, _, _, _, h'⟩ := h.step hm hG hp
      rw [sched_some hp]
      exact sched13 hm hl hG n' _ _ _ h'

/-! ### the reference -/

theorem rest14 (left : Int) (often toks out : List Int) (hm : 0 ≤ m ∧ m ≤ 8) : ∀ (d : Nat) (k : Int), k + d = m → t14_16 left true k m es often toks out = t14_12 (IntKind.wrap .i64 (left - 1)) m es often toks out
  | 0, k, hk => by
    rw [t14_16_eq, r14_16]
    have h1 : ¬ (k < m) := by omega
    simp only [h1, decide_false, cond_false, Bool.not_true]
  | d + 1, k, hk => by
    rw [t14_16_eq, r14_16]
    simp only [Bool.not_true, cond_false]
    cases decide (k < m) <;> rfl

theorem turn14 {n : Nat} {often toks out : List Int} (hm : 0 ≤ m ∧ m ≤ 8) (hl : es.length ≤ 16) (hG : ∀ e ∈ es, okE m e = true) (h : SS m es n often toks out) : ∀ (d : Nat) (k : Int), 0 ≤ k → k + d = m →
    t14_16 n false k m es often toks out = match pick es often toks d k with
      | some k' => t14_12 (IntKind.wrap .i64 ((n : Int) - 1)) m es (often.set k'.toNat (at0 often k' - 1)) (fired k' es toks) (out ++ [k'])
      | none => some (((), false), [], ())
  | 0, k, h0, hk => by
    rw [t14_16_eq, r14_16]
    have h1 : ¬ (k < m) := by omega
    simp only [h1, decide_false, cond_false, Bool.not_false, cond_true, pick]
  | d + 1, k, h0, hk => by
    rw [t14_16_eq, r14_16]
    have h1 : k < m := by omega
    have h3 : k < (often.length : Int) := by have := h.ol; omega
    have hrd : List.getD often (Int.toNat k) 0 = at0 often k := rfl
    have hsz := h.sz
    simp only [h1, h0, h3, decide_true, cond_true, hrd, pick, Bool.not_false]
    rw [wrap_ok (n := k + 1) (by omega) (by omega)]
    have ih := turn14 hm hl hG h d (k + 1) (by omega) (by omega)
    rw [M59_is (B := 50 + 5 * out.length) (by omega) hl hG h.tl h.tb]
    cases hc : canF k es toks with
    | false =>
      simp only [cond_false, bind_some', Bool.and_false]
      exact ih
    | true =>
      simp only [cond_true, bind_some', Bool.and_true]
      by_cases hz : at0 often k > 0
      · have hub : at0 often k ≤ 1600 := by
          have hlt : k.toNat < often.length := by omega
          have hs := sumI_set (v := 0) hlt
          have : 0 ≤ sumI (often.set k.toNat 0) := sumI_nonneg fun x hx => by
            rcases List.mem_or_eq_of_mem_set hx with hx | rfl
            · exact h.nn x hx
            · exact Int.le_refl _
          have hz : often.getD k.toNat 0 = at0 often k := rfl
          have := h.sum
          omega
        simp only [hz, decide_true, cond_true]
        rw [fit_ok (by simp; omega), cond_true, wrap_ok (n := at0 often k - 1) (by omega) (by omega)]
        exact rest14 n _ _ _ hm d (k + 1) (by omega)
      · simp only [hz, decide_false, cond_false]
        exact ih

theorem sched14 (hm : 0 ≤ m ∧ m ≤ 8) (hl : es.length ≤ 16) (hG : ∀ e ∈ es, okE m e = true) : ∀ (n : Nat) (often toks out : List Int), SS m es n often toks out → t14_12 n m es often toks out = sched m es n often toks out
  | n, often, toks, out, h => by
    rw [t14_12_eq, r14_12]
    have hsz := h.sz
    cases n with
    | zero =>
      have h1 : ¬ (((0 : Nat) : Int) > 0) := by omega
      simp only [h1, decide_false, cond_false]
      have hs := h.sum
      cases hp : pick es often toks m.toNat 0 with
      | none =>
        have : ¬ (sumI often > 0) := by omega
        rw [sched_none hp]
        simp only [this, decide_false, cond_false]
      | some k => obtain ⟨n', hn, _⟩ := h.step hm hG hp; omega
    | succ n =>
      have h1 : (((n + 1 : Nat) : Int) > 0) := by omega
      simp only [h1, decide_true, cond_true]
      rw [turn14 hm hl hG h m.toNat 0 (Int.le_refl _) (by omega)]
      have hs := h.sum
      cases hp : pick es often toks m.toNat 0 with
      | none =>
        have : sumI often > 0 := by omega
        rw [sched_none hp]
        simp only [this, decide_true, cond_true]
      | some k =>
        obtain ⟨n', hn, _, _, _, h'⟩ := h.step hm hG hp
        cases hn
        rw [sched_some hp]
        simp only
        rw [wrap_ok (by omega) (by omega), show ((n + 1 : Nat) : Int) - 1 = (n : Nat) by omega]
        exact sched14 hm hl hG n _ _ _ h'

theorem sum14 {q : List Int} (hq : q.length ≤ 8) (hb : ∀ x ∈ q, 0 ≤ x ∧ x ≤ 200) : ∀ (d i : Nat) (a : Int), i + d = q.length → 0 ≤ a ∧ a ≤ 200 * i → a + sumI (q.drop i) = sumI q →
    t14_6 a q.length i m es q = Option.bind (M58 m es) fun d37 => t14_12 (sumI q) m es q (Prod.fst (Prod.snd d37)) []
  | 0, i, a, hi, ha, hs => by
    rw [t14_6_eq, r14_6]
    have h1 : ¬ ((i : Int) < (q.length : Int)) := by omega
    simp only [h1, decide_false, cond_false]
    rw [List.drop_eq_nil_of_le (by omega)] at hs
    simp only [sumI, Int.add_zero] at hs
    rw [hs]
  | d + 1, i, a, hi, ha, hs => by
    rw [t14_6_eq, r14_6]
    have h1 : ((i : Int) < (q.length : Int)) := by omega
    have h2 : (0 : Int) ≤ i := by omega
    have hlt : i < q.length := by omega
    have hx := hb _ (List.getElem_mem hlt)
    rw [List.drop_eq_getElem_cons hlt] at hs
    simp only [h1, h2, decide_true, cond_true, Int.toNat_natCast, getD_lt hlt, sumI] at hs ⊢
    rw [wrap_ok (n := (i : Int) + 1) (by omega) (by omega), wrap_ok (n := a + q[i]) (by omega) (by omega)]
    exact sum14 hq hb d (i + 1) _ (by omega) (by omega) (by omega)

/-- the program's schedule is the reference's -/
theorem M13_M14 (m : Int) (es : List E5) : M13 m es = M14 m es := by
  rw [M13_eq, r13, M14_eq, r14, M11_M12]
  cases hg : isG m es with
  | false => rw [M12_no hg]; rfl
  | true =>
    obtain ⟨hm, hl, hG⟩ := isG_iff.1 hg
    rcases M12_is hg with ⟨q, hq, hL⟩ | ⟨_, hq⟩
    · rw [hq]
      simp only [bind_some', Bool.not_true, cond_false]
      have hql := hL.ql
      have hb : ∀ x ∈ q, 0 ≤ x ∧ x ≤ 200 := by
        intro x hx
        obtain ⟨i, hi, rfl⟩ := List.getElem_of_mem hx
        have e : at0 q i = q[i] := by unfold at0; rw [Int.toNat_natCast, getD_lt hi]
        have h1 := hL.good.1.1 i (by omega) (by omega)
        have h2 := hL.good.2 i (by omega) (by omega)
        omega
      have hs0 : 0 ≤ sumI q := sumI_nonneg fun x hx => (hb x hx).1
      have hs1 : sumI q ≤ 200 * q.length := sumI_le fun x hx => (hb x hx).2
      have S0 : SS m es (sumI q).toNat q (tok0 es) [] := by
        refine ⟨hql, fun x hx => (hb x hx).1, by omega, by simp [tok0], ?_, by simp; omega⟩
        intro t ht
        simp only [tok0, List.mem_map] at ht
        obtain ⟨e, he, rfl⟩ := ht
        have := okE_iff.1 (hG e he)
        simp; omega
      have h6 := sum14 (m := m) (es := es) (q := q) (by omega) hb q.length 0 0 (by omega) (by omega) (by simp)
      have h6 : t14_6 0 q.length 0 m es q = Option.bind (M58 m es) fun d37 => t14_12 (sumI q) m es q (Prod.fst (Prod.snd d37)) [] := h6
      rw [h6, M54_is hl, M58_is hl, bind_some', bind_some']
      simp only
      rw [sched13 hm hl hG _ _ _ _ S0]
      have h14 := sched14 hm hl hG _ _ _ _ S0
      rw [show (((sumI q).toNat : Nat) : Int) = sumI q by omega] at h14
      exact h14.symm
    · rw [hq]; rfl

end
end Go.AI
