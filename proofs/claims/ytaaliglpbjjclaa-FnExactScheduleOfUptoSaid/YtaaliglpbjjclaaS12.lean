/- SOUNDNESS: handles named anew; what a call makes becomes the caller's; calls that borrow. -/
import Derived.Test.YtaaliglpbjjclaaS11
namespace Go.AI
set_option linter.unusedVariables false
set_option linter.unusedSimpArgs false

/-- a call comes to a value -/
def CallOk (P : Program) (f : FuncId) (vals : Array Value) (w : World) (G : Value → World → Prop) : Prop :=
  (∃ x w', (callFunc f vals).run P w = .ok (.value x) w' ∧ G x w') ∨
  (∃ g args w', (callFunc f vals).run P w = .ok (.enter g args) w' ∧ Calls P g args w' fun e w'' => ∃ x, e = .returned x ∧ G x w'')

/-- what a function's abstract meaning promises -/
def Sound (P : Program) (f : FuncId) (S : Sm) : Prop :=
  ∀ (A : Env) (args : List AV) (vals : Array Value) (roots : List Root) (r : AV) (roots' : List Root), A.hp = numbered 0 roots → HeapRel A → relL A args vals.toList → S args roots some = some (r, roots') →
    CallOk P f vals A.w fun x w' => ∃ m' I', HeapRel ⟨w', m', numbered 0 roots', I'⟩ ∧ Hist A roots.length ⟨w', m', numbered 0 roots', I'⟩ ∧ relV ⟨w', m', numbered 0 roots', I'⟩ r x

def like (r r' : Root) : Prop := fits r r' ∧ (r' = .gone → r = .gone)

theorem memN_iff {x : Nat} {l : List Nat} : memN x l = true ↔ x ∈ l := by
  induction l with
  | nil => simp [memN]
  | cons y l ih =>
    simp only [memN, Bool.or_eq_true, ih, List.mem_cons]
    constructor
    · rintro (h | h)
      · exact .inl (Nat.eq_of_beq_eq_true h).symm
      · exact .inr h
    · rintro (h | h)
      · left; rw [h]; exact Nat.beq_refl _
      · exact .inr h

theorem getH_gone_of {hp : List (Nat × Root)} {h : Nat} (g : hasH hp h = false) : getH hp h = .gone := by
  cases hx : getH hp h with
  | gone => rfl
  | box cs => have := hasH_of_getH (hp := hp) (h := h) (by rw [hx]; simp); rw [g] at this; cases this
  | arr e l => have := hasH_of_getH (hp := hp) (h := h) (by rw [hx]; simp); rw [g] at this; cases this
  | imm e l => have := hasH_of_getH (hp := hp) (h := h) (by rw [hx]; simp); rw [g] at this; cases this

/-- an environment whose handles are those of another by other names -/
structure Ren (g : Nat → Option Nat) (E E' : Env) : Prop where
  w : E'.w = E.w
  m : ∀ h k, g h = some k → E'.m k = E.m h
  like : ∀ h k, g h = some k → like (getH E.hp h) (getH E'.hp k)
  has : ∀ h k, g h = some k → hasH E'.hp k = true

theorem any_false {α : Type} {p : α → Bool} {l : List α} (h : l.any p = false) : ∀ x ∈ l, p x = false := by
  intro x hx
  cases hp : p x with
  | false => rfl
  | true => rw [List.any_eq_true.2 ⟨x, hx, hp⟩] at h; cases h

theorem repT_world {w : World} {I : Nat → Prop} {t : Ty} {x : t.D} {cs : List Value} (h : repT w I t x cs) : repT w I t x cs := h

theorem repT_flat {w w' : World} {I I' : Nat → Prop} : ∀ {t : Ty} {x : t.D} {cs : List Value}, t.flat = true → repT w I t x cs → repT w' I' t x cs
  | .unit, _, _, _, h => h
  | .int _, _, _, _, h => h
  | .bool, _, _, _, h => h
  | .str, _, _, _, h => h
  | .sl e, _, _, h, _ => by simp [Ty.flat] at h
  | .pair a b, _, _, hf, h => by
    simp only [Ty.flat, Bool.and_eq_true] at hf
    obtain ⟨c1, c2, rfl, h1, h2⟩ := h
    exact ⟨c1, c2, rfl, repT_flat hf.1 h1, repT_flat hf.2 h2⟩

theorem relL_map {E E' : Env} {f : AV → AV} : ∀ {cs : List AV} {vs : List Value}, (∀ c ∈ cs, ∀ v, relV E c v → relV E' (f c) v) → relL E cs vs → relL E' (cs.map f) vs
  | [], [], _, _ => by simp [relL]
  | c :: cs, v :: vs, hf, h => by
    simp only [relL, List.map_cons] at h ⊢
    exact ⟨hf c (by simp) v h.1, relL_map (fun c hc => hf c (by simp [hc])) h.2⟩
theorem relC_map {E E' : Env} {f : AV → AV} : ∀ {cs : List AV} {vs : List Value}, (∀ c ∈ cs, ∀ v, relV E c v → relV E' (f c) v) → relC E cs vs → relC E' (cs.map f) vs
  | [], [], _, _ => by simp [relC]
  | c :: cs, v :: vs, hf, h => by
    simp only [relC, List.map_cons] at h ⊢
    exact ⟨h.1, hf c (by simp) v h.2.1, relC_map (fun c hc => hf c (by simp [hc])) h.2.2⟩

theorem ren_ok {g : Nat → Option Nat} {E E' : Env} (R : Ren g E E') : ∀ (n : Nat) {v : AV} {x : Value}, ((∀ b, E.I b → E'.I b) ∨ immF n v = false) → relV E v x → relV E' (renG g n v) x
  | 0, v, x, _, _ => by simp [renG, relV]
  | n + 1, v, x, hI, h => by
    have sub : ∀ cs : List AV, ((∀ b, E.I b → E'.I b) ∨ cs.any (immF n) = false) → ∀ c ∈ cs, ∀ v, relV E c v → relV E' (renG g n c) v := by
      intro cs hI c hc v hv
      refine ren_ok R n ?_ hv
      rcases hI with hI | hI
      · exact .inl hI
      · exact .inr (any_false hI c hc)
    cases v with
    | any => simp [renG, relV]
    | val u => simpa [renG, relV] using h
    | ifc b => simpa [renG, relV] using h
    | agg cs =>
      simp only [renG, relV] at h ⊢
      obtain ⟨vs, rfl, hc⟩ := h
      exact ⟨vs, rfl, relC_map (sub cs (by simpa [immF] using hI)) hc⟩
    | tup cs =>
      simp only [renG, relV] at h ⊢
      obtain ⟨vs, rfl, hc⟩ := h
      exact ⟨vs, rfl, relL_map (sub cs (by simpa [immF] using hI)) hc⟩
    | fn f cs =>
      simp only [renG, relV] at h ⊢
      obtain ⟨vs, rfl, hc⟩ := h
      exact ⟨vs, rfl, relL_map (sub cs (by simpa [immF] using hI)) hc⟩
    | sl e ls nn =>
      rcases hI with hI | hI
      · simp only [renG, relV] at h ⊢
        obtain ⟨a, k, c, rfl, hs, h1, h2⟩ := h
        rw [R.w]
        exact ⟨a, k, c, rfl, repS_mono hs (fun _ _ => rfl) hI (fun _ _ hx => repT_mono (fun _ _ => rfl) hI hx), h1, h2⟩
      · simp [immF] at hI
    | cp cs =>
      rcases hI with hI | hI
      · simp only [renG, relV] at h ⊢
        obtain ⟨b, o, vs, rfl, hb, hat, hc⟩ := h
        rw [R.w]
        exact ⟨b, o, vs, rfl, hI _ hb, hat, relC_map (sub cs (.inl hI)) hc⟩
      · simp [immF] at hI
    | ref h0 lo len =>
      cases hm : g h0 with
      | none => simp [renG, hm, relV]
      | some k0 =>
        have hlk := R.like h0 k0 hm
        have hmm := R.m h0 k0 hm
        have hh := R.has h0 k0 hm
        simp only [renG, hm, relV] at h ⊢
        cases h1 : getH E.hp h0 with
        | gone =>
          rw [h1] at h hlk
          cases h2 : getH E'.hp k0 with
          | gone => exact ⟨hh, h.2⟩
          | box cs => rw [h2] at hlk; exact hlk.1.elim
          | arr e ls => rw [h2] at hlk; exact hlk.1.elim
          | imm e ls => rw [h2] at hlk; exact hlk.1.elim
        | box cs =>
          rw [h1] at h hlk
          cases h2 : getH E'.hp k0 with
          | gone => rw [h2] at hlk; exact absurd (hlk.2 rfl) (by simp)
          | box cs' => rw [h2] at hlk; have hl : cs.length = cs'.length := hlk.1; simp only; rw [R.w, hmm, ← hl]; exact h
          | arr e ls => rw [h2] at hlk; exact hlk.1.elim
          | imm e ls => rw [h2] at hlk; exact hlk.1.elim
        | arr e ls =>
          rw [h1] at h hlk
          cases h2 : getH E'.hp k0 with
          | gone => rw [h2] at hlk; exact absurd (hlk.2 rfl) (by simp)
          | box cs => rw [h2] at hlk; exact hlk.1.elim
          | arr e' ls' => rw [h2] at hlk; obtain ⟨rfl, hl⟩ := hlk.1; simp only; rw [R.w, hmm, ← hl]; exact h
          | imm e' ls' => rw [h2] at hlk; obtain ⟨rfl, hl⟩ := hlk.1; simp only; rw [R.w, hmm, ← hl]; exact h
        | imm e ls =>
          rw [h1] at h hlk
          cases h2 : getH E'.hp k0 with
          | gone => rw [h2] at hlk; exact absurd (hlk.2 rfl) (by simp)
          | box cs => rw [h2] at hlk; exact hlk.1.elim
          | arr e' ls' => rw [h2] at hlk; exact hlk.1.elim
          | imm e' ls' => rw [h2] at hlk; obtain ⟨rfl, hl⟩ := hlk.1; simp only; rw [R.w, hmm, ← hl]; exact h
    | ptr h0 i f =>
      cases hm : g h0 with
      | none => simp [renG, hm, relV]
      | some k0 =>
        have hlk := R.like h0 k0 hm
        have hmm := R.m h0 k0 hm
        have hh := R.has h0 k0 hm
        simp only [renG, hm, relV] at h ⊢
        cases h1 : getH E.hp h0 with
        | gone =>
          rw [h1] at h hlk
          cases h2 : getH E'.hp k0 with
          | gone => exact ⟨hh, h.2⟩
          | box cs => rw [h2] at hlk; exact hlk.1.elim
          | arr e ls => rw [h2] at hlk; exact hlk.1.elim
          | imm e ls => rw [h2] at hlk; exact hlk.1.elim
        | box cs =>
          rw [h1] at h hlk
          cases h2 : getH E'.hp k0 with
          | gone => rw [h2] at hlk; exact absurd (hlk.2 rfl) (by simp)
          | box cs' => obtain ⟨b, h3, h4⟩ := h; exact ⟨b, hmm.trans h3, h4⟩
          | arr e ls => rw [h2] at hlk; exact hlk.1.elim
          | imm e ls => rw [h2] at hlk; exact hlk.1.elim
        | arr e ls =>
          rw [h1] at h hlk
          cases h2 : getH E'.hp k0 with
          | gone => rw [h2] at hlk; exact absurd (hlk.2 rfl) (by simp)
          | box cs => rw [h2] at hlk; exact hlk.1.elim
          | arr e' ls' => rw [h2] at hlk; obtain ⟨rfl, hl⟩ := hlk.1; obtain ⟨b, o, h3, h4, h5⟩ := h; exact ⟨b, o, hmm.trans h3, h4, by rw [← hl]; exact h5⟩
          | imm e' ls' => rw [h2] at hlk; obtain ⟨rfl, hl⟩ := hlk.1; obtain ⟨b, o, h3, h4, h5⟩ := h; exact ⟨b, o, hmm.trans h3, h4, by rw [← hl]; exact h5⟩
        | imm e ls =>
          rw [h1] at h hlk
          cases h2 : getH E'.hp k0 with
          | gone => rw [h2] at hlk; exact absurd (hlk.2 rfl) (by simp)
          | box cs => rw [h2] at hlk; exact hlk.1.elim
          | arr e' ls' => rw [h2] at hlk; exact hlk.1.elim
          | imm e' ls' => rw [h2] at hlk; obtain ⟨rfl, hl⟩ := hlk.1; obtain ⟨b, o, h3, h4, h5⟩ := h; exact ⟨b, o, hmm.trans h3, h4, by rw [← hl]; exact h5⟩

/-- a root by its new name -/
theorem rootOk_ren {g : Nat → Option Nat} {E E' : Env} (R : Ren g E E') {h k : Nat} {x : Root} (hm : E'.m k = E.m h) (hI : (∀ b, E.I b → E'.I b) ∨ immR x = false)
    (hn : owned x = true → ∀ b o, E.m h = some (b, o) → ¬ E.I b → ¬ E'.I b) (H : rootOk E h x) : rootOk E' k (renRoot g x) := by
  cases x with
  | gone => trivial
  | box cs =>
    obtain ⟨b, vs, T, h1, h2, h3, h4⟩ := H
    refine ⟨b, vs, T, hm.trans h1, hn rfl b 0 h1 h2, by rw [R.w]; exact h3, relC_map (fun c hc v hv => ren_ok R 6 ?_ hv) h4⟩
    rcases hI with hI | hI
    · exact .inl hI
    · exact .inr (any_false hI c hc)
  | arr e ls =>
    refine ⟨H.1, ?_⟩
    rcases H.2 with ⟨h1, h2⟩ | ⟨b, o, vss, h1, h2, h3⟩
    · exact .inl ⟨hm.trans h1, h2⟩
    · simp only [if_true] at h2
      refine .inr ⟨b, o, vss, hm.trans h1, ?_, ?_⟩
      · simp only [if_true]; rw [R.w]; exact ⟨hn rfl b o h1 h2.1, h2.2⟩
      · rw [R.w]
        rcases hI with hI | hI
        · exact h3.mono fun _ _ => repT_mono (fun _ _ => rfl) hI
        · have hf : e.flat = true := by simpa [immR] using hI
          exact h3.mono fun _ _ => repT_flat hf
  | imm e ls =>
    refine ⟨H.1, ?_⟩
    rcases hI with hI | hI
    · rcases H.2 with ⟨h1, h2⟩ | ⟨b, o, vss, h1, h2, h3⟩
      · exact .inl ⟨hm.trans h1, h2⟩
      · simp only [Bool.false_eq_true, if_false] at h2
        refine .inr ⟨b, o, vss, hm.trans h1, ?_, ?_⟩
        · simp only [Bool.false_eq_true, if_false]; rw [R.w]; exact ⟨hI _ h2.1, h2.2⟩
        · rw [R.w]; exact h3.mono fun _ _ => repT_mono (fun _ _ => rfl) hI
    · simp [immR] at hI

theorem like_ren (g : Nat → Option Nat) (x : Root) : like x (renRoot g x) := by
  cases x with
  | gone => exact ⟨trivial, fun _ => rfl⟩
  | box cs => exact ⟨by simp [renRoot, fits], by simp [renRoot]⟩
  | arr e ls => exact ⟨⟨rfl, rfl⟩, by simp [renRoot]⟩
  | imm e ls => exact ⟨⟨rfl, rfl⟩, by simp [renRoot]⟩

theorem getH_numbered : ∀ (roots : List Root) (base h : Nat), getH (numbered base roots) h = if base ≤ h ∧ h < base + roots.length then roots.getD (h - base) .gone else .gone
  | [], base, h => by
    have : ¬ (base ≤ h ∧ h < base + 0) := by omega
    simp [numbered, getH]
  | x :: r, base, h => by
    simp only [numbered, getH]
    cases hb : Nat.beq base h with
    | true =>
      have := Nat.eq_of_beq_eq_true hb
      subst this
      simp
    | false =>
      have hne : base ≠ h := fun e => by subst e; rw [Nat.beq_refl] at hb; cases hb
      rw [cond_false, getH_numbered r (base + 1) h]
      simp only [List.length_cons]
      by_cases hc : base + 1 ≤ h ∧ h < base + 1 + r.length
      · rw [if_pos hc, if_pos (by omega)]
        rw [show h - base = h - (base + 1) + 1 by omega, List.getD_cons_succ]
      · rw [if_neg hc, if_neg (by omega)]
theorem hasH_numbered : ∀ (roots : List Root) (base h : Nat), hasH (numbered base roots) h = decide (base ≤ h ∧ h < base + roots.length)
  | [], base, h => by
    have : ¬ (base ≤ h ∧ h < base + 0) := by omega
    simp [numbered, hasH]
  | x :: r, base, h => by
    simp only [numbered, hasH]
    rw [hasH_numbered r (base + 1) h]
    cases hb : Nat.beq base h with
    | true =>
      have := Nat.eq_of_beq_eq_true hb
      subst this
      simp
    | false =>
      have hne : base ≠ h := fun e => by subst e; rw [Nat.beq_refl] at hb; cases hb
      simp only [Bool.false_or, List.length_cons, decide_eq_decide]
      omega
theorem getH_append {hp hq : List (Nat × Root)} {h : Nat} : getH (hp ++ hq) h = if hasH hp h = true then getH hp h else getH hq h := by
  induction hp with
  | nil => simp [hasH]
  | cons p hp ih =>
    obtain ⟨j, x⟩ := p
    simp only [List.cons_append, getH, hasH]
    by_cases hb : Nat.beq j h = true
    · simp [hb]
    · have hb : Nat.beq j h = false := by
        cases h' : Nat.beq j h with
        | false => rfl
        | true => exact absurd h' hb
      simp only [hb, cond_false, Bool.false_or]; exact ih
theorem hasH_append {hp hq : List (Nat × Root)} {h : Nat} : hasH (hp ++ hq) h = (hasH hp h || hasH hq h) := by
  induction hp with
  | nil => simp [hasH]
  | cons p hp ih =>
    obtain ⟨j, x⟩ := p
    simp only [List.cons_append, hasH, ih, Bool.or_assoc]

theorem idxG_ok {l : List Nat} : ∀ {i h k : Nat}, idxG l i h = some k → i ≤ k ∧ l[k - i]? = some h := by
  induction l with
  | nil => intro i h k e; cases e
  | cons y l ih =>
    intro i h k e
    simp only [idxG] at e
    cases hb : Nat.beq y h with
    | true =>
      rw [hb] at e; cases e
      have := Nat.eq_of_beq_eq_true hb
      subst this; simp
    | false =>
      rw [hb, cond_false] at e
      obtain ⟨h1, h2⟩ := ih e
      refine ⟨by omega, ?_⟩
      rw [show k - i = k - (i + 1) + 1 by omega, List.getElem?_cons_succ]; exact h2
theorem idxO_ok {l : List Nat} {h k : Nat} (e : idxO l h = some k) : l[k]? = some h := by simpa using (idxG_ok e).2
theorem idxG_of {l : List Nat} (hl : l.Nodup) : ∀ {i k h : Nat}, l[k]? = some h → idxG l i h = some (i + k) := by
  induction l with
  | nil => intro i k h e; simp at e
  | cons y l ih =>
    intro i k h e
    have hl := List.nodup_cons.1 hl
    cases k with
    | zero => simp at e; subst e; simp [idxG, Nat.beq_refl]
    | succ k =>
      rw [List.getElem?_cons_succ] at e
      have hne : Nat.beq y h = false := by
        cases hb : Nat.beq y h with
        | false => rfl
        | true => have := Nat.eq_of_beq_eq_true hb; subst this; exact absurd (List.mem_of_getElem? e) hl.1
      simp only [idxG, hne, cond_false]
      rw [ih hl.2 e]; congr 1; omega
theorem idxO_of {l : List Nat} (hl : l.Nodup) {k h : Nat} (e : l[k]? = some h) : idxO l h = some k := by simpa [idxO] using idxG_of hl (i := 0) e
theorem shiftO_ok {n base h k : Nat} (e : shiftO n base h = some k) : h < n ∧ k = base + h := by
  unfold shiftO at e
  cases hb : Nat.blt h n with
  | false => rw [hb] at e; cases e
  | true => rw [hb] at e; cases e; exact ⟨Nat.le_of_ble_eq_true hb, rfl⟩

end Go.AI
