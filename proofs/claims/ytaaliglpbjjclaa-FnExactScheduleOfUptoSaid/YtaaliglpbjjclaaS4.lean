/- SOUNDNESS: one root is changed or made; loads and addresses. -/
import Derived.Test.YtaaliglpbjjclaaS3
import Derived.Laws.CopyRow
import Derived.Laws.Tables
namespace Go.AI

def upd (m : Nat → Option (Nat × Nat)) (h : Nat) (p : Option (Nat × Nat)) : Nat → Option (Nat × Nat) := fun k => if k = h then p else m k

theorem getH_same (hp : List (Nat × Root)) (h : Nat) (x : Root) : getH ((h, x) :: hp) h = x := by simp [getH]
theorem getH_other (hp : List (Nat × Root)) {h k : Nat} (x : Root) (e : k ≠ h) : getH ((h, x) :: hp) k = getH hp k := by
  have : Nat.beq h k = false := by
    cases hb : Nat.beq h k with
    | false => rfl
    | true => exact absurd (Nat.eq_of_beq_eq_true hb).symm e
  simp [getH, this]
theorem hasH_cons (hp : List (Nat × Root)) (h k : Nat) (x : Root) : hasH ((h, x) :: hp) k = (Nat.beq h k || hasH hp k) := rfl
theorem upd_same (m : Nat → Option (Nat × Nat)) (h : Nat) (p : Option (Nat × Nat)) : upd m h p h = p := by simp [upd]
theorem upd_other (m : Nat → Option (Nat × Nat)) {h k : Nat} (p : Option (Nat × Nat)) (e : k ≠ h) : upd m h p k = m k := by simp [upd, e]

theorem arrOk_mono {E E' : Env} (g : Grows E E') {h : Nat} {e : Ty} {l : List e.D} {own : Bool} (hm : E'.m h = E.m h)
    (hb : own = true → ∀ b o, E.m h = some (b, o) → E'.w.heap[b]? = E.w.heap[b]? ∧ ¬ E'.I b) (H : arrOk E h e l own) : arrOk E' h e l own := by
  refine ⟨H.1, ?_⟩
  rcases H.2 with ⟨h1, h2⟩ | ⟨b, o, vss, h1, h2, h3⟩
  · exact .inl ⟨hm.trans h1, h2⟩
  · refine .inr ⟨b, o, vss, hm.trans h1, ?_, h3.mono fun _ _ => repT_mono g.imm g.sub⟩
    cases own with
    | true =>
      simp only [if_true] at h2 ⊢
      obtain ⟨q1, q2⟩ := hb rfl b o h1
      exact ⟨q2, h2.2.mono q1⟩
    | false =>
      simp only [Bool.false_eq_true, if_false] at h2 ⊢
      exact ⟨g.sub _ h2.1, h2.2.mono (g.imm _ h2.1)⟩

theorem rootOk_mono {E E' : Env} (g : Grows E E') {h : Nat} {x : Root} (hm : E'.m h = E.m h)
    (hb : owned x = true → ∀ b o, E.m h = some (b, o) → E'.w.heap[b]? = E.w.heap[b]? ∧ ¬ E'.I b) (H : rootOk E h x) : rootOk E' h x := by
  cases x with
  | gone => trivial
  | box cs =>
    obtain ⟨b, vs, T, h1, h2, h3, h4⟩ := H
    obtain ⟨q1, q2⟩ := hb rfl b 0 h1
    exact ⟨b, vs, T, hm.trans h1, q2, q1.trans h3, relC_mono g h4⟩
  | arr e l => exact arrOk_mono g hm (fun _ => hb rfl) H
  | imm e l => exact arrOk_mono g hm (fun h => by cases h) H

theorem tmR_mono {E E' : Env} (g : Grows E E') {tm : List (Nat × AV)} {tmps : Array Value} (h : tmR E tm tmps) : tmR E' tm tmps := fun i => relV_mono g (h i)

/-- what stays of an environment -/
structure Stays (A : Env) (E : Env) (h0 : Nat) (w' : World) (I' : Nat → Prop) (C : Nat → Prop) : Prop where
  sz : E.w.heap.size ≤ w'.heap.size
  same : ∀ b, b < E.w.heap.size → ¬ C b → w'.heap[b]? = E.w.heap[b]?
  free : ∀ b, C b → ¬ E.I b ∧ (Own A b ∨ A.w.heap.size ≤ b) ∧ ∀ h o, h ≠ h0 → owned (getH E.hp h) = true → E.m h ≠ some (b, o)
  bsz : ∀ b, bsz E.w b ≤ bsz w' b
  sub : ∀ b, E.I b → I' b
  imm : ∀ b, I' b → b < w'.heap.size ∧ (E.I b ∨ ((Own A b ∨ A.w.heap.size ≤ b) ∧ ∀ h o, h ≠ h0 → owned (getH E.hp h) = true → E.m h ≠ some (b, o)))
  os : w'.os = E.w.os
  tape : w'.tape = E.w.tape
  output : w'.output = E.w.output

/-- one root is changed or made -/
theorem change1 {A : Env} {keep : Nat} {w : World} {m : Nat → Option (Nat × Nat)} {hp : List (Nat × Root)} {I : Nat → Prop} {tm : List (Nat × AV)} {tmps : Array Value}
    (hg : Good A keep ⟨w, m, hp, I⟩ tm tmps) (h0 : Nat) (x : Root) (p : Option (Nat × Nat)) {w' : World} {I' C : Nat → Prop} (st : Stays A ⟨w, m, hp, I⟩ h0 w' I' C)
    (hfit : hasH hp h0 = true → fits (getH hp h0) x ∧ (x ≠ .gone → p = m h0))
    (hown : owned x = true → ∀ b o, p = some (b, o) → (Own A b ∨ A.w.heap.size ≤ b) ∧ ∀ h o', h ≠ h0 → owned (getH hp h) = true → m h ≠ some (b, o'))
    (hx : Grows ⟨w, m, hp, I⟩ ⟨w', upd m h0 p, (h0, x) :: hp, I'⟩ → rootOk ⟨w', upd m h0 p, (h0, x) :: hp, I'⟩ h0 x) :
    Good A keep ⟨w', upd m h0 p, (h0, x) :: hp, I'⟩ tm tmps ∧ Grows ⟨w, m, hp, I⟩ ⟨w', upd m h0 p, (h0, x) :: hp, I'⟩ := by
  have H := hg.heap
  have hkeep : hasH hp h0 = true ∨ keep ≤ h0 := by
    rcases Nat.lt_or_ge h0 keep with h | h
    · exact .inl (hg.hist.has h0 h)
    · exact .inr h
  have hIlt : ∀ b, I b → b < w.heap.size := H.lt
  have g : Grows ⟨w, m, hp, I⟩ ⟨w', upd m h0 p, (h0, x) :: hp, I'⟩ := by
    refine ⟨fun b hb => st.same b (hIlt b hb) (fun hc => (st.free b hc).1 hb), st.sub, fun h hh => by simp [hasH_cons, hh], ?_, ?_, st.bsz⟩
    · intro h hh
      by_cases e : h = h0
      · subst e; simp only [getH_same]; exact (hfit hh).1
      · simp only [getH_other hp x e]; exact fits_refl _
    · intro h hh hn
      by_cases e : h = h0
      · subst e; simp only [getH_same] at hn; simp only [upd_same]; exact (hfit hh).2 hn
      · exact upd_other m p e
  have others : ∀ h, h ≠ h0 → owned (getH hp h) = true → ∀ b o, m h = some (b, o) → w'.heap[b]? = w.heap[b]? ∧ ¬ I' b := by
    intro h e ho b o hm
    have hl := H.own_lt (b := b) ⟨h, o, ho, hm⟩
    refine ⟨st.same b hl.1 (fun hc => (st.free b hc).2.2 h o e ho hm), fun hi => ?_⟩
    rcases (st.imm b hi).2 with h1 | h1
    · exact hl.2 h1
    · exact h1.2 h o e ho hm
  have own' : ∀ b, Own ⟨w', upd m h0 p, (h0, x) :: hp, I'⟩ b → Own A b ∨ A.w.heap.size ≤ b := by
    rintro b ⟨h, o, ho, hm⟩
    by_cases e : h = h0
    · subst e; simp only [getH_same, upd_same] at ho hm; exact (hown ho b o hm).1
    · simp only [getH_other hp x e, upd_other m p e] at ho hm
      exact hg.hist.own b ⟨h, o, ho, hm⟩
  refine ⟨⟨⟨?_, ?_, fun b hb => (st.imm b hb).1⟩, tmR_mono g hg.tm, ?_⟩, g⟩
  · intro h
    by_cases e : h = h0
    · subst e; simp only [getH_same]; exact hx g
    · simp only [getH_other hp x e]
      exact rootOk_mono g (upd_other m p e) (fun ho b o hm => others h e ho b o hm) (H.root h)
  · intro h h' b o o' h1 h2 h3 h4
    by_cases e : h = h0
    · by_cases e' : h' = h0
      · exact e.trans e'.symm
      · subst e
        simp only [getH_same, upd_same, getH_other hp x e', upd_other m p e'] at h1 h2 h3 h4
        exact absurd h4 ((hown h1 b o h3).2 h' o' e' h2)
    · by_cases e' : h' = h0
      · subst e'
        simp only [getH_same, upd_same, getH_other hp x e, upd_other m p e] at h1 h2 h3 h4
        exact absurd h3 ((hown h2 b o' h4).2 h o e h1)
      · simp only [getH_other hp x e, upd_other m p e, getH_other hp x e', upd_other m p e'] at h1 h2 h3 h4
        exact H.inj h h' b o o' h1 h2 h3 h4
  · have hh := hg.hist
    refine ⟨?_, Nat.le_trans hh.sz st.sz, own', ?_, fun b hb => st.sub b (hh.sub b hb), ?_, ?_, fun h hk => by simp [hasH_cons, hh.has h hk], st.os.trans hh.os, st.tape.trans hh.tape, st.output.trans hh.output, fun b => Nat.le_trans (hh.bsz b) (st.bsz b)⟩
    · intro b hb hn
      refine (st.same b (Nat.lt_of_lt_of_le hb hh.sz) (fun hc => ?_)).trans (hh.old b hb hn)
      rcases (st.free b hc).2.1 with h1 | h1
      · exact hn h1
      · exact absurd hb (by omega)
    · intro b hb
      rcases (st.imm b hb).2 with h1 | h1
      · exact hh.imm b h1
      · exact .inr h1.1
    · intro h hk
      by_cases e : h = h0
      · subst e
        simp only [getH_same]
        rcases hkeep with h1 | h1
        · exact fits_trans (hh.fit h hk) (hfit h1).1
        · omega
      · simp only [getH_other hp x e]; exact hh.fit h hk
    · intro h hk hn
      by_cases e : h = h0
      · subst e
        simp only [getH_same, upd_same] at hn ⊢
        rcases hkeep with h1 | h1
        · have q := hfit h1
          refine (q.2 hn).trans (hh.map h hk ?_)
          intro hgone
          rw [hgone] at q
          cases x <;> first | exact hn rfl | exact q.1.elim
        · omega
      · simp only [getH_other hp x e, upd_other m p e] at hn ⊢
        exact hh.map h hk hn

/-- nothing but a new block -/
theorem Stays.alloc {A E : Env} {keep : Nat} {tm : List (Nat × AV)} {tmps : Array Value} (hg : Good A keep E tm tmps) (h0 : Nat) (o : Obj) :
    Stays A E h0 (E.w.alloc o) E.I (fun _ => False) where
  sz := by simp
  same b hb _ := heap_alloc_old _ _ _ hb
  free _ h := h.elim
  bsz b := by
    unfold AI.bsz
    by_cases hb : b < E.w.heap.size
    · rw [heap_alloc_old _ _ _ hb]; exact Nat.le_refl _
    · rw [Array.getElem?_eq_none (by omega)]; exact Nat.zero_le _
  sub _ h := h
  imm b hb := ⟨by have := hg.heap.lt b hb; simp; omega, .inl hb⟩
  os := rfl
  tape := rfl
  output := rfl

/-- nothing at all -/
theorem Stays.none {A E : Env} {keep : Nat} {tm : List (Nat × AV)} {tmps : Array Value} (hg : Good A keep E tm tmps) (h0 : Nat) : Stays A E h0 E.w E.I (fun _ => False) where
  sz := Nat.le_refl _
  same _ _ _ := rfl
  free _ h := h.elim
  bsz _ := Nat.le_refl _
  sub _ h := h
  imm b hb := ⟨hg.heap.lt b hb, .inl hb⟩
  os := rfl
  tape := rfl
  output := rfl

end Go.AI
