/- SOUNDNESS: canonical shapes; a function's end. -/
import Derived.Test.YtaaliglpbjjclaaS17
import Derived.Test.YtaaliglpbjjclaaA3
namespace Go.AI
set_option linter.unusedVariables false
set_option linter.unusedSimpArgs false

theorem gather_ok (s : St) (keep : Nat) (more : List Nat) : (gather s keep more).Nodup ∧ ∀ h, h < keep → (gather s keep more)[h]? = some h := by
  unfold gather
  simp only
  obtain ⟨h1, h2⟩ := collect_ok (hp := s.hp) 200 (todo := List.range keep ++ more) (acc := []) List.nodup_nil (by intro h hh; cases hh)
  refine ⟨?_, ?_⟩
  · rw [List.nodup_append]
    refine ⟨List.nodup_range, h1.filter _, ?_⟩
    intro a ha b hb e
    subst e
    have := (List.mem_filter.1 hb).2
    rw [memN_iff.2 ha] at this
    cases this
  · intro h hh
    rw [List.getElem?_append_left (by simpa using hh)]
    simp [hh]

section
variable {P : Program} {A : Env} {keep nt : Nat} {ds : List Deferred} {w : World} {s : St} {a : Act} {r : Res} {m : Nat → Option (Nat × Nat)} {I : Nat → Prop}

/-- the handles by their places in a list that begins with those that are kept -/
theorem renumber (hg : Good A keep ⟨w, m, s.hp, I⟩ s.tm a.tmps) {l : List Nat} (hn : l.Nodup) (hk : ∀ h, h < keep → l[h]? = some h) :
    HeapRel ⟨w, fun k => match l[k]? with | some h => m h | none => none, numbered 0 (l.map fun h => renRoot (idxO l) (getH s.hp h)), I⟩ ∧
    Hist A keep ⟨w, fun k => match l[k]? with | some h => m h | none => none, numbered 0 (l.map fun h => renRoot (idxO l) (getH s.hp h)), I⟩ ∧
    Ren (idxO l) ⟨w, m, s.hp, I⟩ ⟨w, fun k => match l[k]? with | some h => m h | none => none, numbered 0 (l.map fun h => renRoot (idxO l) (getH s.hp h)), I⟩ := by
  obtain ⟨H0, R0⟩ := hand_ok hg.heap hn
  refine ⟨H0, ?_, R0⟩
  have a0 := hg.hist
  have hidx : ∀ h, h < keep → idxO l h = some h := fun h hh => idxO_of hn (hk h hh)
  refine ⟨a0.old, a0.sz, ?_, a0.imm, a0.sub, ?_, ?_, ?_, a0.os, a0.tape, a0.output, a0.bsz⟩
  · rintro b ⟨k, o, h1, h2⟩
    simp only at h1 h2
    cases e : l[k]? with
    | none => simp only [e] at h2; cases h2
    | some h =>
      simp only [e] at h2
      have hlt := (List.getElem?_eq_some_iff.1 e).1
      rw [getH_numbered, if_pos (by simp; omega)] at h1
      simp [List.getD_eq_getElem?_getD, List.getElem?_map, e] at h1
      refine a0.own b ⟨h, o, ?_, h2⟩
      cases hq : getH s.hp h <;> rw [hq] at h1 <;> simp_all [renRoot, owned]
  · intro h hh
    exact fits_trans (a0.fit h hh) (R0.like h h (hidx h hh)).1
  · intro h hh hne
    have h1 := R0.m h h (hidx h hh)
    refine h1.trans (a0.map h hh ?_)
    intro e
    have := (R0.like h h (hidx h hh)).1
    simp only [e] at this
    cases hq : getH (numbered 0 (l.map fun h => renRoot (idxO l) (getH s.hp h))) h <;> simp_all [fits]
  · intro h hh
    exact R0.has h h (hidx h hh)

end

/-! ### lists of values -/

def relQ (Q : Value → Prop) (E : Env) (cs : List AV) (vs : List Value) : Prop := All2 (fun c v => Q v ∧ relV E c v) cs vs
theorem relQ_C {E : Env} {cs : List AV} {vs : List Value} : relQ (fun v => v.oneCell' = true) E cs vs ↔ relC E cs vs := relC_iff.symm
theorem relQ_L {E : Env} {cs : List AV} {vs : List Value} : relQ (fun _ => True) E cs vs ↔ relL E cs vs := by
  rw [relL_iff]
  exact ⟨All2.mono fun _ _ h => h.2, All2.mono fun _ _ h => ⟨trivial, h⟩⟩
theorem relQ_mono {Q : Value → Prop} {E E' : Env} (g : Grows E E') {cs : List AV} {vs : List Value} (h : relQ Q E cs vs) : relQ Q E' cs vs := All2.mono (fun _ _ h => ⟨h.1, relV_mono g h.2⟩) h
theorem relQ_cons {Q : Value → Prop} {E : Env} {c : AV} {cs : List AV} {vs : List Value} (h : relQ Q E (c :: cs) vs) : ∃ v vs', vs = v :: vs' ∧ Q v ∧ relV E c v ∧ relQ Q E cs vs' := by
  cases vs with
  | nil => exact h.elim
  | cons v vs => exact ⟨v, vs, rfl, h.1.1, h.1.2, h.2⟩
theorem relQ_nil {Q : Value → Prop} {E : Env} {vs : List Value} (h : relQ Q E [] vs) : vs = [] := by
  cases vs with
  | nil => rfl
  | cons v vs => exact h.elim

theorem sl_none {E : Env} {e : Ty} {l : List e.D} {nn : Option Bool} {v : Value} (h : relV E (.sl e l nn) v) : relV E (.sl e l none) v := by
  simp only [relV] at h ⊢
  obtain ⟨a, n, c, rfl, h1, _⟩ := h
  exact ⟨a, n, c, rfl, h1, by simp, by simp⟩
theorem sl_nil {E : Env} {e : Ty} {v : Value} (h : relV E (.val (.slice none 0 0)) v) : relV E (.sl e [] none) v := by
  simp only [relV] at h ⊢
  subst h
  exact ⟨none, 0, 0, rfl, ⟨rfl, Nat.le_refl _, rfl, rfl⟩, by simp, by simp⟩

/-! ### what a shape reads -/

theorem rdC_rel {Q : Value → Prop} {E : Env} : ∀ {t : Ty} {cs r : List AV} {x : t.D} {vs : List Value}, rdC t cs = some (x, r) → relQ Q E cs vs → ∃ v1 v2, vs = v1 ++ v2 ∧ relQ Q E (cellsI t x) v1 ∧ relQ Q E r v2
  | .unit, cs, r, x, vs, h, hr => by
    simp only [rdC, Option.some.injEq, Prod.mk.injEq] at h
    obtain ⟨_, rfl⟩ := h
    exact ⟨[], vs, rfl, trivial, hr⟩
  | .int k, cs, r, x, vs, h, hr => by
    simp only [rdC] at h
    split at h
    · obtain ⟨hc, h⟩ := cond_none h
      cases h
      have := of_decide_eq_true hc
      subst this
      obtain ⟨v, vs', rfl, q1, q2, q3⟩ := relQ_cons hr
      exact ⟨[v], vs', rfl, ⟨⟨q1, q2⟩, trivial⟩, q3⟩
    · cases h
  | .bool, cs, r, x, vs, h, hr => by
    simp only [rdC] at h
    split at h
    · cases h
      obtain ⟨v, vs', rfl, q1, q2, q3⟩ := relQ_cons hr
      exact ⟨[v], vs', rfl, ⟨⟨q1, q2⟩, trivial⟩, q3⟩
    · cases h
  | .str, cs, r, x, vs, h, hr => by
    simp only [rdC] at h
    split at h
    · cases h
      obtain ⟨v, vs', rfl, q1, q2, q3⟩ := relQ_cons hr
      exact ⟨[v], vs', rfl, ⟨⟨q1, q2⟩, trivial⟩, q3⟩
    · cases h
  | .sl e, cs, r, x, vs, h, hr => by
    simp only [rdC] at h
    split at h
    · split at h
      · rename_i hl
        cases h
        obtain ⟨e, rfl⟩ := castL_eq hl
        subst e
        obtain ⟨v, vs', rfl, q1, q2, q3⟩ := relQ_cons hr
        exact ⟨[v], vs', rfl, ⟨⟨q1, sl_none q2⟩, trivial⟩, q3⟩
      · cases h
    · cases h
      obtain ⟨v, vs', rfl, q1, q2, q3⟩ := relQ_cons hr
      exact ⟨[v], vs', rfl, ⟨⟨q1, sl_nil q2⟩, trivial⟩, q3⟩
    · cases h
  | .pair a b, cs, r, x, vs, h, hr => by
    simp only [rdC] at h
    split at h
    · rename_i y cs1 h1
      split at h
      · rename_i z cs2 h2
        cases h
        obtain ⟨v1, v2, rfl, q1, q2⟩ := rdC_rel h1 hr
        obtain ⟨v3, v4, rfl, q3, q4⟩ := rdC_rel h2 q2
        exact ⟨v1 ++ v3, v4, by simp, q1.append q3, q4⟩
      · cases h
    · cases h

theorem Pat.read_rel : ∀ {p : Pat} {Q : Value → Prop} {E : Env} {cs r : List AV} {x : p.D} {vs : List Value}, p.read cs = some (x, r) → relQ Q E cs vs → ∃ v1 v2, vs = v1 ++ v2 ∧ relQ Q E (p.build x) v1 ∧ relQ Q E r v2 := by
  intro p
  induction p with
  | nil =>
    intro Q E cs r x vs h hr
    simp only [Pat.read, Option.some.injEq, Prod.mk.injEq] at h
    obtain ⟨_, rfl⟩ := h
    exact ⟨[], vs, rfl, trivial, hr⟩
  | cons a b iha ihb =>
    intro Q E cs r x vs h hr
    simp only [Pat.read] at h
    split at h
    · rename_i y cs1 h1
      split at h
      · rename_i z cs2 h2
        cases h
        obtain ⟨v1, v2, rfl, q1, q2⟩ := iha h1 hr
        obtain ⟨v3, v4, rfl, q3, q4⟩ := ihb h2 q2
        exact ⟨v1 ++ v3, v4, by simp, q1.append q3, q4⟩
      · cases h
    · cases h
  | dat t => intro Q E cs r x vs h hr; exact rdC_rel h hr
  | agg p ih =>
    intro Q E cs r x vs h hr
    simp only [Pat.read] at h
    split at h
    · rename_i xs r'
      split at h
      · rename_i y h1
        cases h
        obtain ⟨v, vs', rfl, q1, q2, q3⟩ := relQ_cons hr
        simp only [relV] at q2
        obtain ⟨us, rfl, hc⟩ := q2
        obtain ⟨v1, v2, e, q4, q5⟩ := ih h1 (relQ_C.2 hc)
        obtain rfl := relQ_nil q5
        refine ⟨[_], vs', rfl, ⟨⟨q1, ?_⟩, trivial⟩, q3⟩
        simp only [relV]
        exact ⟨us, rfl, by rw [e]; simpa using relQ_C.1 q4⟩
      · cases h
    · cases h
  | tup p ih =>
    intro Q E cs r x vs h hr
    simp only [Pat.read] at h
    split at h
    · rename_i xs r'
      split at h
      · rename_i y h1
        cases h
        obtain ⟨v, vs', rfl, q1, q2, q3⟩ := relQ_cons hr
        simp only [relV] at q2
        obtain ⟨us, rfl, hc⟩ := q2
        obtain ⟨v1, v2, e, q4, q5⟩ := ih h1 (relQ_L.2 hc)
        obtain rfl := relQ_nil q5
        refine ⟨[_], vs', rfl, ⟨⟨q1, ?_⟩, trivial⟩, q3⟩
        simp only [relV]
        exact ⟨us, rfl, by rw [e]; simpa using relQ_L.1 q4⟩
      · cases h
    · cases h
  | fn f p ih =>
    intro Q E cs r x vs h hr
    simp only [Pat.read] at h
    split at h
    · rename_i f' xs r'
      have hh := cond_none h
      clear h
      obtain ⟨hf, h⟩ := hh
      have hf := Nat.eq_of_beq_eq_true hf
      subst hf
      split at h
      · rename_i y h1
        cases h
        obtain ⟨v, vs', rfl, q1, q2, q3⟩ := relQ_cons hr
        simp only [relV] at q2
        obtain ⟨us, rfl, hc⟩ := q2
        obtain ⟨v1, v2, e, q4, q5⟩ := ih h1 (relQ_L.2 hc)
        obtain rfl := relQ_nil q5
        refine ⟨[_], vs', rfl, ⟨⟨q1, ?_⟩, trivial⟩, q3⟩
        simp only [relV]
        exact ⟨us, rfl, by rw [e]; simpa using relQ_L.1 q4⟩
      · cases h
    · cases h
  | cp p ih =>
    intro Q E cs r x vs h hr
    simp only [Pat.read] at h
    split at h
    · rename_i xs r'
      split at h
      · rename_i y h1
        cases h
        obtain ⟨v, vs', rfl, q1, q2, q3⟩ := relQ_cons hr
        simp only [relV] at q2
        obtain ⟨b, o, us, rfl, hI, hat, hc⟩ := q2
        obtain ⟨v1, v2, e, q4, q5⟩ := ih h1 (relQ_C.2 hc)
        obtain rfl := relQ_nil q5
        refine ⟨[_], vs', rfl, ⟨⟨q1, ?_⟩, trivial⟩, q3⟩
        simp only [relV]
        rw [List.append_nil] at e
        exact ⟨b, o, us, rfl, hI, hat, by rw [e]; exact relQ_C.1 q4⟩
      · cases h
    · cases h
  | ref h0 e =>
    intro Q E cs r x vs h hr
    simp only [Pat.read] at h
    split at h
    · rename_i h' lo r'
      have hh := cond_none h
      clear h
      obtain ⟨hf, h⟩ := hh
      simp only [Bool.and_eq_true] at hf
      have e1 := Nat.eq_of_beq_eq_true hf.1
      have e2 := Nat.eq_of_beq_eq_true hf.2
      subst e1 e2
      cases h
      obtain ⟨v, vs', rfl, q1, q2, q3⟩ := relQ_cons hr
      exact ⟨[v], vs', rfl, ⟨⟨q1, q2⟩, trivial⟩, q3⟩
    · cases h
  | ptr h0 f =>
    intro Q E cs r x vs h hr
    simp only [Pat.read] at h
    split at h
    · rename_i h' i f' r'
      have hh := cond_none h
      clear h
      obtain ⟨hf, h⟩ := hh
      simp only [Bool.and_eq_true] at hf
      have e1 := Nat.eq_of_beq_eq_true hf.1
      have e2 := Nat.eq_of_beq_eq_true hf.2.1
      have e3 := Nat.eq_of_beq_eq_true hf.2.2
      subst e1 e2 e3
      cases h
      obtain ⟨v, vs', rfl, q1, q2, q3⟩ := relQ_cons hr
      exact ⟨[v], vs', rfl, ⟨⟨q1, q2⟩, trivial⟩, q3⟩
    · cases h
  | ptrI h0 f =>
    intro Q E cs r x vs h hr
    simp only [Pat.read] at h
    split at h
    · rename_i h' i f' r'
      have hh := cond_none h
      clear h
      obtain ⟨hf, h⟩ := hh
      simp only [Bool.and_eq_true] at hf
      have e1 := Nat.eq_of_beq_eq_true hf.1
      have e3 := Nat.eq_of_beq_eq_true hf.2
      subst e1 e3
      cases h
      obtain ⟨v, vs', rfl, q1, q2, q3⟩ := relQ_cons hr
      exact ⟨[v], vs', rfl, ⟨⟨q1, q2⟩, trivial⟩, q3⟩
    · cases h
  | nilS =>
    intro Q E cs r x vs h hr
    simp only [Pat.read] at h
    split at h
    · cases h
      obtain ⟨v, vs', rfl, q1, q2, q3⟩ := relQ_cons hr
      exact ⟨[v], vs', rfl, ⟨⟨q1, q2⟩, trivial⟩, q3⟩
    · cases h
  | nilP =>
    intro Q E cs r x vs h hr
    simp only [Pat.read] at h
    split at h
    · cases h
      obtain ⟨v, vs', rfl, q1, q2, q3⟩ := relQ_cons hr
      exact ⟨[v], vs', rfl, ⟨⟨q1, q2⟩, trivial⟩, q3⟩
    · cases h
  | ifc =>
    intro Q E cs r x vs h hr
    simp only [Pat.read] at h
    split at h
    · cases h
      obtain ⟨v, vs', rfl, q1, q2, q3⟩ := relQ_cons hr
      exact ⟨[v], vs', rfl, ⟨⟨q1, q2⟩, trivial⟩, q3⟩
    · cases h
  | any =>
    intro Q E cs r x vs h hr
    simp only [Pat.read] at h
    split at h
    · cases h
      obtain ⟨v, vs', rfl, q1, q2, q3⟩ := relQ_cons hr
      exact ⟨[v], vs', rfl, ⟨⟨q1, by simp [relV]⟩, trivial⟩, q3⟩
    · cases h
  | slT e =>
    intro Q E cs r x vs h hr
    simp only [Pat.read] at h
    split at h
    · split at h
      · rename_i hl
        cases h
        obtain ⟨e, rfl⟩ := castL_eq hl
        subst e
        obtain ⟨v, vs', rfl, q1, q2, q3⟩ := relQ_cons hr
        exact ⟨[v], vs', rfl, ⟨⟨q1, q2⟩, trivial⟩, q3⟩
      · cases h
    · cases h

theorem readRs_get : ∀ {ps : List RPat} {rs : List Root} {y : RsD ps}, readRs ps rs = some y → (buildRs ps y).length = rs.length ∧
    ∀ i, i < rs.length → ∃ (p : RPat) (d : p.D), p.read (rs.getD i .gone) = some d ∧ (buildRs ps y).getD i .gone = p.build d
  | [], rs, y, h => by
    simp only [readRs] at h
    split at h
    · exact ⟨rfl, fun i hi => by simp at hi⟩
    · cases h
  | p :: ps, rs, y, h => by
    simp only [readRs] at h
    split at h
    · rename_i r rs
      split at h
      · rename_i x h1
        split at h
        · rename_i z h2
          cases h
          obtain ⟨q1, q2⟩ := readRs_get h2
          refine ⟨by simp [buildRs, q1], fun i hi => ?_⟩
          cases i with
          | zero => exact ⟨p, x, by simpa using h1, by simp [buildRs]⟩
          | succ i =>
            obtain ⟨p', d, e1, e2⟩ := q2 i (by simpa using hi)
            exact ⟨p', d, by simpa using e1, by simpa [buildRs] using e2⟩
        · cases h
      · cases h
    · cases h

/-- what a root reads as, is like it -/
theorem RPat.read_like {E : Env} {h : Nat} {p : RPat} {x : Root} {d : p.D} (hr : p.read x = some d) (H : rootOk E h x) :
    fits x (p.build d) ∧ (p.build d ≠ .gone → x ≠ .gone) ∧ (owned (p.build d) = true → owned x = true) := by
  cases p with
  | gone => cases x <;> simp [RPat.build, fits, owned]
  | box p =>
    simp only [RPat.read] at hr
    split at hr
    · rename_i cs
      split at hr
      · rename_i y h1
        cases hr
        obtain ⟨b, vs, T, _, _, _, h4⟩ := H
        obtain ⟨v1, v2, e, q1, q2⟩ := Pat.read_rel h1 (relQ_C.2 h4)
        obtain rfl := relQ_nil q2
        have l1 := (relC_iff.1 h4).length
        have l2 := All2.length q1
        refine ⟨?_, by simp, by simp [owned]⟩
        show cs.length = (p.build d).length
        rw [l1, l2, e]; simp
      · cases hr
    · cases hr
  | arr e =>
    simp only [RPat.read] at hr
    split at hr
    · obtain ⟨e, rfl⟩ := castL_eq hr
      subst e
      exact ⟨⟨rfl, rfl⟩, by simp, by simp [owned]⟩
    · cases hr
  | imm e =>
    simp only [RPat.read] at hr
    split at hr
    · obtain ⟨e, rfl⟩ := castL_eq hr
      subst e
      exact ⟨⟨rfl, rfl⟩, by simp, by simp [owned, RPat.build]⟩
    · cases hr

theorem Form.read_key {F : Form} {w : World} {m : Nat → Option (Nat × Nat)} {I : Nat → Prop} {vs : List AV} {rs : List Root} {d : F.D}
    (H : HeapRel ⟨w, m, numbered 0 rs, I⟩) (h : F.read vs rs = some d) :
    (F.roots d).length = rs.length ∧ ∀ k, fits (getH (numbered 0 rs) k) (getH (numbered 0 (F.roots d)) k) ∧ (getH (numbered 0 (F.roots d)) k ≠ .gone → getH (numbered 0 rs) k ≠ .gone) ∧
      (owned (getH (numbered 0 (F.roots d)) k) = true → owned (getH (numbered 0 rs) k) = true) := by
  unfold Form.read at h
  split at h
  · rename_i x h1
    split at h
    · rename_i y h2
      cases h
      obtain ⟨hl, hg⟩ := readRs_get h2
      refine ⟨hl, fun k => ?_⟩
      show fits (getH (numbered 0 rs) k) (getH (numbered 0 (buildRs F.rs y)) k) ∧ (getH (numbered 0 (buildRs F.rs y)) k ≠ .gone → getH (numbered 0 rs) k ≠ .gone) ∧
          (owned (getH (numbered 0 (buildRs F.rs y)) k) = true → owned (getH (numbered 0 rs) k) = true)
      rw [getH_numbered, getH_numbered]
      by_cases hk : k < rs.length
      · rw [if_pos ⟨Nat.zero_le _, by omega⟩, if_pos ⟨Nat.zero_le _, by omega⟩]
        obtain ⟨p, d', e1, e2⟩ := hg k hk
        have hr := H.root k
        simp only [getH_numbered] at hr
        rw [if_pos ⟨Nat.zero_le _, by omega⟩] at hr
        simp only [Nat.sub_zero] at hr ⊢
        rw [e2]
        exact RPat.read_like e1 hr
      · rw [if_neg (by omega), if_neg (by omega)]; simp [fits, owned]
    · cases h
  · cases h

theorem Form.read_ok {F : Form} {w : World} {m : Nat → Option (Nat × Nat)} {I : Nat → Prop} {vs : List AV} {rs : List Root} {d : F.D} {xs : List Value}
    (H : HeapRel ⟨w, m, numbered 0 rs, I⟩) (hv : relL ⟨w, m, numbered 0 rs, I⟩ vs xs) (h : F.read vs rs = some d) :
    HeapRel ⟨w, m, numbered 0 (F.roots d), I⟩ ∧ relL ⟨w, m, numbered 0 (F.roots d), I⟩ (F.vals d) xs ∧ ∀ {A : Env} {keep : Nat}, Hist A keep ⟨w, m, numbered 0 rs, I⟩ → Hist A keep ⟨w, m, numbered 0 (F.roots d), I⟩ := by
  have h0 := h
  unfold Form.read at h
  split at h
  · rename_i x h1
    split at h
    · rename_i y h2
      cases h
      obtain ⟨hl, hg⟩ := readRs_get h2
      have key := (Form.read_key (d := (x, y)) H h0).2
      simp only [Form.roots] at key
      have hhas : ∀ k, hasH (numbered 0 rs) k = hasH (numbered 0 (buildRs F.rs y)) k := by
        intro k; rw [hasH_numbered, hasH_numbered, hl]
      have G : Grows ⟨w, m, numbered 0 rs, I⟩ ⟨w, m, numbered 0 (buildRs F.rs y), I⟩ :=
        ⟨fun _ _ => rfl, fun _ h => h, fun k hk => by simp only at hk ⊢; rw [← hhas]; exact hk, fun k _ => (key k).1, fun _ _ _ => rfl, fun _ => Nat.le_refl _⟩
      refine ⟨⟨?_, ?_, H.lt⟩, ?_, ?_⟩
      · intro k
        have hr := H.root k
        simp only at hr ⊢
        rw [getH_numbered] at hr ⊢
        by_cases hk : k < rs.length
        · rw [if_pos ⟨Nat.zero_le _, by omega⟩] at hr
          show rootOk _ k (if 0 ≤ k ∧ k < 0 + (buildRs F.rs y).length then _ else _)
          rw [if_pos ⟨Nat.zero_le _, by omega⟩]
          simp only [Nat.sub_zero] at hr ⊢
          obtain ⟨p, d', e1, e2⟩ := hg k hk
          have e2 : (F.roots (x, y)).getD k .gone = p.build d' := e2
          rw [e2]
          generalize hx : rs.getD k .gone = rt at hr e1
          cases p with
          | gone => trivial
          | box p =>
            simp only [RPat.read] at e1
            split at e1
            · rename_i cs
              split at e1
              · rename_i y' h3
                cases e1
                obtain ⟨b, us, T, q1, q2, q3, q4⟩ := hr
                obtain ⟨v1, v2, e, q5, q6⟩ := Pat.read_rel h3 (relQ_mono G (relQ_C.2 q4))
                obtain rfl := relQ_nil q6
                refine ⟨b, us, T, q1, q2, q3, ?_⟩
                rw [e, List.append_nil]
                exact relQ_C.1 q5
              · cases e1
            · cases e1
          | arr e =>
            simp only [RPat.read] at e1
            split at e1
            · obtain ⟨e, rfl⟩ := castL_eq e1
              subst e
              exact hr
            · cases e1
          | imm e =>
            simp only [RPat.read] at e1
            split at e1
            · obtain ⟨e, rfl⟩ := castL_eq e1
              subst e
              exact hr
            · cases e1
        · show rootOk _ k (if 0 ≤ k ∧ k < 0 + (buildRs F.rs y).length then _ else _)
          rw [if_neg (by omega)]; trivial
      · intro k k' b o o' o1 o2 h3 h4
        exact H.inj k k' b o o' ((key k).2.2 o1) ((key k').2.2 o2) h3 h4
      · obtain ⟨v1, v2, e, q1, q2⟩ := Pat.read_rel h1 (relQ_mono G (relQ_L.2 hv))
        obtain rfl := relQ_nil q2
        rw [e, List.append_nil]
        exact relQ_L.1 q1
      · intro A keep a0
        refine ⟨a0.old, a0.sz, ?_, a0.imm, a0.sub, ?_, ?_, ?_, a0.os, a0.tape, a0.output, a0.bsz⟩
        · rintro b ⟨k, o, h1, h2⟩
          exact a0.own b ⟨k, o, (key k).2.2 h1, h2⟩
        · intro k hk; exact fits_trans (a0.fit k hk) (key k).1
        · intro k hk hne; exact a0.map k hk ((key k).2.1 hne)
        · intro k hk
          have := a0.has k hk
          simp only at this ⊢
          show hasH (numbered 0 (buildRs F.rs y)) k = true
          rw [← hhas]; exact this
    · cases h
  · cases h

/-! ### values brought into a shape -/

section
variable {A : Env} {keep : Nat} {w : World} {tm : List (Nat × AV)} {tmps : Array Value}

theorem new_empty {m : Nat → Option (Nat × Nat)} {hp : List (Nat × Root)} {I : Nat → Prop} (hg : Good A keep ⟨w, m, hp, I⟩ tm tmps) {id : Nat} (hn : hasH hp id = false) {e : Ty} (he : 0 < e.sz) :
    Good A keep ⟨w, upd m id none, (id, .arr e []) :: hp, I⟩ tm tmps ∧ Grows ⟨w, m, hp, I⟩ ⟨w, upd m id none, (id, .arr e []) :: hp, I⟩ := by
  have st : Stays A ⟨w, m, hp, I⟩ id w I (fun _ => False) :=
    ⟨Nat.le_refl _, fun _ _ _ => rfl, fun _ h => h.elim, fun _ => Nat.le_refl _, fun _ h => h, fun b hb => ⟨hg.heap.lt b hb, .inl hb⟩, rfl, rfl, rfl⟩
  refine change1 hg id (.arr e []) none st (fun h => by rw [hn] at h; cases h) (fun _ b o h => by cases h) (fun _ => ?_)
  exact ⟨he, .inl ⟨upd_same _ _ _, rfl⟩⟩

theorem box_again {m : Nat → Option (Nat × Nat)} {hp : List (Nat × Root)} {I : Nat → Prop} (hg : Good A keep ⟨w, m, hp, I⟩ tm tmps) {h0 : Nat} {zs ys : List AV} (hz : getH hp h0 = .box zs) (hl : ys.length = zs.length)
    (hy : ∀ b vs T, m h0 = some (b, 0) → w.heap[b]? = some (.cells vs T (0, 0)) → relC ⟨w, m, hp, I⟩ ys vs.toList) :
    Good A keep ⟨w, m, (h0, .box ys) :: hp, I⟩ tm tmps ∧ Grows ⟨w, m, hp, I⟩ ⟨w, m, (h0, .box ys) :: hp, I⟩ := by
  have hroot := hg.heap.root h0
  simp only [hz] at hroot
  obtain ⟨b, vs, T, h1, h2, h3, h4⟩ := hroot
  have hown : owned (getH hp h0) = true := by rw [hz]; rfl
  have st : Stays A ⟨w, m, hp, I⟩ h0 w I (fun _ => False) :=
    ⟨Nat.le_refl _, fun _ _ _ => rfl, fun _ h => h.elim, fun _ => Nat.le_refl _, fun _ h => h, fun b hb => ⟨hg.heap.lt b hb, .inl hb⟩, rfl, rfl, rfl⟩
  have := change1 hg h0 (.box ys) (m h0) st (fun _ => ⟨by rw [hz]; exact hl.symm, fun _ => rfl⟩) (fun _ b' o' hm => ⟨hg.hist.own b' ⟨h0, o', hown, hm⟩, fun h o'' hne ho hm' => hne (hg.heap.inj h h0 b' o'' o' ho hown hm' hm)⟩) (fun g => ?_)
  · rw [upd_self] at this; exact this
  · rw [upd_self] at g ⊢
    exact ⟨b, vs, T, h1, h2, h3, relC_mono g (hy b vs T h1 h3)⟩

/-- what bringing values into a shape leaves -/
def Brought (A : Env) (keep : Nat) (w : World) (tm : List (Nat × AV)) (tmps : Array Value) (Q : Value → Prop) (m : Nat → Option (Nat × Nat)) (I : Nat → Prop) (s s1 : St) (out rest : List AV) (vs : List Value) : Prop :=
  ∃ m1 I1, Good A keep ⟨w, m1, s1.hp, I1⟩ tm tmps ∧ Grows ⟨w, m, s.hp, I⟩ ⟨w, m1, s1.hp, I1⟩ ∧ ∃ v1 v2, vs = v1 ++ v2 ∧ relQ Q ⟨w, m1, s1.hp, I1⟩ out v1 ∧ relQ Q ⟨w, m1, s1.hp, I1⟩ rest v2

theorem Brought.pass {Q : Value → Prop} {m : Nat → Option (Nat × Nat)} {I : Nat → Prop} {s s1 : St} {id id1 : Nat} {cs out rest : List AV} {vs : List Value}
    (h : (match cs with | v :: r => some (s, id, [v], r) | [] => none) = some (s1, id1, out, rest)) (hg : Good A keep ⟨w, m, s.hp, I⟩ tm tmps) (hv : relQ Q ⟨w, m, s.hp, I⟩ cs vs) :
    Brought A keep w tm tmps Q m I s s1 out rest vs := by
  cases cs with
  | nil => cases h
  | cons c cs =>
    simp only [Option.some.injEq, Prod.mk.injEq] at h
    obtain ⟨rfl, _, rfl, rfl⟩ := h
    obtain ⟨v, vs', rfl, q1, q2, q3⟩ := relQ_cons hv
    exact ⟨m, I, hg, Grows.refl _, [v], vs', rfl, ⟨⟨q1, q2⟩, trivial⟩, q3⟩

theorem Brought.two {Q : Value → Prop} {m : Nat → Option (Nat × Nat)} {I : Nat → Prop} {s s1 s2 : St} {x y cs1 rest : List AV} {vs : List Value} (h : Brought A keep w tm tmps Q m I s s1 x cs1 vs)
    (h2 : ∀ m1 I1 v2, Good A keep ⟨w, m1, s1.hp, I1⟩ tm tmps → relQ Q ⟨w, m1, s1.hp, I1⟩ cs1 v2 → Brought A keep w tm tmps Q m1 I1 s1 s2 y rest v2) : Brought A keep w tm tmps Q m I s s2 (x ++ y) rest vs := by
  obtain ⟨m1, I1, g1, gr1, v1, v2, rfl, q1, q2⟩ := h
  obtain ⟨m2, I2, g2, gr2, v3, v4, rfl, q3, q4⟩ := h2 m1 I1 v2 g1 q2
  exact ⟨m2, I2, g2, gr1.trans gr2, v1 ++ v3, v4, by simp, (relQ_mono gr2 q1).append q3, q4⟩

theorem wkL_ok {rs : List RPat} : ∀ (n : Nat) {p : Pat} {s s1 : St} {id id1 : Nat} {cs out rest : List AV} {Q : Value → Prop} {m : Nat → Option (Nat × Nat)} {I : Nat → Prop} {vs : List Value},
    wkL rs n p s id cs = some (s1, id1, out, rest) → Good A keep ⟨w, m, s.hp, I⟩ tm tmps → relQ Q ⟨w, m, s.hp, I⟩ cs vs → Brought A keep w tm tmps Q m I s s1 out rest vs := by
  intro n
  induction n with
  | zero => intro p s s1 id id1 cs out rest Q m I vs h; simp [wkL] at h
  | succ n ih =>
    intro p s s1 id id1 cs out rest Q m I vs h hg hv
    cases p with
    | nil =>
      simp only [wkL, Option.some.injEq, Prod.mk.injEq] at h
      obtain ⟨rfl, _, rfl, rfl⟩ := h
      exact ⟨m, I, hg, Grows.refl _, [], vs, rfl, trivial, hv⟩
    | cons a b =>
      simp only [wkL] at h
      split at h
      · rename_i s2 id2 x cs1 h1
        split at h
        · rename_i s3 id3 y cs2 h2
          simp only [Option.some.injEq, Prod.mk.injEq] at h
          obtain ⟨rfl, _, rfl, rfl⟩ := h
          exact (ih h1 hg hv).two fun m1 I1 v2 g q => ih h2 g q
        · cases h
      · cases h
    | dat t =>
      cases t with
      | unit =>
        simp only [wkL, Option.some.injEq, Prod.mk.injEq] at h
        obtain ⟨rfl, _, rfl, rfl⟩ := h
        exact ⟨m, I, hg, Grows.refl _, [], vs, rfl, trivial, hv⟩
      | pair a b =>
        simp only [wkL] at h
        split at h
        · rename_i s2 id2 x cs1 h1
          split at h
          · rename_i s3 id3 y cs2 h2
            simp only [Option.some.injEq, Prod.mk.injEq] at h
            obtain ⟨rfl, _, rfl, rfl⟩ := h
            exact (ih h1 hg hv).two fun m1 I1 v2 g q => ih h2 g q
          · cases h
        · cases h
      | sl e =>
        simp only [wkL] at h
        split at h
        · rename_i h0 lo len r
          split at h
          · rename_i s2 l r' hts
            simp only [Option.some.injEq, Prod.mk.injEq] at h
            obtain ⟨rfl, _, rfl, rfl⟩ := h
            obtain ⟨v, vs', rfl, q1, q2, q3⟩ := relQ_cons hv
            have hone : v.oneCell' = true := by
              simp only [relV] at q2
              split at q2
              · exact refR_one q2
              · exact refR_one q2
              · exact refR_one q2
              · exact q2.2
            have hc : relC ⟨w, m, s.hp, I⟩ [.ref h0 lo len] [v] := by simp only [relC]; exact ⟨hone, q2, trivial⟩
            obtain ⟨I1, fr, v1, v2, e1, q4, q5⟩ := takeS_ok hts hg hc
            have hl1 := repT_len q4
            have hv1 : v1 = [v] := by
              cases v1 with
              | nil => simp [Ty.sz] at hl1
              | cons u v1 =>
                simp only [List.cons_append, List.cons.injEq] at e1
                obtain ⟨rfl, e1⟩ := e1
                have : v1 = [] := by cases v1 with | nil => rfl | cons _ _ => simp at e1
                rw [this]
            subst hv1
            have hcc := cellsI_ok (E := ⟨w, m, s2.hp, I1⟩) rfl q4
            simp only [cellsI, relC] at hcc
            exact ⟨m, I1, fr.good, fr.grow, [v], vs', rfl, ⟨⟨q1, hcc.2.1⟩, trivial⟩, relQ_mono fr.grow q3⟩
          · cases h
        · simp only [Option.some.injEq, Prod.mk.injEq] at h
          obtain ⟨rfl, _, rfl, rfl⟩ := h
          obtain ⟨v, vs', rfl, q1, q2, q3⟩ := relQ_cons hv
          exact ⟨m, I, hg, Grows.refl _, [v], vs', rfl, ⟨⟨q1, q2⟩, trivial⟩, q3⟩
        · cases h
      | int k => simp only [wkL] at h; exact Brought.pass h hg hv
      | bool => simp only [wkL] at h; exact Brought.pass h hg hv
      | str => simp only [wkL] at h; exact Brought.pass h hg hv
    | agg p =>
      simp only [wkL] at h
      split at h
      · rename_i xs r
        split at h
        · rename_i s2 id2 ys h1
          simp only [Option.some.injEq, Prod.mk.injEq] at h
          obtain ⟨rfl, _, rfl, rfl⟩ := h
          obtain ⟨v, vs', rfl, q1, q2, q3⟩ := relQ_cons hv
          simp only [relV] at q2
          obtain ⟨us, rfl, hc⟩ := q2
          obtain ⟨m1, I1, g1, gr1, v1, v2, e, q4, q5⟩ := ih h1 hg (relQ_C.2 hc)
          obtain rfl := relQ_nil q5
          refine ⟨m1, I1, g1, gr1, [_], vs', rfl, ⟨⟨q1, ?_⟩, trivial⟩, relQ_mono gr1 q3⟩
          simp only [relV]
          exact ⟨us, rfl, by rw [e]; simpa using relQ_C.1 q4⟩
        · cases h
      · cases h
    | tup p =>
      simp only [wkL] at h
      split at h
      · rename_i xs r
        split at h
        · rename_i s2 id2 ys h1
          simp only [Option.some.injEq, Prod.mk.injEq] at h
          obtain ⟨rfl, _, rfl, rfl⟩ := h
          obtain ⟨v, vs', rfl, q1, q2, q3⟩ := relQ_cons hv
          simp only [relV] at q2
          obtain ⟨us, rfl, hc⟩ := q2
          obtain ⟨m1, I1, g1, gr1, v1, v2, e, q4, q5⟩ := ih h1 hg (relQ_L.2 hc)
          obtain rfl := relQ_nil q5
          refine ⟨m1, I1, g1, gr1, [_], vs', rfl, ⟨⟨q1, ?_⟩, trivial⟩, relQ_mono gr1 q3⟩
          simp only [relV]
          exact ⟨us, rfl, by rw [e]; simpa using relQ_L.1 q4⟩
        · cases h
      · cases h
    | ref k e =>
      simp only [wkL] at h
      split at h
      · rename_i r
        obtain ⟨hb, h⟩ := cond_none h
        simp only [Bool.and_eq_true, Bool.not_eq_true'] at hb
        simp only [Option.some.injEq, Prod.mk.injEq] at h
        obtain ⟨rfl, _, rfl, rfl⟩ := h
        obtain ⟨v, vs', rfl, q1, q2, q3⟩ := relQ_cons hv
        simp only [relV] at q2
        subst q2
        have he : 0 < e.sz := Nat.le_of_ble_eq_true hb.1
        obtain ⟨g1, gr1⟩ := new_empty hg hb.2 he
        refine ⟨_, I, g1, gr1, [_], vs', rfl, ⟨⟨q1, ?_⟩, trivial⟩, relQ_mono gr1 q3⟩
        simp only [relV, St.setH, getH_same]
        exact ⟨by simp [lenL], .inl ⟨by simp [lenL], none, rfl⟩⟩
      · simp only [Option.some.injEq, Prod.mk.injEq] at h
        obtain ⟨rfl, _, rfl, rfl⟩ := h
        obtain ⟨v, vs', rfl, q1, q2, q3⟩ := relQ_cons hv
        exact ⟨m, I, hg, Grows.refl _, [v], vs', rfl, ⟨⟨q1, q2⟩, trivial⟩, q3⟩
      · cases h
    | ptr k f =>
      simp only [wkL] at h
      split at h
      · rename_i h0 i f' r
        split at h
        · rename_i q xs hq hx
          split at h
          · rename_i s2 id2 ys h1
            split at h
            · rename_i zs hz
              obtain ⟨hb, h⟩ := cond_none h
              simp only [Option.some.injEq, Prod.mk.injEq] at h
              obtain ⟨rfl, _, rfl, rfl⟩ := h
              obtain ⟨v, vs', rfl, q1, q2, q3⟩ := relQ_cons hv
              have hroot := hg.heap.root h0
              simp only [hx] at hroot
              obtain ⟨b, us, T, e1, e2, e3, e4⟩ := hroot
              obtain ⟨m1, I1, g1, gr1, v1, v2, e, q4, q5⟩ := ih h1 hg (relQ_C.2 e4)
              obtain rfl := relQ_nil q5
              have hm1 : m1 h0 = m h0 := gr1.map h0 (hasH_of_getH (by simp only [hx]; simp)) (by simp only [hz]; simp)
              obtain ⟨g2, gr2⟩ := box_again (ys := ys) g1 hz (Nat.eq_of_beq_eq_true hb) (fun b' us' T' k1 k2 => by
                rw [hm1] at k1
                rw [show m h0 = some (b, 0) from e1] at k1
                cases k1
                rw [show w.heap[b]? = some (.cells us T (0, 0)) from e3] at k2
                cases k2
                rw [e, List.append_nil]
                exact relQ_C.1 q4)
              exact ⟨m1, I1, g2, gr1.trans gr2, [v], vs', rfl, ⟨⟨q1, relV_mono (gr1.trans gr2) q2⟩, trivial⟩, relQ_mono (gr1.trans gr2) q3⟩
            · cases h
          · cases h
        · simp only [Option.some.injEq, Prod.mk.injEq] at h
          obtain ⟨rfl, _, rfl, rfl⟩ := h
          obtain ⟨v, vs', rfl, q1, q2, q3⟩ := relQ_cons hv
          exact ⟨m, I, hg, Grows.refl _, [v], vs', rfl, ⟨⟨q1, q2⟩, trivial⟩, q3⟩
      · simp only [Option.some.injEq, Prod.mk.injEq] at h
        obtain ⟨rfl, _, rfl, rfl⟩ := h
        obtain ⟨v, vs', rfl, q1, q2, q3⟩ := relQ_cons hv
        exact ⟨m, I, hg, Grows.refl _, [v], vs', rfl, ⟨⟨q1, q2⟩, trivial⟩, q3⟩
      · cases h
    | fn f p => simp only [wkL] at h; exact Brought.pass h hg hv
    | cp p => simp only [wkL] at h; exact Brought.pass h hg hv
    | ptrI k f => simp only [wkL] at h; exact Brought.pass h hg hv
    | nilS => simp only [wkL] at h; exact Brought.pass h hg hv
    | nilP => simp only [wkL] at h; exact Brought.pass h hg hv
    | ifc => simp only [wkL] at h; exact Brought.pass h hg hv
    | any => simp only [wkL] at h; exact Brought.pass h hg hv
    | slT e => simp only [wkL] at h; exact Brought.pass h hg hv

end

/-- what a call leaves -/
def Left (A : Env) (keep : Nat) (r : Res) (x : Value) (w' : World) : Prop :=
  ∃ m' I', HeapRel ⟨w', m', numbered 0 r.2, I'⟩ ∧ Hist A keep ⟨w', m', numbered 0 r.2, I'⟩ ∧ relV ⟨w', m', numbered 0 r.2, I'⟩ r.1 x

section
variable {P : Program} {A : Env} {keep nt : Nat} {ds : List Deferred} {w : World} {s : St} {a : Act} {r : Res} {m : Nat → Option (Nat × Nat)} {I : Nat → Prop}

theorem toForm_ok {F : Form} {vs : List AV} {d : F.D} {xs : List Value} (hg : Good A keep ⟨w, m, s.hp, I⟩ s.tm a.tmps) (hv : relL ⟨w, m, s.hp, I⟩ vs xs) (h : toForm F keep s vs = some d) :
    ∃ m' I', HeapRel ⟨w, m', numbered 0 (F.roots d), I'⟩ ∧ Hist A keep ⟨w, m', numbered 0 (F.roots d), I'⟩ ∧ relL ⟨w, m', numbered 0 (F.roots d), I'⟩ (F.vals d) xs := by
  unfold toForm at h
  split at h
  · rename_i s1 id1 vs1 h1
    obtain ⟨m1, I1, g1, gr1, v1, v2, e, q4, q5⟩ := wkL_ok 60 h1 hg (relQ_L.2 hv)
    obtain rfl := relQ_nil q5
    rw [List.append_nil] at e
    subst e
    obtain ⟨e1, e2⟩ := gather_ok s1 keep (vs1.flatMap hs)
    obtain ⟨k1, k2, k3⟩ := renumber (s := ⟨s.tm, s1.hp⟩) g1 e1 e2
    have hr := relL_map (f := ren (idxO (gather s1 keep (vs1.flatMap hs)))) (fun c _ v hc => ren_ok k3 6 (.inl fun _ h => h) hc) (relQ_L.1 q4)
    obtain ⟨q1, q2, q3⟩ := Form.read_ok k1 hr h
    exact ⟨_, I1, q1, q3 k2, q2⟩
  · cases h

theorem lives_rel (hg : Good A keep ⟨w, m, s.hp, I⟩ s.tm a.tmps) (live : List Nat) : relL ⟨w, m, s.hp, I⟩ (lives s live) (live.map fun i => a.tmps.getD i undef) := by
  unfold lives
  induction live with
  | nil => simp [relL]
  | cons i live ih => simp only [List.map_cons, relL]; exact ⟨hg.tm i, ih⟩

theorem zip_rel {E : Env} {tmps : Array Value} : ∀ {live : List Nat} {vs : List AV}, relL E vs (live.map fun i => tmps.getD i undef) → ∀ i, relV E (getT (live.zip vs) i) (tmps.getD i undef)
  | [], vs, _, i => by simp [getT, relV]
  | j :: live, [], h, i => by simp [relL] at h
  | j :: live, v :: vs, h, i => by
    simp only [List.map_cons, relL] at h
    simp only [List.zip_cons_cons]
    by_cases e : i = j
    · subst e; rw [getT_same]; exact h.1
    · rw [getT_other _ _ e]; exact zip_rel h.2 i

theorem lab_ok {B : Lab} {d : B.F.D} (h : Sees A keep nt ds s a w) (hf : toForm B.F keep s (lives s B.live) = some d) : Sees A keep nt ds (B.st d) a w := by
  obtain ⟨⟨m, I, hg⟩, hs, hd⟩ := h
  obtain ⟨m', I', q1, q2, q3⟩ := toForm_ok hg (lives_rel hg B.live) hf
  exact ⟨⟨m', I', q1, zip_rel q3, q2⟩, hs, hd⟩

def resM (tmps : Array Value) : ResultVar → Sem Value
  | .tmp t => pure (tmps.getD t undef)
  | .cell a t => do loadVar t (← asAddr (tmps.getD a undef))

theorem resA_ok (hg : Good A keep ⟨w, m, s.hp, I⟩ s.tm a.tmps) {rv : ResultVar} {v : AV} (h : resA P s rv = some v) :
    ∃ x, (resM a.tmps rv).run P w = .ok x w ∧ relV ⟨w, m, s.hp, I⟩ v x := by
  cases rv with
  | tmp t =>
    simp only [resA, Option.some.injEq] at h; subst h
    exact ⟨_, by simp [resM], hg.tm t⟩
  | cell y t =>
    simp only [resA] at h
    split at h
    · rename_i n hl
      split at h
      · rename_i cs hc
        simp only [Option.some.injEq] at h; subst h
        obtain ⟨b, off, vs, hx, hat, hr, hn⟩ := cells_ok hg.heap rfl (hg.tm y) hc
        have hrun := run_loadCells_at (P := P) hat ((relC_getLen hr).trans hn)
        have hx' : a.tmps.getD y undef = .pointer (some ⟨b, off, none⟩) := hx
        refine ⟨.agg vs.toArray, ?_, relV_of_cells hr⟩
        simp only [resM, hx']
        simp [asAddr, loadVar, (ldT_agg (P := P) (w := w) hl).1, (ldT_agg (P := P) (w := w) hl).2, hrun]
      · cases h
    · rename_i n hl
      split at h
      · rename_i u hc
        simp only [Option.some.injEq] at h; subst h
        obtain ⟨b, off, vs, hx, hat, hr, hn⟩ := cells_ok hg.heap rfl (hg.tm y) hc
        have hx' : a.tmps.getD y undef = .pointer (some ⟨b, off, none⟩) := hx
        cases vs with
        | nil => simp [relC] at hr
        | cons x vs =>
          simp only [relC] at hr
          have hcell := hat.cell 0 (by simp)
          simp at hcell
          refine ⟨x, ?_, hr.2.1⟩
          simp only [resM, hx']
          simp [asAddr, loadVar, (ldT_one (P := P) (w := w) hl).1, hcell]
      · cases h
    · cases h

theorem resAs_ok (hg : Good A keep ⟨w, m, s.hp, I⟩ s.tm a.tmps) : ∀ {rs : List ResultVar} {vs : List AV}, resAs P s rs = some vs →
    ∃ xs, (rs.mapM (resM a.tmps)).run P w = .ok xs w ∧ relL ⟨w, m, s.hp, I⟩ vs xs
  | [], vs, h => by
    simp [resAs] at h; subst h
    exact ⟨[], by simp, by simp [relL]⟩
  | rv :: rs, vs, h => by
    simp only [resAs] at h
    split at h
    · rename_i v h1
      split at h
      · rename_i vs' h2
        simp only [Option.some.injEq] at h; subst h
        obtain ⟨x, q1, q2⟩ := resA_ok hg h1
        obtain ⟨xs, q3, q4⟩ := resAs_ok hg h2
        exact ⟨x :: xs, by rw [List.mapM_cons]; simp [q1, q3], by simp only [relL]; exact ⟨q2, q4⟩⟩
      · cases h
    · cases h

theorem oneOf_ok {E : Env} : ∀ {vs : List AV} {xs : List Value}, relL E vs xs → relV E (oneOf vs) (if h : xs.toArray.size = 1 then xs.toArray[0] else .tuple xs.toArray)
  | [], [], h => by simp only [oneOf, relV]; exact ⟨#[], rfl, h⟩
  | [v], [x], h => by simp only [relL] at h; simpa [oneOf] using h.1
  | v :: v' :: vs, x :: x' :: xs, h => by
    simp only [oneOf, relV]
    exact ⟨(x :: x' :: xs).toArray, by simp, by simpa using h⟩
  | [], _ :: _, h => by simp [relL] at h
  | [_], [], h => by simp [relL] at h
  | [_], _ :: _ :: _, h => by simp [relL] at h
  | _ :: _ :: _, [], h => by simp [relL] at h
  | _ :: _ :: _, [_], h => by simp [relL] at h

theorem results_run {fn : Func} {tmps : Array Value} {xs : List Value} (h : (fn.results.toList.mapM (resM tmps)).run P w = .ok xs w) :
    (results fn tmps).run P w = .ok (if h : xs.toArray.size = 1 then xs.toArray[0] else .tuple xs.toArray) w := by
  have hm : (fn.results.mapM (resM tmps)).run P w = .ok xs.toArray w := by
    rw [Array.mapM_eq_mapM_toList]; simp [h]
  show (do
      let vs ← fn.results.mapM (resM tmps)
      pure (if h : vs.size = 1 then vs[0] else .tuple vs) : Sem Value).run P w = _
  rw [Sem.run_bind, hm]
  rfl

theorem fin_ok {C : Ctx} {fn : Func} (hP : C.P = P) (hres : C.res = fn.results.toList) (hg : Good A C.keep ⟨w, m, s.hp, I⟩ s.tm a.tmps) (h : fin C some s = some r) :
    ∃ x, (results fn a.tmps).run P w = .ok x w ∧ Left A C.keep r x w := by
  subst hP
  unfold fin at h
  split at h
  · cases h
  · rename_i vs hvs
    rw [hres] at hvs
    obtain ⟨xs, q1, q2⟩ := resAs_ok hg hvs
    have hr := oneOf_ok q2
    split at h
    · rename_i d hd
      simp only [Option.some.injEq] at h
      subst h
      refine ⟨_, results_run q1, ?_⟩
      obtain ⟨m', I', e1, e2, e3⟩ := toForm_ok (xs := [_]) hg (by simp only [relL]; exact ⟨hr, trivial⟩) hd
      refine ⟨m', I', e1, e2, ?_⟩
      show relV _ (hd1 (C.out.vals d)) _
      generalize C.out.vals d = us at e3
      cases us with
      | nil => simp [relL] at e3
      | cons u us => cases us with
        | nil => simp only [relL] at e3; exact e3.1
        | cons _ _ => simp [relL] at e3
    · cases h

end
end Go.AI
