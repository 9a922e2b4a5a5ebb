/- SOUNDNESS: calls that are handed what is owned. -/
import Derived.Test.YtaaliglpbjjclaaS14
namespace Go.AI
set_option linter.unusedVariables false
set_option linter.unusedSimpArgs false

theorem collect_ok {hp : List (Nat × Root)} : ∀ (n : Nat) {todo acc : List Nat}, acc.Nodup → (∀ h ∈ acc, getH hp h ≠ .gone) → (collect hp n todo acc).Nodup ∧ ∀ h ∈ collect hp n todo acc, getH hp h ≠ .gone
  | 0, todo, acc, h1, h2 => by simp only [collect]; exact ⟨h1, h2⟩
  | n + 1, [], acc, h1, h2 => by simp only [collect]; exact ⟨h1, h2⟩
  | n + 1, k :: todo, acc, h1, h2 => by
    simp only [collect]
    cases hm : memN k acc with
    | true => rw [cond_true]; exact collect_ok n h1 h2
    | false =>
      rw [cond_false]
      have hk : k ∉ acc := fun hk => by rw [memN_iff.2 hk] at hm; cases hm
      have step : getH hp k ≠ .gone → (acc ++ [k]).Nodup ∧ ∀ h ∈ acc ++ [k], getH hp h ≠ .gone := by
        intro hg
        refine ⟨?_, ?_⟩
        · rw [List.nodup_append]
          refine ⟨h1, by simp, ?_⟩
          intro a ha b hb
          simp at hb; subst hb
          rintro rfl; exact hk ha
        · intro h hh
          rcases List.mem_append.1 hh with hh | hh
          · exact h2 h hh
          · simp at hh; subst hh; exact hg
      split
      · exact collect_ok n h1 h2
      · rename_i x hx
        have := step (fun e => hx e)
        exact collect_ok n this.1 this.2

theorem putBack_ok : ∀ {l : List Nat} {xs : List Root} {s s1 : St}, l.Nodup → putBack l xs s = some s1 →
    s1.tm = s.tm ∧ l.length ≤ xs.length ∧ (∀ k, k ∉ l → getH s1.hp k = getH s.hp k) ∧ (∀ (j k : Nat), l[j]? = some k → getH s1.hp k = xs.getD j .gone) ∧ (∀ k, hasH s1.hp k = true ↔ (hasH s.hp k = true ∨ k ∈ l))
  | [], xs, s, s1, _, h => by
    simp only [putBack, Option.some.injEq] at h; subst h
    exact ⟨rfl, Nat.zero_le _, fun _ _ => rfl, fun j k e => by simp at e, fun k => by simp⟩
  | h0 :: l, [], s, s1, _, h => by simp [putBack] at h
  | h0 :: l, x :: xs, s, s1, hn, h => by
    simp only [putBack] at h
    have hn := List.nodup_cons.1 hn
    obtain ⟨q1, q2, q3, q4, q5⟩ := putBack_ok hn.2 h
    refine ⟨q1, by simp only [List.length_cons]; omega, ?_, ?_, ?_⟩
    · intro k hk
      rw [q3 k (fun hh => hk (by simp [hh]))]
      exact getH_other _ _ (fun e => hk (by simp [e]))
    · intro j k e
      cases j with
      | zero =>
        simp at e; subst e
        rw [q3 _ hn.1]; exact getH_same _ _ _
      | succ j =>
        rw [List.getElem?_cons_succ] at e
        rw [q4 j k e, List.getD_cons_succ]
    · intro k
      rw [q5 k, show (s.setH h0 x).hp = (h0, x) :: s.hp from rfl, hasH_cons, Bool.or_eq_true, List.mem_cons]
      constructor
      · rintro ((h1 | h1) | h1)
        · exact .inr (.inl (Nat.eq_of_beq_eq_true h1).symm)
        · exact .inl h1
        · exact .inr (.inr h1)
      · rintro (h1 | h1 | h1)
        · exact .inl (.inr h1)
        · subst h1; exact .inl (.inl (Nat.beq_refl _))
        · exact .inr h1

theorem nodup_index {l : List Nat} (hn : l.Nodup) {i j k : Nat} (h1 : l[i]? = some k) (h2 : l[j]? = some k) : i = j := by
  have a := idxO_of hn h1
  have b := idxO_of hn h2
  rw [a] at b; exact Option.some.inj b

section
variable {P : Program} {A : Env} {keep : Nat} {w : World} {m : Nat → Option (Nat × Nat)} {I : Nat → Prop} {s : St} {tmps : Array Value} {K : St → AV → R} {r : Res}

/-- the callee's environment: the roots of a list, by their places -/
theorem hand_ok (H : HeapRel ⟨w, m, s.hp, I⟩) {l : List Nat} (hn : l.Nodup) :
    HeapRel ⟨w, fun k => match l[k]? with | some h => m h | none => none, numbered 0 (l.map fun h => renRoot (idxO l) (getH s.hp h)), I⟩ ∧
    Ren (idxO l) ⟨w, m, s.hp, I⟩ ⟨w, fun k => match l[k]? with | some h => m h | none => none, numbered 0 (l.map fun h => renRoot (idxO l) (getH s.hp h)), I⟩ := by
  have g0 : ∀ k h, l[k]? = some h → getH (numbered 0 (l.map fun h => renRoot (idxO l) (getH s.hp h))) k = renRoot (idxO l) (getH s.hp h) := by
    intro k h e
    obtain ⟨hlt, hk⟩ := List.getElem?_eq_some_iff.1 e
    rw [getH_numbered, if_pos (by simp; omega)]
    simp [List.getD_eq_getElem?_getD, List.getElem?_map, e]
  have g1 : ∀ k, l[k]? = none → getH (numbered 0 (l.map fun h => renRoot (idxO l) (getH s.hp h))) k = .gone := by
    intro k e
    have := List.getElem?_eq_none_iff.1 e
    rw [getH_numbered, if_neg (by simp; omega)]
  have R : Ren (idxO l) ⟨w, m, s.hp, I⟩ ⟨w, fun k => match l[k]? with | some h => m h | none => none, numbered 0 (l.map fun h => renRoot (idxO l) (getH s.hp h)), I⟩ := by
    refine ⟨rfl, ?_, ?_, ?_⟩
    · intro h k e
      simp only [idxO_ok e]
    · intro h k e
      simp only [g0 k h (idxO_ok e)]
      exact like_ren _ _
    · intro h k e
      obtain ⟨hlt, _⟩ := List.getElem?_eq_some_iff.1 (idxO_ok e)
      simp only [hasH_numbered]; simp; omega
  refine ⟨⟨?_, ?_, H.lt⟩, R⟩
  · intro k
    cases e : l[k]? with
    | none => simp only [g1 k e]; trivial
    | some h =>
      simp only [g0 k h e]
      refine rootOk_ren R (h := h) (by simp only [e]) (.inl fun _ h => h) (fun _ b o _ h => h) (H.root h)
  · intro k k' b o o' h1 h2 h3 h4
    cases e : l[k]? with
    | none => simp only [g1 k e] at h1; cases h1
    | some h =>
      cases e' : l[k']? with
      | none => simp only [g1 k' e'] at h2; cases h2
      | some h' =>
        simp only [g0 k h e] at h1
        simp only [g0 k' h' e'] at h2
        simp only [e] at h3
        simp only [e'] at h4
        have o1 : owned (getH s.hp h) = true := by cases hq : getH s.hp h <;> rw [hq] at h1 <;> simp_all [renRoot, owned]
        have o2 : owned (getH s.hp h') = true := by cases hq : getH s.hp h' <;> rw [hq] at h2 <;> simp_all [renRoot, owned]
        have := H.inj h h' b o o' o1 o2 h3 h4
        subst this
        exact nodup_index hn e e'

theorem callM_ok {e : Ent} (he : Sound P e.f e.S) (hg : Good A keep ⟨w, m, s.hp, I⟩ s.tm tmps) {args : List AV} {vals : Array Value} {base : Nat} (hv : relL ⟨w, m, s.hp, I⟩ args vals.toList)
    (h : callM e args base s K = some r) : Called P e.f vals w A keep tmps K r := by
  unfold callM at h
  obtain ⟨hln, hlg⟩ := collect_ok (hp := s.hp) 200 (todo := args.flatMap hs) (acc := []) List.nodup_nil (by intro h hh; cases hh)
  generalize hl : collect s.hp 200 (args.flatMap hs) [] = l at h hln hlg
  simp only at h
  · obtain ⟨⟨rv, roots⟩, hK, hdet⟩ := e.det _ _ _ _ h
    have hS := hdet some
    replace h := hK
    simp only at h
    clear hK hdet
    obtain ⟨hfr, h⟩ := cond_none' h
    split at h
    · rename_i s1 hpb
      obtain ⟨H0, R0⟩ := hand_ok hg.heap hln
      -- the homes
      generalize hmm : homes l base roots.length = mm at h hpb
      have hmem : ∀ k, k ∈ mm ↔ (k ∈ l ∨ ∃ j, j < roots.length - l.length ∧ k = base + j) := by
        intro k; rw [← hmm]; unfold homes
        rw [List.mem_append, List.mem_map]
        constructor
        · rintro (h | ⟨j, h1, h2⟩)
          · exact .inl h
          · exact .inr ⟨j, List.mem_range.1 h1, h2.symm⟩
        · rintro (h | ⟨j, h1, h2⟩)
          · exact .inl h
          · exact .inr ⟨j, List.mem_range.2 h1, h2.symm⟩
      have hfree : ∀ j, j < roots.length - l.length → hasH s.hp (base + j) = false := fun j hj => any_false hfr j (List.mem_range.2 hj)
      have hlhas : ∀ k ∈ l, hasH s.hp k = true := fun k hk => hasH_of_getH (hlg k hk)
      have hmn : mm.Nodup := by
        rw [← hmm]; unfold homes
        rw [List.nodup_append]
        refine ⟨hln, ?_, ?_⟩
        · have := List.nodup_range (n := roots.length - l.length)
          rw [List.nodup_iff_pairwise_ne] at *
          rw [List.pairwise_map]
          exact this.imp (fun hab => by omega)
        · intro a ha b hb
          obtain ⟨j, h1, h2⟩ := List.mem_map.1 hb
          rintro rfl
          have := hfree j (List.mem_range.1 h1)
          rw [h2, hlhas a ha] at this; cases this
      have hmlen : mm.length = l.length + (roots.length - l.length) := by rw [← hmm]; simp [homes]
      obtain ⟨ptm, plen, pold, pnew, phas⟩ := putBack_ok hmn hpb
      have hmlen' : mm.length = roots.length := by simp at plen; omega
      have hll : l.length ≤ roots.length := by omega
      have hpre : ∀ (j k : Nat), l[j]? = some k → mm[j]? = some k := by
        intro j k e
        rw [← hmm]; unfold homes
        rw [List.getElem?_append_left (List.getElem?_eq_some_iff.1 e).1]; exact e
      refine ⟨_, _, h, ?_⟩
      have hargs : relL _ (args.map (ren (idxO l))) vals.toList := relL_map (fun c _ v hc => ren_ok R0 6 (.inl fun _ h => h) hc) hv
      refine (he _ _ _ _ rv roots rfl H0 hargs hS).mono ?_
      rintro x w' ⟨m', I', H1, hh, hx⟩
      simp only [List.length_map] at hh
      -- the caller's environment
      let m2 : Nat → Option (Nat × Nat) := fun k => match idxO mm k with | some j => m' j | none => m k
      have m2new : ∀ (j k : Nat), mm[j]? = some k → m2 k = m' j := by intro j k e; simp only [m2, idxO_of hmn e]
      have m2old : ∀ k, k ∉ mm → m2 k = m k := by
        intro k hk
        simp only [m2]
        cases e : idxO mm k with
        | none => rfl
        | some j => exact absurd (List.mem_of_getElem? (idxO_ok e)) hk
      have gnew : ∀ (j k : Nat), mm[j]? = some k → getH s1.hp k = renRoot (nthO mm) (getH (numbered 0 roots) j) := by
        intro j k e
        have hj := (List.getElem?_eq_some_iff.1 e).1
        rw [pnew j k e, getH_numbered, if_pos (by omega), Nat.sub_zero]
        have hj' : j < roots.length := by omega
        simp [List.getD_eq_getElem?_getD, List.getElem?_map, List.getElem?_eq_getElem hj']
      have cases_ : ∀ k, k ∈ mm ∨ k ∉ mm := fun k => Classical.em _
      have place : ∀ k, k ∈ mm → ∃ j : Nat, mm[j]? = some k ∧ j < roots.length := by
        intro k hk
        obtain ⟨j, hj, e⟩ := List.getElem_of_mem hk
        exact ⟨j, by rw [List.getElem?_eq_getElem hj, e], by omega⟩
      have ownRen : ∀ {g : Nat → Option Nat} {y : Root}, owned (renRoot g y) = true → owned y = true := by
        intro g y hy; cases y <;> simp_all [renRoot, owned]
      -- the callee's owned blocks are the caller's
      have own0 : ∀ b, Own ⟨w, fun k => match l[k]? with | some h => m h | none => none, numbered 0 (l.map fun h => renRoot (idxO l) (getH s.hp h)), I⟩ b → ∃ k, k ∈ l ∧ owned (getH s.hp k) = true ∧ ∃ o, m k = some (b, o) := by
        rintro b ⟨j, o, h1, h2⟩
        simp only at h1 h2
        cases e : l[j]? with
        | none => simp only [e] at h2; cases h2
        | some k =>
          simp only [e] at h2
          have hlt := (List.getElem?_eq_some_iff.1 e).1
          rw [getH_numbered, if_pos (by simp; omega)] at h1
          simp [List.getD_eq_getElem?_getD, List.getElem?_map, e] at h1
          exact ⟨k, List.mem_of_getElem? e, ownRen h1, o, h2⟩
      have old : ∀ b, b < w.heap.size → (∀ k o, k ∈ l → owned (getH s.hp k) = true → m k ≠ some (b, o)) → w'.heap[b]? = w.heap[b]? := by
        intro b hb hno
        refine hh.old b hb ?_
        intro hO
        obtain ⟨k, h1, h2, o, h3⟩ := own0 b hO
        exact hno k o h1 h2 h3
      have oldI : ∀ b, I b → w'.heap[b]? = w.heap[b]? := by
        intro b hb
        refine old b (hg.heap.lt b hb) ?_
        intro k o h1 h2 h3
        exact (hg.heap.own_lt (b := b) ⟨k, o, h2, h3⟩).2 hb
      have fitl : ∀ (j k : Nat), l[j]? = some k → fits (getH s.hp k) (getH s1.hp k) := by
        intro j k e
        have hlt := (List.getElem?_eq_some_iff.1 e).1
        have f1 := hh.fit j hlt
        simp only at f1
        rw [gnew j k (hpre j k e)]
        refine fits_trans ?_ (fits_trans f1 (like_ren _ _).1)
        rw [getH_numbered, if_pos (by simp; omega)]
        simp only [List.getD_eq_getElem?_getD, List.getElem?_map, Nat.sub_zero, e, Option.map_some, Option.getD_some]
        exact (like_ren _ _).1
      have newGone : ∀ k, k ∈ mm → k ∉ l → hasH s.hp k = false := by
        intro k hk hkl
        rcases (hmem k).1 hk with h | ⟨j, h1, rfl⟩
        · exact absurd h hkl
        · exact hfree j h1
      have renGone : ∀ {g : Nat → Option Nat} {y : Root}, renRoot g y ≠ .gone → y ≠ .gone := by
        intro g y hy e; subst e; exact hy rfl
      have G : Grows ⟨w, m, s.hp, I⟩ ⟨w', m2, s1.hp, I'⟩ := by
        refine ⟨oldI, hh.sub, fun k hk => (phas k).2 (.inl hk), ?_, ?_, hh.bsz⟩
        · intro k hk
          rcases cases_ k with hm | hm
          · by_cases hkl : k ∈ l
            · obtain ⟨j, hj, e⟩ := List.getElem_of_mem hkl
              exact fitl j k (by rw [List.getElem?_eq_getElem hj, e])
            · have := newGone k hm hkl; rw [hk] at this; cases this
          · simp only [pold k hm]; exact fits_refl _
        · intro k hk hne
          rcases cases_ k with hm | hm
          · by_cases hkl : k ∈ l
            · obtain ⟨j, hj, e⟩ := List.getElem_of_mem hkl
              have e : l[j]? = some k := by rw [List.getElem?_eq_getElem hj, e]
              simp only [gnew j k (hpre j k e)] at hne
              have := hh.map j hj (renGone hne)
              simp only [e] at this
              show m2 k = m k
              rw [← this]; exact m2new j k (hpre j k e)
            · have := newGone k hm hkl; rw [hk] at this; cases this
          · exact m2old k hm
      have R2 : Ren (nthO mm) ⟨w', m', numbered 0 roots, I'⟩ ⟨w', m2, s1.hp, I'⟩ := by
        refine ⟨rfl, fun j k e => m2new j k e, ?_, ?_⟩
        · intro j k e
          simp only [gnew j k e]; exact like_ren _ _
        · intro j k e
          exact (phas k).2 (.inr (List.mem_of_getElem? e))
      have ownNew : ∀ (j k b o : Nat), mm[j]? = some k → owned (getH s1.hp k) = true → m2 k = some (b, o) → owned (getH (numbered 0 roots) j) = true ∧ m' j = some (b, o) ∧ ((∃ k', k' ∈ l ∧ owned (getH s.hp k') = true ∧ ∃ o, m k' = some (b, o)) ∨ w.heap.size ≤ b) := by
        intro j k b o e h1 h2
        rw [gnew j k e] at h1
        rw [m2new j k e] at h2
        have := ownRen h1
        refine ⟨this, h2, ?_⟩
        rcases hh.own b ⟨j, o, this, h2⟩ with h | h
        · exact .inl (own0 b h)
        · exact .inr h
      have ownOld : ∀ k b o, k ∉ mm → owned (getH s1.hp k) = true → m2 k = some (b, o) → owned (getH s.hp k) = true ∧ m k = some (b, o) ∧ b < w.heap.size ∧ ¬ I b := by
        intro k b o hk h1 h2
        rw [pold k hk] at h1
        rw [m2old k hk] at h2
        have := hg.heap.own_lt (b := b) ⟨k, o, h1, h2⟩
        exact ⟨h1, h2, this.1, this.2⟩
      have notl : ∀ k, k ∉ mm → k ∉ l := fun k hk h => hk ((hmem k).2 (.inl h))
      have HR : HeapRel ⟨w', m2, s1.hp, I'⟩ := by
        refine ⟨?_, ?_, H1.lt⟩
        · intro k
          rcases cases_ k with hk | hk
          · obtain ⟨j, e, hj⟩ := place k hk
            simp only [gnew j k e]
            exact rootOk_ren R2 (h := j) (m2new j k e) (.inl fun _ h => h) (fun _ b o _ h => h) (H1.root j)
          · simp only [pold k hk]
            refine rootOk_mono G (m2old k hk) ?_ (hg.heap.root k)
            intro ho b o hm
            have hl' := hg.heap.own_lt (b := b) ⟨k, o, ho, hm⟩
            refine ⟨?_, ?_⟩
            · refine old b hl'.1 ?_
              intro k' o' h1 h2 h3
              have := hg.heap.inj k k' b o o' ho h2 hm h3
              subst this; exact notl k hk h1
            · intro hb
              rcases hh.imm b hb with h1 | h1 | h1
              · exact hl'.2 h1
              · obtain ⟨k', h1, h2, o', h3⟩ := own0 b h1
                have := hg.heap.inj k k' b o o' ho h2 hm h3
                subst this; exact notl k hk h1
              · exact absurd hl'.1 (by simp at h1 ⊢; omega)
        · intro k k' b o o' h1 h2 h3 h4
          rcases cases_ k with hk | hk
          · obtain ⟨j, e, hj⟩ := place k hk
            obtain ⟨q1, q2, q3⟩ := ownNew j k b o e h1 h3
            rcases cases_ k' with hk' | hk'
            · obtain ⟨j', e', hj'⟩ := place k' hk'
              obtain ⟨p1, p2, p3⟩ := ownNew j' k' b o' e' h2 h4
              have := H1.inj j j' b o o' q1 p1 q2 p2
              subst this
              rw [e] at e'; exact Option.some.inj e'
            · obtain ⟨p1, p2, p3, p4⟩ := ownOld k' b o' hk' h2 h4
              rcases q3 with ⟨k2, a1, a2, o2, a3⟩ | q3
              · have := hg.heap.inj k' k2 b o' o2 p1 a2 p2 a3
                subst this; exact absurd a1 (notl _ hk')
              · omega
          · obtain ⟨q1, q2, q3, q4⟩ := ownOld k b o hk h1 h3
            rcases cases_ k' with hk' | hk'
            · obtain ⟨j', e', hj'⟩ := place k' hk'
              obtain ⟨p1, p2, p3⟩ := ownNew j' k' b o' e' h2 h4
              rcases p3 with ⟨k2, a1, a2, o2, a3⟩ | p3
              · have := hg.heap.inj k k2 b o o2 q1 a2 q2 a3
                subst this; exact absurd a1 (notl _ hk)
              · omega
            · obtain ⟨p1, p2, p3, p4⟩ := ownOld k' b o' hk' h2 h4
              exact hg.heap.inj k k' b o o' q1 p1 q2 p2
      have a := hg.hist
      have lOwn : ∀ b, (∃ k', k' ∈ l ∧ owned (getH s.hp k') = true ∧ ∃ o, m k' = some (b, o)) → Own A b ∨ A.w.heap.size ≤ b := by
        rintro b ⟨k, _, h2, o, h3⟩
        exact a.own b ⟨k, o, h2, h3⟩
      have HH : Hist A keep ⟨w', m2, s1.hp, I'⟩ := by
        refine ⟨?_, Nat.le_trans a.sz hh.sz, ?_, ?_, fun b hb => hh.sub b (a.sub b hb), ?_, ?_, ?_, hh.os.trans a.os, hh.tape.trans a.tape, hh.output.trans a.output, fun b => Nat.le_trans (a.bsz b) (hh.bsz b)⟩
        · intro b hb hn'
          refine (old b (Nat.lt_of_lt_of_le hb a.sz) ?_).trans (a.old b hb hn')
          intro k o h1 h2 h3
          rcases lOwn b ⟨k, h1, h2, o, h3⟩ with h | h
          · exact hn' h
          · omega
        · rintro b ⟨k, o, ho, hm⟩
          rcases cases_ k with hk | hk
          · obtain ⟨j, e, hj⟩ := place k hk
            obtain ⟨q1, q2, q3⟩ := ownNew j k b o e ho hm
            rcases q3 with q3 | q3
            · exact lOwn b q3
            · exact .inr (Nat.le_trans a.sz q3)
          · obtain ⟨q1, q2, _⟩ := ownOld k b o hk ho hm
            exact a.own b ⟨k, o, q1, q2⟩
        · intro b hb
          rcases hh.imm b hb with h1 | h1 | h1
          · exact a.imm b h1
          · rcases lOwn b (own0 b h1) with h | h
            · exact .inr (.inl h)
            · exact .inr (.inr h)
          · exact .inr (.inr (Nat.le_trans a.sz h1))
        · intro k hk
          exact fits_trans (a.fit k hk) (G.fit k (a.has k hk))
        · intro k hk hne
          have h1 := G.map k (a.has k hk) hne
          have h2 := G.fit k (a.has k hk)
          refine h1.trans (a.map k hk ?_)
          intro hgone
          simp only [hgone] at h2
          cases hq : getH s1.hp k <;> simp_all [fits]
        · intro k hk
          exact G.has k (a.has k hk)
      refine ⟨m2, I', ⟨HR, ?_, HH⟩, ren_ok R2 6 (.inl fun _ h => h) hx⟩
      rw [ptm]; exact tmR_mono G hg.tm
    · cases h

theorem callA_ok {tab : List Ent} (ht : ∀ e ∈ tab, Sound P e.f e.S) (hg : Good A keep ⟨w, m, s.hp, I⟩ s.tm tmps) {f : FuncId} {args : List AV} {vals : Array Value} {base : Nat} (hv : relL ⟨w, m, s.hp, I⟩ args vals.toList)
    (h : callA P tab f args base s K = some r) : Called P f vals w A keep tmps K r := by
  have find_ok : ∀ {t : List Ent} {e : Ent}, find t f = some e → e ∈ t ∧ e.f = f := by
    intro t
    induction t with
    | nil => intro e he; cases he
    | cons x t ih =>
      intro e he
      simp only [find] at he
      cases hb : Nat.beq x.f f with
      | true => rw [hb] at he; cases he; exact ⟨by simp, Nat.eq_of_beq_eq_true hb⟩
      | false =>
        rw [hb, cond_false] at he
        obtain ⟨h1, h2⟩ := ih he
        exact ⟨by simp [h1], h2⟩
  unfold callA at h
  split at h
  · cases h
  · rename_i e he
    obtain ⟨h1, rfl⟩ := find_ok he
    cases hm : e.mv with
    | true => rw [hm, cond_true] at h; exact callM_ok (ht e h1) hg hv h
    | false => rw [hm, cond_false] at h; exact callB_ok (ht e h1) hg hv h

end
end Go.AI
