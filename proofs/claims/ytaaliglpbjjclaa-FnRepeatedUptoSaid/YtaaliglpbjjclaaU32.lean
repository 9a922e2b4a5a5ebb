/- PART 2 of the texts on which the proof rests: an abstract machine, the equations of the functions, plain words on them. -/
import Derived.Test.YtaaliglpbjjclaaU31
import Derived.Orders
import Derived.KernelRfl

section
/- SOUNDNESS: calls that are handed what is owned. -/
namespace Go.AI
set_option linter.unusedVariables false
set_option linter.unusedSimpArgs false

theorem collect_ok {hp : List (Nat × Root)} : ∀ (n : Nat) {todo acc : List Nat}, acc.Nodup → (∀ h ∈ acc, getH hp h ≠ .gone) → (collect hp n todo acc).Nodup ∧ ∀ h ∈ collect hp n todo acc, getH hp h ≠ .gone
  | 0, todo, acc, h1, h2 => by simp only [collect]; exact ⟨h1, h2⟩
  | n + 1, [], acc, h1, h2 => by simp only [collect]; exact ⟨h1, h2⟩
  | n + 1, k :: todo, acc, h1, h2 => by
    simp only [collect]
    cases hm : memN k acc with
    | true => rw [cond_true]; exact collect_ok n h1 h2
    | false =>
      rw [cond_false]
      have hk : k ∉ acc := fun hk => by rw [memN_iff.2 hk] at hm; cases hm
      have step : getH hp k ≠ .gone → (acc ++ [k]).Nodup ∧ ∀ h ∈ acc ++ [k], getH hp h ≠ .gone := by
        intro hg
        refine ⟨?_, ?_⟩
        · rw [List.nodup_append]
          refine ⟨h1, by simp, ?_⟩
          intro a ha b hb
          simp at hb; subst hb
          rintro rfl; exact hk ha
        · intro h hh
          rcases List.mem_append.1 hh with hh | hh
          · exact h2 h hh
          · simp at hh; subst hh; exact hg
      split
      · exact collect_ok n h1 h2
      · rename_i x hx
        have := step (fun e => hx e)
        exact collect_ok n this.1 this.2

theorem putBack_ok : ∀ {l : List Nat} {xs : List Root} {s s1 : St}, l.Nodup → putBack l xs s = some s1 →
    s1.tm = s.tm ∧ l.length ≤ xs.length ∧ (∀ k, k ∉ l → getH s1.hp k = getH s.hp k) ∧ (∀ (j k : Nat), l[j]? = some k → getH s1.hp k = xs.getD j .gone) ∧ (∀ k, hasH s1.hp k = true ↔ (hasH s.hp k = true ∨ k ∈ l))
  | [], xs, s, s1, _, h => by
    simp only [putBack, Option.some.injEq] at h; subst h
    exact ⟨rfl, Nat.zero_le _, fun _ _ => rfl, fun j k e => by simp at e, fun k => by simp⟩
  | h0 :: l, [], s, s1, _, h => by simp [putBack] at h
  | h0 :: l, x :: xs, s, s1, hn, h => by
    simp only [putBack] at h
    have hn := List.nodup_cons.1 hn
    obtain ⟨q1, q2, q3, q4, q5⟩ := putBack_ok hn.2 h
    refine ⟨q1, by simp only [List.length_cons]; omega, ?_, ?_, ?_⟩
    · intro k hk
      rw [q3 k (fun hh => hk (by simp [hh]))]
      exact getH_other _ _ (fun e => hk (by simp [e]))
    · intro j k e
      cases j with
      | zero =>
        simp at e; subst e
        rw [q3 _ hn.1]; exact getH_same _ _ _
      | succ j =>
        rw [List.getElem?_cons_succ] at e
        rw [q4 j k e, List.getD_cons_succ]
    · intro k
      rw [q5 k, show (s.setH h0 x).hp = (h0, x) :: s.hp from rfl, hasH_cons, Bool.or_eq_true, List.mem_cons]
      constructor
      · rintro ((h1 | h1) | h1)
        · exact .inr (.inl (Nat.eq_of_beq_eq_true h1).symm)
        · exact .inl h1
        · exact .inr (.inr h1)
      · rintro (h1 | h1 | h1)
        · exact .inl (.inr h1)
        · subst h1; exact .inl (.inl (Nat.beq_refl _))
        · exact .inr h1

theorem nodup_index {l : List Nat} (hn : l.Nodup) {i j k : Nat} (h1 : l[i]? = some k) (h2 : l[j]? = some k) : i = j := by
  have a := idxO_of hn h1
  have b := idxO_of hn h2
  rw [a] at b; exact Option.some.inj b

section
variable {P : Program} {A : Env} {keep : Nat} {w : World} {m : Nat → Option (Nat × Nat)} {I : Nat → Prop} {s : St} {tmps : Array Value} {K : St → AV → R} {r : Res}

/-- the callee's environment: the roots of a list, by their places -/
theorem hand_ok (H : HeapRel ⟨w, m, s.hp, I⟩) {l : List Nat} (hn : l.Nodup) :
    HeapRel ⟨w, fun k => match l[k]? with | some h => m h | none => none, numbered 0 (l.map fun h => renRoot (idxO l) (getH s.hp h)), I⟩ ∧
    Ren (idxO l) ⟨w, m, s.hp, I⟩ ⟨w, fun k => match l[k]? with | some h => m h | none => none, numbered 0 (l.map fun h => renRoot (idxO l) (getH s.hp h)), I⟩ := by
  have g0 : ∀ k h, l[k]? = some h → getH (numbered 0 (l.map fun h => renRoot (idxO l) (getH s.hp h))) k = renRoot (idxO l) (getH s.hp h) := by
    intro k h e
    obtain ⟨hlt, hk⟩ := List.getElem?_eq_some_iff.1 e
    rw [getH_numbered, if_pos (by simp; omega)]
    simp [List.getD_eq_getElem?_getD, List.getElem?_map, e]
  have g1 : ∀ k, l[k]? = none → getH (numbered 0 (l.map fun h => renRoot (idxO l) (getH s.hp h))) k = .gone := by
    intro k e
    have := List.getElem?_eq_none_iff.1 e
    rw [getH_numbered, if_neg (by simp; omega)]
  have R : Ren (idxO l) ⟨w, m, s.hp, I⟩ ⟨w, fun k => match l[k]? with | some h => m h | none => none, numbered 0 (l.map fun h => renRoot (idxO l) (getH s.hp h)), I⟩ := by
    refine ⟨rfl, ?_, ?_, ?_⟩
    · intro h k e
      simp only [idxO_ok e]
    · intro h k e
      simp only [g0 k h (idxO_ok e)]
      exact like_ren _ _
    · intro h k e
      obtain ⟨hlt, _⟩ := List.getElem?_eq_some_iff.1 (idxO_ok e)
      simp only [hasH_numbered]; simp; omega
  refine ⟨⟨?_, ?_, H.lt⟩, R⟩
  · intro k
    cases e : l[k]? with
    | none => simp only [g1 k e]; trivial
    | some h =>
      simp only [g0 k h e]
      refine rootOk_ren R (h := h) (by simp only [e]) (.inl fun _ h => h) (fun _ b o _ h => h) (H.root h)
  · intro k k' b o o' h1 h2 h3 h4
    cases e : l[k]? with
    | none => simp only [g1 k e] at h1; cases h1
    | some h =>
      cases e' : l[k']? with
      | none => simp only [g1 k' e'] at h2; cases h2
      | some h' =>
        simp only [g0 k h e] at h1
        simp only [g0 k' h' e'] at h2
        simp only [e] at h3
        simp only [e'] at h4
        have o1 : owned (getH s.hp h) = true := by cases hq : getH s.hp h <;> rw [hq] at h1 <;> simp_all [renRoot, owned]
        have o2 : owned (getH s.hp h') = true := by cases hq : getH s.hp h' <;> rw [hq] at h2 <;> simp_all [renRoot, owned]
        have := H.inj h h' b o o' o1 o2 h3 h4
        subst this
        exact nodup_index hn e e'

theorem callM_ok {e : Ent} (he : Sound P e.f e.S) (hg : Good A keep ⟨w, m, s.hp, I⟩ s.tm tmps) {args : List AV} {vals : Array Value} {base : Nat} (hv : relL ⟨w, m, s.hp, I⟩ args vals.toList)
    (h : callM e args base s K = some r) : Called P e.f vals w A keep tmps K r := by
  unfold callM at h
  obtain ⟨hln, hlg⟩ := collect_ok (hp := s.hp) 200 (todo := args.flatMap hs) (acc := []) List.nodup_nil (by intro h hh; cases hh)
  generalize hl : collect s.hp 200 (args.flatMap hs) [] = l at h hln hlg
  simp only at h
  · obtain ⟨⟨rv, roots⟩, hK, hdet⟩ := e.det _ _ _ _ h
    have hS := hdet some
    replace h := hK
    simp only at h
    clear hK hdet
    obtain ⟨hfr, h⟩ := cond_none' h
    split at h
    · rename_i s1 hpb
      obtain ⟨H0, R0⟩ := hand_ok hg.heap hln
      -- the homes
      generalize hmm : homes l base roots.length = mm at h hpb
      have hmem : ∀ k, k ∈ mm ↔ (k ∈ l ∨ ∃ j, j < roots.length - l.length ∧ k = base + j) := by
        intro k; rw [← hmm]; unfold homes
        rw [List.mem_append, List.mem_map]
        constructor
        · rintro (h | ⟨j, h1, h2⟩)
          · exact .inl h
          · exact .inr ⟨j, List.mem_range.1 h1, h2.symm⟩
        · rintro (h | ⟨j, h1, h2⟩)
          · exact .inl h
          · exact .inr ⟨j, List.mem_range.2 h1, h2.symm⟩
      have hfree : ∀ j, j < roots.length - l.length → hasH s.hp (base + j) = false := fun j hj => any_false hfr j (List.mem_range.2 hj)
      have hlhas : ∀ k ∈ l, hasH s.hp k = true := fun k hk => hasH_of_getH (hlg k hk)
      have hmn : mm.Nodup := by
        rw [← hmm]; unfold homes
        rw [List.nodup_append]
        refine ⟨hln, ?_, ?_⟩
        · have := List.nodup_range (n := roots.length - l.length)
          rw [List.nodup_iff_pairwise_ne] at *
          rw [List.pairwise_map]
          exact this.imp (fun hab => by omega)
        · intro a ha b hb
          obtain ⟨j, h1, h2⟩ := List.mem_map.1 hb
          rintro rfl
          have := hfree j (List.mem_range.1 h1)
          rw [h2, hlhas a ha] at this; cases this
      have hmlen : mm.length = l.length + (roots.length - l.length) := by rw [← hmm]; simp [homes]
      obtain ⟨ptm, plen, pold, pnew, phas⟩ := putBack_ok hmn hpb
      have hmlen' : mm.length = roots.length := by simp at plen; omega
      have hll : l.length ≤ roots.length := by omega
      have hpre : ∀ (j k : Nat), l[j]? = some k → mm[j]? = some k := by
        intro j k e
        rw [← hmm]; unfold homes
        rw [List.getElem?_append_left (List.getElem?_eq_some_iff.1 e).1]; exact e
      refine ⟨_, _, h, ?_⟩
      have hargs : relL _ (args.map (ren (idxO l))) vals.toList := relL_map (fun c _ v hc => ren_ok R0 6 (.inl fun _ h => h) hc) hv
      refine (he _ _ _ _ rv roots rfl H0 hargs hS).mono ?_
      rintro x w' ⟨m', I', H1, hh, hx⟩
      simp only [List.length_map] at hh
      -- the caller's environment
      let m2 : Nat → Option (Nat × Nat) := fun k => match idxO mm k with | some j => m' j | none => m k
      have m2new : ∀ (j k : Nat), mm[j]? = some k → m2 k = m' j := by intro j k e; simp only [m2, idxO_of hmn e]
      have m2old : ∀ k, k ∉ mm → m2 k = m k := by
        intro k hk
        simp only [m2]
        cases e : idxO mm k with
        | none => rfl
        | some j => exact absurd (List.mem_of_getElem? (idxO_ok e)) hk
      have gnew : ∀ (j k : Nat), mm[j]? = some k → getH s1.hp k = renRoot (nthO mm) (getH (numbered 0 roots) j) := by
        intro j k e
        have hj := (List.getElem?_eq_some_iff.1 e).1
        rw [pnew j k e, getH_numbered, if_pos (by omega), Nat.sub_zero]
        have hj' : j < roots.length := by omega
        simp [List.getD_eq_getElem?_getD, List.getElem?_map, List.getElem?_eq_getElem hj']
      have cases_ : ∀ k, k ∈ mm ∨ k ∉ mm := fun k => Classical.em _
      have place : ∀ k, k ∈ mm → ∃ j : Nat, mm[j]? = some k ∧ j < roots.length := by
        intro k hk
        obtain ⟨j, hj, e⟩ := List.getElem_of_mem hk
        exact ⟨j, by rw [List.getElem?_eq_getElem hj, e], by omega⟩
      have ownRen : ∀ {g : Nat → Option Nat} {y : Root}, owned (renRoot g y) = true → owned y = true := by
        intro g y hy; cases y <;> simp_all [renRoot, owned]
      -- the callee's owned blocks are the caller's
      have own0 : ∀ b, Own ⟨w, fun k => match l[k]? with | some h => m h | none => none, numbered 0 (l.map fun h => renRoot (idxO l) (getH s.hp h)), I⟩ b → ∃ k, k ∈ l ∧ owned (getH s.hp k) = true ∧ ∃ o, m k = some (b, o) := by
        rintro b ⟨j, o, h1, h2⟩
        simp only at h1 h2
        cases e : l[j]? with
        | none => simp only [e] at h2; cases h2
        | some k =>
          simp only [e] at h2
          have hlt := (List.getElem?_eq_some_iff.1 e).1
          rw [getH_numbered, if_pos (by simp; omega)] at h1
          simp [List.getD_eq_getElem?_getD, List.getElem?_map, e] at h1
          exact ⟨k, List.mem_of_getElem? e, ownRen h1, o, h2⟩
      have old : ∀ b, b < w.heap.size → (∀ k o, k ∈ l → owned (getH s.hp k) = true → m k ≠ some (b, o)) → w'.heap[b]? = w.heap[b]? := by
        intro b hb hno
        refine hh.old b hb ?_
        intro hO
        obtain ⟨k, h1, h2, o, h3⟩ := own0 b hO
        exact hno k o h1 h2 h3
      have oldI : ∀ b, I b → w'.heap[b]? = w.heap[b]? := by
        intro b hb
        refine old b (hg.heap.lt b hb) ?_
        intro k o h1 h2 h3
        exact (hg.heap.own_lt (b := b) ⟨k, o, h2, h3⟩).2 hb
      have fitl : ∀ (j k : Nat), l[j]? = some k → fits (getH s.hp k) (getH s1.hp k) := by
        intro j k e
        have hlt := (List.getElem?_eq_some_iff.1 e).1
        have f1 := hh.fit j hlt
        simp only at f1
        rw [gnew j k (hpre j k e)]
        refine fits_trans ?_ (fits_trans f1 (like_ren _ _).1)
        rw [getH_numbered, if_pos (by simp; omega)]
        simp only [List.getD_eq_getElem?_getD, List.getElem?_map, Nat.sub_zero, e, Option.map_some, Option.getD_some]
        exact (like_ren _ _).1
      have newGone : ∀ k, k ∈ mm → k ∉ l → hasH s.hp k = false := by
        intro k hk hkl
        rcases (hmem k).1 hk with h | ⟨j, h1, rfl⟩
        · exact absurd h hkl
        · exact hfree j h1
      have renGone : ∀ {g : Nat → Option Nat} {y : Root}, renRoot g y ≠ .gone → y ≠ .gone := by
        intro g y hy e; subst e; exact hy rfl
      have G : Grows ⟨w, m, s.hp, I⟩ ⟨w', m2, s1.hp, I'⟩ := by
        refine ⟨oldI, hh.sub, fun k hk => (phas k).2 (.inl hk), ?_, ?_, hh.bsz⟩
        · intro k hk
          rcases cases_ k with hm | hm
          · by_cases hkl : k ∈ l
            · obtain ⟨j, hj, e⟩ := List.getElem_of_mem hkl
              exact fitl j k (by rw [List.getElem?_eq_getElem hj, e])
            · have := newGone k hm hkl; rw [hk] at this; cases this
          · simp only [pold k hm]; exact fits_refl _
        · intro k hk hne
          rcases cases_ k with hm | hm
          · by_cases hkl : k ∈ l
            · obtain ⟨j, hj, e⟩ := List.getElem_of_mem hkl
              have e : l[j]? = some k := by rw [List.getElem?_eq_getElem hj, e]
              simp only [gnew j k (hpre j k e)] at hne
              have := hh.map j hj (renGone hne)
              simp only [e] at this
              show m2 k = m k
              rw [← this]; exact m2new j k (hpre j k e)
            · have := newGone k hm hkl; rw [hk] at this; cases this
          · exact m2old k hm
      have R2 : Ren (nthO mm) ⟨w', m', numbered 0 roots, I'⟩ ⟨w', m2, s1.hp, I'⟩ := by
        refine ⟨rfl, fun j k e => m2new j k e, ?_, ?_⟩
        · intro j k e
          simp only [gnew j k e]; exact like_ren _ _
        · intro j k e
          exact (phas k).2 (.inr (List.mem_of_getElem? e))
      have ownNew : ∀ (j k b o : Nat), mm[j]? = some k → owned (getH s1.hp k) = true → m2 k = some (b, o) → owned (getH (numbered 0 roots) j) = true ∧ m' j = some (b, o) ∧ ((∃ k', k' ∈ l ∧ owned (getH s.hp k') = true ∧ ∃ o, m k' = some (b, o)) ∨ w.heap.size ≤ b) := by
        intro j k b o e h1 h2
        rw [gnew j k e] at h1
        rw [m2new j k e] at h2
        have := ownRen h1
        refine ⟨this, h2, ?_⟩
        rcases hh.own b ⟨j, o, this, h2⟩ with h | h
        · exact .inl (own0 b h)
        · exact .inr h
      have ownOld : ∀ k b o, k ∉ mm → owned (getH s1.hp k) = true → m2 k = some (b, o) → owned (getH s.hp k) = true ∧ m k = some (b, o) ∧ b < w.heap.size ∧ ¬ I b := by
        intro k b o hk h1 h2
        rw [pold k hk] at h1
        rw [m2old k hk] at h2
        have := hg.heap.own_lt (b := b) ⟨k, o, h1, h2⟩
        exact ⟨h1, h2, this.1, this.2⟩
      have notl : ∀ k, k ∉ mm → k ∉ l := fun k hk h => hk ((hmem k).2 (.inl h))
      have HR : HeapRel ⟨w', m2, s1.hp, I'⟩ := by
        refine ⟨?_, ?_, H1.lt⟩
        · intro k
          rcases cases_ k with hk | hk
          · obtain ⟨j, e, hj⟩ := place k hk
            simp only [gnew j k e]
            exact rootOk_ren R2 (h := j) (m2new j k e) (.inl fun _ h => h) (fun _ b o _ h => h) (H1.root j)
          · simp only [pold k hk]
            refine rootOk_mono G (m2old k hk) ?_ (hg.heap.root k)
            intro ho b o hm
            have hl' := hg.heap.own_lt (b := b) ⟨k, o, ho, hm⟩
            refine ⟨?_, ?_⟩
            · refine old b hl'.1 ?_
              intro k' o' h1 h2 h3
              have := hg.heap.inj k k' b o o' ho h2 hm h3
              subst this; exact notl k hk h1
            · intro hb
              rcases hh.imm b hb with h1 | h1 | h1
              · exact hl'.2 h1
              · obtain ⟨k', h1, h2, o', h3⟩ := own0 b h1
                have := hg.heap.inj k k' b o o' ho h2 hm h3
                subst this; exact notl k hk h1
              · exact absurd hl'.1 (by simp at h1 ⊢; omega)
        · intro k k' b o o' h1 h2 h3 h4
          rcases cases_ k with hk | hk
          · obtain ⟨j, e, hj⟩ := place k hk
            obtain ⟨q1, q2, q3⟩ := ownNew j k b o e h1 h3
            rcases cases_ k' with hk' | hk'
            · obtain ⟨j', e', hj'⟩ := place k' hk'
              obtain ⟨p1, p2, p3⟩ := ownNew j' k' b o' e' h2 h4
              have := H1.inj j j' b o o' q1 p1 q2 p2
              subst this
              rw [e] at e'; exact Option.some.inj e'
            · obtain ⟨p1, p2, p3, p4⟩ := ownOld k' b o' hk' h2 h4
              rcases q3 with ⟨k2, a1, a2, o2, a3⟩ | q3
              · have := hg.heap.inj k' k2 b o' o2 p1 a2 p2 a3
                subst this; exact absurd a1 (notl _ hk')
              · omega
          · obtain ⟨q1, q2, q3, q4⟩ := ownOld k b o hk h1 h3
            rcases cases_ k' with hk' | hk'
            · obtain ⟨j', e', hj'⟩ := place k' hk'
              obtain ⟨p1, p2, p3⟩ := ownNew j' k' b o' e' h2 h4
              rcases p3 with ⟨k2, a1, a2, o2, a3⟩ | p3
              · have := hg.heap.inj k k2 b o o2 q1 a2 q2 a3
                subst this; exact absurd a1 (notl _ hk)
              · omega
            · obtain ⟨p1, p2, p3, p4⟩ := ownOld k' b o' hk' h2 h4
              exact hg.heap.inj k k' b o o' q1 p1 q2 p2
      have a := hg.hist
      have lOwn : ∀ b, (∃ k', k' ∈ l ∧ owned (getH s.hp k') = true ∧ ∃ o, m k' = some (b, o)) → Own A b ∨ A.w.heap.size ≤ b := by
        rintro b ⟨k, _, h2, o, h3⟩
        exact a.own b ⟨k, o, h2, h3⟩
      have HH : Hist A keep ⟨w', m2, s1.hp, I'⟩ := by
        refine ⟨?_, Nat.le_trans a.sz hh.sz, ?_, ?_, fun b hb => hh.sub b (a.sub b hb), ?_, ?_, ?_, hh.os.trans a.os, hh.tape.trans a.tape, hh.output.trans a.output, fun b => Nat.le_trans (a.bsz b) (hh.bsz b)⟩
        · intro b hb hn'
          refine (old b (Nat.lt_of_lt_of_le hb a.sz) ?_).trans (a.old b hb hn')
          intro k o h1 h2 h3
          rcases lOwn b ⟨k, h1, h2, o, h3⟩ with h | h
          · exact hn' h
          · omega
        · rintro b ⟨k, o, ho, hm⟩
          rcases cases_ k with hk | hk
          · obtain ⟨j, e, hj⟩ := place k hk
            obtain ⟨q1, q2, q3⟩ := ownNew j k b o e ho hm
            rcases q3 with q3 | q3
            · exact lOwn b q3
            · exact .inr (Nat.le_trans a.sz q3)
          · obtain ⟨q1, q2, _⟩ := ownOld k b o hk ho hm
            exact a.own b ⟨k, o, q1, q2⟩
        · intro b hb
          rcases hh.imm b hb with h1 | h1 | h1
          · exact a.imm b h1
          · rcases lOwn b (own0 b h1) with h | h
            · exact .inr (.inl h)
            · exact .inr (.inr h)
          · exact .inr (.inr (Nat.le_trans a.sz h1))
        · intro k hk
          exact fits_trans (a.fit k hk) (G.fit k (a.has k hk))
        · intro k hk hne
          have h1 := G.map k (a.has k hk) hne
          have h2 := G.fit k (a.has k hk)
          refine h1.trans (a.map k hk ?_)
          intro hgone
          simp only [hgone] at h2
          cases hq : getH s1.hp k <;> simp_all [fits]
        · intro k hk
          exact G.has k (a.has k hk)
      refine ⟨m2, I', ⟨HR, ?_, HH⟩, ren_ok R2 6 (.inl fun _ h => h) hx⟩
      rw [ptm]; exact tmR_mono G hg.tm
    · cases h

theorem callA_ok {tab : List Ent} (ht : ∀ e ∈ tab, Sound P e.f e.S) (hg : Good A keep ⟨w, m, s.hp, I⟩ s.tm tmps) {f : FuncId} {args : List AV} {vals : Array Value} {base : Nat} (hv : relL ⟨w, m, s.hp, I⟩ args vals.toList)
    (h : callA P tab f args base s K = some r) : Called P f vals w A keep tmps K r := by
  have find_ok : ∀ {t : List Ent} {e : Ent}, find t f = some e → e ∈ t ∧ e.f = f := by
    intro t
    induction t with
    | nil => intro e he; cases he
    | cons x t ih =>
      intro e he
      simp only [find] at he
      cases hb : Nat.beq x.f f with
      | true => rw [hb] at he; cases he; exact ⟨by simp, Nat.eq_of_beq_eq_true hb⟩
      | false =>
        rw [hb, cond_false] at he
        obtain ⟨h1, h2⟩ := ih he
        exact ⟨by simp [h1], h2⟩
  unfold callA at h
  split at h
  · cases h
  · rename_i e he
    obtain ⟨h1, rfl⟩ := find_ok he
    cases hm : e.mv with
    | true => rw [hm, cond_true] at h; exact callM_ok (ht e h1) hg hv h
    | false => rw [hm, cond_false] at h; exact callB_ok (ht e h1) hg hv h

end
end Go.AI
end

section
/- SOUNDNESS: any operation. -/
namespace Go.AI
set_option linter.unusedVariables false
set_option linter.unusedSimpArgs false

section
variable {P : Program} {A : Env} {keep : Nat} {w : World} {m : Nat → Option (Nat × Nat)} {I : Nat → Prop} {s : St} {o : Oper} {a : Act} {K : St → AV → R} {r : Res}

theorem arr_one {α : Type} {xs : Array α} {f : α → AV} {y : AV} (h : xs.toList.map f = [y]) : ∃ x, xs = #[x] ∧ f x = y := by
  cases xs with
  | mk l =>
    cases l with
    | nil => cases h
    | cons x l => cases l with
      | nil => simp at h; exact ⟨x, rfl, h⟩
      | cons _ _ => simp at h
theorem arr_two {α : Type} {xs : Array α} {f : α → AV} {y z : AV} (h : xs.toList.map f = [y, z]) : ∃ x x', xs = #[x, x'] ∧ f x = y ∧ f x' = z := by
  cases xs with
  | mk l =>
    cases l with
    | nil => cases h
    | cons x l => cases l with
      | nil => simp at h
      | cons x' l => cases l with
        | nil => simp at h; exact ⟨x, x', rfl, h.1, h.2⟩
        | cons _ _ => simp at h
theorem arr_of {α : Type} {xs : Array α} {l : List α} (h : xs.toList = l) : xs = l.toArray := by subst h; simp

theorem op_built {c : Call} {b : Builtin} {id : Nat} (ho : o.op = .call c) (hc : c.callee = .builtin b) (hg : Good A keep ⟨w, m, s.hp, I⟩ s.tm a.tmps)
    (h : builtA P b c.argTypes.toList (c.args.toList.map s.ev) id s K = some r) : Done P o a w A keep K r := by
  unfold builtA at h
  split at h
  · rename_i t x hts has
    obtain ⟨y, hy, rfl⟩ := arr_one has
    exact op_len (args := []) (vals := #[]) ho hc hy (arr_of hts) hg h
  · rename_i t u x y hts has
    obtain ⟨x', y', hy, rfl, rfl⟩ := arr_two has
    exact op_append ho hc hy (arr_of hts) hg h
  · rename_i k p k' q has
    obtain ⟨x', y', hy, h1, h2⟩ := arr_two has
    exact op_max (big := true) ho (by simpa using hc) hy hg (by rw [h1, h2]; simpa using h)
  · rename_i k p k' q has
    obtain ⟨x', y', hy, h1, h2⟩ := arr_two has
    exact op_max (big := false) ho (by simpa using hc) hy hg (by rw [h1, h2]; simpa using h)
  · cases h

theorem op_call {tab : List Ent} (ht : ∀ e ∈ tab, Sound P e.f e.S) {c : Call} {f : Operand} {g : FuncId} {caps : List AV} {id : Nat} (ho : o.op = .call c) (hc : c.callee = .value f) (hf : s.ev f = .fn g caps)
    (hg : Good A keep ⟨w, m, s.hp, I⟩ s.tm a.tmps) (h : callA P tab g (c.args.toList.map s.ev ++ caps) id s K = some r) : Done P o a w A keep K r := by
  have hx := ev_rel hg.tm f
  rw [hf] at hx
  simp only [relV] at hx
  obtain ⟨cv, hfv, hcv⟩ := hx
  have hrel : relL ⟨w, m, s.hp, I⟩ (c.args.toList.map s.ev ++ caps) ((c.args.map a.eval) ++ cv).toList := by
    rw [Array.toList_append]
    refine relL_iff.2 ((relL_iff.1 ?_).append (relL_iff.1 hcv))
    have := evs_rel hg c.args.toList
    simpa using this
  obtain ⟨s2, v2, hK, hcall⟩ := callA_ok ht hg hrel h
  have hrun : (execOp a.eval o).run P w = (callFunc g ((c.args.map a.eval) ++ cv)).run P w := by
    simp [execOp, ho, resolve, hc, hfv, Deferred.ofValue, invoke]
  refine ⟨s2, v2, hK, ?_⟩
  rcases hcall with ⟨x, w', h1, h2⟩ | ⟨g', args, w', h1, h2⟩
  · exact .inl ⟨x, w', hrun.trans h1, h2⟩
  · exact .inr (.inr ⟨g', args, w', hrun.trans h1, h2⟩)

theorem asStr_ok {v : AV} {b : ByteArray} (h : asStr v = some b) : v = .val (.string b) := by
  unfold asStr at h
  split at h
  · cases h; rfl
  · cases h

theorem opA_ok {tab : List Ent} (ht : ∀ e ∈ tab, Sound P e.f e.S) (hg : Good A keep ⟨w, m, s.hp, I⟩ s.tm a.tmps) (h : opA P tab o s K = some r) : Done P o a w A keep K r := by
  unfold opA at h
  simp only at h
  split at h
  · rename_i x ho; exact op_move (.inl ho) hg h
  · rename_i x ho; exact op_move (.inr ho) hg h
  · rename_i c x y ho; exact op_pick ho hg h
  · rename_i t ho; exact op_alloc ho hg h
  · rename_i t x ho; exact op_box ho hg h
  · rename_i t ps ho; exact op_build ho hg h
  · rename_i t n ps ho; exact op_buildSlice ho hg h
  · rename_i t x ho; exact op_load ho hg h
  · rename_i t x y ho; exact op_store ho hg h
  · rename_i x ho; exact op_nil ho hg h
  · rename_i op t x y ty ho; exact op_bin ho hg (by cases y <;> exact h)
  · rename_i op t x ho; exact op_un ho hg h
  · rename_i src dst x ho; exact op_conv ho hg h
  · rename_i f first caps ho; exact op_fn ho hg h
  · rename_i t l c ho; exact op_makeSlice ho hg h
  · rename_i t x lo hi mx ho
    split at h
    · split at h
      · rename_i b k hk
        split at h
        · rename_i j et e bytes len hj hel hlen
          obtain ⟨hc, h⟩ := chk_some h
          simp only [Bool.and_eq_true, decide_eq_true_eq] at hc
          obtain ⟨rfl, rfl⟩ := hc
          exact op_slice_0 ho hg hk hj hel hlen h
        · cases h
      · cases h
    split at h
    · rename_i b hx
      have hx := asStr_ok hx
      split at h
      · rename_i hu
        obtain ⟨c1, h⟩ := chk_some h
        obtain ⟨c2, h⟩ := chk_some h
        obtain ⟨c3, h⟩ := chk_some h
        have c1 := of_decide_eq_true c1
        have c2 := of_decide_eq_true c2
        have c3 := of_decide_eq_true c3
        refine op_slice_str _ _ ho hg hx hu ?_ ?_ c1 c2 c3 h
        · cases lo with
          | none => rfl
          | some y =>
            simp only [St.bnd] at c1 ⊢
            cases hy : intOf? (s.ev y) with
            | none => rw [hy] at c1; simp at c1
            | some n => rfl
        · cases hi with
          | none => rfl
          | some y =>
            have hc2 := Int.le_trans c1 c2
            simp only [St.bnd] at hc2 ⊢
            cases hy : intOf? (s.ev y) with
            | none => rw [hy] at hc2; simp at hc2
            | some n => rfl
      · cases h
    · split at h
      · rename_i n sz hn hz
        have hh := cond_none h
        clear h
        obtain ⟨hs, h⟩ := hh
        split at h
        · split at h
          · rename_i v2 hv
            exact op_slice_s (lo := none) (hi := none) 0 (n : Nat) ho hg hn hz hs rfl rfl (by omega) (by omega) (by omega) hv h
          · cases h
        · rename_i y
          split at h
          · rename_i l hl
            obtain ⟨c1, h⟩ := chk_some h
            obtain ⟨c2, h⟩ := chk_some h
            have c1 := of_decide_eq_true c1
            have c2 := of_decide_eq_true c2
            split at h
            · rename_i v2 hv
              exact op_slice_s (lo := some y) (hi := none) l (n : Nat) ho hg hn hz hs hl rfl c1 c2 (by omega) hv h
            · cases h
          · cases h
        · rename_i y
          split at h
          · rename_i l hl
            obtain ⟨c1, h⟩ := chk_some h
            obtain ⟨c2, h⟩ := chk_some h
            have c1 := of_decide_eq_true c1
            have c2 := of_decide_eq_true c2
            split at h
            · rename_i v2 hv
              exact op_slice_s (lo := none) (hi := some y) 0 l ho hg hn hz hs rfl hl (by omega) c1 c2 hv h
            · cases h
          · cases h
        · rename_i y z
          split at h
          · rename_i l l' hl hl'
            obtain ⟨c1, h⟩ := chk_some h
            obtain ⟨c2, h⟩ := chk_some h
            obtain ⟨c3, h⟩ := chk_some h
            have c1 := of_decide_eq_true c1
            have c2 := of_decide_eq_true c2
            have c3 := of_decide_eq_true c3
            split at h
            · rename_i v2 hv
              exact op_slice_s (lo := some y) (hi := some z) l l' ho hg hn hz hs hl hl' c1 c2 c3 hv h
            · cases h
          · cases h
      · cases h
  · rename_i t x f ho; exact op_fieldAddr ho hg h
  · rename_i t x f ho; exact op_field ho hg h
  · rename_i t x i ho; exact op_indexAddr ho hg h
  · rename_i t x i ho; exact op_index ho hg h
  · rename_i x i ho; exact op_extract ho hg h
  · rename_i c ho
    split at h
    · rename_i b hc; exact op_built ho hc hg h
    · rename_i f hc
      split at h
      · rename_i g caps hf; exact op_call ht ho hc hf hg h
      · cases h
    · cases h
  · cases h

end
end Go.AI
end

section
/- SOUNDNESS: the operations of a region, in their order. -/
namespace Go.AI
set_option linter.unusedVariables false
set_option linter.unusedSimpArgs false

/-- a state of the model, as an abstract one sees it -/
structure Sees (A : Env) (keep nt : Nat) (ds : List Deferred) (s : St) (a : Act) (w : World) : Prop where
  good : ∃ m I, Good A keep ⟨w, m, s.hp, I⟩ s.tm a.tmps
  size : nt ≤ a.tmps.size
  defers : a.defers = ds

section
variable {P : Program} {A : Env} {keep nt : Nat} {ds : List Deferred} {w : World} {s : St} {o : Oper} {a : Act} {r : Res}

theorem getT_same (tm : List (Nat × AV)) (i : Nat) (v : AV) : getT ((i, v) :: tm) i = v := by simp [getT]
theorem getT_other (tm : List (Nat × AV)) {i j : Nat} (v : AV) (e : j ≠ i) : getT ((i, v) :: tm) j = getT tm j := by
  have : Nat.beq i j = false := by
    cases h : Nat.beq i j with
    | false => rfl
    | true => exact absurd (Nat.eq_of_beq_eq_true h).symm e
  simp [getT, this]

theorem put_ok {m : Nat → Option (Nat × Nat)} {I : Nat → Prop} {d : Option Nat} {v : AV} {x : Value} {k : St → R} (h : s.putK nt d v k = some r)
    (hg : Good A keep ⟨w, m, s.hp, I⟩ s.tm a.tmps) (hs : nt ≤ a.tmps.size) (hd : a.defers = ds) (hv : relV ⟨w, m, s.hp, I⟩ v x) :
    ∃ s1, k s1 = some r ∧ Sees A keep nt ds s1 (a.put d x) w := by
  cases d with
  | none => exact ⟨s, h, ⟨⟨m, I, hg⟩, hs, hd⟩⟩
  | some i =>
    simp only [St.putK] at h
    obtain ⟨hi, h⟩ := cond_none h
    have hi : i < nt := Nat.le_of_ble_eq_true hi
    refine ⟨_, h, ⟨⟨m, I, hg.heap, ?_, hg.hist⟩, by simpa [Act.put] using hs, hd⟩⟩
    intro j
    by_cases e : j = i
    · subst e
      rw [show (s.setT j v).tm = (j, v) :: s.tm from rfl, getT_same]
      have : j < a.tmps.size := by omega
      have q : relV ⟨w, m, s.hp, I⟩ v ((a.put (some j) x).tmps.getD j undef) := by simpa [Act.put, this] using hv
      exact q
    · rw [show (s.setT i v).tm = (i, v) :: s.tm from rfl, getT_other _ _ e]
      have := hg.tm j
      have q : relV ⟨w, m, s.hp, I⟩ (getT s.tm j) ((a.put (some i) x).tmps.getD j undef) := by simpa [Act.put, Array.getElem?_setIfInBounds_ne (Ne.symm e)] using this
      exact q

/-- one operation, wanted or not -/
theorem wantA_ok {ops : Array Oper} {m : Nat → Option (Nat × Nat)} {I : Nat → Prop} {k : Bool → St → R} (h : wantA ops o s k = some r) (hg : Good A keep ⟨w, m, s.hp, I⟩ s.tm a.tmps) :
    ∃ s1, k (Region.wanted o (yielded ops a.tmps)) s1 = some r ∧ s1.hp = s.hp ∧ Good A keep ⟨w, m, s1.hp, I⟩ s1.tm a.tmps := by
  unfold wantA at h
  unfold Region.wanted
  split at h
  · rename_i hgd
    simp only [hgd]
    exact ⟨s, h, rfl, hg⟩
  · rename_i j want hgd
    simp only [hgd]
    split at h
    · rename_i oj hj
      split at h
      · rename_i d hd
        split at h
        · rename_i b hb
          have hx := hg.tm d
          rw [hb] at hx
          simp only [relV] at hx
          have hy : yielded ops a.tmps j = some b := by
            unfold yielded
            simp only [hj, Option.bind_some, hd]
            cases hq : a.tmps[d]? with
            | none => rw [Array.getD_eq_getD_getElem?, hq] at hx; simp [undef] at hx
            | some x => rw [Array.getD_eq_getD_getElem?, hq] at hx; simp only [Option.getD_some] at hx; subst hx; rfl
          have hg1 : ∀ b', b' = b → Good A keep ⟨w, m, (s.setT d (.val (.bool b'))).hp, I⟩ (s.setT d (.val (.bool b'))).tm a.tmps := by
            intro b' e; subst e
            refine ⟨hg.heap, ?_, hg.hist⟩
            intro i
            by_cases e : i = d
            · subst e; rw [show (s.setT i (.val (.bool b'))).tm = (i, .val (.bool b')) :: s.tm from rfl, getT_same]; simp only [relV]; exact hx
            · rw [show (s.setT d (.val (.bool b'))).tm = (d, .val (.bool b')) :: s.tm from rfl, getT_other _ _ e]; exact hg.tm i
          rw [hy]
          cases b with
          | true =>
            rw [cond_true] at h
            refine ⟨s.setT d (.val (.bool true)), ?_, rfl, hg1 true rfl⟩
            cases want <;> exact h
          | false =>
            rw [cond_false] at h
            refine ⟨s.setT d (.val (.bool false)), ?_, rfl, hg1 false rfl⟩
            cases want <;> exact h
        · rename_i hb
          have hx := hg.tm d
          rw [hb] at hx
          simp only [relV] at hx
          obtain ⟨vs, hv, hl⟩ := hx
          have hy : yielded ops a.tmps j = none := by
            unfold yielded
            simp only [hj, Option.bind_some, hd]
            cases hq : a.tmps[d]? with
            | none => rfl
            | some x => rw [Array.getD_eq_getD_getElem?, hq] at hv; simp only [Option.getD_some] at hv; subst hv; rfl
          rw [hy]
          exact ⟨s, h, rfl, hg⟩
        · cases h
      · cases h
    · cases h

theorem oneA_ok {tab : List Ent} (ht : ∀ e ∈ tab, Sound P e.f e.S) {ops : Array Oper} {i : Nat} (hi : ops[i]? = some o) {k : St → R} (h : oneA P tab nt ops o s k = some r) (hg : Sees A keep nt ds s a w)
    (Q : Exit → Act → World → Prop) (next : Act → World → Prop) (hn : ∀ s1, k s1 = some r → ∀ a' w', Sees A keep nt ds s1 a' w' → next a' w') : wpOp P ops Q i next a w := by
  obtain ⟨⟨m, I, g⟩, hs, hd⟩ := hg
  unfold oneA at h
  obtain ⟨s1, h1, hp1, g1⟩ := wantA_ok h g
  unfold wpOp
  simp only [hi]
  cases hw : Region.wanted o (yielded ops a.tmps) with
  | true =>
    rw [hw, cond_true] at h1
    obtain ⟨s2, v2, h2, hop⟩ := opA_ok (K := fun s2 v => s2.putK nt o.dst v k) ht g1 h1
    simp only [if_true]
    refine .inl (hop.wp next Q ?_)
    rintro x w' ⟨m', I', gg, hv⟩
    obtain ⟨s4, h4, h5⟩ := put_ok h2 gg hs hd hv
    exact hn s4 h4 _ _ h5
  | false =>
    rw [hw, cond_false] at h1
    obtain ⟨s3, h3, h4⟩ := put_ok (x := undef) h1 g1 hs hd (by simp only [relV]; exact ⟨#[], rfl, by simp [relL]⟩)
    simp only [if_false, Bool.false_eq_true]
    exact hn s3 h3 _ _ h4

theorem opsA_ok {tab : List Ent} (ht : ∀ e ∈ tab, Sound P e.f e.S) {ops : Array Oper} {k : St → R} (Q : Exit → Act → World → Prop) (hQ : ∀ s1, k s1 = some r → ∀ a' w', Sees A keep nt ds s1 a' w' → Q .normal a' w') :
    ∀ {l : List Nat} {os : List Oper} {s : St} {a : Act} {w : World}, All2 (fun i o => ops[i]? = some o) l os → opsA P tab nt ops os s k = some r → Sees A keep nt ds s a w → wpOps P ops Q l a w
  | [], [], s, a, w, _, h, hg => hQ s h _ _ hg
  | [], _ :: _, _, _, _, hl, _, _ => hl.elim
  | _ :: _, [], _, _, _, hl, _, _ => hl.elim
  | i :: l, o :: os, s, a, w, hl, h, hg => by
    simp only [opsA] at h
    rw [wpOps_cons]
    exact oneA_ok ht hl.1 h hg Q _ fun s1 h1 a' w' h2 => opsA_ok ht Q hQ hl.2 h1 h2

theorem ops_all2 (ops : Array Oper) : All2 (fun i o => ops[i]? = some o) (List.range ops.size) ops.toList := by
  have : ∀ (l : List Oper) (n : Nat), (∀ j o, l[j]? = some o → ops[n + j]? = some o) → All2 (fun i o => ops[i]? = some o) (List.range' n l.length) l := by
    intro l
    induction l with
    | nil => intro n _; trivial
    | cons o l ih =>
      intro n hl
      refine ⟨hl 0 o rfl, ih (n + 1) fun j o' ho => ?_⟩
      have := hl (j + 1) o' (by simpa using ho)
      rwa [show n + 1 + j = n + (j + 1) by omega]
  have := this ops.toList 0 (fun j o h => by simpa using h)
  rwa [← List.range_eq_range', Array.length_toList] at this

end
end Go.AI
end

section
/- DEFINITIONS: the abstract machine: canonical shapes, code, functions. -/
namespace Go.AI

/-! ### shapes with typed holes -/

inductive Pat where
  | nil
  | cons (a b : Pat)
  | dat (t : Ty)
  | agg (p : Pat)
  | tup (p : Pat)
  | fn (f : FuncId) (p : Pat)
  | cp (p : Pat)
  | ref (h : Nat) (e : Ty)
  | ptr (h f : Nat)
  | ptrI (h f : Nat)
  | nilS
  | nilP
  | ifc
  | any
  | slT (e : Ty)

@[reducible] def Pat.D : Pat → Type
  | .nil => Unit
  | .cons a b => a.D × b.D
  | .dat t => t.D
  | .agg p | .tup p | .fn _ p | .cp p => p.D
  | .ref .. | .ptr .. => Unit
  | .ptrI .. => Nat
  | .nilS | .nilP | .any => Unit
  | .ifc => Bool
  | .slT e => List e.D

/-- the values of a shape -/
def Pat.build : (p : Pat) → p.D → List AV
  | .nil, _ => []
  | .cons a b, x => a.build x.1 ++ b.build x.2
  | .dat t, x => cellsI t x
  | .agg p, x => [.agg (p.build x)]
  | .tup p, x => [.tup (p.build x)]
  | .fn f p, x => [.fn f (p.build x)]
  | .cp p, x => [.cp (p.build x)]
  | .ref h _, _ => [.ref h 0 none]
  | .ptr h f, _ => [.ptr h 0 f]
  | .ptrI h f, i => [.ptr h i f]
  | .nilS, _ => [.val (.slice none 0 0)]
  | .nilP, _ => [.val (.pointer none)]
  | .ifc, b => [.ifc b]
  | .any, _ => [.any]
  | .slT e, l => [.sl e l (some true)]

/-- a datum read out of cells, and the cells left -/
def rdC : (t : Ty) → List AV → Option (t.D × List AV)
  | .unit => fun cs => some ((), cs)
  | .int k => fun cs => match cs with
    | .val (.int k' n) :: r => cond (decide (k' = k)) (some (n, r)) none
    | _ => none
  | .bool => fun cs => match cs with
    | .val (.bool b) :: r => some (b, r)
    | _ => none
  | .str => fun cs => match cs with
    | .val (.string b) :: r => some (b, r)
    | _ => none
  | .sl e => fun cs => match cs with
    | .sl e' l _ :: r => (match castL e' e l with | some l' => some (l', r) | none => none)
    | .val (.slice none 0 0) :: r => some (([] : List e.D), r)
    | _ => none
  | .pair a b => fun cs => match rdC a cs with
    | some (x, cs1) => (match rdC b cs1 with
      | some (y, cs2) => some ((x, y), cs2)
      | none => none)
    | none => none

/-- reads the holes of a shape -/
def Pat.read : (p : Pat) → List AV → Option (p.D × List AV)
  | .nil => fun cs => some ((), cs)
  | .cons a b => fun cs => match a.read cs with
    | some (x, cs1) => (match b.read cs1 with
      | some (y, cs2) => some ((x, y), cs2)
      | none => none)
    | none => none
  | .dat t => fun cs => rdC t cs
  | .agg p => fun cs => match cs with
    | .agg xs :: r => (match p.read xs with | some (x, []) => some (x, r) | _ => none)
    | _ => none
  | .tup p => fun cs => match cs with
    | .tup xs :: r => (match p.read xs with | some (x, []) => some (x, r) | _ => none)
    | _ => none
  | .fn f p => fun cs => match cs with
    | .fn f' xs :: r => cond (Nat.beq f f') (match p.read xs with | some (x, []) => some (x, r) | _ => none) none
    | _ => none
  | .cp p => fun cs => match cs with
    | .cp xs :: r => (match p.read xs with | some (x, []) => some (x, r) | _ => none)
    | _ => none
  | .ref h _ => fun cs => match cs with
    | .ref h' lo none :: r => cond (Nat.beq h h' && Nat.beq lo 0) (some ((), r)) none
    | _ => none
  | .ptr h f => fun cs => match cs with
    | .ptr h' i f' :: r => cond (Nat.beq h h' && (Nat.beq i 0 && Nat.beq f f')) (some ((), r)) none
    | _ => none
  | .ptrI h f => fun cs => match cs with
    | .ptr h' i f' :: r => cond (Nat.beq h h' && Nat.beq f f') (some (i, r)) none
    | _ => none
  | .nilS => fun cs => match cs with
    | .val (.slice none 0 0) :: r => some ((), r)
    | _ => none
  | .nilP => fun cs => match cs with
    | .val (.pointer none) :: r => some ((), r)
    | _ => none
  | .ifc => fun cs => match cs with
    | .ifc b :: r => some (b, r)
    | _ => none
  | .any => fun cs => match cs with
    | _ :: r => some ((), r)
    | _ => none
  | .slT e => fun cs => match cs with
    | .sl e' l (some true) :: r => (match castL e' e l with | some l' => some (l', r) | none => none)
    | _ => none

/-- the shape of a root -/
inductive RPat where
  | gone
  | box (p : Pat)
  | arr (e : Ty)
  | imm (e : Ty)

@[reducible] def RPat.D : RPat → Type
  | .gone => Unit
  | .box p => p.D
  | .arr e | .imm e => List e.D
def RPat.build : (p : RPat) → p.D → Root
  | .gone, _ => .gone
  | .box p, x => .box (p.build x)
  | .arr e, l => .arr e l
  | .imm e, l => .imm e l
def RPat.read : (p : RPat) → Root → Option p.D
  | .gone => fun _ => some ()
  | .box p => fun x => match x with
    | .box cs => (match p.read cs with | some (y, []) => some y | _ => none)
    | _ => none
  | .arr e => fun x => match x with
    | .arr e' l => castL e' e l
    | _ => none
  | .imm e => fun x => match x with
    | .imm e' l => castL e' e l
    | _ => none

@[reducible] def RsD : List RPat → Type
  | [] => Unit
  | p :: ps => p.D × RsD ps
def buildRs : (ps : List RPat) → RsD ps → List Root
  | [], _ => []
  | p :: ps, x => p.build x.1 :: buildRs ps x.2
def readRs : (ps : List RPat) → List Root → Option (RsD ps)
  | [] => fun rs => match rs with | [] => some () | _ => none
  | p :: ps => fun rs => match rs with
    | r :: rs => (match p.read r with
      | some x => (match readRs ps rs with
        | some y => some (x, y)
        | none => none)
      | none => none)
    | [] => none

/-- a shape of values and of the roots that they lead to -/
structure Form where
  p : Pat
  rs : List RPat

@[reducible] def Form.D (F : Form) : Type := F.p.D × RsD F.rs
def Form.vals (F : Form) (d : F.D) : List AV := F.p.build d.1
def Form.roots (F : Form) (d : F.D) : List Root := buildRs F.rs d.2
def Form.read (F : Form) (vs : List AV) (rs : List Root) : Option F.D := match F.p.read vs with
  | some (x, []) => (match readRs F.rs rs with
    | some y => some (x, y)
    | none => none)
  | _ => none

/-! ### values are brought into a shape: nil becomes an owned empty array, what is owned becomes immutable -/

def wkL (rs : List RPat) : Nat → (p : Pat) → St → Nat → List AV → Option (St × Nat × List AV × List AV)
  | 0, _, _, _, _ => none
  | n + 1, p, s, id, cs => match p with
    | .nil => some (s, id, [], cs)
    | .cons a b => match wkL rs n a s id cs with
      | some (s1, id1, x, cs1) => (match wkL rs n b s1 id1 cs1 with
        | some (s2, id2, y, cs2) => some (s2, id2, x ++ y, cs2)
        | none => none)
      | none => none
    | .dat (.pair a b) => match wkL rs n (.dat a) s id cs with
      | some (s1, id1, x, cs1) => (match wkL rs n (.dat b) s1 id1 cs1 with
        | some (s2, id2, y, cs2) => some (s2, id2, x ++ y, cs2)
        | none => none)
      | none => none
    | .dat .unit => some (s, id, [], cs)
    | .dat (.sl e) => match cs with
      | .ref h lo len :: r => (match takeS e s [.ref h lo len] with
        | some (s1, l, _) => some (s1, id, [.sl e l none], r)
        | none => none)
      | v :: r => some (s, id, [v], r)
      | [] => none
    | .agg p => match cs with
      | .agg xs :: r => (match wkL rs n p s id xs with
        | some (s1, id1, ys, []) => some (s1, id1, [.agg ys], r)
        | _ => none)
      | _ => none
    | .tup p => match cs with
      | .tup xs :: r => (match wkL rs n p s id xs with
        | some (s1, id1, ys, []) => some (s1, id1, [.tup ys], r)
        | _ => none)
      | _ => none
    | .ref _ e => match cs with
      | .val (.slice none 0 0) :: r => cond (Nat.blt 0 e.sz && !hasH s.hp id) (some (s.setH id (.arr e []), id + 1, [.ref id 0 none], r)) none
      | v :: r => some (s, id, [v], r)
      | [] => none
    | .ptr h _ => match cs with
      | .ptr h0 i f :: r => (match rs[h]?, getH s.hp h0 with
        | some (.box q), .box xs => (match wkL rs n q s id xs with
          | some (s1, id1, ys, []) => (match getH s1.hp h0 with
            | .box zs => cond (Nat.beq ys.length zs.length) (some (s1.setH h0 (.box ys), id1, [.ptr h0 i f], r)) none
            | _ => none)
          | _ => none)
        | _, _ => some (s, id, [.ptr h0 i f], r))
      | v :: r => some (s, id, [v], r)
      | [] => none
    | _ => match cs with
      | v :: r => some (s, id, [v], r)
      | [] => none

/-- values, and the roots that they lead to, brought into a shape -/
def toForm (F : Form) (keep : Nat) (s : St) (vs : List AV) : Option F.D :=
  match wkL F.rs 60 F.p s 100000 vs with
  | some (s1, _, vs1, []) => let l := gather s1 keep (vs1.flatMap hs)
    F.read (vs1.map (ren (idxO l))) (l.map fun h => renRoot (idxO l) (getH s1.hp h))
  | _ => none

/-! ### code -/

structure Lab where
  live : List Nat
  F : Form

structure Ctx where
  P : Program
  tab : List Ent
  res : List ResultVar
  nt : Nat
  keep : Nat
  ann : List (Nat × Lab)
  out : Form

def annOf (l : List (Nat × Lab)) (i : Nat) : Option Lab :=
  match l with
  | [] => none
  | (j, x) :: r => cond (Nat.beq j i) (some x) (annOf r i)

def firstRegion : Code → Option Nat
  | .region id _ _ => some id
  | .seq a b => match firstRegion a with | some i => some i | none => firstRegion b
  | .block _ b => firstRegion b
  | .scope b => firstRegion b
  | .loop b => firstRegion b
  | _ => none

def itemsRegion : List Item → Option Nat
  | .code c :: _ => firstRegion c
  | _ => none

def oneOf : List AV → AV
  | [v] => v
  | vs => .tup vs
def resA (P : Program) (s : St) : ResultVar → Option AV
  | .tmp t => some (getT s.tm t)
  | .cell a t => match ldT P t with
    | some (true, n) => (match s.cells n (getT s.tm a) with | some cs => some (.agg cs) | none => none)
    | some (false, _) => (match s.cells 1 (getT s.tm a) with | some [v] => some v | _ => none)
    | none => none
def resAs (P : Program) (s : St) : List ResultVar → Option (List AV)
  | [] => some []
  | x :: r => match resA P s x with
    | some v => (match resAs P s r with
      | some vs => some (v :: vs)
      | none => none)
    | none => none

/-- the one value of a shape -/
def hd1 : List AV → AV
  | [v] => v
  | _ => .any
def Form.res (F : Form) (d : F.D) : Res := (hd1 (F.vals d), F.roots d)

/-- the end of a function: its results are brought into their shape -/
def fin (C : Ctx) (K : Res → R) (s : St) : R := match resAs C.P s C.res with
  | none => none
  | some vs => match toForm C.out C.keep s [oneOf vs] with
    | some d => K (C.out.res d)
    | none => none

/-- the way through code, up to a loop, to a place with a shape, to the end -/
def body (C : Ctx) (E : St → R) (L : List Item → St → R) : Nat → Bool → List Item → St → R
  | 0, _, _, _ => none
  | n + 1, first, items, s => match items with
    | [] => E s
    | .inBlock _ :: k => body C E L n false k s
    | .inLoop b :: k => L (.code b :: .inLoop b :: k) s
    | .code c :: k => match c with
      | .skip => body C E L n false k s
      | .seq a b => body C E L n first (.code a :: .code b :: k) s
      | .cond x a b => match s.ev x with
        | .val (.bool v) => cond v (body C E L n false (.code a :: k) s) (body C E L n false (.code b :: k) s)
        | _ => none
      | .block id b => body C E L n first (.code b :: .inBlock id :: k) s
      | .loop b => L (.code b :: .inLoop b :: k) s
      | .exit id => match exitTo id k with
        | some k' => body C E L n false k' s
        | none => none
      | .ret => E s
      | .region id ops draw => (match first, annOf C.ann id with
        | false, some _ => L items s
        | _, _ => cond draw (drawA C.P C.tab C.nt ops s fun s1 => body C E L n false k s1) (opsA C.P C.tab C.nt ops ops.toList s fun s1 => body C E L n false k s1))
      | _ => none
    | _ => none

def lives (s : St) (live : List Nat) : List AV := live.map (getT s.tm)

/-- a state of a shape -/
def Lab.st (B : Lab) (d : B.F.D) : St := ⟨B.live.zip (B.F.vals d), numbered 0 (B.F.roots d)⟩

/-- a place that has a shape is entered in it -/
def stepL (C : Ctx) (N : List Item → St → R) (items : List Item) (s : St) : R := match itemsRegion items with
  | some i => (match annOf C.ann i with
    | some B => (match toForm B.F C.keep s (lives s B.live) with
      | some d => N items (B.st d)
      | none => none)
    | none => N items s)
  | none => N items s

def run (C : Ctx) (K : Res → R) : Nat → List Item → St → R
  | 0, items, s => body C (fin C K) (fun _ _ => none) 1000 true items s
  | n + 1, items, s => body C (fin C K) (stepL C (run C K n)) 1000 true items s

/-- the way to a place in the code: what is left to do from there on -/
def at_ : Code → List Nat → List Item → List Item
  | c, [], k => .code c :: k
  | .seq a b, 0 :: p, k => at_ a p (.code b :: k)
  | .seq _ b, _ :: p, k => at_ b p k
  | .cond _ a _, 0 :: p, k => at_ a p k
  | .cond _ _ b, _ :: p, k => at_ b p k
  | .block id b, _ :: p, k => at_ b p (.inBlock id :: k)
  | .scope b, _ :: p, k => at_ b p (.inScope b :: k)
  | .loop b, _ :: p, k => at_ b p (.inLoop b :: k)
  | _, _, _ => []

def bodyOf (f : Func) : Code := match f.body with | some c => c | none => .skip
def args0 (i : Nat) : List AV → List (Nat × AV)
  | [] => []
  | v :: r => (i, v) :: args0 (i + 1) r

def ctxOf (P : Program) (tab : List Ent) (fn : Func) (keep : Nat) (ann : List (Nat × Lab)) (out : Form) : Ctx := ⟨P, tab, fn.results.toList, fn.ntmps, keep, ann, out⟩

/-- a call of a function -/
def runF (P : Program) (tab : List Ent) (ann : List (Nat × Lab)) (out : Form) (fn : Func) (K : Res → R) (n : Nat) (args : List AV) (roots : List Root) : R :=
  run (ctxOf P tab fn roots.length ann out) K n [.code (bodyOf fn)] ⟨args0 0 args, numbered 0 roots⟩

end Go.AI
end

section
/- SOUNDNESS: canonical shapes; a function's end. -/
namespace Go.AI
set_option linter.unusedVariables false
set_option linter.unusedSimpArgs false

theorem gather_ok (s : St) (keep : Nat) (more : List Nat) : (gather s keep more).Nodup ∧ ∀ h, h < keep → (gather s keep more)[h]? = some h := by
  unfold gather
  simp only
  obtain ⟨h1, h2⟩ := collect_ok (hp := s.hp) 200 (todo := List.range keep ++ more) (acc := []) List.nodup_nil (by intro h hh; cases hh)
  refine ⟨?_, ?_⟩
  · rw [List.nodup_append]
    refine ⟨List.nodup_range, h1.filter _, ?_⟩
    intro a ha b hb e
    subst e
    have := (List.mem_filter.1 hb).2
    rw [memN_iff.2 ha] at this
    cases this
  · intro h hh
    rw [List.getElem?_append_left (by simpa using hh)]
    simp [hh]

section
variable {P : Program} {A : Env} {keep nt : Nat} {ds : List Deferred} {w : World} {s : St} {a : Act} {r : Res} {m : Nat → Option (Nat × Nat)} {I : Nat → Prop}

/-- the handles by their places in a list that begins with those that are kept -/
theorem renumber (hg : Good A keep ⟨w, m, s.hp, I⟩ s.tm a.tmps) {l : List Nat} (hn : l.Nodup) (hk : ∀ h, h < keep → l[h]? = some h) :
    HeapRel ⟨w, fun k => match l[k]? with | some h => m h | none => none, numbered 0 (l.map fun h => renRoot (idxO l) (getH s.hp h)), I⟩ ∧
    Hist A keep ⟨w, fun k => match l[k]? with | some h => m h | none => none, numbered 0 (l.map fun h => renRoot (idxO l) (getH s.hp h)), I⟩ ∧
    Ren (idxO l) ⟨w, m, s.hp, I⟩ ⟨w, fun k => match l[k]? with | some h => m h | none => none, numbered 0 (l.map fun h => renRoot (idxO l) (getH s.hp h)), I⟩ := by
  obtain ⟨H0, R0⟩ := hand_ok hg.heap hn
  refine ⟨H0, ?_, R0⟩
  have a0 := hg.hist
  have hidx : ∀ h, h < keep → idxO l h = some h := fun h hh => idxO_of hn (hk h hh)
  refine ⟨a0.old, a0.sz, ?_, a0.imm, a0.sub, ?_, ?_, ?_, a0.os, a0.tape, a0.output, a0.bsz⟩
  · rintro b ⟨k, o, h1, h2⟩
    simp only at h1 h2
    cases e : l[k]? with
    | none => simp only [e] at h2; cases h2
    | some h =>
      simp only [e] at h2
      have hlt := (List.getElem?_eq_some_iff.1 e).1
      rw [getH_numbered, if_pos (by simp; omega)] at h1
      simp [List.getD_eq_getElem?_getD, List.getElem?_map, e] at h1
      refine a0.own b ⟨h, o, ?_, h2⟩
      cases hq : getH s.hp h <;> rw [hq] at h1 <;> simp_all [renRoot, owned]
  · intro h hh
    exact fits_trans (a0.fit h hh) (R0.like h h (hidx h hh)).1
  · intro h hh hne
    have h1 := R0.m h h (hidx h hh)
    refine h1.trans (a0.map h hh ?_)
    intro e
    have := (R0.like h h (hidx h hh)).1
    simp only [e] at this
    cases hq : getH (numbered 0 (l.map fun h => renRoot (idxO l) (getH s.hp h))) h <;> simp_all [fits]
  · intro h hh
    exact R0.has h h (hidx h hh)

end

/-! ### lists of values -/

def relQ (Q : Value → Prop) (E : Env) (cs : List AV) (vs : List Value) : Prop := All2 (fun c v => Q v ∧ relV E c v) cs vs
theorem relQ_C {E : Env} {cs : List AV} {vs : List Value} : relQ (fun v => v.oneCell' = true) E cs vs ↔ relC E cs vs := relC_iff.symm
theorem relQ_L {E : Env} {cs : List AV} {vs : List Value} : relQ (fun _ => True) E cs vs ↔ relL E cs vs := by
  rw [relL_iff]
  exact ⟨All2.mono fun _ _ h => h.2, All2.mono fun _ _ h => ⟨trivial, h⟩⟩
theorem relQ_mono {Q : Value → Prop} {E E' : Env} (g : Grows E E') {cs : List AV} {vs : List Value} (h : relQ Q E cs vs) : relQ Q E' cs vs := All2.mono (fun _ _ h => ⟨h.1, relV_mono g h.2⟩) h
theorem relQ_cons {Q : Value → Prop} {E : Env} {c : AV} {cs : List AV} {vs : List Value} (h : relQ Q E (c :: cs) vs) : ∃ v vs', vs = v :: vs' ∧ Q v ∧ relV E c v ∧ relQ Q E cs vs' := by
  cases vs with
  | nil => exact h.elim
  | cons v vs => exact ⟨v, vs, rfl, h.1.1, h.1.2, h.2⟩
theorem relQ_nil {Q : Value → Prop} {E : Env} {vs : List Value} (h : relQ Q E [] vs) : vs = [] := by
  cases vs with
  | nil => rfl
  | cons v vs => exact h.elim

theorem sl_none {E : Env} {e : Ty} {l : List e.D} {nn : Option Bool} {v : Value} (h : relV E (.sl e l nn) v) : relV E (.sl e l none) v := by
  simp only [relV] at h ⊢
  obtain ⟨a, n, c, rfl, h1, _⟩ := h
  exact ⟨a, n, c, rfl, h1, by simp, by simp⟩
theorem sl_nil {E : Env} {e : Ty} {v : Value} (h : relV E (.val (.slice none 0 0)) v) : relV E (.sl e [] none) v := by
  simp only [relV] at h ⊢
  subst h
  exact ⟨none, 0, 0, rfl, ⟨rfl, Nat.le_refl _, rfl, rfl⟩, by simp, by simp⟩

/-! ### what a shape reads -/

theorem rdC_rel {Q : Value → Prop} {E : Env} : ∀ {t : Ty} {cs r : List AV} {x : t.D} {vs : List Value}, rdC t cs = some (x, r) → relQ Q E cs vs → ∃ v1 v2, vs = v1 ++ v2 ∧ relQ Q E (cellsI t x) v1 ∧ relQ Q E r v2
  | .unit, cs, r, x, vs, h, hr => by
    simp only [rdC, Option.some.injEq, Prod.mk.injEq] at h
    obtain ⟨_, rfl⟩ := h
    exact ⟨[], vs, rfl, trivial, hr⟩
  | .int k, cs, r, x, vs, h, hr => by
    simp only [rdC] at h
    split at h
    · obtain ⟨hc, h⟩ := cond_none h
      cases h
      have := of_decide_eq_true hc
      subst this
      obtain ⟨v, vs', rfl, q1, q2, q3⟩ := relQ_cons hr
      exact ⟨[v], vs', rfl, ⟨⟨q1, q2⟩, trivial⟩, q3⟩
    · cases h
  | .bool, cs, r, x, vs, h, hr => by
    simp only [rdC] at h
    split at h
    · cases h
      obtain ⟨v, vs', rfl, q1, q2, q3⟩ := relQ_cons hr
      exact ⟨[v], vs', rfl, ⟨⟨q1, q2⟩, trivial⟩, q3⟩
    · cases h
  | .str, cs, r, x, vs, h, hr => by
    simp only [rdC] at h
    split at h
    · cases h
      obtain ⟨v, vs', rfl, q1, q2, q3⟩ := relQ_cons hr
      exact ⟨[v], vs', rfl, ⟨⟨q1, q2⟩, trivial⟩, q3⟩
    · cases h
  | .sl e, cs, r, x, vs, h, hr => by
    simp only [rdC] at h
    split at h
    · split at h
      · rename_i hl
        cases h
        obtain ⟨e, rfl⟩ := castL_eq hl
        subst e
        obtain ⟨v, vs', rfl, q1, q2, q3⟩ := relQ_cons hr
        exact ⟨[v], vs', rfl, ⟨⟨q1, sl_none q2⟩, trivial⟩, q3⟩
      · cases h
    · cases h
      obtain ⟨v, vs', rfl, q1, q2, q3⟩ := relQ_cons hr
      exact ⟨[v], vs', rfl, ⟨⟨q1, sl_nil q2⟩, trivial⟩, q3⟩
    · cases h
  | .pair a b, cs, r, x, vs, h, hr => by
    simp only [rdC] at h
    split at h
    · rename_i y cs1 h1
      split at h
      · rename_i z cs2 h2
        cases h
        obtain ⟨v1, v2, rfl, q1, q2⟩ := rdC_rel h1 hr
        obtain ⟨v3, v4, rfl, q3, q4⟩ := rdC_rel h2 q2
        exact ⟨v1 ++ v3, v4, by simp, q1.append q3, q4⟩
      · cases h
    · cases h

theorem Pat.read_rel : ∀ {p : Pat} {Q : Value → Prop} {E : Env} {cs r : List AV} {x : p.D} {vs : List Value}, p.read cs = some (x, r) → relQ Q E cs vs → ∃ v1 v2, vs = v1 ++ v2 ∧ relQ Q E (p.build x) v1 ∧ relQ Q E r v2 := by
  intro p
  induction p with
  | nil =>
    intro Q E cs r x vs h hr
    simp only [Pat.read, Option.some.injEq, Prod.mk.injEq] at h
    obtain ⟨_, rfl⟩ := h
    exact ⟨[], vs, rfl, trivial, hr⟩
  | cons a b iha ihb =>
    intro Q E cs r x vs h hr
    simp only [Pat.read] at h
    split at h
    · rename_i y cs1 h1
      split at h
      · rename_i z cs2 h2
        cases h
        obtain ⟨v1, v2, rfl, q1, q2⟩ := iha h1 hr
        obtain ⟨v3, v4, rfl, q3, q4⟩ := ihb h2 q2
        exact ⟨v1 ++ v3, v4, by simp, q1.append q3, q4⟩
      · cases h
    · cases h
  | dat t => intro Q E cs r x vs h hr; exact rdC_rel h hr
  | agg p ih =>
    intro Q E cs r x vs h hr
    simp only [Pat.read] at h
    split at h
    · rename_i xs r'
      split at h
      · rename_i y h1
        cases h
        obtain ⟨v, vs', rfl, q1, q2, q3⟩ := relQ_cons hr
        simp only [relV] at q2
        obtain ⟨us, rfl, hc⟩ := q2
        obtain ⟨v1, v2, e, q4, q5⟩ := ih h1 (relQ_C.2 hc)
        obtain rfl := relQ_nil q5
        refine ⟨[_], vs', rfl, ⟨⟨q1, ?_⟩, trivial⟩, q3⟩
        simp only [relV]
        exact ⟨us, rfl, by rw [e]; simpa using relQ_C.1 q4⟩
      · cases h
    · cases h
  | tup p ih =>
    intro Q E cs r x vs h hr
    simp only [Pat.read] at h
    split at h
    · rename_i xs r'
      split at h
      · rename_i y h1
        cases h
        obtain ⟨v, vs', rfl, q1, q2, q3⟩ := relQ_cons hr
        simp only [relV] at q2
        obtain ⟨us, rfl, hc⟩ := q2
        obtain ⟨v1, v2, e, q4, q5⟩ := ih h1 (relQ_L.2 hc)
        obtain rfl := relQ_nil q5
        refine ⟨[_], vs', rfl, ⟨⟨q1, ?_⟩, trivial⟩, q3⟩
        simp only [relV]
        exact ⟨us, rfl, by rw [e]; simpa using relQ_L.1 q4⟩
      · cases h
    · cases h
  | fn f p ih =>
    intro Q E cs r x vs h hr
    simp only [Pat.read] at h
    split at h
    · rename_i f' xs r'
      have hh := cond_none h
      clear h
      obtain ⟨hf, h⟩ := hh
      have hf := Nat.eq_of_beq_eq_true hf
      subst hf
      split at h
      · rename_i y h1
        cases h
        obtain ⟨v, vs', rfl, q1, q2, q3⟩ := relQ_cons hr
        simp only [relV] at q2
        obtain ⟨us, rfl, hc⟩ := q2
        obtain ⟨v1, v2, e, q4, q5⟩ := ih h1 (relQ_L.2 hc)
        obtain rfl := relQ_nil q5
        refine ⟨[_], vs', rfl, ⟨⟨q1, ?_⟩, trivial⟩, q3⟩
        simp only [relV]
        exact ⟨us, rfl, by rw [e]; simpa using relQ_L.1 q4⟩
      · cases h
    · cases h
  | cp p ih =>
    intro Q E cs r x vs h hr
    simp only [Pat.read] at h
    split at h
    · rename_i xs r'
      split at h
      · rename_i y h1
        cases h
        obtain ⟨v, vs', rfl, q1, q2, q3⟩ := relQ_cons hr
        simp only [relV] at q2
        obtain ⟨b, o, us, rfl, hI, hat, hc⟩ := q2
        obtain ⟨v1, v2, e, q4, q5⟩ := ih h1 (relQ_C.2 hc)
        obtain rfl := relQ_nil q5
        refine ⟨[_], vs', rfl, ⟨⟨q1, ?_⟩, trivial⟩, q3⟩
        simp only [relV]
        rw [List.append_nil] at e
        exact ⟨b, o, us, rfl, hI, hat, by rw [e]; exact relQ_C.1 q4⟩
      · cases h
    · cases h
  | ref h0 e =>
    intro Q E cs r x vs h hr
    simp only [Pat.read] at h
    split at h
    · rename_i h' lo r'
      have hh := cond_none h
      clear h
      obtain ⟨hf, h⟩ := hh
      simp only [Bool.and_eq_true] at hf
      have e1 := Nat.eq_of_beq_eq_true hf.1
      have e2 := Nat.eq_of_beq_eq_true hf.2
      subst e1 e2
      cases h
      obtain ⟨v, vs', rfl, q1, q2, q3⟩ := relQ_cons hr
      exact ⟨[v], vs', rfl, ⟨⟨q1, q2⟩, trivial⟩, q3⟩
    · cases h
  | ptr h0 f =>
    intro Q E cs r x vs h hr
    simp only [Pat.read] at h
    split at h
    · rename_i h' i f' r'
      have hh := cond_none h
      clear h
      obtain ⟨hf, h⟩ := hh
      simp only [Bool.and_eq_true] at hf
      have e1 := Nat.eq_of_beq_eq_true hf.1
      have e2 := Nat.eq_of_beq_eq_true hf.2.1
      have e3 := Nat.eq_of_beq_eq_true hf.2.2
      subst e1 e2 e3
      cases h
      obtain ⟨v, vs', rfl, q1, q2, q3⟩ := relQ_cons hr
      exact ⟨[v], vs', rfl, ⟨⟨q1, q2⟩, trivial⟩, q3⟩
    · cases h
  | ptrI h0 f =>
    intro Q E cs r x vs h hr
    simp only [Pat.read] at h
    split at h
    · rename_i h' i f' r'
      have hh := cond_none h
      clear h
      obtain ⟨hf, h⟩ := hh
      simp only [Bool.and_eq_true] at hf
      have e1 := Nat.eq_of_beq_eq_true hf.1
      have e3 := Nat.eq_of_beq_eq_true hf.2
      subst e1 e3
      cases h
      obtain ⟨v, vs', rfl, q1, q2, q3⟩ := relQ_cons hr
      exact ⟨[v], vs', rfl, ⟨⟨q1, q2⟩, trivial⟩, q3⟩
    · cases h
  | nilS =>
    intro Q E cs r x vs h hr
    simp only [Pat.read] at h
    split at h
    · cases h
      obtain ⟨v, vs', rfl, q1, q2, q3⟩ := relQ_cons hr
      exact ⟨[v], vs', rfl, ⟨⟨q1, q2⟩, trivial⟩, q3⟩
    · cases h
  | nilP =>
    intro Q E cs r x vs h hr
    simp only [Pat.read] at h
    split at h
    · cases h
      obtain ⟨v, vs', rfl, q1, q2, q3⟩ := relQ_cons hr
      exact ⟨[v], vs', rfl, ⟨⟨q1, q2⟩, trivial⟩, q3⟩
    · cases h
  | ifc =>
    intro Q E cs r x vs h hr
    simp only [Pat.read] at h
    split at h
    · cases h
      obtain ⟨v, vs', rfl, q1, q2, q3⟩ := relQ_cons hr
      exact ⟨[v], vs', rfl, ⟨⟨q1, q2⟩, trivial⟩, q3⟩
    · cases h
  | any =>
    intro Q E cs r x vs h hr
    simp only [Pat.read] at h
    split at h
    · cases h
      obtain ⟨v, vs', rfl, q1, q2, q3⟩ := relQ_cons hr
      exact ⟨[v], vs', rfl, ⟨⟨q1, by simp [relV]⟩, trivial⟩, q3⟩
    · cases h
  | slT e =>
    intro Q E cs r x vs h hr
    simp only [Pat.read] at h
    split at h
    · split at h
      · rename_i hl
        cases h
        obtain ⟨e, rfl⟩ := castL_eq hl
        subst e
        obtain ⟨v, vs', rfl, q1, q2, q3⟩ := relQ_cons hr
        exact ⟨[v], vs', rfl, ⟨⟨q1, q2⟩, trivial⟩, q3⟩
      · cases h
    · cases h

theorem readRs_get : ∀ {ps : List RPat} {rs : List Root} {y : RsD ps}, readRs ps rs = some y → (buildRs ps y).length = rs.length ∧
    ∀ i, i < rs.length → ∃ (p : RPat) (d : p.D), p.read (rs.getD i .gone) = some d ∧ (buildRs ps y).getD i .gone = p.build d
  | [], rs, y, h => by
    simp only [readRs] at h
    split at h
    · exact ⟨rfl, fun i hi => by simp at hi⟩
    · cases h
  | p :: ps, rs, y, h => by
    simp only [readRs] at h
    split at h
    · rename_i r rs
      split at h
      · rename_i x h1
        split at h
        · rename_i z h2
          cases h
          obtain ⟨q1, q2⟩ := readRs_get h2
          refine ⟨by simp [buildRs, q1], fun i hi => ?_⟩
          cases i with
          | zero => exact ⟨p, x, by simpa using h1, by simp [buildRs]⟩
          | succ i =>
            obtain ⟨p', d, e1, e2⟩ := q2 i (by simpa using hi)
            exact ⟨p', d, by simpa using e1, by simpa [buildRs] using e2⟩
        · cases h
      · cases h
    · cases h

/-- what a root reads as, is like it -/
theorem RPat.read_like {E : Env} {h : Nat} {p : RPat} {x : Root} {d : p.D} (hr : p.read x = some d) (H : rootOk E h x) :
    fits x (p.build d) ∧ (p.build d ≠ .gone → x ≠ .gone) ∧ (owned (p.build d) = true → owned x = true) := by
  cases p with
  | gone => cases x <;> simp [RPat.build, fits, owned]
  | box p =>
    simp only [RPat.read] at hr
    split at hr
    · rename_i cs
      split at hr
      · rename_i y h1
        cases hr
        obtain ⟨b, vs, T, _, _, _, h4⟩ := H
        obtain ⟨v1, v2, e, q1, q2⟩ := Pat.read_rel h1 (relQ_C.2 h4)
        obtain rfl := relQ_nil q2
        have l1 := (relC_iff.1 h4).length
        have l2 := All2.length q1
        refine ⟨?_, by simp, by simp [owned]⟩
        show cs.length = (p.build d).length
        rw [l1, l2, e]; simp
      · cases hr
    · cases hr
  | arr e =>
    simp only [RPat.read] at hr
    split at hr
    · obtain ⟨e, rfl⟩ := castL_eq hr
      subst e
      exact ⟨⟨rfl, rfl⟩, by simp, by simp [owned]⟩
    · cases hr
  | imm e =>
    simp only [RPat.read] at hr
    split at hr
    · obtain ⟨e, rfl⟩ := castL_eq hr
      subst e
      exact ⟨⟨rfl, rfl⟩, by simp, by simp [owned, RPat.build]⟩
    · cases hr

theorem Form.read_key {F : Form} {w : World} {m : Nat → Option (Nat × Nat)} {I : Nat → Prop} {vs : List AV} {rs : List Root} {d : F.D}
    (H : HeapRel ⟨w, m, numbered 0 rs, I⟩) (h : F.read vs rs = some d) :
    (F.roots d).length = rs.length ∧ ∀ k, fits (getH (numbered 0 rs) k) (getH (numbered 0 (F.roots d)) k) ∧ (getH (numbered 0 (F.roots d)) k ≠ .gone → getH (numbered 0 rs) k ≠ .gone) ∧
      (owned (getH (numbered 0 (F.roots d)) k) = true → owned (getH (numbered 0 rs) k) = true) := by
  unfold Form.read at h
  split at h
  · rename_i x h1
    split at h
    · rename_i y h2
      cases h
      obtain ⟨hl, hg⟩ := readRs_get h2
      refine ⟨hl, fun k => ?_⟩
      show fits (getH (numbered 0 rs) k) (getH (numbered 0 (buildRs F.rs y)) k) ∧ (getH (numbered 0 (buildRs F.rs y)) k ≠ .gone → getH (numbered 0 rs) k ≠ .gone) ∧
          (owned (getH (numbered 0 (buildRs F.rs y)) k) = true → owned (getH (numbered 0 rs) k) = true)
      rw [getH_numbered, getH_numbered]
      by_cases hk : k < rs.length
      · rw [if_pos ⟨Nat.zero_le _, by omega⟩, if_pos ⟨Nat.zero_le _, by omega⟩]
        obtain ⟨p, d', e1, e2⟩ := hg k hk
        have hr := H.root k
        simp only [getH_numbered] at hr
        rw [if_pos ⟨Nat.zero_le _, by omega⟩] at hr
        simp only [Nat.sub_zero] at hr ⊢
        rw [e2]
        exact RPat.read_like e1 hr
      · rw [if_neg (by omega), if_neg (by omega)]; simp [fits, owned]
    · cases h
  · cases h

theorem Form.read_ok {F : Form} {w : World} {m : Nat → Option (Nat × Nat)} {I : Nat → Prop} {vs : List AV} {rs : List Root} {d : F.D} {xs : List Value}
    (H : HeapRel ⟨w, m, numbered 0 rs, I⟩) (hv : relL ⟨w, m, numbered 0 rs, I⟩ vs xs) (h : F.read vs rs = some d) :
    HeapRel ⟨w, m, numbered 0 (F.roots d), I⟩ ∧ relL ⟨w, m, numbered 0 (F.roots d), I⟩ (F.vals d) xs ∧ ∀ {A : Env} {keep : Nat}, Hist A keep ⟨w, m, numbered 0 rs, I⟩ → Hist A keep ⟨w, m, numbered 0 (F.roots d), I⟩ := by
  have h0 := h
  unfold Form.read at h
  split at h
  · rename_i x h1
    split at h
    · rename_i y h2
      cases h
      obtain ⟨hl, hg⟩ := readRs_get h2
      have key := (Form.read_key (d := (x, y)) H h0).2
      simp only [Form.roots] at key
      have hhas : ∀ k, hasH (numbered 0 rs) k = hasH (numbered 0 (buildRs F.rs y)) k := by
        intro k; rw [hasH_numbered, hasH_numbered, hl]
      have G : Grows ⟨w, m, numbered 0 rs, I⟩ ⟨w, m, numbered 0 (buildRs F.rs y), I⟩ :=
        ⟨fun _ _ => rfl, fun _ h => h, fun k hk => by simp only at hk ⊢; rw [← hhas]; exact hk, fun k _ => (key k).1, fun _ _ _ => rfl, fun _ => Nat.le_refl _⟩
      refine ⟨⟨?_, ?_, H.lt⟩, ?_, ?_⟩
      · intro k
        have hr := H.root k
        simp only at hr ⊢
        rw [getH_numbered] at hr ⊢
        by_cases hk : k < rs.length
        · rw [if_pos ⟨Nat.zero_le _, by omega⟩] at hr
          show rootOk _ k (if 0 ≤ k ∧ k < 0 + (buildRs F.rs y).length then _ else _)
          rw [if_pos ⟨Nat.zero_le _, by omega⟩]
          simp only [Nat.sub_zero] at hr ⊢
          obtain ⟨p, d', e1, e2⟩ := hg k hk
          have e2 : (F.roots (x, y)).getD k .gone = p.build d' := e2
          rw [e2]
          generalize hx : rs.getD k .gone = rt at hr e1
          cases p with
          | gone => trivial
          | box p =>
            simp only [RPat.read] at e1
            split at e1
            · rename_i cs
              split at e1
              · rename_i y' h3
                cases e1
                obtain ⟨b, us, T, q1, q2, q3, q4⟩ := hr
                obtain ⟨v1, v2, e, q5, q6⟩ := Pat.read_rel h3 (relQ_mono G (relQ_C.2 q4))
                obtain rfl := relQ_nil q6
                refine ⟨b, us, T, q1, q2, q3, ?_⟩
                rw [e, List.append_nil]
                exact relQ_C.1 q5
              · cases e1
            · cases e1
          | arr e =>
            simp only [RPat.read] at e1
            split at e1
            · obtain ⟨e, rfl⟩ := castL_eq e1
              subst e
              exact hr
            · cases e1
          | imm e =>
            simp only [RPat.read] at e1
            split at e1
            · obtain ⟨e, rfl⟩ := castL_eq e1
              subst e
              exact hr
            · cases e1
        · show rootOk _ k (if 0 ≤ k ∧ k < 0 + (buildRs F.rs y).length then _ else _)
          rw [if_neg (by omega)]; trivial
      · intro k k' b o o' o1 o2 h3 h4
        exact H.inj k k' b o o' ((key k).2.2 o1) ((key k').2.2 o2) h3 h4
      · obtain ⟨v1, v2, e, q1, q2⟩ := Pat.read_rel h1 (relQ_mono G (relQ_L.2 hv))
        obtain rfl := relQ_nil q2
        rw [e, List.append_nil]
        exact relQ_L.1 q1
      · intro A keep a0
        refine ⟨a0.old, a0.sz, ?_, a0.imm, a0.sub, ?_, ?_, ?_, a0.os, a0.tape, a0.output, a0.bsz⟩
        · rintro b ⟨k, o, h1, h2⟩
          exact a0.own b ⟨k, o, (key k).2.2 h1, h2⟩
        · intro k hk; exact fits_trans (a0.fit k hk) (key k).1
        · intro k hk hne; exact a0.map k hk ((key k).2.1 hne)
        · intro k hk
          have := a0.has k hk
          simp only at this ⊢
          show hasH (numbered 0 (buildRs F.rs y)) k = true
          rw [← hhas]; exact this
    · cases h
  · cases h

/-! ### values brought into a shape -/

section
variable {A : Env} {keep : Nat} {w : World} {tm : List (Nat × AV)} {tmps : Array Value}

theorem new_empty {m : Nat → Option (Nat × Nat)} {hp : List (Nat × Root)} {I : Nat → Prop} (hg : Good A keep ⟨w, m, hp, I⟩ tm tmps) {id : Nat} (hn : hasH hp id = false) {e : Ty} (he : 0 < e.sz) :
    Good A keep ⟨w, upd m id none, (id, .arr e []) :: hp, I⟩ tm tmps ∧ Grows ⟨w, m, hp, I⟩ ⟨w, upd m id none, (id, .arr e []) :: hp, I⟩ := by
  have st : Stays A ⟨w, m, hp, I⟩ id w I (fun _ => False) :=
    ⟨Nat.le_refl _, fun _ _ _ => rfl, fun _ h => h.elim, fun _ => Nat.le_refl _, fun _ h => h, fun b hb => ⟨hg.heap.lt b hb, .inl hb⟩, rfl, rfl, rfl⟩
  refine change1 hg id (.arr e []) none st (fun h => by rw [hn] at h; cases h) (fun _ b o h => by cases h) (fun _ => ?_)
  exact ⟨he, .inl ⟨upd_same _ _ _, rfl⟩⟩

theorem box_again {m : Nat → Option (Nat × Nat)} {hp : List (Nat × Root)} {I : Nat → Prop} (hg : Good A keep ⟨w, m, hp, I⟩ tm tmps) {h0 : Nat} {zs ys : List AV} (hz : getH hp h0 = .box zs) (hl : ys.length = zs.length)
    (hy : ∀ b vs T, m h0 = some (b, 0) → w.heap[b]? = some (.cells vs T (0, 0)) → relC ⟨w, m, hp, I⟩ ys vs.toList) :
    Good A keep ⟨w, m, (h0, .box ys) :: hp, I⟩ tm tmps ∧ Grows ⟨w, m, hp, I⟩ ⟨w, m, (h0, .box ys) :: hp, I⟩ := by
  have hroot := hg.heap.root h0
  simp only [hz] at hroot
  obtain ⟨b, vs, T, h1, h2, h3, h4⟩ := hroot
  have hown : owned (getH hp h0) = true := by rw [hz]; rfl
  have st : Stays A ⟨w, m, hp, I⟩ h0 w I (fun _ => False) :=
    ⟨Nat.le_refl _, fun _ _ _ => rfl, fun _ h => h.elim, fun _ => Nat.le_refl _, fun _ h => h, fun b hb => ⟨hg.heap.lt b hb, .inl hb⟩, rfl, rfl, rfl⟩
  have := change1 hg h0 (.box ys) (m h0) st (fun _ => ⟨by rw [hz]; exact hl.symm, fun _ => rfl⟩) (fun _ b' o' hm => ⟨hg.hist.own b' ⟨h0, o', hown, hm⟩, fun h o'' hne ho hm' => hne (hg.heap.inj h h0 b' o'' o' ho hown hm' hm)⟩) (fun g => ?_)
  · rw [upd_self] at this; exact this
  · rw [upd_self] at g ⊢
    exact ⟨b, vs, T, h1, h2, h3, relC_mono g (hy b vs T h1 h3)⟩

/-- what bringing values into a shape leaves -/
def Brought (A : Env) (keep : Nat) (w : World) (tm : List (Nat × AV)) (tmps : Array Value) (Q : Value → Prop) (m : Nat → Option (Nat × Nat)) (I : Nat → Prop) (s s1 : St) (out rest : List AV) (vs : List Value) : Prop :=
  ∃ m1 I1, Good A keep ⟨w, m1, s1.hp, I1⟩ tm tmps ∧ Grows ⟨w, m, s.hp, I⟩ ⟨w, m1, s1.hp, I1⟩ ∧ ∃ v1 v2, vs = v1 ++ v2 ∧ relQ Q ⟨w, m1, s1.hp, I1⟩ out v1 ∧ relQ Q ⟨w, m1, s1.hp, I1⟩ rest v2

theorem Brought.pass {Q : Value → Prop} {m : Nat → Option (Nat × Nat)} {I : Nat → Prop} {s s1 : St} {id id1 : Nat} {cs out rest : List AV} {vs : List Value}
    (h : (match cs with | v :: r => some (s, id, [v], r) | [] => none) = some (s1, id1, out, rest)) (hg : Good A keep ⟨w, m, s.hp, I⟩ tm tmps) (hv : relQ Q ⟨w, m, s.hp, I⟩ cs vs) :
    Brought A keep w tm tmps Q m I s s1 out rest vs := by
  cases cs with
  | nil => cases h
  | cons c cs =>
    simp only [Option.some.injEq, Prod.mk.injEq] at h
    obtain ⟨rfl, _, rfl, rfl⟩ := h
    obtain ⟨v, vs', rfl, q1, q2, q3⟩ := relQ_cons hv
    exact ⟨m, I, hg, Grows.refl _, [v], vs', rfl, ⟨⟨q1, q2⟩, trivial⟩, q3⟩

theorem Brought.two {Q : Value → Prop} {m : Nat → Option (Nat × Nat)} {I : Nat → Prop} {s s1 s2 : St} {x y cs1 rest : List AV} {vs : List Value} (h : Brought A keep w tm tmps Q m I s s1 x cs1 vs)
    (h2 : ∀ m1 I1 v2, Good A keep ⟨w, m1, s1.hp, I1⟩ tm tmps → relQ Q ⟨w, m1, s1.hp, I1⟩ cs1 v2 → Brought A keep w tm tmps Q m1 I1 s1 s2 y rest v2) : Brought A keep w tm tmps Q m I s s2 (x ++ y) rest vs := by
  obtain ⟨m1, I1, g1, gr1, v1, v2, rfl, q1, q2⟩ := h
  obtain ⟨m2, I2, g2, gr2, v3, v4, rfl, q3, q4⟩ := h2 m1 I1 v2 g1 q2
  exact ⟨m2, I2, g2, gr1.trans gr2, v1 ++ v3, v4, by simp, (relQ_mono gr2 q1).append q3, q4⟩

theorem wkL_ok {rs : List RPat} : ∀ (n : Nat) {p : Pat} {s s1 : St} {id id1 : Nat} {cs out rest : List AV} {Q : Value → Prop} {m : Nat → Option (Nat × Nat)} {I : Nat → Prop} {vs : List Value},
    wkL rs n p s id cs = some (s1, id1, out, rest) → Good A keep ⟨w, m, s.hp, I⟩ tm tmps → relQ Q ⟨w, m, s.hp, I⟩ cs vs → Brought A keep w tm tmps Q m I s s1 out rest vs := by
  intro n
  induction n with
  | zero => intro p s s1 id id1 cs out rest Q m I vs h; simp [wkL] at h
  | succ n ih =>
    intro p s s1 id id1 cs out rest Q m I vs h hg hv
    cases p with
    | nil =>
      simp only [wkL, Option.some.injEq, Prod.mk.injEq] at h
      obtain ⟨rfl, _, rfl, rfl⟩ := h
      exact ⟨m, I, hg, Grows.refl _, [], vs, rfl, trivial, hv⟩
    | cons a b =>
      simp only [wkL] at h
      split at h
      · rename_i s2 id2 x cs1 h1
        split at h
        · rename_i s3 id3 y cs2 h2
          simp only [Option.some.injEq, Prod.mk.injEq] at h
          obtain ⟨rfl, _, rfl, rfl⟩ := h
          exact (ih h1 hg hv).two fun m1 I1 v2 g q => ih h2 g q
        · cases h
      · cases h
    | dat t =>
      cases t with
      | unit =>
        simp only [wkL, Option.some.injEq, Prod.mk.injEq] at h
        obtain ⟨rfl, _, rfl, rfl⟩ := h
        exact ⟨m, I, hg, Grows.refl _, [], vs, rfl, trivial, hv⟩
      | pair a b =>
        simp only [wkL] at h
        split at h
        · rename_i s2 id2 x cs1 h1
          split at h
          · rename_i s3 id3 y cs2 h2
            simp only [Option.some.injEq, Prod.mk.injEq] at h
            obtain ⟨rfl, _, rfl, rfl⟩ := h
            exact (ih h1 hg hv).two fun m1 I1 v2 g q => ih h2 g q
          · cases h
        · cases h
      | sl e =>
        simp only [wkL] at h
        split at h
        · rename_i h0 lo len r
          split at h
          · rename_i s2 l r' hts
            simp only [Option.some.injEq, Prod.mk.injEq] at h
            obtain ⟨rfl, _, rfl, rfl⟩ := h
            obtain ⟨v, vs', rfl, q1, q2, q3⟩ := relQ_cons hv
            have hone : v.oneCell' = true := by
              simp only [relV] at q2
              split at q2
              · exact refR_one q2
              · exact refR_one q2
              · exact refR_one q2
              · exact q2.2
            have hc : relC ⟨w, m, s.hp, I⟩ [.ref h0 lo len] [v] := by simp only [relC]; exact ⟨hone, q2, trivial⟩
            obtain ⟨I1, fr, v1, v2, e1, q4, q5⟩ := takeS_ok hts hg hc
            have hl1 := repT_len q4
            have hv1 : v1 = [v] := by
              cases v1 with
              | nil => simp [Ty.sz] at hl1
              | cons u v1 =>
                simp only [List.cons_append, List.cons.injEq] at e1
                obtain ⟨rfl, e1⟩ := e1
                have : v1 = [] := by cases v1 with | nil => rfl | cons _ _ => simp at e1
                rw [this]
            subst hv1
            have hcc := cellsI_ok (E := ⟨w, m, s2.hp, I1⟩) rfl q4
            simp only [cellsI, relC] at hcc
            exact ⟨m, I1, fr.good, fr.grow, [v], vs', rfl, ⟨⟨q1, hcc.2.1⟩, trivial⟩, relQ_mono fr.grow q3⟩
          · cases h
        · simp only [Option.some.injEq, Prod.mk.injEq] at h
          obtain ⟨rfl, _, rfl, rfl⟩ := h
          obtain ⟨v, vs', rfl, q1, q2, q3⟩ := relQ_cons hv
          exact ⟨m, I, hg, Grows.refl _, [v], vs', rfl, ⟨⟨q1, q2⟩, trivial⟩, q3⟩
        · cases h
      | int k => simp only [wkL] at h; exact Brought.pass h hg hv
      | bool => simp only [wkL] at h; exact Brought.pass h hg hv
      | str => simp only [wkL] at h; exact Brought.pass h hg hv
    | agg p =>
      simp only [wkL] at h
      split at h
      · rename_i xs r
        split at h
        · rename_i s2 id2 ys h1
          simp only [Option.some.injEq, Prod.mk.injEq] at h
          obtain ⟨rfl, _, rfl, rfl⟩ := h
          obtain ⟨v, vs', rfl, q1, q2, q3⟩ := relQ_cons hv
          simp only [relV] at q2
          obtain ⟨us, rfl, hc⟩ := q2
          obtain ⟨m1, I1, g1, gr1, v1, v2, e, q4, q5⟩ := ih h1 hg (relQ_C.2 hc)
          obtain rfl := relQ_nil q5
          refine ⟨m1, I1, g1, gr1, [_], vs', rfl, ⟨⟨q1, ?_⟩, trivial⟩, relQ_mono gr1 q3⟩
          simp only [relV]
          exact ⟨us, rfl, by rw [e]; simpa using relQ_C.1 q4⟩
        · cases h
      · cases h
    | tup p =>
      simp only [wkL] at h
      split at h
      · rename_i xs r
        split at h
        · rename_i s2 id2 ys h1
          simp only [Option.some.injEq, Prod.mk.injEq] at h
          obtain ⟨rfl, _, rfl, rfl⟩ := h
          obtain ⟨v, vs', rfl, q1, q2, q3⟩ := relQ_cons hv
          simp only [relV] at q2
          obtain ⟨us, rfl, hc⟩ := q2
          obtain ⟨m1, I1, g1, gr1, v1, v2, e, q4, q5⟩ := ih h1 hg (relQ_L.2 hc)
          obtain rfl := relQ_nil q5
          refine ⟨m1, I1, g1, gr1, [_], vs', rfl, ⟨⟨q1, ?_⟩, trivial⟩, relQ_mono gr1 q3⟩
          simp only [relV]
          exact ⟨us, rfl, by rw [e]; simpa using relQ_L.1 q4⟩
        · cases h
      · cases h
    | ref k e =>
      simp only [wkL] at h
      split at h
      · rename_i r
        obtain ⟨hb, h⟩ := cond_none h
        simp only [Bool.and_eq_true, Bool.not_eq_true'] at hb
        simp only [Option.some.injEq, Prod.mk.injEq] at h
        obtain ⟨rfl, _, rfl, rfl⟩ := h
        obtain ⟨v, vs', rfl, q1, q2, q3⟩ := relQ_cons hv
        simp only [relV] at q2
        subst q2
        have he : 0 < e.sz := Nat.le_of_ble_eq_true hb.1
        obtain ⟨g1, gr1⟩ := new_empty hg hb.2 he
        refine ⟨_, I, g1, gr1, [_], vs', rfl, ⟨⟨q1, ?_⟩, trivial⟩, relQ_mono gr1 q3⟩
        simp only [relV, St.setH, getH_same]
        exact ⟨by simp [lenL], .inl ⟨by simp [lenL], none, rfl⟩⟩
      · simp only [Option.some.injEq, Prod.mk.injEq] at h
        obtain ⟨rfl, _, rfl, rfl⟩ := h
        obtain ⟨v, vs', rfl, q1, q2, q3⟩ := relQ_cons hv
        exact ⟨m, I, hg, Grows.refl _, [v], vs', rfl, ⟨⟨q1, q2⟩, trivial⟩, q3⟩
      · cases h
    | ptr k f =>
      simp only [wkL] at h
      split at h
      · rename_i h0 i f' r
        split at h
        · rename_i q xs hq hx
          split at h
          · rename_i s2 id2 ys h1
            split at h
            · rename_i zs hz
              obtain ⟨hb, h⟩ := cond_none h
              simp only [Option.some.injEq, Prod.mk.injEq] at h
              obtain ⟨rfl, _, rfl, rfl⟩ := h
              obtain ⟨v, vs', rfl, q1, q2, q3⟩ := relQ_cons hv
              have hroot := hg.heap.root h0
              simp only [hx] at hroot
              obtain ⟨b, us, T, e1, e2, e3, e4⟩ := hroot
              obtain ⟨m1, I1, g1, gr1, v1, v2, e, q4, q5⟩ := ih h1 hg (relQ_C.2 e4)
              obtain rfl := relQ_nil q5
              have hm1 : m1 h0 = m h0 := gr1.map h0 (hasH_of_getH (by simp only [hx]; simp)) (by simp only [hz]; simp)
              obtain ⟨g2, gr2⟩ := box_again (ys := ys) g1 hz (Nat.eq_of_beq_eq_true hb) (fun b' us' T' k1 k2 => by
                rw [hm1] at k1
                rw [show m h0 = some (b, 0) from e1] at k1
                cases k1
                rw [show w.heap[b]? = some (.cells us T (0, 0)) from e3] at k2
                cases k2
                rw [e, List.append_nil]
                exact relQ_C.1 q4)
              exact ⟨m1, I1, g2, gr1.trans gr2, [v], vs', rfl, ⟨⟨q1, relV_mono (gr1.trans gr2) q2⟩, trivial⟩, relQ_mono (gr1.trans gr2) q3⟩
            · cases h
          · cases h
        · simp only [Option.some.injEq, Prod.mk.injEq] at h
          obtain ⟨rfl, _, rfl, rfl⟩ := h
          obtain ⟨v, vs', rfl, q1, q2, q3⟩ := relQ_cons hv
          exact ⟨m, I, hg, Grows.refl _, [v], vs', rfl, ⟨⟨q1, q2⟩, trivial⟩, q3⟩
      · simp only [Option.some.injEq, Prod.mk.injEq] at h
        obtain ⟨rfl, _, rfl, rfl⟩ := h
        obtain ⟨v, vs', rfl, q1, q2, q3⟩ := relQ_cons hv
        exact ⟨m, I, hg, Grows.refl _, [v], vs', rfl, ⟨⟨q1, q2⟩, trivial⟩, q3⟩
      · cases h
    | fn f p => simp only [wkL] at h; exact Brought.pass h hg hv
    | cp p => simp only [wkL] at h; exact Brought.pass h hg hv
    | ptrI k f => simp only [wkL] at h; exact Brought.pass h hg hv
    | nilS => simp only [wkL] at h; exact Brought.pass h hg hv
    | nilP => simp only [wkL] at h; exact Brought.pass h hg hv
    | ifc => simp only [wkL] at h; exact Brought.pass h hg hv
    | any => simp only [wkL] at h; exact Brought.pass h hg hv
    | slT e => simp only [wkL] at h; exact Brought.pass h hg hv

end

/-- what a call leaves -/
def Left (A : Env) (keep : Nat) (r : Res) (x : Value) (w' : World) : Prop :=
  ∃ m' I', HeapRel ⟨w', m', numbered 0 r.2, I'⟩ ∧ Hist A keep ⟨w', m', numbered 0 r.2, I'⟩ ∧ relV ⟨w', m', numbered 0 r.2, I'⟩ r.1 x

section
variable {P : Program} {A : Env} {keep nt : Nat} {ds : List Deferred} {w : World} {s : St} {a : Act} {r : Res} {m : Nat → Option (Nat × Nat)} {I : Nat → Prop}

theorem toForm_ok {F : Form} {vs : List AV} {d : F.D} {xs : List Value} (hg : Good A keep ⟨w, m, s.hp, I⟩ s.tm a.tmps) (hv : relL ⟨w, m, s.hp, I⟩ vs xs) (h : toForm F keep s vs = some d) :
    ∃ m' I', HeapRel ⟨w, m', numbered 0 (F.roots d), I'⟩ ∧ Hist A keep ⟨w, m', numbered 0 (F.roots d), I'⟩ ∧ relL ⟨w, m', numbered 0 (F.roots d), I'⟩ (F.vals d) xs := by
  unfold toForm at h
  split at h
  · rename_i s1 id1 vs1 h1
    obtain ⟨m1, I1, g1, gr1, v1, v2, e, q4, q5⟩ := wkL_ok 60 h1 hg (relQ_L.2 hv)
    obtain rfl := relQ_nil q5
    rw [List.append_nil] at e
    subst e
    obtain ⟨e1, e2⟩ := gather_ok s1 keep (vs1.flatMap hs)
    obtain ⟨k1, k2, k3⟩ := renumber (s := ⟨s.tm, s1.hp⟩) g1 e1 e2
    have hr := relL_map (f := ren (idxO (gather s1 keep (vs1.flatMap hs)))) (fun c _ v hc => ren_ok k3 6 (.inl fun _ h => h) hc) (relQ_L.1 q4)
    obtain ⟨q1, q2, q3⟩ := Form.read_ok k1 hr h
    exact ⟨_, I1, q1, q3 k2, q2⟩
  · cases h

theorem lives_rel (hg : Good A keep ⟨w, m, s.hp, I⟩ s.tm a.tmps) (live : List Nat) : relL ⟨w, m, s.hp, I⟩ (lives s live) (live.map fun i => a.tmps.getD i undef) := by
  unfold lives
  induction live with
  | nil => simp [relL]
  | cons i live ih => simp only [List.map_cons, relL]; exact ⟨hg.tm i, ih⟩

theorem zip_rel {E : Env} {tmps : Array Value} : ∀ {live : List Nat} {vs : List AV}, relL E vs (live.map fun i => tmps.getD i undef) → ∀ i, relV E (getT (live.zip vs) i) (tmps.getD i undef)
  | [], vs, _, i => by simp [getT, relV]
  | j :: live, [], h, i => by simp [relL] at h
  | j :: live, v :: vs, h, i => by
    simp only [List.map_cons, relL] at h
    simp only [List.zip_cons_cons]
    by_cases e : i = j
    · subst e; rw [getT_same]; exact h.1
    · rw [getT_other _ _ e]; exact zip_rel h.2 i

theorem lab_ok {B : Lab} {d : B.F.D} (h : Sees A keep nt ds s a w) (hf : toForm B.F keep s (lives s B.live) = some d) : Sees A keep nt ds (B.st d) a w := by
  obtain ⟨⟨m, I, hg⟩, hs, hd⟩ := h
  obtain ⟨m', I', q1, q2, q3⟩ := toForm_ok hg (lives_rel hg B.live) hf
  exact ⟨⟨m', I', q1, zip_rel q3, q2⟩, hs, hd⟩

def resM (tmps : Array Value) : ResultVar → Sem Value
  | .tmp t => pure (tmps.getD t undef)
  | .cell a t => do loadVar t (← asAddr (tmps.getD a undef))

theorem resA_ok (hg : Good A keep ⟨w, m, s.hp, I⟩ s.tm a.tmps) {rv : ResultVar} {v : AV} (h : resA P s rv = some v) :
    ∃ x, (resM a.tmps rv).run P w = .ok x w ∧ relV ⟨w, m, s.hp, I⟩ v x := by
  cases rv with
  | tmp t =>
    simp only [resA, Option.some.injEq] at h; subst h
    exact ⟨_, by simp [resM], hg.tm t⟩
  | cell y t =>
    simp only [resA] at h
    split at h
    · rename_i n hl
      split at h
      · rename_i cs hc
        simp only [Option.some.injEq] at h; subst h
        obtain ⟨b, off, vs, hx, hat, hr, hn⟩ := cells_ok hg.heap rfl (hg.tm y) hc
        have hrun := run_loadCells_at (P := P) hat ((relC_getLen hr).trans hn)
        have hx' : a.tmps.getD y undef = .pointer (some ⟨b, off, none⟩) := hx
        refine ⟨.agg vs.toArray, ?_, relV_of_cells hr⟩
        simp only [resM, hx']
        simp [asAddr, loadVar, (ldT_agg (P := P) (w := w) hl).1, (ldT_agg (P := P) (w := w) hl).2, hrun]
      · cases h
    · rename_i n hl
      split at h
      · rename_i u hc
        simp only [Option.some.injEq] at h; subst h
        obtain ⟨b, off, vs, hx, hat, hr, hn⟩ := cells_ok hg.heap rfl (hg.tm y) hc
        have hx' : a.tmps.getD y undef = .pointer (some ⟨b, off, none⟩) := hx
        cases vs with
        | nil => simp [relC] at hr
        | cons x vs =>
          simp only [relC] at hr
          have hcell := hat.cell 0 (by simp)
          simp at hcell
          refine ⟨x, ?_, hr.2.1⟩
          simp only [resM, hx']
          simp [asAddr, loadVar, (ldT_one (P := P) (w := w) hl).1, hcell]
      · cases h
    · cases h

theorem resAs_ok (hg : Good A keep ⟨w, m, s.hp, I⟩ s.tm a.tmps) : ∀ {rs : List ResultVar} {vs : List AV}, resAs P s rs = some vs →
    ∃ xs, (rs.mapM (resM a.tmps)).run P w = .ok xs w ∧ relL ⟨w, m, s.hp, I⟩ vs xs
  | [], vs, h => by
    simp [resAs] at h; subst h
    exact ⟨[], by simp, by simp [relL]⟩
  | rv :: rs, vs, h => by
    simp only [resAs] at h
    split at h
    · rename_i v h1
      split at h
      · rename_i vs' h2
        simp only [Option.some.injEq] at h; subst h
        obtain ⟨x, q1, q2⟩ := resA_ok hg h1
        obtain ⟨xs, q3, q4⟩ := resAs_ok hg h2
        exact ⟨x :: xs, by rw [List.mapM_cons]; simp [q1, q3], by simp only [relL]; exact ⟨q2, q4⟩⟩
      · cases h
    · cases h

theorem oneOf_ok {E : Env} : ∀ {vs : List AV} {xs : List Value}, relL E vs xs → relV E (oneOf vs) (if h : xs.toArray.size = 1 then xs.toArray[0] else .tuple xs.toArray)
  | [], [], h => by simp only [oneOf, relV]; exact ⟨#[], rfl, h⟩
  | [v], [x], h => by simp only [relL] at h; simpa [oneOf] using h.1
  | v :: v' :: vs, x :: x' :: xs, h => by
    simp only [oneOf, relV]
    exact ⟨(x :: x' :: xs).toArray, by simp, by simpa using h⟩
  | [], _ :: _, h => by simp [relL] at h
  | [_], [], h => by simp [relL] at h
  | [_], _ :: _ :: _, h => by simp [relL] at h
  | _ :: _ :: _, [], h => by simp [relL] at h
  | _ :: _ :: _, [_], h => by simp [relL] at h

theorem results_run {fn : Func} {tmps : Array Value} {xs : List Value} (h : (fn.results.toList.mapM (resM tmps)).run P w = .ok xs w) :
    (results fn tmps).run P w = .ok (if h : xs.toArray.size = 1 then xs.toArray[0] else .tuple xs.toArray) w := by
  have hm : (fn.results.mapM (resM tmps)).run P w = .ok xs.toArray w := by
    rw [Array.mapM_eq_mapM_toList]; simp [h]
  show (do
      let vs ← fn.results.mapM (resM tmps)
      pure (if h : vs.size = 1 then vs[0] else .tuple vs) : Sem Value).run P w = _
  rw [Sem.run_bind, hm]
  rfl

theorem fin_ok {C : Ctx} {fn : Func} (hP : C.P = P) (hres : C.res = fn.results.toList) (hg : Good A C.keep ⟨w, m, s.hp, I⟩ s.tm a.tmps) (h : fin C some s = some r) :
    ∃ x, (results fn a.tmps).run P w = .ok x w ∧ Left A C.keep r x w := by
  subst hP
  unfold fin at h
  split at h
  · cases h
  · rename_i vs hvs
    rw [hres] at hvs
    obtain ⟨xs, q1, q2⟩ := resAs_ok hg hvs
    have hr := oneOf_ok q2
    split at h
    · rename_i d hd
      simp only [Option.some.injEq] at h
      subst h
      refine ⟨_, results_run q1, ?_⟩
      obtain ⟨m', I', e1, e2, e3⟩ := toForm_ok (xs := [_]) hg (by simp only [relL]; exact ⟨hr, trivial⟩) hd
      refine ⟨m', I', e1, e2, ?_⟩
      show relV _ (hd1 (C.out.vals d)) _
      generalize C.out.vals d = us at e3
      cases us with
      | nil => simp [relL] at e3
      | cons u us => cases us with
        | nil => simp only [relL] at e3; exact e3.1
        | cons _ _ => simp [relL] at e3
    · cases h

end
end Go.AI
end

section
/- FRAMES, first part: what a step of memory depends on. -/
namespace Go.AI
set_option linter.unusedVariables false
set_option linter.unusedSimpArgs false

/-- two heaps that agree on handles -/
def Agr (hp hp' : List (Nat × Root)) (S : Nat → Prop) : Prop := ∀ h, S h → getH hp' h = getH hp h ∧ hasH hp' h = hasH hp h
def Wr (D : List (Nat × Root)) (S : Nat → Prop) : Prop := ∀ h, hasH D h = true → S h

theorem Agr.app {hp hp' D : List (Nat × Root)} {S : Nat → Prop} (a : Agr hp hp' S) : Agr (D ++ hp) (D ++ hp') S := by
  intro h hh
  obtain ⟨h1, h2⟩ := a h hh
  rw [getH_append, getH_append, hasH_append, hasH_append, h1, h2]
  exact ⟨rfl, rfl⟩
theorem Agr.cons {hp hp' : List (Nat × Root)} {k : Nat} {x : Root} {S : Nat → Prop} (a : Agr hp hp' S) : Agr ((k, x) :: hp) ((k, x) :: hp') S := Agr.app (D := [(k, x)]) a
theorem Wr.left {D D' : List (Nat × Root)} {S : Nat → Prop} (h : Wr (D ++ D') S) : Wr D S := fun k hk => h k (by rw [hasH_append, hk]; rfl)
theorem Wr.right {D D' : List (Nat × Root)} {S : Nat → Prop} (h : Wr (D ++ D') S) : Wr D' S := fun k hk => h k (by rw [hasH_append, hk]; simp)
theorem Wr.head {k : Nat} {x : Root} {D : List (Nat × Root)} {S : Nat → Prop} (h : Wr ((k, x) :: D) S) : S k := h k (by simp [hasH, Nat.beq_refl])

section
variable {s s' : St} {S : Nat → Prop}

theorem cells_fr {n : Nat} {v : AV} (hS : ∀ h ∈ hs v, S h) (a : Agr s.hp s'.hp S) : s'.cells n v = s.cells n v := by
  cases v with
  | ptr h i f => simp only [St.cells, (a h (hS h (by simp [hs, hsF]))).1]
  | _ => simp [St.cells]
theorem slice_fr {v : AV} (hS : ∀ h ∈ hs v, S h) (a : Agr s.hp s'.hp S) : s'.slice v = s.slice v := by
  cases v with
  | ref h i f => simp only [St.slice, (a h (hS h (by simp [hs, hsF]))).1]
  | _ => simp [St.slice]
theorem len_fr {v : AV} (hS : ∀ h ∈ hs v, S h) (a : Agr s.hp s'.hp S) : s'.len v = s.len v := by
  cases v with
  | ref h i f => simp only [St.len, (a h (hS h (by simp [hs, hsF]))).1]
  | val u => simp only [St.len]; split <;> simp_all
  | _ => simp [St.len]
theorem szOk_fr {n : Nat} {v : AV} (hS : ∀ h ∈ hs v, S h) (a : Agr s.hp s'.hp S) : s'.szOk n v = s.szOk n v := by
  cases v with
  | ref h i f => simp only [St.szOk, (a h (hS h (by simp [hs, hsF]))).1]
  | _ => simp [St.szOk]
theorem idxAddr_fr {n : Nat} {v : AV} (hS : ∀ h ∈ hs v, S h) (a : Agr s.hp s'.hp S) : idxAddr s' v n = idxAddr s v n := by
  cases v with
  | ref h i f => simp only [idxAddr, (a h (hS h (by simp [hs, hsF]))).1]
  | _ => simp [idxAddr]
theorem fldAddr_fr {n : Nat} {v : AV} (hS : ∀ h ∈ hs v, S h) (a : Agr s.hp s'.hp S) : fldAddr s' v n = fldAddr s v n := by
  cases v with
  | ptr h i f => simp only [fldAddr, (a h (hS h (by simp [hs, hsF]))).1]
  | _ => simp [fldAddr]

/-! ### taking data out of cells -/

def refsIn (S : Nat → Prop) (cs : List AV) : Prop := ∀ h lo len, AV.ref h lo len ∈ cs → S h

theorem takeS_fr {e : Ty} {cs cs1 : List AV} {s1 : St} {x : List e.D} (h : takeS e s cs = some (s1, x, cs1)) :
    ∃ D, s1 = ⟨s.tm, D ++ s.hp⟩ ∧ (∃ c, cs = c :: cs1) ∧ ∀ (s' : St) (S : Nat → Prop), refsIn S cs → Wr D S → Agr s.hp s'.hp S → takeS e s' cs = some (⟨s'.tm, D ++ s'.hp⟩, x, cs1) := by
  unfold takeS at h
  split at h
  · cases h
    exact ⟨[], rfl, ⟨_, rfl⟩, fun s' S _ _ _ => rfl⟩
  · rename_i e' l nn r
    split at h
    · rename_i l' hl
      cases h
      exact ⟨[], rfl, ⟨_, rfl⟩, fun s' S _ _ _ => by simp [takeS, hl]⟩
    · cases h
  · rename_i k lo len r
    split at h
    · rename_i e' l hk
      split at h
      · rename_i l' hl
        cases h
        refine ⟨[(k, .imm e' l)], rfl, ⟨_, rfl⟩, fun s' S hr hw a => ?_⟩
        simp only [takeS, (a k (hr k lo len (by simp))).1, hk, hl]
        rfl
      · cases h
    · rename_i e' l hk
      split at h
      · rename_i l' hl
        cases h
        refine ⟨[], rfl, ⟨_, rfl⟩, fun s' S hr hw a => ?_⟩
        simp only [takeS, (a k (hr k lo len (by simp))).1, hk, hl]
        rfl
      · cases h
    · cases h
  · cases h

theorem takeD_fr : ∀ {t : Ty} {s : St} {cs cs1 : List AV} {s1 : St} {x : t.D}, takeD t s cs = some (s1, x, cs1) →
    ∃ D, s1 = ⟨s.tm, D ++ s.hp⟩ ∧ (∃ c, cs = c ++ cs1) ∧ ∀ (s' : St) (S : Nat → Prop), refsIn S cs → Wr D S → Agr s.hp s'.hp S → takeD t s' cs = some (⟨s'.tm, D ++ s'.hp⟩, x, cs1)
  | .unit, s, cs, cs1, s1, x, h => by
    simp only [takeD, Option.some.injEq, Prod.mk.injEq] at h
    obtain ⟨rfl, _, rfl⟩ := h
    exact ⟨[], rfl, ⟨[], rfl⟩, fun s' S _ _ _ => rfl⟩
  | .int k, s, cs, cs1, s1, x, h => by
    simp only [takeD] at h
    split at h
    · rename_i k' n r
      obtain ⟨hc, h⟩ := cond_none h
      cases h
      exact ⟨[], rfl, ⟨[_], rfl⟩, fun s' S _ _ _ => by simp [takeD, hc]⟩
    · cases h
  | .bool, s, cs, cs1, s1, x, h => by
    simp only [takeD] at h
    split at h
    · cases h
      exact ⟨[], rfl, ⟨[_], rfl⟩, fun s' S _ _ _ => by simp [takeD]⟩
    · cases h
  | .str, s, cs, cs1, s1, x, h => by
    simp only [takeD] at h
    split at h
    · cases h
      exact ⟨[], rfl, ⟨[_], rfl⟩, fun s' S _ _ _ => by simp [takeD]⟩
    · cases h
  | .sl e, s, cs, cs1, s1, x, h => by
    simp only [takeD] at h
    obtain ⟨D, h1, ⟨c, h2⟩, h3⟩ := takeS_fr h
    exact ⟨D, h1, ⟨[c], h2⟩, fun s' S a b c => by simp only [takeD]; exact h3 s' S a b c⟩
  | .pair a b, s, cs, cs1, s1, x, h => by
    simp only [takeD] at h
    split at h
    · rename_i s2 y cs2 h1
      split at h
      · rename_i s3 z cs3 h2
        simp only [Option.some.injEq, Prod.mk.injEq] at h
        obtain ⟨rfl, rfl, rfl⟩ := h
        obtain ⟨D1, rfl, ⟨c1, e1⟩, f1⟩ := takeD_fr h1
        obtain ⟨D2, e2, ⟨c2, e3⟩, f2⟩ := takeD_fr h2
        refine ⟨D2 ++ D1, by rw [e2]; simp, ⟨c1 ++ c2, by rw [e1, e3]; simp⟩, fun s' S hr hw ag => ?_⟩
        simp only [takeD]
        rw [f1 s' S hr hw.right ag]
        simp only
        have hr2 : refsIn S cs2 := fun k lo len hk => hr k lo len (by rw [e1]; simp [hk])
        rw [f2 ⟨s'.tm, D1 ++ s'.hp⟩ S hr2 hw.left ag.app]
        simp
      · cases h
    · cases h

theorem takeW_fr {t : Ty} {cs : List AV} {s1 : St} {x : t.D} (h : takeW t s cs = some (s1, x)) :
    ∃ D, s1 = ⟨s.tm, D ++ s.hp⟩ ∧ ∀ (s' : St) (S : Nat → Prop), refsIn S cs → Wr D S → Agr s.hp s'.hp S → takeW t s' cs = some (⟨s'.tm, D ++ s'.hp⟩, x) := by
  unfold takeW at h
  split at h
  · rename_i s2 y hy
    cases h
    obtain ⟨D, h1, _, h3⟩ := takeD_fr hy
    exact ⟨D, h1, fun s' S a b c => by unfold takeW; rw [h3 s' S a b c]⟩
  · cases h

theorem setCs_fr : ∀ {t : Ty} {s : St} {x y : t.D} {f : Nat} {cs : List AV} {s1 : St}, setCs t s x f cs = some (s1, y) →
    ∃ D, s1 = ⟨s.tm, D ++ s.hp⟩ ∧ ∀ (s' : St) (S : Nat → Prop), refsIn S cs → Wr D S → Agr s.hp s'.hp S → setCs t s' x f cs = some (⟨s'.tm, D ++ s'.hp⟩, y) := by
  intro t
  induction t with
  | pair a b iha ihb =>
    intro s x y f cs s1 h
    simp only [setCs] at h
    cases c1 : (Nat.beq f 0 && Nat.beq cs.length (a.sz + b.sz)) with
    | true =>
      rw [c1, cond_true] at h
      obtain ⟨D, h1, h2⟩ := takeW_fr h
      exact ⟨D, h1, fun s' S p q r => by simp only [setCs, c1, cond_true]; exact h2 s' S p q r⟩
    | false =>
      rw [c1, cond_false] at h
      cases c2 : Nat.ble (f + cs.length) a.sz with
      | true =>
        rw [c2, cond_true] at h
        split at h
        · rename_i s2 z hz
          cases h
          obtain ⟨D, h1, h2⟩ := iha hz
          exact ⟨D, h1, fun s' S p q r => by simp only [setCs, c1, c2, cond_true, cond_false]; rw [h2 s' S p q r]⟩
        · cases h
      | false =>
        rw [c2, cond_false] at h
        obtain ⟨c3, h⟩ := cond_none h
        split at h
        · rename_i s2 z hz
          cases h
          obtain ⟨D, h1, h2⟩ := ihb hz
          exact ⟨D, h1, fun s' S p q r => by simp only [setCs, c1, c2, c3, cond_true, cond_false]; rw [h2 s' S p q r]⟩
        · cases h
  | _ =>
    intro s x y f cs s1 h
    simp only [setCs] at h
    obtain ⟨c1, h⟩ := cond_none h
    obtain ⟨D, h1, h2⟩ := takeW_fr h
    exact ⟨D, h1, fun s' S p q r => by simp only [setCs, c1, cond_true]; exact h2 s' S p q r⟩

theorem takeAll_fr {e : Ty} : ∀ {n : Nat} {s : St} {cs : List AV} {s1 : St} {l : List e.D}, takeAll e s n cs = some (s1, l) →
    ∃ D, s1 = ⟨s.tm, D ++ s.hp⟩ ∧ ∀ (s' : St) (S : Nat → Prop), refsIn S cs → Wr D S → Agr s.hp s'.hp S → takeAll e s' n cs = some (⟨s'.tm, D ++ s'.hp⟩, l)
  | 0, s, cs, s1, l, h => by
    simp only [takeAll, Option.some.injEq, Prod.mk.injEq] at h
    obtain ⟨rfl, rfl⟩ := h
    exact ⟨[], rfl, fun s' S _ _ _ => rfl⟩
  | n + 1, s, cs, s1, l, h => by
    simp only [takeAll] at h
    split at h
    · rename_i s2 x cs2 h1
      split at h
      · rename_i s3 l3 h2
        cases h
        obtain ⟨D1, rfl, ⟨c1, e1⟩, f1⟩ := takeD_fr h1
        obtain ⟨D2, e2, f2⟩ := takeAll_fr h2
        refine ⟨D2 ++ D1, by rw [e2]; simp, fun s' S hr hw ag => ?_⟩
        simp only [takeAll]
        rw [f1 s' S hr hw.right ag]
        simp only
        have hr2 : refsIn S cs2 := fun k lo len hk => hr k lo len (by rw [e1]; simp [hk])
        rw [f2 ⟨s'.tm, D1 ++ s'.hp⟩ S hr2 hw.left ag.app]
        simp
      · cases h
    · cases h

/-! ### stores, new roots, append -/

theorem store_fr {cs : List AV} {k : St → R} {v : AV} {r : Res} (h : s.store cs k v = some r) :
    ∃ D, k ⟨s.tm, D ++ s.hp⟩ = some r ∧ ∀ (s' : St) (S : Nat → Prop), (∀ h ∈ hs v, S h) → refsIn S cs → Wr D S → Agr s.hp s'.hp S → ∀ k' : St → R, s'.store cs k' v = k' ⟨s'.tm, D ++ s'.hp⟩ := by
  cases v with
  | ptr h0 i f =>
    simp only [St.store] at h
    split at h
    · rename_i old hk
      obtain ⟨c1, h⟩ := cond_none h
      refine ⟨[(h0, .box (replAt old f cs))], h, fun s' S hS hr hw a k' => ?_⟩
      simp only [St.store, (a h0 (hS h0 (by simp [hs, hsF]))).1, hk, c1, cond_true]
      rfl
    · rename_i e l hk
      split at h
      · rename_i s1 x hx
        split at h
        · rename_i e' l' hk1
          obtain ⟨D, rfl, hf⟩ := setCs_fr hx
          refine ⟨(h0, .arr e (l.set i x)) :: D, h, fun s' S hS hr hw a k' => ?_⟩
          have hw' : Wr D S := Wr.right (D := [_]) hw
          have h0S := hS h0 (by simp [hs, hsF])
          simp only [St.store, (a h0 h0S).1, hk, hf s' S hr hw' a]
          have := (Agr.app (D := D) a h0 h0S).1
          simp only at hk1
          simp only [this, hk1]
          rfl
        · cases h
      · cases h
    · cases h
  | _ => simp [St.store] at h

theorem new_fr {id : Nat} {x : Root} {k : St → R} {r : Res} (h : s.new id x k = some r) :
    k ⟨s.tm, (id, x) :: s.hp⟩ = some r ∧ ∀ (s' : St) (S : Nat → Prop), S id → Agr s.hp s'.hp S → ∀ k' : St → R, s'.new id x k' = k' ⟨s'.tm, (id, x) :: s'.hp⟩ := by
  unfold St.new at h
  obtain ⟨c, h⟩ := cond_none' h
  refine ⟨h, fun s' S hi a k' => ?_⟩
  unfold St.new
  rw [(a id hi).2, c]; rfl

theorem appSrc_fr {e : Ty} {v : AV} (hS : ∀ h ∈ hs v, S h) (a : Agr s.hp s'.hp S) : s'.appSrc e v = s.appSrc e v := by
  unfold St.appSrc
  split
  · rfl
  · rw [slice_fr hS a]

theorem append_fr {P : Program} {t u : TypeId} {x y : AV} {id : Nat} {K : St → AV → R} {r : Res} (h : appendA P t u x y id s K = some r) :
    ∃ D v, K ⟨s.tm, D ++ s.hp⟩ v = some r ∧ ∀ (s' : St) (S : Nat → Prop), (∀ h ∈ hs x, S h) → (∀ h ∈ hs y, S h) → Wr D S → Agr s.hp s'.hp S → ∀ K' : St → AV → R, appendA P t u x y id s' K' = K' ⟨s'.tm, D ++ s'.hp⟩ v := by
  unfold appendA at h
  split at h
  · cases h
  · rename_i et e bytes he
    obtain ⟨c0, h⟩ := cond_none h
    split at h
    · cases h
    · rename_i xs hxs
      split at h
      · obtain ⟨c1, h⟩ := chk_some h
        obtain ⟨h1, h2⟩ := new_fr h
        refine ⟨[(id, .arr e xs)], _, h1, fun s' S hx hy hw a K' => ?_⟩
        unfold appendA
        simp only [he, c0, cond_true, appSrc_fr hy a, hxs, c1, chk]
        exact h2 s' S hw.head a fun s1 => K' s1 _
      · rename_i k lo _
        split at h
        · rename_i e' l hk
          split at h
          · rename_i l' hl
            obtain ⟨c1, h⟩ := chk_some h
            obtain ⟨h1, h2⟩ := new_fr h
            refine ⟨[(id, .arr e (l' ++ xs)), (k, .gone)], _, h1, fun s' S hx hy hw a K' => ?_⟩
            unfold appendA
            simp only [he, c0, cond_true, appSrc_fr hy a, hxs, (a k (hx k (by simp [hs, hsF]))).1, hk, hl, c1, chk]
            exact h2 (s'.setH k .gone) S hw.head (Agr.cons a) fun s1 => K' s1 _
          · cases h
        · cases h
      · cases h

end
end Go.AI
end

section
/- FRAMES, second part: calls, operations. -/
namespace Go.AI
set_option linter.unusedVariables false
set_option linter.unusedSimpArgs false

section
variable {s s' : St} {S : Nat → Prop}

theorem snapL_fr {f f' : AV → Option (AV × List Nat)} : ∀ {cs : List AV}, (∀ c ∈ cs, f' c = f c) → snapL f' cs = snapL f cs
  | [], _ => rfl
  | c :: cs, h => by
    simp only [snapL, h c (by simp), snapL_fr (cs := cs) fun c hc => h c (by simp [hc])]

theorem snapF_fr (a : Agr s.hp s'.hp S) : ∀ (n : Nat) {v : AV}, (∀ h ∈ rdF s.hp n v, S h) → s'.snapF n v = s.snapF n v
  | 0, v, _ => rfl
  | n + 1, v, hS => by
    have rec_ : ∀ {cs : List AV}, (∀ h ∈ cs.flatMap (rdF s.hp n), S h) → snapL (s'.snapF n) cs = snapL (s.snapF n) cs := by
      intro cs hc
      refine snapL_fr fun c hcs => snapF_fr a n fun h hh => hc h (List.mem_flatMap.2 ⟨c, hcs, hh⟩)
    cases v with
    | ref h lo len => simp only [St.snapF, (a h (hS h (by simp [rdF]))).1]
    | ptr h i f =>
      simp only [St.snapF, (a h (hS h (by simp [rdF]))).1]
      split
      · rename_i cs hk
        rw [rec_ (cs := cs.drop f)]
        intro k hk'
        refine hS k ?_
        simp only [rdF, hk]
        exact List.mem_cons_of_mem _ hk'
      · rfl
      · rfl
      · rfl
    | agg cs => simp only [St.snapF]; rw [rec_ (cs := cs) (by simpa [rdF] using hS)]
    | tup cs => simp only [St.snapF]; rw [rec_ (cs := cs) (by simpa [rdF] using hS)]
    | fn f cs => simp only [St.snapF]; rw [rec_ (cs := cs) (by simpa [rdF] using hS)]
    | cp cs => simp only [St.snapF]; rw [rec_ (cs := cs) (by simpa [rdF] using hS)]
    | any => rfl
    | val u => rfl
    | ifc b => rfl
    | sl e l nn => rfl

/-- the handles that a snapshot shows are among those it looks at -/
theorem snapF_sub : ∀ (n : Nat) {v v' : AV} {vis : List Nat}, s.snapF n v = some (v', vis) → ∀ h ∈ vis, h ∈ rdF s.hp n v
  | 0, v, v', vis, h => by simp [St.snapF] at h
  | n + 1, v, v', vis, h => by
    have rec_ : ∀ {cs cs' : List AV} {vis : List Nat}, snapL (s.snapF n) cs = some (cs', vis) → ∀ h ∈ vis, h ∈ cs.flatMap (rdF s.hp n) := by
      intro cs cs' vis h
      exact snapL_own h fun c hc c' a h1 k hk => List.mem_flatMap.2 ⟨c, hc, snapF_sub n h1 k hk⟩
    cases v with
    | ref h0 lo len =>
      simp only [St.snapF] at h
      split at h
      · simp only [Option.some.injEq, Prod.mk.injEq] at h; obtain ⟨_, rfl⟩ := h; simp [rdF]
      · simp only [Option.some.injEq, Prod.mk.injEq] at h; obtain ⟨_, rfl⟩ := h; simp
      · cases h
    | ptr h0 i f =>
      simp only [St.snapF] at h
      split at h
      · rename_i cs hk
        obtain ⟨_, h⟩ := cond_none h
        split at h
        · rename_i cs' a h1
          simp only [Option.some.injEq, Prod.mk.injEq] at h; obtain ⟨_, rfl⟩ := h
          intro k hk'
          simp only [rdF, hk]
          rcases List.mem_cons.1 hk' with rfl | hk'
          · simp
          · exact List.mem_cons_of_mem _ (rec_ h1 k hk')
        · cases h
      · obtain ⟨_, h⟩ := cond_none h
        simp only [Option.some.injEq, Prod.mk.injEq] at h; obtain ⟨_, rfl⟩ := h; simp [rdF]
      · obtain ⟨_, h⟩ := cond_none h
        simp only [Option.some.injEq, Prod.mk.injEq] at h; obtain ⟨_, rfl⟩ := h; simp
      · cases h
    | agg cs =>
      simp only [St.snapF] at h
      split at h
      · rename_i cs' a h1; simp only [Option.some.injEq, Prod.mk.injEq] at h; obtain ⟨_, rfl⟩ := h; simpa [rdF] using rec_ h1
      · cases h
    | tup cs =>
      simp only [St.snapF] at h
      split at h
      · rename_i cs' a h1; simp only [Option.some.injEq, Prod.mk.injEq] at h; obtain ⟨_, rfl⟩ := h; simpa [rdF] using rec_ h1
      · cases h
    | fn f cs =>
      simp only [St.snapF] at h
      split at h
      · rename_i cs' a h1; simp only [Option.some.injEq, Prod.mk.injEq] at h; obtain ⟨_, rfl⟩ := h; simpa [rdF] using rec_ h1
      · cases h
    | cp cs =>
      simp only [St.snapF] at h
      split at h
      · rename_i cs' a h1; simp only [Option.some.injEq, Prod.mk.injEq] at h; obtain ⟨_, rfl⟩ := h; simpa [rdF] using rec_ h1
      · cases h
    | any => simp only [St.snapF, Option.some.injEq, Prod.mk.injEq] at h; obtain ⟨_, rfl⟩ := h; simp
    | val u => simp only [St.snapF, Option.some.injEq, Prod.mk.injEq] at h; obtain ⟨_, rfl⟩ := h; simp
    | ifc b => simp only [St.snapF, Option.some.injEq, Prod.mk.injEq] at h; obtain ⟨_, rfl⟩ := h; simp
    | sl e l nn => simp only [St.snapF, Option.some.injEq, Prod.mk.injEq] at h; obtain ⟨_, rfl⟩ := h; simp

theorem freeze_fr : ∀ {l : List Nat} {s s1 : St}, s.freeze l = some s1 →
    ∃ D, s1 = ⟨s.tm, D ++ s.hp⟩ ∧ ∀ (s' : St) (S : Nat → Prop), (∀ h ∈ l, S h) → Agr s.hp s'.hp S → s'.freeze l = some ⟨s'.tm, D ++ s'.hp⟩
  | [], s, s1, h => by
    simp only [St.freeze, Option.some.injEq] at h; subst h
    exact ⟨[], rfl, fun s' S _ _ => rfl⟩
  | k :: l, s, s1, h => by
    simp only [St.freeze] at h
    split at h
    · rename_i e x hk
      obtain ⟨D, rfl, hf⟩ := freeze_fr h
      refine ⟨D ++ [(k, .imm e x)], by simp [St.setH], fun s' S hS a => ?_⟩
      simp only [St.freeze, (a k (hS k (by simp))).1, hk]
      rw [hf (s'.setH k (.imm e x)) S (fun h hh => hS h (by simp [hh])) (Agr.cons a)]
      simp [St.setH]
    · rename_i e x hk
      obtain ⟨D, rfl, hf⟩ := freeze_fr h
      refine ⟨D, rfl, fun s' S hS a => ?_⟩
      simp only [St.freeze, (a k (hS k (by simp))).1, hk]
      exact hf s' S (fun h hh => hS h (by simp [hh])) a
    · cases h

theorem imp_fr {base : Nat} {v : AV} {roots : List Root} {K : St → AV → R} {r : Res} (h : s.imp base v roots K = some r) :
    ∃ D v', K ⟨s.tm, D ++ s.hp⟩ v' = some r ∧ ∀ (s' : St) (S : Nat → Prop), Wr D S → Agr s.hp s'.hp S → ∀ K' : St → AV → R, s'.imp base v roots K' = K' ⟨s'.tm, D ++ s'.hp⟩ v' := by
  unfold St.imp at h
  obtain ⟨c, h⟩ := cond_none' h
  refine ⟨_, _, h, fun s' S hw a K' => ?_⟩
  unfold St.imp
  have : ((List.range roots.length).any fun j => hasH s'.hp (base + j)) = false := by
    cases hb : (List.range roots.length).any fun j => hasH s'.hp (base + j) with
    | false => rfl
    | true =>
      obtain ⟨j, hj, hh⟩ := List.any_eq_true.1 hb
      have h1 := any_false c j hj
      have hj' := List.mem_range.1 hj
      have h2 := (a (base + j) (hw _ (by rw [hasH_numbered]; simp [hj']))).2
      rw [h2] at hh; rw [hh] at h1; cases h1
  rw [this, cond_false]; rfl

theorem collect_fr : ∀ (n : Nat) {hp hp' : List (Nat × Root)} {todo acc : List Nat}, Agr hp hp' S → (∀ h ∈ looked hp n todo acc, S h) → collect hp' n todo acc = collect hp n todo acc
  | 0, hp, hp', todo, acc, _, _ => rfl
  | n + 1, hp, hp', [], acc, _, _ => rfl
  | n + 1, hp, hp', k :: todo, acc, a, hS => by
    simp only [collect, looked] at hS ⊢
    cases hm : memN k acc with
    | true => rw [hm, cond_true] at hS; rw [cond_true, cond_true]; exact collect_fr n a hS
    | false =>
      rw [hm, cond_false] at hS
      rw [cond_false, cond_false, (a k (hS k (by simp))).1]
      split
      · rename_i hg; rw [hg] at hS; exact collect_fr n a fun h hh => hS h (by simp [hh])
      · rename_i x hx
        refine collect_fr n a fun h hh => hS h ?_
        cases hg : getH hp k with
        | gone => exact absurd hg hx
        | box cs => rw [hg] at hh; exact List.mem_cons_of_mem _ hh
        | arr e l => rw [hg] at hh; exact List.mem_cons_of_mem _ hh
        | imm e l => rw [hg] at hh; exact List.mem_cons_of_mem _ hh

/-- what is collected has been looked at -/
theorem collect_sub : ∀ (n : Nat) {hp : List (Nat × Root)} {todo acc : List Nat}, ∀ h ∈ collect hp n todo acc, h ∈ acc ∨ h ∈ looked hp n todo acc
  | 0, hp, todo, acc, h, hh => .inl hh
  | n + 1, hp, [], acc, h, hh => .inl hh
  | n + 1, hp, k :: todo, acc, h, hh => by
    simp only [collect, looked] at hh ⊢
    cases hm : memN k acc with
    | true => rw [hm, cond_true] at hh; rw [cond_true]; exact collect_sub n h hh
    | false =>
      rw [hm, cond_false] at hh
      rw [cond_false]
      split at hh
      · rename_i hg
        rcases collect_sub n h hh with h1 | h1
        · exact .inl h1
        · exact .inr (by simp [h1])
      · rename_i x hx
        rcases collect_sub n h hh with h1 | h1
        · rcases List.mem_append.1 h1 with h1 | h1
          · exact .inl h1
          · simp at h1; subst h1; exact .inr (by simp)
        · right
          cases hg : getH hp k with
          | gone => exact absurd hg hx
          | box cs => rw [hg] at h1; exact List.mem_cons_of_mem _ h1
          | arr e l => rw [hg] at h1; exact List.mem_cons_of_mem _ h1
          | imm e l => rw [hg] at h1; exact List.mem_cons_of_mem _ h1

theorem putBack_fr : ∀ {l : List Nat} {xs : List Root} {s s1 : St}, putBack l xs s = some s1 →
    ∃ D, s1 = ⟨s.tm, D ++ s.hp⟩ ∧ (∀ k ∈ l, hasH D k = true) ∧ ∀ s' : St, putBack l xs s' = some ⟨s'.tm, D ++ s'.hp⟩
  | [], xs, s, s1, h => by
    simp only [putBack, Option.some.injEq] at h; subst h
    exact ⟨[], rfl, by simp, fun s' => rfl⟩
  | k :: l, [], s, s1, h => by simp [putBack] at h
  | k :: l, x :: xs, s, s1, h => by
    simp only [putBack] at h
    obtain ⟨D, rfl, hm, hf⟩ := putBack_fr h
    refine ⟨D ++ [(k, x)], by simp [St.setH], ?_, fun s' => ?_⟩
    · intro j hj
      rw [hasH_append]
      rcases List.mem_cons.1 hj with rfl | hj
      · simp [hasH, Nat.beq_refl]
      · simp [hm j hj]
    · simp only [putBack]
      rw [hf (s'.setH k x)]
      simp [St.setH]

end
end Go.AI
end

section
/- FRAMES, third part: any operation. -/
namespace Go.AI
set_option linter.unusedVariables false
set_option linter.unusedSimpArgs false

section
variable {P : Program} {s s' : St} {S : Nat → Prop} {K : St → AV → R} {r : Res}

theorem callB_fr {e : Ent} {args : List AV} {base : Nat} (h : callB e args base s K = some r) :
    ∃ D v, K ⟨s.tm, D ++ s.hp⟩ v = some r ∧ ∀ (s' : St) (S : Nat → Prop), (∀ h ∈ args.flatMap (rdF s.hp 6), S h) → Wr D S → Agr s.hp s'.hp S → ∀ K' : St → AV → R, callB e args base s' K' = K' ⟨s'.tm, D ++ s'.hp⟩ v := by
  unfold callB at h
  split at h
  · cases h
  · rename_i args' vis h1
    · obtain ⟨⟨rv, roots⟩, hK, h2⟩ := e.det _ _ _ _ h
      replace h := hK
      simp only at h
      clear hK
      have hsnap : ∀ (s' : St) (S : Nat → Prop), (∀ h ∈ args.flatMap (rdF s.hp 6), S h) → Agr s.hp s'.hp S → snapL (s'.snapF 6) args = some (args', vis) := by
        intro s' S hS a
        rw [← h1]
        exact snapL_fr fun c hc => snapF_fr a 6 fun h hh => hS h (List.mem_flatMap.2 ⟨c, hc, hh⟩)
      have hvis : ∀ h ∈ vis, h ∈ args.flatMap (rdF s.hp 6) := snapL_own h1 fun c hc c' a hh k hk => List.mem_flatMap.2 ⟨c, hc, snapF_sub 6 hh k hk⟩
      cases hc : (immF 6 rv || roots.any immR) with
      | true =>
        rw [hc, cond_true] at h
        split at h
        · rename_i s1 hf
          obtain ⟨D1, rfl, f1⟩ := freeze_fr hf
          obtain ⟨D2, v', h3, f2⟩ := imp_fr h
          refine ⟨D2 ++ D1, v', by simpa using h3, fun s' S hS hw a K' => ?_⟩
          unfold callB
          rw [hsnap s' S hS a]
          simp only [h2, hc, cond_true]
          rw [f1 s' S (fun k hk => hS k (hvis k hk)) a]
          simp only
          rw [f2 ⟨s'.tm, D1 ++ s'.hp⟩ S hw.left a.app]
          simp
        · cases h
      | false =>
        rw [hc, cond_false] at h
        obtain ⟨D2, v', h3, f2⟩ := imp_fr h
        refine ⟨D2, v', h3, fun s' S hS hw a K' => ?_⟩
        unfold callB
        rw [hsnap s' S hS a]
        simp only [h2, hc, cond_false]
        exact f2 s' S hw a K'

theorem callM_fr {e : Ent} {args : List AV} {base : Nat} (h : callM e args base s K = some r) :
    ∃ D v, K ⟨s.tm, D ++ s.hp⟩ v = some r ∧ ∀ (s' : St) (S : Nat → Prop), (∀ h ∈ looked s.hp 200 (args.flatMap hs) [], S h) → Wr D S → Agr s.hp s'.hp S → ∀ K' : St → AV → R, callM e args base s' K' = K' ⟨s'.tm, D ++ s'.hp⟩ v := by
  unfold callM at h
  simp only at h
  · obtain ⟨⟨rv, roots⟩, hK, hS0⟩ := e.det _ _ _ _ h
    replace h := hK
    simp only at h
    clear hK
    obtain ⟨hfr, h⟩ := cond_none' h
    split at h
    · rename_i s1 hpb
      obtain ⟨D, rfl, hm, hf⟩ := putBack_fr hpb
      refine ⟨D, _, h, fun s' S hS hw a K' => ?_⟩
      unfold callM
      have hc := collect_fr 200 a hS
      simp only [hc]
      have hroots : (collect s.hp 200 (args.flatMap hs) []).map (fun h => renRoot (idxO (collect s.hp 200 (args.flatMap hs) [])) (getH s'.hp h)) =
          (collect s.hp 200 (args.flatMap hs) []).map (fun h => renRoot (idxO (collect s.hp 200 (args.flatMap hs) [])) (getH s.hp h)) := by
        refine List.map_congr_left fun k hk => ?_
        have := (collect_sub 200 k hk).resolve_left (by simp)
        rw [(a k (hS k this)).1]
      rw [hroots, hS0]
      simp only
      have hany : ((List.range (roots.length - (collect s.hp 200 (args.flatMap hs) []).length)).any fun j => hasH s'.hp (base + j)) = false := by
        cases hb : (List.range (roots.length - (collect s.hp 200 (args.flatMap hs) []).length)).any fun j => hasH s'.hp (base + j) with
        | false => rfl
        | true =>
          obtain ⟨j, hj, hh⟩ := List.any_eq_true.1 hb
          have h1 := any_false hfr j hj
          have hmem : base + j ∈ homes (collect s.hp 200 (args.flatMap hs) []) base roots.length := by
            unfold homes
            exact List.mem_append_right _ (List.mem_map.2 ⟨j, hj, rfl⟩)
          have h2 := (a (base + j) (hw _ (hm _ hmem))).2
          rw [h2] at hh; rw [hh] at h1; cases h1
      rw [hany, cond_false, hf s']
    · cases h

/-- the handles that a call looks at -/
def callRd (args : List AV) (hp : List (Nat × Root)) : List Nat := looked hp 200 (args.flatMap hs) [] ++ args.flatMap (rdF hp 6)

theorem callA_fr {tab : List Ent} {f : FuncId} {args : List AV} {base : Nat} (h : callA P tab f args base s K = some r) :
    ∃ D v, K ⟨s.tm, D ++ s.hp⟩ v = some r ∧ ∀ (s' : St) (S : Nat → Prop), (∀ h ∈ callRd args s.hp, S h) → Wr D S → Agr s.hp s'.hp S → ∀ K' : St → AV → R, callA P tab f args base s' K' = K' ⟨s'.tm, D ++ s'.hp⟩ v := by
  unfold callA at h
  split at h
  · cases h
  · rename_i e he
    cases hm : e.mv with
    | true =>
      rw [hm, cond_true] at h
      obtain ⟨D, v, h1, h2⟩ := callM_fr h
      refine ⟨D, v, h1, fun s' S hS hw a K' => ?_⟩
      unfold callA
      simp only [he, hm, cond_true]
      exact h2 s' S (fun k hk => hS k (by simp only [callRd]; exact List.mem_append_left _ hk)) hw a K'
    | false =>
      rw [hm, cond_false] at h
      obtain ⟨D, v, h1, h2⟩ := callB_fr h
      refine ⟨D, v, h1, fun s' S hS hw a K' => ?_⟩
      unfold callA
      simp only [he, hm, cond_false]
      exact h2 s' S (fun k hk => hS k (by simp only [callRd]; exact List.mem_append_right _ hk)) hw a K'

/-! ### operators -/

theorem intOp_det {op : BinOp} {k : IntKind} {a b : Int} {K : Value → R} (h : intOp op k a b K = some r) : ∃ v, K v = some r ∧ ∀ K', intOp op k a b K' = K' v := by
  cases op <;> simp only [intOp] at h ⊢ <;> first
    | exact ⟨_, h, fun _ => rfl⟩
    | (obtain ⟨c, h⟩ := chk_some h; exact ⟨_, h, fun K' => by rw [c]; rfl⟩)
    | cases h
theorem strOp_det {op : BinOp} {a b : ByteArray} {K : Value → R} (h : strOp op a b K = some r) : ∃ v, K v = some r ∧ ∀ K', strOp op a b K' = K' v := by
  cases op <;> simp only [strOp] at h ⊢ <;> first
    | exact ⟨_, h, fun _ => rfl⟩
    | (obtain ⟨c, h⟩ := chk_some h; exact ⟨_, h, fun K' => by rw [c]; rfl⟩)
    | cases h
theorem eqNe_det {op : BinOp} {b : Bool} {K : AV → R} (h : eqNe op b K = some r) : ∃ v, K v = some r ∧ ∀ K', eqNe op b K' = K' v := by
  cases op <;> simp only [eqNe] at h ⊢ <;> first
    | exact ⟨_, h, fun _ => rfl⟩
    | cases h

theorem binA_det {t : TypeId} {op : BinOp} {yc : Bool} {a b : AV} {K : AV → R} (h : binA P t op yc a b K = some r) : ∃ v, K v = some r ∧ ∀ K', binA P t op yc a b K' = K' v := by
  unfold binA at h
  split at h
  · rename_i k x k' y
    cases op
    case shl => simp only at h; obtain ⟨c, h⟩ := chk_some h; exact ⟨_, h, fun K' => by simp [binA, c, chk]⟩
    case shr => simp only at h; obtain ⟨c, h⟩ := chk_some h; exact ⟨_, h, fun K' => by simp [binA, c, chk]⟩
    all_goals
      simp only at h
      obtain ⟨c, h⟩ := cond_none h
      obtain ⟨v, h1, h2⟩ := intOp_det h
      exact ⟨_, h1, fun K' => by simp only [binA, c, cond_true]; exact h2 _⟩
  · obtain ⟨v, h1, h2⟩ := strOp_det h
    exact ⟨_, h1, fun K' => by simp only [binA]; exact h2 _⟩
  · split at h
    · rename_i hu
      obtain ⟨v, h1, h2⟩ := eqNe_det h
      exact ⟨v, h1, fun K' => by simp only [binA, hu]; exact h2 _⟩
    · cases h
  · split at h
    · rename_i hu
      obtain ⟨c, h⟩ := cond_none h
      obtain ⟨v, h1, h2⟩ := eqNe_det h
      exact ⟨v, h1, fun K' => by simp only [binA, hu, c, cond_true]; exact h2 _⟩
    · cases h
  · split at h
    · rename_i hu
      obtain ⟨v, h1, h2⟩ := eqNe_det h
      exact ⟨v, h1, fun K' => by simp only [binA, hu]; exact h2 _⟩
    · cases h
  · split at h
    · rename_i hu
      obtain ⟨v, h1, h2⟩ := eqNe_det h
      exact ⟨v, h1, fun K' => by simp only [binA, hu]; exact h2 _⟩
    · cases h
  · split at h
    · rename_i fs hu
      obtain ⟨c, h⟩ := cond_none h
      split at h
      · rename_i b hb
        obtain ⟨v, h1, h2⟩ := eqNe_det h
        exact ⟨v, h1, fun K' => by simp only [binA, hu, c, cond_true, hb]; exact h2 _⟩
      · cases h
    · cases h
  · cases h

end
end Go.AI
end

section
/- FRAMES, fourth part: any operation. -/
namespace Go.AI
set_option linter.unusedVariables false
set_option linter.unusedSimpArgs false

section
variable {P : Program} {tab : List Ent} {o : Oper} {s : St} {K : St → AV → R} {r : Res} {v : AV}

theorem ev_fr {s' : St} (ht : ∀ t ∈ tmpsOf o, getT s'.tm t = getT s.tm t) : ∀ x ∈ o.op.operands, s'.ev x = s.ev x := by
  intro x hx
  cases x with
  | tmp t => exact ht t (List.mem_filterMap.2 ⟨.tmp t, by simpa using hx, rfl⟩)
  | _ => rfl

/-- an operation depends on what it looks at alone, and does what it did -/
def FrOp (P : Program) (tab : List Ent) (o : Oper) (s : St) (K : St → AV → R) (r : Res) : Prop :=
  ∃ D v, K ⟨s.tm, D ++ s.hp⟩ v = some r ∧ ∀ (s' : St) (S : Nat → Prop), (∀ x ∈ o.op.operands, s'.ev x = s.ev x) → (∀ h ∈ readsA P o s, S h) → Wr D S → Agr s.hp s'.hp S → ∀ K' : St → AV → R, opA P tab o s' K' = K' ⟨s'.tm, D ++ s'.hp⟩ v

theorem FrOp.pure (h : K s v = some r) (hf : ∀ (s' : St) (S : Nat → Prop), (∀ x ∈ o.op.operands, s'.ev x = s.ev x) → (∀ h ∈ readsA P o s, S h) → Agr s.hp s'.hp S → ∀ K' : St → AV → R, opA P tab o s' K' = K' s' v) : FrOp P tab o s K r :=
  ⟨[], v, h, fun s' S h1 h2 _ h3 K' => hf s' S h1 h2 h3 K'⟩

theorem mapev {s' : St} {l : List Operand} (h : ∀ x ∈ l, s'.ev x = s.ev x) : l.map s'.ev = l.map s.ev := List.map_congr_left h

theorem fillC_refs {size : Nat → Option (Nat × Nat)} {S : Nat → Prop} : ∀ {ps : List (Nat × AV)} {cs cs' : List AV}, fillC size cs ps = some cs' → refsIn S cs → (∀ p ∈ ps, ∀ h ∈ hs p.2, S h) → refsIn S cs'
  | [], cs, cs', h, hr, _ => by simp only [fillC, Option.some.injEq] at h; subst h; exact hr
  | (i, v) :: ps, cs, cs', h, hr, hp => by
    simp only [fillC] at h
    split at h
    · rename_i off n xs h1 h2
      obtain ⟨_, h⟩ := cond_none h
      refine fillC_refs h ?_ fun p hp' => hp p (by simp [hp'])
      have hx : refsIn S xs := by
        intro k lo len hk
        have hv := hp (i, v) (by simp)
        cases v with
        | agg cs => simp only [cellsOfV, Option.some.injEq] at h2; subst h2; exact hv k (by simp only [hs, hsF]; exact List.mem_flatMap.2 ⟨_, hk, by simp [hsF]⟩)
        | ref k' lo' len' => simp only [cellsOfV, Option.some.injEq] at h2; subst h2; simp at hk; exact hv k (by simp [hs, hsF, hk])
        | val u => simp only [cellsOfV] at h2; obtain ⟨_, h2⟩ := cond_none h2; simp only [Option.some.injEq] at h2; subst h2; simp at hk
        | any => simp [cellsOfV] at h2
        | tup _ => simp [cellsOfV] at h2
        | fn _ _ => simp only [cellsOfV, Option.some.injEq] at h2; subst h2; simp at hk
        | ifc _ => simp only [cellsOfV, Option.some.injEq] at h2; subst h2; simp at hk
        | sl _ _ _ => simp only [cellsOfV, Option.some.injEq] at h2; subst h2; simp at hk
        | cp _ => simp only [cellsOfV, Option.some.injEq] at h2; subst h2; simp at hk
        | ptr _ _ _ => simp only [cellsOfV, Option.some.injEq] at h2; subst h2; simp at hk
      have hrep : ∀ (f : Nat) (cs : List AV), refsIn S cs → refsIn S (replAt cs f xs) := by
        intro f
        induction f with
        | zero =>
          intro cs hc k lo len hk
          cases cs <;> simp only [replAt] at hk <;> rcases List.mem_append.1 hk with hk | hk
          · exact hx k lo len hk
          · simp at hk
          · exact hx k lo len hk
          · exact hc k lo len (List.mem_of_mem_drop hk)
        | succ f ih =>
          intro cs hc k lo len hk
          cases cs with
          | nil => simp only [replAt] at hk; exact hx k lo len hk
          | cons c cs =>
            simp only [replAt] at hk
            rcases List.mem_cons.1 hk with hk | hk
            · exact hc k lo len (by simp [hk])
            · exact ih cs (fun a b c h => hc a b c (by simp [h])) k lo len hk
      exact hrep off cs hr
    · cases h

theorem vals_refs {S : Nat → Prop} {t : TypeId} {cs : List AV} (h : zeroOf P t = some cs) : refsIn S cs := by
  unfold zeroOf at h
  split at h
  · obtain ⟨_, h⟩ := cond_none h
    simp only [Option.some.injEq] at h; subst h
    intro k lo len hk
    simp [zeroCs] at hk
  · cases h

theorem cellsOfV_refs {S : Nat → Prop} {v : AV} {xs : List AV} (h2 : cellsOfV v = some xs) (hv : ∀ h ∈ hs v, S h) : refsIn S xs := by
  have := fillC_refs (S := S) (size := fun _ => some (0, xs.length)) (ps := [(0, v)]) (cs := List.replicate xs.length .any) (cs' := xs)
  refine this ?_ ?_ ?_
  · simp only [fillC, h2]
    rw [show (Nat.beq xs.length xs.length && Nat.ble (0 + xs.length) (List.replicate xs.length AV.any).length) = true by simp]
    have : ∀ (l : List AV), replAt (List.replicate l.length AV.any) 0 l = l := by
      intro l; cases l <;> simp [replAt]
    simp [this]
  · intro k lo len hk; simp at hk
  · intro p hp; simp at hp; subst hp; exact hv

end
end Go.AI
end

section
/- FRAMES, fifth part: any operation. -/
namespace Go.AI
set_option linter.unusedVariables false
set_option linter.unusedSimpArgs false

section
variable {P : Program} {tab : List Ent} {o : Oper} {s : St} {K : St → AV → R} {r : Res} {v : AV}

theorem call_operands {c : Call} (ho : o.op = .call c) : ∀ x ∈ c.args.toList, x ∈ o.op.operands := by
  intro x hx
  rw [ho]
  simp only [Op.operands, Call.operands]
  split <;> simp_all

theorem call_callee {c : Call} {f : Operand} (ho : o.op = .call c) (hc : c.callee = .value f) : f ∈ o.op.operands := by
  rw [ho]
  simp [Op.operands, Call.operands, hc]

theorem opA_fr (h : opA P tab o s K = some r) : FrOp P tab o s K r := by
  unfold opA at h
  simp only at h
  split at h
  · rename_i x ho
    exact FrOp.pure h fun s' S hev _ _ K' => by
      unfold opA; simp only [ho]; rw [hev x (by simp [ho, Op.operands])]
  · rename_i x ho
    exact FrOp.pure h fun s' S hev _ _ K' => by
      unfold opA; simp only [ho]; rw [hev x (by simp [ho, Op.operands])]
  · rename_i c x y ho
    split at h
    · rename_i b hb
      split at h
      · rename_i p q hp hq
        exact FrOp.pure h fun s' S hev _ _ K' => by
          unfold opA; simp only [ho]; rw [hev c (by simp [ho, Op.operands]), hev x (by simp [ho, Op.operands]), hev y (by simp [ho, Op.operands])]
          simp only [hb, hp, hq]
      · rename_i hne
        cases b with
        | true =>
          exact FrOp.pure h fun s' S hev _ _ K' => by
            unfold opA; simp only [ho]; rw [hev c (by simp [ho, Op.operands]), hev x (by simp [ho, Op.operands]), hev y (by simp [ho, Op.operands])]
            simp only [hb]
            rfl
        | false =>
          exact FrOp.pure h fun s' S hev _ _ K' => by
            unfold opA; simp only [ho]; rw [hev c (by simp [ho, Op.operands]), hev x (by simp [ho, Op.operands]), hev y (by simp [ho, Op.operands])]
            simp only [hb]
            rfl
    · cases h
  · rename_i t ho
    split at h
    · rename_i cs hz
      obtain ⟨h1, h2⟩ := new_fr h
      refine ⟨[(_, .box cs)], _, h1, fun s' S hev _ hw a K' => ?_⟩
      unfold opA; simp only [ho, hz]
      exact h2 s' S hw.head a fun s1 => K' s1 _
    · cases h
  · rename_i t x ho
    split at h
    · rename_i cs hz
      obtain ⟨h1, h2⟩ := new_fr h
      refine ⟨[(_, .box cs)], _, h1, fun s' S hev _ hw a K' => ?_⟩
      unfold opA; simp only [ho]; rw [hev x (by simp [ho, Op.operands])]; simp only [hz]
      exact h2 s' S hw.head a fun s1 => K' s1 _
    · cases h
  · rename_i t ps ho
    split at h
    · rename_i z fs hz hu
      split at h
      · rename_i places hpl
        split at h
        · rename_i cs hf
          exact FrOp.pure h fun s' S hev _ _ K' => by
            unfold opA; simp only [ho, hz, hu, hpl]
            have : (ps.toList.map fun p => (p.1, s'.ev p.2)) = ps.toList.map fun p => (p.1, s.ev p.2) := by
              refine List.map_congr_left fun p hp => ?_
              rw [hev p.2 (by simp only [ho, Op.operands]; simp; exact ⟨p.1, by simpa using hp⟩)]
            rw [this, hf]
        · cases h
      · cases h
    · cases h
  · rename_i t n ps ho
    split at h
    · rename_i he
      split at h
      · rename_i z hz
        obtain ⟨c1, h⟩ := cond_none h
        split at h
        · rename_i cs hf
          obtain ⟨h1, h2⟩ := new_fr h
          refine ⟨[(_, .box cs)], _, h1, fun s' S hev hrd hw a K' => ?_⟩
          unfold opA; simp only [ho, he, hz, c1, cond_true]
          have : (ps.toList.map fun p => (p.1, s'.ev p.2)) = ps.toList.map fun p => (p.1, s.ev p.2) := by
            refine List.map_congr_left fun p hp => ?_
            rw [hev p.2 (by simp only [ho, Op.operands]; simp; exact ⟨p.1, by simpa using hp⟩)]
          rw [this, hf]
          exact h2 s' S hw.head a fun s1 => K' s1 _
        · cases h
      · cases h
    · rename_i et e bytes he
      split at h
      · rename_i z hz
        obtain ⟨c1, h⟩ := cond_none h
        split at h
        · rename_i cs hf
          split at h
          · rename_i s1 l hl
            obtain ⟨D, rfl, f1⟩ := takeAll_fr hl
            obtain ⟨h1, h2⟩ := new_fr h
            refine ⟨(_, .arr e l) :: D, _, h1, fun s' S hev hrd hw a K' => ?_⟩
            unfold opA; simp only [ho, he, hz, c1, cond_true]
            have : (ps.toList.map fun p => (p.1, s'.ev p.2)) = ps.toList.map fun p => (p.1, s.ev p.2) := by
              refine List.map_congr_left fun p hp => ?_
              rw [hev p.2 (by simp only [ho, Op.operands]; simp; exact ⟨p.1, by simpa using hp⟩)]
            rw [this, hf]
            simp only
            have hw' : Wr D S := Wr.right (D := [_]) hw
            have hrefs : refsIn S cs := by
              refine fillC_refs hf ?_ ?_
              · intro k lo len hk
                obtain ⟨l', hl', hk'⟩ := List.mem_flatten.1 hk
                have := List.eq_of_mem_replicate hl'
                subst this
                exact vals_refs hz k lo len hk'
              · intro p hp k hk
                obtain ⟨q, hq, rfl⟩ := List.mem_map.1 hp
                refine hrd k ?_
                simp only [readsA, ho]
                exact List.mem_flatMap.2 ⟨q, hq, hk⟩
            rw [f1 s' S hrefs hw' a]
            exact h2 ⟨s'.tm, D ++ s'.hp⟩ S hw.head a.app fun s1 => K' s1 _
          · cases h
        · cases h
      · cases h
  · rename_i t x ho
    split at h
    · rename_i n hl
      split at h
      · rename_i cs hc
        exact FrOp.pure h fun s' S hev hrd a K' => by
          unfold opA; simp only [ho, hl]; rw [hev x (by simp [ho, Op.operands]), cells_fr (fun k hk => hrd k (by simp only [readsA, ho]; exact hk)) a, hc]
      · cases h
    · rename_i n hl
      split at h
      · rename_i u hc
        exact FrOp.pure h fun s' S hev hrd a K' => by
          unfold opA; simp only [ho, hl]; rw [hev x (by simp [ho, Op.operands]), cells_fr (fun k hk => hrd k (by simp only [readsA, ho]; exact hk)) a, hc]
      · cases h
    · cases h
  · rename_i t x y ho
    split at h
    · rename_i cs b n hc hl
      obtain ⟨c1, h⟩ := cond_none h
      obtain ⟨D, h1, h2⟩ := store_fr h
      refine ⟨D, _, h1, fun s' S hev hrd hw a K' => ?_⟩
      unfold opA; simp only [ho]; rw [hev x (by simp [ho, Op.operands]), hev y (by simp [ho, Op.operands])]
      simp only [hc, hl, c1, cond_true]
      have hrd' : ∀ h ∈ hs (s.ev x) ++ hs (s.ev y), S h := fun k hk => hrd k (by simp only [readsA, ho]; exact hk)
      exact h2 s' S (fun k hk => hrd' k (by simp [hk])) (cellsOfV_refs hc fun k hk => hrd' k (by simp [hk])) hw a fun s1 => K' s1 _
    · cases h
  · rename_i x ho
    split at h
    · rename_i cs hx
      exact FrOp.pure h fun s' S hev hrd a K' => by
        unfold opA; simp only [ho]; rw [hev x (by simp [ho, Op.operands])]; simp only [hx]
    · rename_i k i f hx
      split at h
      · cases h
      · rename_i hk
        exact FrOp.pure h fun s' S hev hrd a K' => by
          unfold opA; simp only [ho]; rw [hev x (by simp [ho, Op.operands])]; simp only [hx]
          rw [(a k (hrd k (by simp [readsA, ho, hx, hs, hsF]))).1]
          split
          · rename_i hg; exact absurd hg hk
          · rfl
    · rename_i f cs hx
      exact FrOp.pure h fun s' S hev hrd a K' => by
        unfold opA; simp only [ho]; rw [hev x (by simp [ho, Op.operands])]; simp only [hx]
    · cases h
  · rename_i op t x y ty ho
    have h : binA P t op (match y with | .const _ => true | _ => false) (s.ev x) (s.ev y) (K s) = some r := by cases y <;> exact h
    obtain ⟨u, h1, h2⟩ := binA_det h
    exact FrOp.pure h1 fun s' S hev hrd a K' => by
      unfold opA; simp only [ho]; rw [hev x (by simp [ho, Op.operands]), hev y (by simp [ho, Op.operands])]
      have := h2 (K' s')
      cases y <;> exact this
  · rename_i op t x ho
    split at h
    · rename_i u hu
      exact FrOp.pure h fun s' S hev hrd a K' => by
        unfold opA; simp only [ho]; rw [hev x (by simp [ho, Op.operands])]; simp only [hu]
    · cases h
  · rename_i src dst x ho
    split at h
    · rename_i k n k' k'' hx h1 h2
      exact FrOp.pure h fun s' S hev hrd a K' => by
        unfold opA; simp only [ho]; rw [hev x (by simp [ho, Op.operands])]; simp only [hx, h1, h2]
    · rename_i b hx h1 h2
      exact FrOp.pure h fun s' S hev hrd a K' => by
        unfold opA; simp only [ho]; rw [hev x (by simp [ho, Op.operands])]; simp only [hx, h1, h2]
    · rename_i e _ _ h1 h2
      split at h
      · rename_i l h3 h4
        exact FrOp.pure h fun s' S hev hrd a K' => by
          unfold opA; simp only [ho]; rw [hev x (by simp [ho, Op.operands])]
          have hsl := slice_fr (v := s.ev x) (fun k hk => hrd k (by simp only [readsA, ho]; exact hk)) a
          simp only [h1, h2]
          rw [hsl, h4]
          simp only [h3]
      · cases h
    · cases h
  · rename_i f first caps ho
    obtain ⟨c1, h⟩ := cond_none h
    exact FrOp.pure h fun s' S hev hrd a K' => by
      unfold opA; simp only [ho, c1, cond_true]
      rw [mapev (l := caps.toList) fun x hx => hev x (by simp only [ho, Op.operands]; simp; exact .inr (by simpa using hx))]
  · rename_i t l c ho
    split at h
    · cases h
    · rename_i et e bytes he
      split at h
      · rename_i z n m hz h1 h2
        obtain ⟨c1, h⟩ := cond_none h
        obtain ⟨c2, h⟩ := chk_some h
        obtain ⟨c3, h⟩ := chk_some h
        obtain ⟨c4, h⟩ := chk_some h
        obtain ⟨q1, q2⟩ := new_fr h
        refine ⟨[(_, .arr e _)], _, q1, fun s' S hev hrd hw a K' => ?_⟩
        unfold opA; simp only [ho, he]; rw [hev l (by simp [ho, Op.operands]), hev c (by simp [ho, Op.operands])]
        simp only [hz, h1, h2, c1, c2, c3, c4, cond_true, chk]
        exact q2 s' S hw.head a fun s1 => K' s1 _
      · cases h
  · rename_i t x lo hi mx ho
    have hS : ∀ {S : Nat → Prop}, (∀ h ∈ readsA P o s, S h) → ∀ h ∈ hs (s.ev x), S h := fun hrd k hk => hrd k (by simp only [readsA, ho]; exact hk)
    have elo : ∀ {s' : St}, (∀ x ∈ o.op.operands, s'.ev x = s.ev x) → ∀ y, lo = some y → s'.ev y = s.ev y := fun hev y e => hev y (by simp [ho, Op.operands, e])
    have ehi : ∀ {s' : St}, (∀ x ∈ o.op.operands, s'.ev x = s.ev x) → ∀ y, hi = some y → s'.ev y = s.ev y := fun hev y e => hev y (by simp [ho, Op.operands, e])
    split at h
    · rename_i y
      split at h
      · rename_i b k hk
        split at h
        · rename_i j et e bytes len hj hel hlen
          obtain ⟨c1, h⟩ := chk_some h
          obtain ⟨h1, h2⟩ := new_fr h
          refine ⟨[(_, .arr e [])], _, h1, fun s' S hev hrd hw a K' => ?_⟩
          unfold opA; simp only [ho]
          rw [hev y (by simp [ho, Op.operands])]
          simp only [hk]
          rw [hev b (by simp [ho, Op.operands]), hev x (by simp [ho, Op.operands]), len_fr (hS hrd) a]
          simp only [hj, hel, hlen, c1, chk, cond_true]
          exact h2 s' S hw.head a fun s1 => K' s1 _
        · cases h
      · cases h
    split at h
    · rename_i b hx
      split at h
      · rename_i hu
        obtain ⟨c1, h⟩ := chk_some h
        obtain ⟨c2, h⟩ := chk_some h
        obtain ⟨c3, h⟩ := chk_some h
        exact FrOp.pure h fun s' S hev hrd a K' => by
          unfold opA; simp only [ho]; rw [hev x (by simp [ho, Op.operands])]
          simp only [hx, hu]
          have e1 : s'.bnd 0 lo = s.bnd 0 lo := by
            cases lo with
            | none => rfl
            | some y => simp only [St.bnd, elo hev y rfl]
          have e2 : s'.bnd (b.size : Nat) hi = s.bnd (b.size : Nat) hi := by
            cases hi with
            | none => rfl
            | some y => simp only [St.bnd, ehi hev y rfl]
          rw [e1, e2]
          simp only [c1, c2, c3, chk, cond_true]
      · cases h
    · rename_i hns
      split at h
      · rename_i n sz hn hz
        have hh := cond_none h
        clear h
        obtain ⟨hs0, h⟩ := hh
        split at h
        · split at h
          · rename_i v2 hv
            exact FrOp.pure h fun s' S hev hrd a K' => by
              unfold opA; simp only [ho]; rw [hev x (by simp [ho, Op.operands])]; simp only [hns]; rw [len_fr (hS hrd) a]
              simp only [hn, hz]
              rw [szOk_fr (hS hrd) a]
              simp only [hs0, cond_true, hv]
          · cases h
        · rename_i y
          split at h
          · rename_i l hl
            obtain ⟨c1, h⟩ := chk_some h
            obtain ⟨c2, h⟩ := chk_some h
            split at h
            · rename_i v2 hv
              exact FrOp.pure h fun s' S hev hrd a K' => by
                unfold opA; simp only [ho]; rw [hev x (by simp [ho, Op.operands])]; simp only [hns]; rw [len_fr (hS hrd) a]
                simp only [hn, hz]
                rw [szOk_fr (hS hrd) a]
                simp only [hs0, cond_true]; rw [elo hev y rfl]; simp only [cond_true, hl, c1, c2, chk, hv]
            · cases h
          · cases h
        · rename_i y
          split at h
          · rename_i l hl
            obtain ⟨c1, h⟩ := chk_some h
            obtain ⟨c2, h⟩ := chk_some h
            split at h
            · rename_i v2 hv
              exact FrOp.pure h fun s' S hev hrd a K' => by
                unfold opA; simp only [ho]; rw [hev x (by simp [ho, Op.operands])]; simp only [hns]; rw [len_fr (hS hrd) a]
                simp only [hn, hz]
                rw [szOk_fr (hS hrd) a]
                simp only [hs0, cond_true]; rw [ehi hev y rfl]; simp only [cond_true, hl, c1, c2, chk, hv]
            · cases h
          · cases h
        · rename_i y z
          split at h
          · rename_i l l' hl hl'
            obtain ⟨c1, h⟩ := chk_some h
            obtain ⟨c2, h⟩ := chk_some h
            obtain ⟨c3, h⟩ := chk_some h
            split at h
            · rename_i v2 hv
              exact FrOp.pure h fun s' S hev hrd a K' => by
                unfold opA; simp only [ho]; rw [hev x (by simp [ho, Op.operands])]; simp only [hns]; rw [len_fr (hS hrd) a]
                simp only [hn, hz]
                rw [szOk_fr (hS hrd) a]
                simp only [hs0, cond_true]; rw [elo hev y rfl, ehi hev z rfl]; simp only [cond_true, hl, hl', c1, c2, c3, chk, hv]
            · cases h
          · cases h
      · cases h
  · rename_i t x f ho
    split at h
    · rename_i fd hf
      obtain ⟨c1, h⟩ := cond_none h
      split at h
      · rename_i u hu
        exact FrOp.pure h fun s' S hev hrd a K' => by
          unfold opA; simp only [ho, hf, c1, cond_true]; rw [hev x (by simp [ho, Op.operands]), fldAddr_fr (fun k hk => hrd k (by simp only [readsA, ho]; exact hk)) a, hu]
      · cases h
    · cases h
  · rename_i t x f ho
    split at h
    · rename_i fd cs hf hx
      split at h
      · rename_i n hl
        obtain ⟨c1, h⟩ := cond_none h
        exact FrOp.pure h fun s' S hev hrd a K' => by
          unfold opA; simp only [ho, hf]; rw [hev x (by simp [ho, Op.operands])]; simp only [hx, hl, c1, cond_true]
      · rename_i n hl
        split at h
        · rename_i u hu
          exact FrOp.pure h fun s' S hev hrd a K' => by
            unfold opA; simp only [ho, hf]; rw [hev x (by simp [ho, Op.operands])]; simp only [hx, hl, hu]
        · cases h
      · cases h
    · cases h
  · rename_i t x i ho
    split at h
    · rename_i sz n len hz hi hl
      obtain ⟨c1, h⟩ := cond_none h
      obtain ⟨c2, h⟩ := chk_some h
      obtain ⟨c3, h⟩ := chk_some h
      split at h
      · rename_i u hu
        exact FrOp.pure h fun s' S hev hrd a K' => by
          have hS : ∀ h ∈ hs (s.ev x), S h := fun k hk => hrd k (by simp only [readsA, ho]; exact hk)
          unfold opA; simp only [ho]; rw [hev x (by simp [ho, Op.operands]), hev i (by simp [ho, Op.operands]), len_fr hS a]
          simp only [hz, hi, hl]
          rw [szOk_fr hS a, idxAddr_fr hS a]
          simp only [c1, c2, c3, cond_true, chk, hu]
      · cases h
    · cases h
  · rename_i t x i ho
    split at h
    · rename_i b n hx hi hu
      obtain ⟨c2, h⟩ := chk_some h
      obtain ⟨c3, h⟩ := chk_some h
      exact FrOp.pure h fun s' S hev hrd a K' => by
        unfold opA; simp only [ho]; rw [hev x (by simp [ho, Op.operands]), hev i (by simp [ho, Op.operands])]
        simp only [hx, hi, hu, c2, c3, cond_true, chk]
    · cases h
  · rename_i x i ho
    split at h
    · rename_i vs hx
      split at h
      · rename_i u hu
        exact FrOp.pure h fun s' S hev hrd a K' => by
          unfold opA; simp only [ho]; rw [hev x (by simp [ho, Op.operands])]; simp only [hx, hu]
      · cases h
    · cases h
  · rename_i c ho
    split at h
    · rename_i b hc
      have hrd0 : ∀ {S : Nat → Prop}, (∀ h ∈ readsA P o s, S h) → ∀ x ∈ c.args.toList, ∀ h ∈ hs (s.ev x), S h := fun hrd x hx k hk => hrd k (by simp only [readsA, ho, hc]; exact List.mem_flatMap.2 ⟨x, hx, hk⟩)
      have hargs : ∀ {s' : St}, (∀ x ∈ o.op.operands, s'.ev x = s.ev x) → c.args.toList.map s'.ev = c.args.toList.map s.ev := fun hev => mapev fun x hx => hev x (call_operands ho x hx)
      unfold builtA at h
      split at h
      · rename_i t x hts has
        obtain ⟨y, hy, rfl⟩ := arr_one has
        split at h
        · rename_i b hx hu
          exact FrOp.pure h fun s' S hev hrd a K' => by
            unfold opA; simp only [ho, hc]; rw [hargs hev, has, hts]; simp only [builtA, hx, hu]
        · rename_i e hne hu
          split at h
          · rename_i n hn
            exact FrOp.pure h fun s' S hev hrd a K' => by
              unfold opA; simp only [ho, hc]; rw [hargs hev, has, hts]; simp only [builtA, hu]
              rw [len_fr (hrd0 hrd y (by simp [hy])) a, hn]
          · cases h
        · cases h
      · rename_i t u x y hts has
        obtain ⟨x', y', hy, rfl, rfl⟩ := arr_two has
        obtain ⟨D, v, h1, h2⟩ := append_fr h
        refine ⟨D, v, h1, fun s' S hev hrd hw a K' => ?_⟩
        unfold opA; simp only [ho, hc]; rw [hargs hev, has, hts]; simp only [builtA]
        exact h2 s' S (hrd0 hrd x' (by simp [hy])) (hrd0 hrd y' (by simp [hy])) hw a K'
      · rename_i k p k' q has
        exact FrOp.pure h fun s' S hev hrd a K' => by
          unfold opA; simp only [ho, hc]; rw [hargs hev, has]; simp only [builtA]
      · rename_i k p k' q has
        exact FrOp.pure h fun s' S hev hrd a K' => by
          unfold opA; simp only [ho, hc]; rw [hargs hev, has]; simp only [builtA]
      · cases h
    · rename_i f hc
      split at h
      · rename_i g caps hf
        obtain ⟨D, u, h1, h2⟩ := callA_fr h
        refine ⟨D, u, h1, fun s' S hev hrd hw a K' => ?_⟩
        unfold opA; simp only [ho, hc]; rw [hev f (call_callee ho hc)]; simp only [hf]
        rw [mapev (l := c.args.toList) fun x hx => hev x (call_operands ho x hx)]
        refine h2 s' S (fun k hk => hrd k ?_) hw a K'
        simp only [readsA, ho, hc, hf]
        simp only [callRd] at hk
        exact hk
      · cases h
    · cases h
  · cases h

end
end Go.AI
end

section
/- A REGION THAT DRAWS ITS ORDER, first part: steps that commute. -/
namespace Go.AI
set_option linter.unusedVariables false
set_option linter.unusedSimpArgs false

/-- two states that read alike -/
structure Ext (s s' : St) : Prop where
  tm : ∀ i, getT s.tm i = getT s'.tm i
  hp : ∀ h, getH s.hp h = getH s'.hp h ∧ hasH s.hp h = hasH s'.hp h

theorem Ext.refl (s : St) : Ext s s := ⟨fun _ => rfl, fun _ => ⟨rfl, rfl⟩⟩
theorem Ext.symm {s s' : St} (h : Ext s s') : Ext s' s := ⟨fun i => (h.tm i).symm, fun k => ⟨(h.hp k).1.symm, (h.hp k).2.symm⟩⟩
theorem Ext.trans {a b c : St} (h : Ext a b) (h' : Ext b c) : Ext a c := ⟨fun i => (h.tm i).trans (h'.tm i), fun k => ⟨(h.hp k).1.trans (h'.hp k).1, (h.hp k).2.trans (h'.hp k).2⟩⟩

/-- a step: its operation, its footprint, what it writes, what it yields -/
structure Stp where
  o : Oper
  f : Foot
  D : List (Nat × Root)
  v : AV

def put1 (tm : List (Nat × AV)) : Option Nat → AV → List (Nat × AV)
  | some d, v => (d, v) :: tm
  | none, _ => tm
theorem getT_put1 {tm tm' : List (Nat × AV)} {d : Option Nat} {v : AV} (h : ∀ i, getT tm i = getT tm' i) (i : Nat) : getT (put1 tm d v) i = getT (put1 tm' d v) i := by
  cases d with
  | none => exact h i
  | some d =>
    simp only [put1]
    by_cases e : i = d
    · subst e; rw [getT_same, getT_same]
    · rw [getT_other _ _ e, getT_other _ _ e]; exact h i

def Stp.ap (x : Stp) (s : St) : St := ⟨put1 s.tm x.o.dst x.v, x.D ++ s.hp⟩

def Stp.Ok (P : Program) (tab : List Ent) (nt : Nat) (ops : Array Oper) (x : Stp) (s : St) : Prop :=
  x.f.dst = x.o.dst.toList ∧ x.f.writes = x.D.map (·.1) ∧ ∀ s' : St, (∀ t ∈ x.f.slots, getT s'.tm t = getT s.tm t) → (∀ h, h ∈ x.f.reads ∨ h ∈ x.f.writes → getH s'.hp h = getH s.hp h ∧ hasH s'.hp h = hasH s.hp h) →
    ∃ s'', (∀ k' : St → R, oneA P tab nt ops x.o s' k' = k' s'') ∧ Ext s'' (x.ap s')

section
variable {P : Program} {tab : List Ent} {nt : Nat} {ops : Array Oper} {r : Res}

theorem wantA_fr {o : Oper} {s : St} {k : Bool → St → R} (h : wantA ops o s k = some r) :
    ∃ wd s1, k wd s1 = some r ∧ s1.hp = s.hp ∧ (∀ i, getT s1.tm i = getT s.tm i) ∧
      ∀ s' : St, (∀ t ∈ (match o.guard with | some (j, _) => dstOf ops j | none => []), getT s'.tm t = getT s.tm t) → ∃ s1', s1'.hp = s'.hp ∧ (∀ i, getT s1'.tm i = getT s'.tm i) ∧ ∀ k' : Bool → St → R, wantA ops o s' k' = k' wd s1' := by
  unfold wantA at h
  split at h
  · rename_i hgd
    exact ⟨true, s, h, rfl, fun _ => rfl, fun s' _ => ⟨s', rfl, fun _ => rfl, fun k' => by unfold wantA; simp only [hgd]⟩⟩
  · rename_i j want hgd
    split at h
    · rename_i oj hj
      split at h
      · rename_i d hd
        split at h
        · rename_i b hb
          have hset : ∀ (s : St), getT s.tm d = .val (.bool b) → ∀ i, getT (s.setT d (.val (.bool b))).tm i = getT s.tm i := by
            intro s hs i
            by_cases e : i = d
            · subst e; rw [show (s.setT i (.val (.bool b))).tm = (i, .val (.bool b)) :: s.tm from rfl, getT_same, hs]
            · rw [show (s.setT d (.val (.bool b))).tm = (d, .val (.bool b)) :: s.tm from rfl, getT_other _ _ e]
          have hget : ∀ s' : St, (∀ t ∈ (match o.guard with | some (j, _) => dstOf ops j | none => []), getT s'.tm t = getT s.tm t) → getT s'.tm d = .val (.bool b) := by
            intro s' hs'
            rw [hs' d (by simp [hgd, dstOf, hj, hd]), hb]
          cases b with
          | true =>
            rw [cond_true] at h
            refine ⟨want, s.setT d (.val (.bool true)), h, rfl, hset s hb, fun s' hs' => ⟨s'.setT d (.val (.bool true)), rfl, hset s' (hget s' hs'), fun k' => ?_⟩⟩
            unfold wantA; simp only [hgd, hj, hd, hget s' hs']; rfl
          | false =>
            rw [cond_false] at h
            refine ⟨!want, s.setT d (.val (.bool false)), h, rfl, hset s hb, fun s' hs' => ⟨s'.setT d (.val (.bool false)), rfl, hset s' (hget s' hs'), fun k' => ?_⟩⟩
            unfold wantA; simp only [hgd, hj, hd, hget s' hs']; rfl
        · rename_i hb
          refine ⟨false, s, h, rfl, fun _ => rfl, fun s' hs' => ⟨s', rfl, fun _ => rfl, fun k' => ?_⟩⟩
          have hget : getT s'.tm d = .tup [] := by rw [hs' d (by simp [hgd, dstOf, hj, hd]), hb]
          unfold wantA; simp only [hgd, hj, hd, hget]
        · cases h
      · cases h
    · cases h

theorem putK_det {s : St} {d : Option Nat} {v : AV} {k : St → R} (h : s.putK nt d v k = some r) :
    k ⟨put1 s.tm d v, s.hp⟩ = some r ∧ ∀ (s' : St) (k' : St → R), s'.putK nt d v k' = k' ⟨put1 s'.tm d v, s'.hp⟩ := by
  cases d with
  | none => exact ⟨h, fun s' k' => rfl⟩
  | some d =>
    simp only [St.putK] at h
    obtain ⟨c, h⟩ := cond_none h
    exact ⟨h, fun s' k' => by simp only [St.putK, c, cond_true]; rfl⟩

theorem oneD_ok {o : Oper} {s : St} {k : Foot → St → R} (h : oneD P tab nt ops o s k = some r) :
    ∃ x : Stp, x.o = o ∧ x.Ok P tab nt ops s ∧ ∃ s1, k x.f s1 = some r ∧ Ext s1 (x.ap s) := by
  unfold oneD at h
  obtain ⟨wd, s1, h1, hhp, htm, hf⟩ := wantA_fr h
  cases wd with
  | true =>
    rw [cond_true] at h1
    obtain ⟨D, v, h2, hop⟩ := opA_fr h1
    obtain ⟨h3, hput⟩ := putK_det h2
    have hw : wroteA s1 ⟨s1.tm, D ++ s1.hp⟩ = D.map (·.1) := by simp [wroteA]
    rw [hw] at h3
    refine ⟨⟨o, ⟨o.dst.toList, slotsR ops o, readsA P o s1, D.map (·.1)⟩, D, v⟩, rfl, ⟨rfl, rfl, fun s' hs' ha => ?_⟩, _, h3, ?_⟩
    · simp only at hs' ha
      obtain ⟨s1', e1, e2, e3⟩ := hf s' (fun t ht => hs' t (List.mem_append_right _ ht))
      refine ⟨⟨put1 s1'.tm o.dst v, D ++ s1'.hp⟩, fun k' => ?_, ?_⟩
      · unfold oneA
        simp only
        rw [e3, cond_true]
        rw [hop s1' (fun h => h ∈ readsA P o s1 ∨ h ∈ D.map (·.1)) (ev_fr fun t ht => by rw [e2, htm]; exact hs' t (List.mem_append_left _ ht)) (fun h hh => .inl hh) ?_ ?_]
        · exact hput _ _
        · intro h hh
          right
          have : ∀ (D : List (Nat × Root)), hasH D h = true → h ∈ D.map (·.1) := by
            intro D
            induction D with
            | nil => intro hh; cases hh
            | cons p D ih =>
              intro hh
              simp only [hasH, Bool.or_eq_true] at hh
              rcases hh with hh | hh
              · simp [Nat.eq_of_beq_eq_true hh]
              · simp only [List.map_cons, List.mem_cons]; exact .inr (ih hh)
          exact this D hh
        · intro h hh
          rw [e1, hhp]; exact ha h hh
      · refine ⟨fun i => ?_, fun h => ?_⟩
        · exact getT_put1 e2 i
        · simp [Stp.ap, e1]
    · refine ⟨fun i => ?_, fun h => ?_⟩
      · exact getT_put1 htm i
      · simp [Stp.ap, hhp]
  | false =>
    rw [cond_false] at h1
    obtain ⟨h3, hput⟩ := putK_det h1
    refine ⟨⟨o, ⟨o.dst.toList, slotsR ops o, [], []⟩, [], .tup []⟩, rfl, ⟨rfl, rfl, fun s' hs' ha => ?_⟩, _, h3, ?_⟩
    · simp only at hs'
      obtain ⟨s1', e1, e2, e3⟩ := hf s' (fun t ht => hs' t (List.mem_append_right _ ht))
      refine ⟨⟨put1 s1'.tm o.dst (.tup []), s1'.hp⟩, fun k' => ?_, ?_⟩
      · unfold oneA
        simp only
        rw [e3, cond_false]
        exact hput _ _
      · refine ⟨fun i => ?_, fun h => ?_⟩
        · exact getT_put1 e2 i
        · simp [Stp.ap, e1]
    · refine ⟨fun i => ?_, fun h => ?_⟩
      · exact getT_put1 htm i
      · simp [Stp.ap, hhp]

/-! ### steps one behind the other -/

def Tr (P : Program) (tab : List Ent) (nt : Nat) (ops : Array Oper) : St → List Stp → St → Prop
  | s, [], e => Ext s e
  | s, x :: xs, e => x.Ok P tab nt ops s ∧ Tr P tab nt ops (x.ap s) xs e

theorem Stp.ap_ext {x : Stp} {s s' : St} (h : Ext s s') : Ext (x.ap s) (x.ap s') := by
  refine ⟨fun i => ?_, fun k => ?_⟩
  · exact getT_put1 h.tm i
  · simp [Stp.ap, getH_append, hasH_append, (h.hp k).1, (h.hp k).2]

theorem Stp.Ok.move {x : Stp} {s s2 : St} (h : x.Ok P tab nt ops s) (h1 : ∀ t ∈ x.f.slots, getT s2.tm t = getT s.tm t) (h2 : ∀ k, k ∈ x.f.reads ∨ k ∈ x.f.writes → getH s2.hp k = getH s.hp k ∧ hasH s2.hp k = hasH s.hp k) : x.Ok P tab nt ops s2 := by
  obtain ⟨q1, q2, q3⟩ := h
  refine ⟨q1, q2, fun s' a b => q3 s' (fun t ht => (a t ht).trans (h1 t ht)) fun k hk => ⟨(b k hk).1.trans (h2 k hk).1, (b k hk).2.trans (h2 k hk).2⟩⟩

theorem Tr.ext : ∀ {xs : List Stp} {s s' e : St}, Tr P tab nt ops s xs e → Ext s s' → Tr P tab nt ops s' xs e
  | [], s, s', e, h, x => x.symm.trans h
  | y :: ys, s, s', e, h, x => ⟨h.1.move (fun t _ => (x.tm t).symm) (fun k _ => ⟨(x.hp k).1.symm, (x.hp k).2.symm⟩), Tr.ext h.2 (Stp.ap_ext x)⟩

theorem opsD_ok : ∀ {os : List Oper} {acc : List Foot} {s : St} {k : List Foot → St → R}, opsD P tab nt ops os acc s k = some r →
    ∃ xs e, xs.map (·.o) = os ∧ Tr P tab nt ops s xs e ∧ k (acc ++ xs.map (·.f)) e = some r
  | [], acc, s, k, h => ⟨[], s, rfl, Ext.refl s, by simp only [opsD] at h; simpa using h⟩
  | o :: os, acc, s, k, h => by
    simp only [opsD] at h
    obtain ⟨x, rfl, hx, s1, h1, hext⟩ := oneD_ok h
    obtain ⟨xs, e, q1, q2, q3⟩ := opsD_ok h1
    exact ⟨x :: xs, e, by simp [q1], ⟨hx, q2.ext hext⟩, by simpa using q3⟩

theorem meetN_false {a b : List Nat} (h : meetN a b = false) : ∀ x ∈ a, x ∉ b := by
  intro x hx hb
  have := any_false h x hx
  rw [memN_iff.2 hb] at this
  cases this

theorem hasH_keys {D : List (Nat × Root)} {h : Nat} : hasH D h = true ↔ h ∈ D.map (·.1) := by
  induction D with
  | nil => simp [hasH]
  | cons p D ih =>
    simp only [hasH, Bool.or_eq_true, ih, List.map_cons, List.mem_cons]
    constructor
    · rintro (hh | hh)
      · exact .inl (Nat.eq_of_beq_eq_true hh).symm
      · exact .inr hh
    · rintro (hh | hh)
      · left; rw [hh]; exact Nat.beq_refl _
      · exact .inr hh

structure Apart (a b : Foot) : Prop where
  dd : ∀ x ∈ a.dst, x ∉ b.dst
  ds : ∀ x ∈ a.dst, x ∉ b.slots
  sd : ∀ x ∈ b.dst, x ∉ a.slots
  ww : ∀ x ∈ a.writes, x ∉ b.writes
  wr : ∀ x ∈ a.writes, x ∉ b.reads
  rw_ : ∀ x ∈ b.writes, x ∉ a.reads

theorem apart_ok {a b : Foot} (h : apart a b = true) : Apart a b := by
  unfold apart at h
  simp only [Bool.not_eq_true', Bool.or_eq_false_iff] at h
  obtain ⟨⟨⟨⟨⟨h1, h2⟩, h3⟩, h4⟩, h5⟩, h6⟩ := h
  exact ⟨meetN_false h1, meetN_false h2, meetN_false h3, meetN_false h4, meetN_false h5, meetN_false h6⟩

theorem Stp.getT_ap {x : Stp} {s : St} {t : Nat} (h : t ∉ x.o.dst.toList) : getT (x.ap s).tm t = getT s.tm t := by
  simp only [Stp.ap]
  cases hd : x.o.dst with
  | none => simp only [put1]
  | some d => rw [hd] at h; simp at h; simp only [put1]; exact getT_other _ _ h
theorem Stp.getH_ap {x : Stp} {s : St} {k : Nat} (h : k ∉ x.D.map (·.1)) : getH (x.ap s).hp k = getH s.hp k ∧ hasH (x.ap s).hp k = hasH s.hp k := by
  have : hasH x.D k = false := by
    cases hb : hasH x.D k with
    | false => rfl
    | true => exact absurd (hasH_keys.1 hb) h
  simp [Stp.ap, getH_append, hasH_append, this]

theorem Tr.swap {x y : Stp} {zs : List Stp} {s e : St} (h : Tr P tab nt ops s (x :: y :: zs) e) (hap : Apart x.f y.f) : Tr P tab nt ops s (y :: x :: zs) e := by
  obtain ⟨hx, hy, hz⟩ := h
  have xd := hx.1; have xw := hx.2.1; have yd := hy.1; have yw := hy.2.1
  refine ⟨hy.move ?_ ?_, hx.move ?_ ?_, hz.ext ?_⟩
  · intro t ht
    refine (Stp.getT_ap fun hd => ?_).symm
    rw [← xd] at hd
    exact hap.ds t hd ht
  · intro k hk
    have := Stp.getH_ap (x := x) (s := s) (k := k) fun hw => by
      rw [← xw] at hw
      rcases hk with hk | hk
      · exact hap.wr k hw hk
      · exact hap.ww k hw hk
    exact ⟨this.1.symm, this.2.symm⟩
  · intro t ht
    refine Stp.getT_ap fun hd => ?_
    rw [← yd] at hd
    exact hap.sd t hd ht
  · intro k hk
    refine Stp.getH_ap fun hw => ?_
    rw [← yw] at hw
    rcases hk with hk | hk
    · exact hap.rw_ k hw hk
    · exact hap.ww k hk hw
  · refine ⟨fun i => ?_, fun k => ?_⟩
    · by_cases h1 : i ∈ x.o.dst.toList
      · have h2 : i ∉ y.o.dst.toList := by rw [← xd] at h1; rw [← yd]; exact hap.dd i h1
        rw [Stp.getT_ap h2]
        simp only [Stp.ap]
        cases hd : x.o.dst with
        | none => rw [hd] at h1; simp at h1
        | some d => rw [hd] at h1; simp at h1; subst h1; simp only [put1]; rw [getT_same, getT_same]
      · rw [Stp.getT_ap (x := x) h1]
        by_cases h2 : i ∈ y.o.dst.toList
        · simp only [Stp.ap]
          cases hd : y.o.dst with
          | none => rw [hd] at h2; simp at h2
          | some d => rw [hd] at h2; simp at h2; subst h2; simp only [put1]; rw [getT_same, getT_same]
        · rw [Stp.getT_ap h2, Stp.getT_ap h2, Stp.getT_ap h1]
    · by_cases h1 : hasH x.D k = true
      · have h2 : hasH y.D k = false := by
          cases hb : hasH y.D k with
          | false => rfl
          | true =>
            have a1 := hasH_keys.1 h1; have a2 := hasH_keys.1 hb
            rw [← xw] at a1; rw [← yw] at a2
            exact absurd a2 (hap.ww k a1)
        simp [Stp.ap, getH_append, hasH_append, h1, h2]
      · have h1 : hasH x.D k = false := by cases hb : hasH x.D k with | false => rfl | true => exact absurd hb h1
        simp [Stp.ap, getH_append, hasH_append, h1]

theorem Tr.front {x : Stp} {zs : List Stp} {e : St} : ∀ {pre : List Stp} {s : St}, Tr P tab nt ops s (pre ++ x :: zs) e → (∀ y ∈ pre, Apart y.f x.f) → Tr P tab nt ops s (x :: (pre ++ zs)) e
  | [], s, h, _ => h
  | y :: pre, s, h, ha => by
    have h2 : Tr P tab nt ops s (y :: x :: (pre ++ zs)) e := ⟨h.1, Tr.front h.2 fun z hz => ha z (by simp [hz])⟩
    exact h2.swap (ha y (by simp))

end
end Go.AI
end

section
/- A REGION THAT DRAWS ITS ORDER, second part: any order that the edges allow. -/
namespace Go.AI
set_option linter.unusedVariables false
set_option linter.unusedSimpArgs false

theorem Sees.ext {A : Env} {keep nt : Nat} {ds : List Deferred} {s s' : St} {a : Act} {w : World} (h : Sees A keep nt ds s a w) (x : Ext s s') : Sees A keep nt ds s' a w := by
  obtain ⟨⟨m, I, hg⟩, hs, hd⟩ := h
  have G : Grows ⟨w, m, s.hp, I⟩ ⟨w, m, s'.hp, I⟩ := ⟨fun _ _ => rfl, fun _ h => h, fun k hk => by rw [← (x.hp k).2]; exact hk, fun k _ => by simp only [(x.hp k).1]; exact fits_refl _, fun _ _ _ => rfl, fun _ => Nat.le_refl _⟩
  refine ⟨⟨m, I, ⟨?_, ?_, hg.heap.lt⟩, ?_, ?_⟩, hs, hd⟩
  · intro k
    simp only [← (x.hp k).1]
    exact rootOk_mono G rfl (fun ho b o hm => ⟨rfl, (hg.heap.own_lt (b := b) ⟨k, o, ho, hm⟩).2⟩) (hg.heap.root k)
  · intro k k' b o o' h1 h2 h3 h4
    simp only [← (x.hp k).1] at h1
    simp only [← (x.hp k').1] at h2
    exact hg.heap.inj k k' b o o' h1 h2 h3 h4
  · intro i
    rw [← x.tm i]
    exact relV_mono G (hg.tm i)
  · have a0 := hg.hist
    refine ⟨a0.old, a0.sz, ?_, a0.imm, a0.sub, ?_, ?_, ?_, a0.os, a0.tape, a0.output, a0.bsz⟩
    · rintro b ⟨k, o, h1, h2⟩
      simp only [← (x.hp k).1] at h1
      exact a0.own b ⟨k, o, h1, h2⟩
    · intro k hk; simp only [← (x.hp k).1]; exact a0.fit k hk
    · intro k hk hne; simp only [← (x.hp k).1] at hne; exact a0.map k hk hne
    · intro k hk; simp only [← (x.hp k).2]; exact a0.has k hk

theorem Sees.drawn {A : Env} {keep nt : Nat} {ds : List Deferred} {s : St} {a : Act} {w : World} (h : Sees A keep nt ds s a w) : Sees A keep nt ds s a { w with drawn := w.drawn + 1 } := by
  obtain ⟨⟨m, I, hg⟩, hs, hd⟩ := h
  have G : Grows ⟨w, m, s.hp, I⟩ ⟨{ w with drawn := w.drawn + 1 }, m, s.hp, I⟩ := ⟨fun _ _ => rfl, fun _ h => h, fun k hk => hk, fun k _ => fits_refl _, fun _ _ _ => rfl, fun _ => Nat.le_refl _⟩
  refine ⟨⟨m, I, ⟨?_, hg.heap.inj, hg.heap.lt⟩, fun i => relV_mono G (hg.tm i), ?_⟩, hs, hd⟩
  · intro k
    exact rootOk_mono G rfl (fun ho b o hm => ⟨rfl, (hg.heap.own_lt (b := b) ⟨k, o, ho, hm⟩).2⟩) (hg.heap.root k)
  · have a0 := hg.hist
    exact ⟨a0.old, a0.sz, a0.own, a0.imm, a0.sub, a0.fit, a0.map, a0.has, a0.os, a0.tape, a0.output, a0.bsz⟩

/-! ### edges -/

def isAny (e : Edge) : Bool := match e.ground with
  | .textOnly _ | .gcOnly _ => false
  | _ => true

theorem isAny_binds {e : Edge} (h : isAny e = true) (md : Region.Mode) : Region.binds md e = true := by
  unfold isAny at h
  unfold Region.binds
  split at h
  · cases h
  · cases h
  · rename_i h1 h2
    split
    · rename_i r hr; exact absurd hr (h1 r)
    · rename_i r hr; exact absurd hr (h2 r)
    · rfl

theorem edgesFor_ok {md : Region.Mode} {n : Nat} {pos : Nat → Nat} : ∀ {os : List Oper} {i : Nat}, edgesFor md n pos i os = true →
    ∀ (k : Nat) (o : Oper), os[k]? = some o → ∀ e ∈ o.after, Region.binds md e = true → e.on < n ∧ pos e.on < pos (i + k)
  | [], i, _, k, o, ho, _, _, _ => by simp at ho
  | x :: os, i, h, k, o, ho, e, he, hb => by
    simp only [edgesFor, Bool.and_eq_true] at h
    cases k with
    | zero =>
      simp at ho; subst ho
      have := List.all_eq_true.1 h.1 e (by simpa using he)
      rw [hb] at this
      simp only [Bool.not_true, Bool.false_or, Bool.and_eq_true] at this
      exact ⟨Nat.le_of_ble_eq_true this.1, Nat.le_of_ble_eq_true this.2⟩
    | succ k =>
      rw [List.getElem?_cons_succ] at ho
      have := edgesFor_ok h.2 k o ho e he hb
      rwa [show i + 1 + k = i + (k + 1) by omega] at this

theorem beforeA_acc : ∀ (os : List Oper) (acc : List Nat), (∀ i, i < acc.length → (beforeA os acc).getD i 0 = acc.getD i 0) ∧ (beforeA os acc).length = acc.length + os.length
  | [], acc => ⟨fun i _ => rfl, by simp [beforeA]⟩
  | o :: os, acc => by
    simp only [beforeA]
    obtain ⟨h1, h2⟩ := beforeA_acc os (acc ++ [o.after.toList.foldl (bitE acc) 0])
    refine ⟨fun i hi => ?_, by rw [h2]; simp; omega⟩
    rw [h1 i (by simp; omega)]
    simp only [List.getD_eq_getElem?_getD, List.getElem?_append_left hi]

theorem fold_bits {acc : List Nat} {y : Nat} : ∀ (es : List Edge) (b : Nat), (es.foldl (bitE acc) b).testBit y = true → b.testBit y = true ∨ ∃ e ∈ es, isAny e = true ∧ (y = e.on ∨ (acc.getD e.on 0).testBit y = true)
  | [], b, h => .inl h
  | e :: es, b, h => by
    simp only [List.foldl_cons] at h
    rcases fold_bits es _ h with h1 | ⟨e', he', h2⟩
    · cases hg : isAny e with
      | false =>
        left
        unfold isAny at hg
        split at hg
        · rename_i q; simp only [bitE, q] at h1; exact h1
        · rename_i q; simp only [bitE, q] at h1; exact h1
        · cases hg
      | true =>
        have h1' : (b ||| (2 ^ e.on) ||| acc.getD e.on 0).testBit y = true := by
          unfold isAny at hg
          split at hg
          · cases hg
          · cases hg
          · rename_i q1 q2
            unfold bitE at h1
            split at h1
            · rename_i r hr; exact absurd hr (q1 r)
            · rename_i r hr; exact absurd hr (q2 r)
            · exact h1
        rw [Nat.testBit_or, Nat.testBit_or, Bool.or_eq_true, Bool.or_eq_true, Nat.testBit_two_pow] at h1'
        rcases h1' with (h1' | h1') | h1'
        · exact .inl h1'
        · exact .inr ⟨e, by simp, hg, .inl (by simpa using h1' : e.on = y).symm⟩
        · exact .inr ⟨e, by simp, hg, .inr h1'⟩
    · exact .inr ⟨e', by simp [he'], h2⟩

theorem beforeA_bits : ∀ (os : List Oper) (acc : List Nat) (k : Nat) (o : Oper) (y : Nat), os[k]? = some o → ((beforeA os acc).getD (acc.length + k) 0).testBit y = true →
    ∃ e ∈ o.after, isAny e = true ∧ (y = e.on ∨ (e.on < acc.length + k ∧ ((beforeA os acc).getD e.on 0).testBit y = true))
  | [], acc, k, o, y, ho, _ => by simp at ho
  | x :: os, acc, k, o, y, ho, hb => by
    simp only [beforeA] at hb ⊢
    generalize hv : x.after.toList.foldl (bitE acc) 0 = v at hb ⊢
    cases k with
    | zero =>
      simp at ho; subst ho
      have h1 := (beforeA_acc os (acc ++ [v])).1 acc.length (by simp)
      rw [Nat.add_zero, h1] at hb
      simp only [List.getD_eq_getElem?_getD, List.getElem?_concat_length, Option.getD_some] at hb
      rw [← hv] at hb
      rcases fold_bits _ _ hb with h2 | ⟨e, he, h2, h3⟩
      · simp at h2
      · refine ⟨e, by simpa using he, h2, ?_⟩
        rcases h3 with h3 | h3
        · exact .inl h3
        · right
          have hlt : e.on < acc.length := by
            rcases Nat.lt_or_ge e.on acc.length with h | h
            · exact h
            · simp [List.getD_eq_getElem?_getD, List.getElem?_eq_none h] at h3
          refine ⟨by omega, ?_⟩
          rw [(beforeA_acc os (acc ++ [v])).1 e.on (by simp; omega)]
          simp only [List.getD_eq_getElem?_getD, List.getElem?_append_left hlt] at h3 ⊢
          exact h3
    | succ k =>
      rw [List.getElem?_cons_succ] at ho
      have := beforeA_bits os (acc ++ [v]) k o y ho (by simpa [Nat.add_assoc, Nat.add_comm 1 k] using hb)
      obtain ⟨e, he, h2, h3⟩ := this
      refine ⟨e, he, h2, h3.imp id fun h => ⟨?_, h.2⟩⟩
      have := h.1
      simp at this; omega

theorem freeOf_ok {i : Nat} {f : Foot} : ∀ {bs : List Nat} {fs : List Foot}, freeOf i f bs fs = true → ∀ (k : Nat) (b : Nat) (g : Foot), bs[k]? = some b → fs[k]? = some g → b.testBit i = true ∨ apart f g = true
  | [], fs, _, k, b, g, hb, _ => by simp at hb
  | b0 :: bs, [], _, k, b, g, _, hg => by simp at hg
  | b0 :: bs, g0 :: fs, h, k, b, g, hb, hg => by
    simp only [freeOf, Bool.and_eq_true, Bool.or_eq_true] at h
    cases k with
    | zero => simp at hb hg; subst hb hg; exact h.1
    | succ k => rw [List.getElem?_cons_succ] at hb hg; exact freeOf_ok h.2 k b g hb hg

theorem allFree_ok : ∀ {i : Nat} {bs : List Nat} {fs : List Foot}, allFree i bs fs = true → ∀ (a c : Nat) (b : Nat) (f g : Foot), a < c → fs[a]? = some f → bs[c]? = some b → fs[c]? = some g → b.testBit (i + a) = true ∨ apart f g = true
  | i, [], fs, _, a, c, b, f, g, _, _, hb, _ => by simp at hb
  | i, b0 :: bs, [], _, a, c, b, f, g, _, hf, _, _ => by simp at hf
  | i, b0 :: bs, f0 :: fs, h, a, c, b, f, g, hac, hf, hb, hg => by
    simp only [allFree, Bool.and_eq_true] at h
    cases c with
    | zero => omega
    | succ c =>
      rw [List.getElem?_cons_succ] at hb hg
      cases a with
      | zero => simp at hf; subst hf; exact freeOf_ok h.1 c b g hb hg
      | succ a =>
        rw [List.getElem?_cons_succ] at hf
        have := allFree_ok h.2 a c b f g (by omega) hf hb hg
        rwa [show i + 1 + a = i + (a + 1) by omega] at this

/-! ### any order -/

def unl (n : Nat) (listed : Array Bool) : List Nat := (List.range n).filter fun i => !listed.getD i true

theorem mem_unl {n : Nat} {listed : Array Bool} {i : Nat} : i ∈ unl n listed ↔ i < n ∧ listed.getD i true = false := by
  unfold unl; rw [List.mem_filter, List.mem_range]; simp

theorem unl_take {n : Nat} {listed : Array Bool} {j : Nat} (hj : j ∈ unl n listed) (hsz : listed.size = n) :
    ∃ pre post, unl n listed = pre ++ j :: post ∧ unl n (listed.setIfInBounds j true) = pre ++ post ∧ ∀ i ∈ pre, i < j := by
  obtain ⟨pre, post, he⟩ := List.append_of_mem hj
  have hsort : (unl n listed).Pairwise (· < ·) := List.Pairwise.filter _ List.pairwise_lt_range
  rw [he, List.pairwise_append] at hsort
  obtain ⟨s1, s2, s3⟩ := hsort
  have s4 := (List.pairwise_cons.1 s2).1
  refine ⟨pre, post, he, ?_, fun i hi => s3 i hi j (by simp)⟩
  have hjn := (mem_unl.1 hj).1
  have hf : unl n (listed.setIfInBounds j true) = (unl n listed).filter fun i => decide (i ≠ j) := by
    unfold unl
    rw [List.filter_filter]
    refine List.filter_congr fun i hi => ?_
    by_cases e : i = j
    · subst e; simp [hsz, hjn]
    · rw [getD_set_ne true (Ne.symm e)]; simp [e]
  rw [hf, he, List.filter_append, List.filter_cons_of_neg (by simp)]
  have h1 : pre.filter (fun i => decide (i ≠ j)) = pre := List.filter_eq_self.2 fun i hi => by have := s3 i hi j (by simp); simp; omega
  have h2 : post.filter (fun i => decide (i ≠ j)) = post := List.filter_eq_self.2 fun i hi => by have := s4 i hi; simp; omega
  rw [h1, h2]

section
variable {P : Program} {A : Env} {keep nt : Nat} {ds : List Deferred} {tab : List Ent} {ops : Array Oper} {r : Res}

/-- what has been listed is closed under the edges that bind in every mode -/
def Closed (ops : Array Oper) (listed : Array Bool) : Prop := ∀ (j : Nat) (o : Oper), ops[j]? = some o → listed.getD j false = true → ∀ e ∈ o.after, isAny e = true → listed.getD e.on false = true

theorem before_listed {listed : Array Bool} (hc : Closed ops listed) : ∀ (n j : Nat), j < n → ∀ (o : Oper) (y : Nat), ops[j]? = some o → (∀ e ∈ o.after, isAny e = true → listed.getD e.on false = true) → ((beforeA ops.toList []).getD j 0).testBit y = true → listed.getD y false = true := by
  intro n
  induction n with
  | zero => intro j hj; omega
  | succ n ih =>
    intro j hj o y ho he hb
    obtain ⟨e, h1, h2, h3⟩ := beforeA_bits ops.toList [] j o y (by simpa using ho) (by simpa using hb)
    have hl := he e h1 h2
    rcases h3 with rfl | ⟨h3, h4⟩
    · exact hl
    · have hlt : e.on < j := by simpa using h3
      have hjs := (Array.getElem?_eq_some_iff.1 ho).1
      have he' : ops[e.on]? = some ops[e.on] := Array.getElem?_eq_getElem (by omega)
      exact ih e.on (by omega) _ y he' (fun e' h5 h6 => hc e.on _ he' hl e' h5 h6) h4

open Classical in
theorem any_order (ht : ∀ e ∈ tab, Sound P e.f e.S) {md : Region.Mode} {pos : Nat → Nat} (hpos : ∀ (k : Nat) (o : Oper), ops[k]? = some o → ∀ e ∈ o.after, Region.binds md e = true → e.on < ops.size ∧ pos e.on < pos k)
    {F : Nat → Stp} (hF : ∀ i, i < ops.size → ops[i]? = some (F i).o) (hap : ∀ a c, a < c → c < ops.size → ((beforeA ops.toList []).getD c 0).testBit a = true ∨ apart (F a).f (F c).f = true)
    {Q : Exit → Act → World → Prop} {e : St} (hQ : ∀ a' w', Sees A keep nt ds e a' w' → Q .normal a' w') :
    ∀ (fuel : Nat) (listed : Array Bool) (s : St) (a : Act) (w : World), fuel = (unl ops.size listed).length → listed.size = ops.size → Closed ops listed → Tr P tab nt ops s ((unl ops.size listed).map F) e → Sees A keep nt ds s a w →
      wpAny P md ops Q fuel listed a w := by
  have complete : ∀ (listed : Array Bool), listed.size = ops.size → Region.ready md ops listed = [] → unl ops.size listed = [] := by
    intro listed hsz hr
    have key : ∀ (n i : Nat), pos i < n → i ∈ unl ops.size listed → False := by
      intro n
      induction n with
      | zero => intro i h; omega
      | succ n ih =>
        intro i hi hmem
        obtain ⟨hin, hun⟩ := mem_unl.1 hmem
        have ho : ops[i]? = some ops[i] := Array.getElem?_eq_getElem hin
        have : i ∈ Region.ready md ops listed := by
          rw [mem_ready]
          refine ⟨hun, _, ho, fun ed hed hb => ?_⟩
          obtain ⟨h1, h2⟩ := hpos i _ ho ed hed hb
          cases hl : listed.getD ed.on false with
          | true => rfl
          | false =>
            have hl' : listed.getD ed.on true = false := by
              have hlt : ed.on < listed.size := by omega
              simp [hlt] at hl ⊢; exact hl
            exact (ih ed.on (by omega) (mem_unl.2 ⟨h1, hl'⟩)).elim
        rw [hr] at this; cases this
    cases hu : unl ops.size listed with
    | nil => rfl
    | cons i l => exact (key (pos i + 1) i (by omega) (by rw [hu]; simp)).elim
  intro fuel
  induction fuel with
  | zero =>
    intro listed s a w hl hsz hc htr hs
    have hnil : unl ops.size listed = [] := List.length_eq_zero_iff.1 hl.symm
    refine ⟨?_, ?_⟩
    · cases hr : Region.ready md ops listed with
      | nil => rfl
      | cons i l =>
        have : i ∈ Region.ready md ops listed := by rw [hr]; simp
        obtain ⟨h1, o, h2, _⟩ := mem_ready.1 this
        have := mem_unl.2 ⟨(Array.getElem?_eq_some_iff.1 h2).1, h1⟩
        rw [hnil] at this; cases this
    · rw [hnil] at htr
      exact hQ _ _ (hs.ext htr)
  | succ fuel ih =>
    intro listed s a w hl hsz hc htr hs
    refine ⟨fun hr => ?_, fun j hj => ?_⟩
    · rw [complete listed hsz hr] at hl; simp at hl
    · obtain ⟨hun, o, ho, hed⟩ := mem_ready.1 hj
      have hjn := (Array.getElem?_eq_some_iff.1 ho).1
      obtain ⟨pre, post, e1, e2, e3⟩ := unl_take (mem_unl.2 ⟨hjn, hun⟩) hsz
      have hoF := hF j hjn
      have htr' : Tr P tab nt ops s (F j :: (pre.map F ++ post.map F)) e := by
        refine Tr.front ?_ ?_
        · rw [e1] at htr; simpa using htr
        · intro y hy
          obtain ⟨i, hi, rfl⟩ := List.mem_map.1 hy
          refine apart_ok ?_
          rcases hap i j (e3 i hi) hjn with h | h
          · have := before_listed hc (j + 1) j (by omega) o i ho (fun ed h1 h2 => hed ed h1 (isAny_binds h2 md)) h
            have hi' : i ∈ unl ops.size listed := by rw [e1]; simp [hi]
            obtain ⟨h3, h4⟩ := mem_unl.1 hi'
            have hlt : i < listed.size := by omega
            simp [hlt] at this h4; rw [this] at h4; cases h4
          · exact h
      obtain ⟨hok, htail⟩ := htr'
      obtain ⟨s'', hdet, hext⟩ := hok.2.2 s (fun _ _ => rfl) (fun _ _ => ⟨rfl, rfl⟩)
      refine oneA_ok (r := (.any, [])) (s := s) (o := (F j).o) ht hoF (k := fun s1 => if s1 = s'' then some (.any, []) else none) (by rw [hdet]; simp) hs Q _ ?_
      intro s1 hs1 a' w' hsees
      have : s1 = s'' := by
        by_cases h : s1 = s''
        · exact h
        · simp [h] at hs1
      subst this
      refine ih (listed.setIfInBounds j true) ((F j).ap s) a' w' ?_ (by simpa using hsz) ?_ ?_ (hsees.ext hext)
      · rw [e1] at hl; rw [e2]; simp at hl ⊢; omega
      · intro j' o' ho' hl' ed h1 h2
        by_cases e : j' = j
        · subst e
          rw [ho] at ho'; cases ho'
          exact getD_set_true (hed ed h1 (isAny_binds h2 md))
        · rw [getD_set_ne false (Ne.symm e)] at hl'
          exact getD_set_true (hc j' o' ho' hl' ed h1 h2)
      · rw [e2, List.map_append]; exact htail

theorem drawA_ok (ht : ∀ e ∈ tab, Sound P e.f e.S) {s : St} {a : Act} {w : World} {k : St → R} (Q : Exit → Act → World → Prop) (h : drawA P tab nt ops s k = some r) (hg : Sees A keep nt ds s a w)
    (hQ : ∀ s1, k s1 = some r → ∀ a' w', Sees A keep nt ds s1 a' w' → Q .normal a' w') (mixed : Bool) (t : Nat) : wpOps P ops Q (Region.schedule mixed ops t) a { w with drawn := w.drawn + 1 } := by
  unfold drawA at h
  obtain ⟨hed, h⟩ := cond_none h
  obtain ⟨xs, e, q1, q2, q3⟩ := opsD_ok h
  obtain ⟨hfree, q3⟩ := cond_none q3
  simp only [List.nil_append] at hfree
  let F : Nat → Stp := fun i => xs.getD i ⟨default, ⟨[], [], [], []⟩, [], .any⟩
  have hlen : xs.length = ops.size := by have := congrArg List.length q1; simpa using this
  have hFx : ∀ i, (hi : i < xs.length) → F i = xs[i] := fun i hi => by simp [F, hi]
  have hF : ∀ i, i < ops.size → ops[i]? = some (F i).o := by
    intro i hi
    rw [hFx i (by omega)]
    have := congrArg (fun l => l[i]?) q1
    simp only [List.getElem?_map] at this
    rw [List.getElem?_eq_getElem (by omega)] at this
    simpa using this.symm
  have hap : ∀ a c, a < c → c < ops.size → ((beforeA ops.toList []).getD c 0).testBit a = true ∨ apart (F a).f (F c).f = true := by
    intro a c hac hc
    have hbl := (beforeA_acc ops.toList []).2
    simp at hbl
    have := allFree_ok hfree a c ((beforeA ops.toList []).getD c 0) (F a).f (F c).f hac (by rw [hFx a (by omega)]; simp [show a < xs.length by omega]) (by simp [List.getD_eq_getElem?_getD, List.getElem?_eq_getElem (show c < (beforeA ops.toList []).length by omega)]) (by rw [hFx c (by omega)]; simp [show c < xs.length by omega])
    simpa using this
  have hall : unl ops.size (Array.replicate ops.size false) = List.range ops.size := by
    unfold unl
    refine List.filter_eq_self.2 fun i hi => ?_
    have := List.mem_range.1 hi
    simp [this]
  have hxs : (List.range ops.size).map F = xs := by
    rw [← hlen]
    refine List.ext_getElem (by simp) fun i h1 h2 => ?_
    simp only [List.getElem_map, List.getElem_range]
    exact hFx i h2
  have hclosed : Closed ops (Array.replicate ops.size false) := by
    intro j o ho hl
    rcases Nat.lt_or_ge j ops.size with h | h
    · simp [h] at hl
    · simp [h] at hl
  unfold edgesOk at hed
  simp only [Bool.and_eq_true] at hed
  have go : ∀ (md : Region.Mode) (pos : Nat → Nat), (∀ (k : Nat) (o : Oper), ops[k]? = some o → ∀ e ∈ o.after, Region.binds md e = true → e.on < ops.size ∧ pos e.on < pos k) → ∀ t, wpOps P ops Q (Region.linearise md ops t) a { w with drawn := w.drawn + 1 } := by
    intro md pos hpos t
    refine wpAny_sound ops.size t _ a _ ?_
    refine any_order ht hpos hF hap (fun a' w' hs => hQ e q3 a' w' hs) ops.size (Array.replicate ops.size false) s a _ (by rw [hall]; simp) (by simp) hclosed (by rw [hall, hxs]; exact q2) hg.drawn
  have htext : ∀ (k : Nat) (o : Oper), ops[k]? = some o → ∀ e ∈ o.after, Region.binds .text e = true → e.on < ops.size ∧ id e.on < id k := by
    intro k o ho e he hb
    have := edgesFor_ok hed.1 k o (by simpa using ho) e he hb
    simpa using this
  have bindsAny : ∀ e : Edge, Region.binds .any e = true → Region.binds .text e = true := by
    intro e he
    unfold Region.binds at he ⊢
    split at he <;> simp_all
  unfold Region.schedule
  split
  · exact go .any id (fun k o ho e he hb => htext k o ho e he (bindsAny e hb)) _
  · rename_i hd
    simp only [Bool.or_eq_true, Bool.not_eq_true', not_or, Bool.not_eq_false] at hd
    split
    · exact go .text id htext _
    · have hgc := hed.2
      rw [hd.2] at hgc
      simp only [Bool.not_true, Bool.false_or] at hgc
      refine go .gc (posIn (Region.linearise .gc ops 0)) (fun k o ho e he hb => ?_) _
      have := edgesFor_ok hgc k o (by simpa using ho) e he hb
      simpa using this

end
end Go.AI
end

section
/- SOUNDNESS: code, functions. -/
namespace Go.AI
set_option linter.unusedVariables false
set_option linter.unusedSimpArgs false

/-- from these items on the frame returns a value -/
def Ends (P : Program) (f : FuncId) (items : List Item) (a : Act) (w : World) (G : Value → World → Prop) : Prop :=
  ∀ (b : Frame) (cs : List Frame), b.fn = f → b.kind = .normal → ∃ v w' fr, G v w' ∧ Steps P (lone (b.at a items) cs w) (lone fr cs w') ∧ fr.fn = f ∧ fr.leaving P w' (.returned v)

section
variable {P : Program} {A : Env} {f : FuncId} {fn : Func} {C : Ctx} {w : World} {s : St} {a : Act} {r : Res}

theorem Ends.go {items items' : List Item} {a' : Act} {w' : World} {G : Value → World → Prop} (h : ∀ (b : Frame) (cs : List Frame), b.fn = f → b.kind = .normal → Steps P (lone (b.at a items) cs w) (lone (b.at a' items') cs w'))
    (h' : Ends P f items' a' w' G) : Ends P f items a w G := by
  intro b cs hb hk
  obtain ⟨v, w2, fr, g, st, q1, q2⟩ := h' b cs hb hk
  exact ⟨v, w2, fr, g, Steps.trans (h b cs hb hk) st, q1, q2⟩

theorem Ends.ret {items : List Item} {G : Value → World → Prop} (hf : P.funcs[f]? = some fn) (hd : a.defers = []) (hE : ∃ v, (results fn a.tmps).run P w = .ok v w ∧ G v w)
    (hst : ∀ (b : Frame) (cs : List Frame), step P (lone (b.at a items) cs w) = .next (lone { b.at a items with mode := .returning } cs w)) : Ends P f items a w G := by
  obtain ⟨x, q1, q2⟩ := hE
  intro b cs hb hk
  exact ⟨x, w, { b.at a items with mode := .returning }, q2, .one (hst b cs), hb, rfl, hd, hk, fn, by rw [← hf]; exact congrArg (fun i => P.funcs[i]?) hb, q1⟩

theorem ops_ends {ops : Array Oper} {l : List Nat} {k : List Item} {G : Value → World → Prop} (h : wpOps P ops (fun e a' w' => e = .normal ∧ Ends P f k a' w' G) l a w) : Ends P f (.inRegion ops l :: k) a w G := by
  intro b cs hb hk
  obtain ⟨e, a', w', ⟨rfl, h1⟩, h2⟩ := wp_ops l a w h b k cs
  obtain ⟨v, w2, fr, g, st, q1, q2⟩ := h1 b cs hb hk
  exact ⟨v, w2, fr, g, Steps.trans h2 st, q1, q2⟩

theorem body_ok (ht : ∀ e ∈ C.tab, Sound P e.f e.S) (hP : C.P = P) (hf : P.funcs[f]? = some fn) {E : St → R} {L : List Item → St → R} {G : Value → World → Prop}
    (hE : ∀ {s : St} {a : Act} {w : World}, E s = some r → Sees A C.keep C.nt [] s a w → ∃ v, (results fn a.tmps).run P w = .ok v w ∧ G v w)
    (hL : ∀ {items : List Item} {s : St} {a : Act} {w : World}, L items s = some r → Sees A C.keep C.nt [] s a w → Ends P f items a w G) :
    ∀ (n : Nat) {first : Bool} {items : List Item} {s : St} {a : Act} {w : World}, body C E L n first items s = some r → Sees A C.keep C.nt [] s a w → Ends P f items a w G := by
  intro n
  induction n with
  | zero => intro first items s a w h _; simp [body] at h
  | succ n ih =>
    intro first items s a w h hs
    cases items with
    | nil => simp only [body] at h; exact Ends.ret hf hs.defers (hE h hs) fun b cs => step_end
    | cons it k =>
      cases it with
      | inBlock id => simp only [body] at h; exact Ends.go (fun b cs _ _ => .one step_inBlock) (ih h hs)
      | inLoop c => simp only [body] at h; exact Ends.go (fun b cs _ _ => .one step_inLoop) (hL h hs)
      | code c =>
        cases c with
        | skip => simp only [body] at h; exact Ends.go (fun b cs _ _ => .one step_skip) (ih h hs)
        | seq x y => simp only [body] at h; exact Ends.go (fun b cs _ _ => .one step_seq) (ih h hs)
        | cond x y z =>
          simp only [body] at h
          split at h
          · rename_i v hv
            obtain ⟨⟨m, I, hg⟩, h1, h2⟩ := hs
            have hx := ev_rel hg.tm x
            rw [hv] at hx
            simp only [relV] at hx
            cases v with
            | true => rw [cond_true] at h; exact Ends.go (fun b cs _ _ => .one (step_cond hx)) (ih h ⟨⟨m, I, hg⟩, h1, h2⟩)
            | false => rw [cond_false] at h; exact Ends.go (fun b cs _ _ => .one (step_cond hx)) (ih h ⟨⟨m, I, hg⟩, h1, h2⟩)
          · cases h
        | block id c => simp only [body] at h; exact Ends.go (fun b cs _ _ => .one step_block) (ih h hs)
        | loop c => simp only [body] at h; exact Ends.go (fun b cs _ _ => .one step_loop) (hL h hs)
        | exit id =>
          simp only [body] at h
          split at h
          · rename_i k' hk; exact Ends.go (fun b cs _ _ => .one (step_exit hk)) (ih h hs)
          · cases h
        | ret => simp only [body] at h; exact Ends.ret hf hs.defers (hE h hs) fun b cs => step_ret
        | region id ops draw =>
          simp only [body] at h
          split at h
          · exact hL h hs
          · cases draw with
            | true =>
              rw [cond_true, hP] at h
              refine Ends.go (a' := a) (w' := { w with drawn := w.drawn + 1 }) (items' := .inRegion ops (Region.schedule (P.follows .mixedOrders) ops (w.tape w.drawn (.order f id))) :: k) ?_ ?_
              · intro b cs hb _
                have := step_region_draw (P := P) (b := b) (a := a) (k := k) (cs := cs) (w := w) (ops := ops) (id := id)
                rw [hb] at this
                exact .one this
              · exact ops_ends (drawA_ok ht _ h hs (fun s1 h1 a' w' h2 => ⟨rfl, ih h1 h2⟩) _ _)
            | false =>
              rw [cond_false, hP] at h
              refine Ends.go (fun b cs _ _ => .one step_region) (ops_ends (opsA_ok ht _ (fun s1 h1 a' w' h2 => ⟨rfl, ih h1 h2⟩) (ops_all2 ops) h hs))
        | _ => simp [body] at h
      | _ => simp [body] at h

theorem run_ok (ht : ∀ e ∈ C.tab, Sound P e.f e.S) (hP : C.P = P) (hf : P.funcs[f]? = some fn) (hres : C.res = fn.results.toList) :
    ∀ (n : Nat) {items : List Item} {s : St} {a : Act} {w : World}, run C some n items s = some r → Sees A C.keep C.nt [] s a w → Ends P f items a w (Left A C.keep r) := by
  have hE : ∀ {s : St} {a : Act} {w : World}, fin C some s = some r → Sees A C.keep C.nt [] s a w → ∃ v, (results fn a.tmps).run P w = .ok v w ∧ Left A C.keep r v w := by
    intro s a w h hs
    obtain ⟨⟨m, I, hg⟩, _, _⟩ := hs
    exact fin_ok hP hres hg h
  intro n
  induction n with
  | zero => intro items s a w h hs; exact body_ok ht hP hf hE (L := fun _ _ => none) (fun h _ => by cases h) 1000 h hs
  | succ n ih =>
    intro items s a w h hs
    refine body_ok ht hP hf hE (L := stepL C (run C some n)) (fun h hs => ?_) 1000 h hs
    unfold stepL at h
    split at h
    · split at h
      · split at h
        · rename_i d hd; exact ih h (lab_ok hs hd)
        · cases h
      · exact ih h hs
    · exact ih h hs

theorem args0_get : ∀ (args : List AV) (i j : Nat), getT (args0 i args) j = if i ≤ j ∧ j < i + args.length then args.getD (j - i) .any else .any
  | [], i, j => by simp [args0, getT]
  | v :: args, i, j => by
    simp only [args0]
    by_cases e : j = i
    · subst e; rw [getT_same]; simp
    · rw [getT_other _ _ e, args0_get args (i + 1) j]
      simp only [List.length_cons]
      by_cases hc : i + 1 ≤ j ∧ j < i + 1 + args.length
      · rw [if_pos hc, if_pos (by omega)]
        rw [show j - i = j - (i + 1) + 1 by omega, List.getD_cons_succ]
      · rw [if_neg hc, if_neg (by omega)]

theorem relL_length {E : Env} : ∀ {cs : List AV} {vs : List Value}, relL E cs vs → cs.length = vs.length
  | [], [], _ => rfl
  | _ :: _, _ :: _, h => by simp only [relL] at h; simp [relL_length h.2]
theorem relL_get {E : Env} : ∀ {cs : List AV} {vs : List Value} {i : Nat}, relL E cs vs → i < cs.length → relV E (cs.getD i .any) (vs.getD i undef)
  | c :: cs, v :: vs, 0, h, _ => by simp only [relL] at h; simpa using h.1
  | c :: cs, v :: vs, i + 1, h, hi => by simp only [relL] at h; simpa using relL_get (i := i) h.2 (by simpa using hi)

/-- a function's abstract run is what its calls do -/
theorem runF_ok {tab : List Ent} (ht : ∀ e ∈ tab, Sound P e.f e.S) (hf : P.funcs[f]? = some fn) {c : Code} (hb : fn.body = some c) {ann : List (Nat × Lab)} {out : Form} {n : Nat} {args : List AV} {vals : Array Value} {roots : List Root}
    (h : runF P tab ann out fn some n args roots = some r) (hhp : A.hp = numbered 0 roots) (H : HeapRel A) (hv : relL A args vals.toList) :
    Calls P f vals A.w fun e w' => ∃ x, e = .returned x ∧ Left A roots.length r x w' := by
  intro cs
  let b : Frame := { (default : Frame) with fn := f, kind := .normal }
  have henter : Frame.enter P f vals .normal =
      b.at { tmps := vals ++ Array.replicate (fn.ntmps - vals.size) undef, defers := [] } [.code c] := by
    simp [Frame.enter, Frame.at, hf, hb, b]
  have hc : bodyOf fn = c := by simp [bodyOf, hb]
  unfold runF at h
  rw [hc] at h
  obtain ⟨aw, am, ahp, aI⟩ := A
  simp only at hhp; subst hhp
  have hlen := relL_length hv
  have hsees : Sees ⟨aw, am, numbered 0 roots, aI⟩ roots.length fn.ntmps [] ⟨args0 0 args, numbered 0 roots⟩ { tmps := vals ++ Array.replicate (fn.ntmps - vals.size) undef, defers := [] } aw := by
    refine ⟨⟨am, aI, H, ?_, ?_⟩, by simp; omega, rfl⟩
    · intro i
      simp only
      rw [args0_get]
      by_cases hi : 0 ≤ i ∧ i < 0 + args.length
      · rw [if_pos hi]
        have h1 : i < vals.size := by simp at hlen; omega
        have := relL_get (i := i) hv (by omega)
        rw [Array.getD_eq_getD_getElem?, Array.getElem?_append_left h1]
        simpa using this
      · rw [if_neg hi]; simp [relV]
    · refine ⟨fun _ _ _ => rfl, Nat.le_refl _, fun b hb => .inl hb, fun b hb => .inl hb, fun b hb => hb, fun h _ => fits_refl _, fun _ _ _ => rfl, ?_, rfl, rfl, rfl, fun _ => Nat.le_refl _⟩
      intro k hk
      simp only [hasH_numbered]; simp; omega
  have := run_ok (C := ctxOf P tab fn roots.length ann out) (fn := fn) ht rfl hf rfl n h hsees
  obtain ⟨v, w', fr, g, st, q1, q2⟩ := this b cs rfl rfl
  rw [henter]
  exact ⟨.returned v, w', fr, ⟨v, rfl, g⟩, st, q1, q2⟩

theorem calls_ok {vals : Array Value} {G : Value → World → Prop} (hf : P.funcs[f]? = some fn) {c : Code} (hb : fn.body = some c) (hname : (fn.name == "runtime.NumGoroutine") = false)
    (h : Calls P f vals w fun e w' => ∃ x, e = .returned x ∧ G x w') : CallOk P f vals w G := by
  refine .inr ⟨f, vals, w, ?_, h⟩
  have h1 : fn.name ≠ "runtime.NumGoroutine" := by simpa using hname
  simp [callFunc, hf, h1, hb]

end
end Go.AI
end

section
/- DETERMINACY: what follows is handed one state alone; more rounds give the same answer; the limit. -/
namespace Go.AI
set_option linter.unusedVariables false
set_option linter.unusedSimpArgs false

section
variable {P : Program} {tab : List Ent} {nt : Nat} {ops : Array Oper} {s : St} {r : Res}

theorem opA_det {o : Oper} {K : St → AV → R} (h : opA P tab o s K = some r) : ∃ s1 v, K s1 v = some r ∧ ∀ K', opA P tab o s K' = K' s1 v := by
  obtain ⟨D, v, h1, h2⟩ := opA_fr h
  exact ⟨_, v, h1, fun K' => h2 s (fun _ => True) (fun _ _ => rfl) (fun _ _ => trivial) (fun _ _ => trivial) (fun _ _ => ⟨rfl, rfl⟩) K'⟩

theorem wantA_det {o : Oper} {k : Bool → St → R} (h : wantA ops o s k = some r) : ∃ b s1, k b s1 = some r ∧ ∀ k', wantA ops o s k' = k' b s1 := by
  unfold wantA at h
  split at h
  · rename_i hgd
    exact ⟨true, s, h, fun k' => by unfold wantA; simp only [hgd]⟩
  · rename_i j want hgd
    split at h
    · rename_i oj hj
      split at h
      · rename_i d hd
        split at h
        · rename_i b hb
          cases b with
          | true => rw [cond_true] at h; exact ⟨_, _, h, fun k' => by unfold wantA; simp only [hgd, hj, hd, hb, cond_true]⟩
          | false => rw [cond_false] at h; exact ⟨_, _, h, fun k' => by unfold wantA; simp only [hgd, hj, hd, hb, cond_false]⟩
        · rename_i hb; exact ⟨false, s, h, fun k' => by unfold wantA; simp only [hgd, hj, hd, hb]⟩
        · cases h
      · cases h
    · cases h

theorem putK_one {d : Option Nat} {v : AV} {k : St → R} (h : s.putK nt d v k = some r) : ∃ s1, k s1 = some r ∧ ∀ k', s.putK nt d v k' = k' s1 := by
  obtain ⟨h1, h2⟩ := putK_det h
  exact ⟨_, h1, fun k' => h2 s k'⟩

theorem oneA_det {o : Oper} {k : St → R} (h : oneA P tab nt ops o s k = some r) : ∃ s1, k s1 = some r ∧ ∀ k', oneA P tab nt ops o s k' = k' s1 := by
  unfold oneA at h
  obtain ⟨b, s1, h1, d1⟩ := wantA_det h
  cases b with
  | true =>
    rw [cond_true] at h1
    obtain ⟨s2, v, h2, d2⟩ := opA_det h1
    obtain ⟨s3, h3, d3⟩ := putK_one h2
    exact ⟨s3, h3, fun k' => by unfold oneA; rw [d1, cond_true, d2]; exact d3 k'⟩
  | false =>
    rw [cond_false] at h1
    obtain ⟨s3, h3, d3⟩ := putK_one h1
    exact ⟨s3, h3, fun k' => by unfold oneA; rw [d1, cond_false]; exact d3 k'⟩

theorem oneD_det {o : Oper} {k : Foot → St → R} (h : oneD P tab nt ops o s k = some r) : ∃ f s1, k f s1 = some r ∧ ∀ k', oneD P tab nt ops o s k' = k' f s1 := by
  unfold oneD at h
  obtain ⟨b, s1, h1, d1⟩ := wantA_det h
  cases b with
  | true =>
    rw [cond_true] at h1
    obtain ⟨s2, v, h2, d2⟩ := opA_det h1
    obtain ⟨s3, h3, d3⟩ := putK_one h2
    exact ⟨_, s3, h3, fun k' => by unfold oneD; rw [d1, cond_true, d2]; exact d3 _⟩
  | false =>
    rw [cond_false] at h1
    obtain ⟨s3, h3, d3⟩ := putK_one h1
    exact ⟨_, s3, h3, fun k' => by unfold oneD; rw [d1, cond_false]; exact d3 _⟩

theorem opsA_det : ∀ {os : List Oper} {s : St} {k : St → R}, opsA P tab nt ops os s k = some r → ∃ s1, k s1 = some r ∧ ∀ k', opsA P tab nt ops os s k' = k' s1
  | [], s, k, h => ⟨s, h, fun _ => rfl⟩
  | o :: os, s, k, h => by
    simp only [opsA] at h
    obtain ⟨s1, h1, d1⟩ := oneA_det h
    obtain ⟨s2, h2, d2⟩ := opsA_det h1
    exact ⟨s2, h2, fun k' => by simp only [opsA]; rw [d1]; exact d2 k'⟩

theorem opsD_det : ∀ {os : List Oper} {acc : List Foot} {s : St} {k : List Foot → St → R}, opsD P tab nt ops os acc s k = some r → ∃ fs s1, k fs s1 = some r ∧ ∀ k', opsD P tab nt ops os acc s k' = k' fs s1
  | [], acc, s, k, h => ⟨acc, s, h, fun _ => rfl⟩
  | o :: os, acc, s, k, h => by
    simp only [opsD] at h
    obtain ⟨f, s1, h1, d1⟩ := oneD_det h
    obtain ⟨fs, s2, h2, d2⟩ := opsD_det h1
    exact ⟨fs, s2, h2, fun k' => by simp only [opsD]; rw [d1]; exact d2 k'⟩

theorem drawA_det {k : St → R} (h : drawA P tab nt ops s k = some r) : ∃ s1, k s1 = some r ∧ ∀ k', drawA P tab nt ops s k' = k' s1 := by
  unfold drawA at h
  obtain ⟨hed, h⟩ := cond_none h
  obtain ⟨fs, s1, h1, d1⟩ := opsD_det h
  obtain ⟨hf, h1⟩ := cond_none h1
  exact ⟨s1, h1, fun k' => by unfold drawA; rw [hed, cond_true, d1, hf, cond_true]⟩

end

section
variable {C : Ctx} {r : Res}

theorem body_det {E : St → R} {L : List Item → St → R} : ∀ (n : Nat) {first : Bool} {items : List Item} {s : St}, body C E L n first items s = some r →
    (∃ s', E s' = some r ∧ ∀ (E' : St → R) (L' : List Item → St → R), body C E' L' n first items s = E' s') ∨
    (∃ it s', L it s' = some r ∧ ∀ (E' : St → R) (L' : List Item → St → R), body C E' L' n first items s = L' it s') := by
  intro n
  induction n with
  | zero => intro first items s h; simp [body] at h
  | succ n ih =>
    intro first items s h
    cases items with
    | nil => simp only [body] at h ⊢; exact .inl ⟨s, h, fun _ _ => rfl⟩
    | cons it k =>
      cases it with
      | inBlock id => simp only [body] at h ⊢; exact ih h
      | inLoop c => simp only [body] at h ⊢; exact .inr ⟨_, s, h, fun _ _ => rfl⟩
      | code c =>
        cases c with
        | skip => simp only [body] at h ⊢; exact ih h
        | seq x y => simp only [body] at h ⊢; exact ih h
        | cond x y z =>
          simp only [body] at h ⊢
          split at h
          · rename_i v hv
            cases v with
            | true => rw [cond_true] at h; simp only [hv, cond_true]; exact ih h
            | false => rw [cond_false] at h; simp only [hv, cond_false]; exact ih h
          · cases h
        | block id c => simp only [body] at h ⊢; exact ih h
        | loop c => simp only [body] at h ⊢; exact .inr ⟨_, s, h, fun _ _ => rfl⟩
        | exit id =>
          simp only [body] at h ⊢
          split at h
          · rename_i k' hk; exact ih h
          · cases h
        | ret => simp only [body] at h ⊢; exact .inl ⟨s, h, fun _ _ => rfl⟩
        | region id ops draw =>
          simp only [body] at h
          split at h
          · rename_i live hx
            exact .inr ⟨_, s, h, fun E' L' => by simp only [body, hx]⟩
          · cases draw with
            | true =>
              rw [cond_true] at h
              obtain ⟨s1, h1, d1⟩ := drawA_det h
              rcases ih h1 with ⟨s', e1, e2⟩ | ⟨it, s', e1, e2⟩
              · exact .inl ⟨s', e1, fun E' L' => by simp only [body]; rw [cond_true, d1]; exact e2 E' L'⟩
              · exact .inr ⟨it, s', e1, fun E' L' => by simp only [body]; rw [cond_true, d1]; exact e2 E' L'⟩
            | false =>
              rw [cond_false] at h
              obtain ⟨s1, h1, d1⟩ := opsA_det h
              rcases ih h1 with ⟨s', e1, e2⟩ | ⟨it, s', e1, e2⟩
              · exact .inl ⟨s', e1, fun E' L' => by simp only [body]; rw [cond_false, d1]; exact e2 E' L'⟩
              · exact .inr ⟨it, s', e1, fun E' L' => by simp only [body]; rw [cond_false, d1]; exact e2 E' L'⟩
        | _ => simp [body] at h
      | _ => simp [body] at h

theorem fin_det {K : Res → R} {s : St} (h : fin C K s = some r) : ∃ x, K x = some r ∧ ∀ K', fin C K' s = K' x := by
  unfold fin at h
  split at h
  · cases h
  · rename_i vs hvs
    split at h
    · rename_i d hd; exact ⟨_, h, fun K' => by unfold fin; simp only [hvs, hd]⟩
    · cases h

theorem stepL_some {N : List Item → St → R} {items : List Item} {s : St} (h : stepL C N items s = some r) : ∃ it s', N it s' = some r ∧ ∀ N' : List Item → St → R, stepL C N' items s = N' it s' := by
  unfold stepL at h
  split at h
  · rename_i i hi
    split at h
    · rename_i B hB
      split at h
      · rename_i d hd; exact ⟨_, _, h, fun N' => by unfold stepL; simp only [hi, hB, hd]⟩
      · cases h
    · rename_i hB; exact ⟨_, _, h, fun N' => by unfold stepL; simp only [hi, hB]⟩
  · rename_i hi; exact ⟨_, _, h, fun N' => by unfold stepL; simp only [hi]⟩

theorem run_det {K : Res → R} : ∀ (n : Nat) {items : List Item} {s : St}, run C K n items s = some r → ∃ x, K x = some r ∧ ∀ K', run C K' n items s = K' x
  | 0, items, s, h => by
    simp only [run] at h ⊢
    rcases body_det 1000 h with ⟨s', e1, e2⟩ | ⟨it, s', e1, _⟩
    · obtain ⟨x, f1, f2⟩ := fin_det e1
      exact ⟨x, f1, fun K' => by rw [e2, f2]⟩
    · cases e1
  | n + 1, items, s, h => by
    simp only [run] at h ⊢
    rcases body_det 1000 h with ⟨s', e1, e2⟩ | ⟨it, s', e1, e2⟩
    · obtain ⟨x, f1, f2⟩ := fin_det e1
      exact ⟨x, f1, fun K' => by rw [e2, f2]⟩
    · obtain ⟨it2, s2, g1, g2⟩ := stepL_some e1
      obtain ⟨x, f1, f2⟩ := run_det n g1
      exact ⟨x, f1, fun K' => by rw [e2, g2, f2]⟩

theorem run_more {K : Res → R} : ∀ (n : Nat) {items : List Item} {s : St}, run C K n items s = some r → run C K (n + 1) items s = some r
  | 0, items, s, h => by
    simp only [run] at h
    unfold run
    rcases body_det 1000 h with ⟨s', e1, e2⟩ | ⟨it, s', e1, _⟩
    · rw [e2]; exact e1
    · cases e1
  | n + 1, items, s, h => by
    rw [run] at h
    rw [run]
    rcases body_det 1000 h with ⟨s', e1, e2⟩ | ⟨it, s', e1, e2⟩
    · rw [e2]; exact e1
    · obtain ⟨it2, s2, g1, g2⟩ := stepL_some e1
      rw [e2, g2]
      exact run_more n g1

theorem runF_det {P : Program} {tab : List Ent} {ann : List (Nat × Lab)} {out : Form} {fn : Func} {n : Nat} {args : List AV} {roots : List Root} {K : Res → R} (h : runF P tab ann out fn K n args roots = some r) :
    ∃ x, K x = some r ∧ ∀ K', runF P tab ann out fn K' n args roots = K' x := run_det n h

end

/-! ### limits -/

section
variable {α β : Type}

def Mono (F : Nat → Option α) : Prop := ∀ n r, F n = some r → F (n + 1) = some r

theorem Mono.le {F : Nat → Option α} (h : Mono F) {n : Nat} {r : α} (e : F n = some r) : ∀ k, F (n + k) = some r
  | 0 => e
  | k + 1 => h _ _ (h.le e k)

theorem Mono.one {F : Nat → Option α} (h : Mono F) {n m : Nat} {r r' : α} (e : F n = some r) (e' : F m = some r') : r = r' := by
  have h1 := h.le e m
  have h2 := h.le e' n
  rw [Nat.add_comm, h2] at h1
  exact (Option.some.inj h1).symm

open Classical in
/-- what a run comes to -/
noncomputable def lim (F : Nat → Option α) : Option α := if h : ∃ r n, F n = some r then some h.choose else none

theorem lim_of {F : Nat → Option α} (h : Mono F) {n : Nat} {r : α} (e : F n = some r) : lim F = some r := by
  unfold lim
  have hx : ∃ r n, F n = some r := ⟨r, n, e⟩
  rw [dif_pos hx]
  obtain ⟨m, hm⟩ := hx.choose_spec
  rw [h.one hm e]

theorem lim_some {F : Nat → Option α} {r : α} (e : lim F = some r) : ∃ n, F n = some r := by
  unfold lim at e
  split at e
  · rename_i h
    obtain ⟨m, hm⟩ := h.choose_spec
    cases e
    exact ⟨m, hm⟩
  · cases e

theorem lim_shift {F : Nat → Option α} (h : Mono F) : lim F = lim fun n => F (n + 1) := by
  have h' : Mono fun n => F (n + 1) := fun n r e => h _ _ e
  cases e : lim F with
  | none =>
    cases e' : lim fun n => F (n + 1) with
    | none => rfl
    | some r =>
      obtain ⟨n, hn⟩ := lim_some e'
      rw [lim_of h hn] at e
      cases e
  | some r =>
    obtain ⟨n, hn⟩ := lim_some e
    exact (lim_of h' (h _ _ hn)).symm

theorem lim_shiftk {F : Nat → Option α} (h : Mono F) : ∀ k, lim F = lim fun n => F (n + k)
  | 0 => rfl
  | k + 1 => by
    rw [lim_shiftk h k]
    rw [lim_shift (F := fun n => F (n + k)) (fun n r e => by have := h _ _ e; rwa [show n + k + 1 = n + 1 + k by omega] at this)]
    congr 1
    funext n
    congr 1; omega

theorem lim_const (x : Option α) : (lim fun _ => x) = x := by
  cases x with
  | none =>
    unfold lim
    rw [dif_neg]
    rintro ⟨r, n, h⟩; cases h
  | some r => exact lim_of (F := fun _ => some r) (n := 0) (fun _ _ h => h) rfl

theorem lim_cond (b : Bool) (F G : Nat → Option α) : (lim fun n => cond b (F n) (G n)) = cond b (lim F) (lim G) := by cases b <;> rfl
theorem lim_bind (o : Option β) (F : β → Nat → Option α) : (lim fun n => o.bind fun d => F d n) = o.bind fun d => lim (F d) := by
  cases o with
  | none => exact lim_const none
  | some d => rfl
theorem bind_some' {γ : Type} (x : α) (f : α → Option γ) : (some x).bind f = f x := rfl
theorem bind_none' {γ : Type} (f : α → Option γ) : (none : Option α).bind f = none := rfl
theorem bind_cond {γ : Type} (b : Bool) (x y : Option α) (f : α → Option γ) : (cond b x y).bind f = cond b (x.bind f) (y.bind f) := by cases b <;> rfl

end

theorem run_mono (C : Ctx) (K : Res → R) (items : List Item) (s : St) : Mono fun n => run C K n items s := fun n _ h => run_more n h

end Go.AI
end

section
/- MEANINGS: a function means what its runs come to; this is sound. -/
namespace Go.AI
set_option linter.unusedVariables false
set_option linter.unusedSimpArgs false

abbrev I64 : Ty := .int .i64
abbrev U8 : Ty := .int .u8
def iv (n : Int) : AV := .val (.int .i64 n)
def bv (b : Bool) : AV := .val (.bool b)
def sv (s : ByteArray) : AV := .val (.string s)

theorem castL_self {a : Ty} (l : List a.D) : castL a a l = some l := by simp [castL]

theorem rdC_cellsI : ∀ (t : Ty) (x : t.D) (r : List AV), rdC t (cellsI t x ++ r) = some (x, r)
  | .unit, _, _ => rfl
  | .int k, n, r => by simp [cellsI, rdC]
  | .bool, _, _ => rfl
  | .str, _, _ => rfl
  | .sl e, l, r => by simp [cellsI, rdC, castL_self]
  | .pair a b, x, r => by
    simp only [cellsI, rdC, List.append_assoc]
    rw [rdC_cellsI a x.1]
    simp only
    rw [rdC_cellsI b x.2]

theorem Pat.read_build : ∀ (p : Pat) (x : p.D) (r : List AV), p.read (p.build x ++ r) = some (x, r)
  | .nil, _, _ => rfl
  | .cons a b, x, r => by
    simp only [Pat.build, Pat.read, List.append_assoc]
    rw [Pat.read_build a x.1]
    simp only
    rw [Pat.read_build b x.2]
  | .dat t, x, r => rdC_cellsI t x r
  | .agg p, x, r => by have := Pat.read_build p x []; rw [List.append_nil] at this; simp [Pat.build, Pat.read, this]
  | .tup p, x, r => by have := Pat.read_build p x []; rw [List.append_nil] at this; simp [Pat.build, Pat.read, this]
  | .fn f p, x, r => by have := Pat.read_build p x []; rw [List.append_nil] at this; simp [Pat.build, Pat.read, this, Nat.beq_refl]
  | .cp p, x, r => by have := Pat.read_build p x []; rw [List.append_nil] at this; simp [Pat.build, Pat.read, this]
  | .ref h e, x, r => by simp [Pat.build, Pat.read, Nat.beq_refl]
  | .ptr h f, x, r => by simp [Pat.build, Pat.read, Nat.beq_refl]
  | .ptrI h f, x, r => by simp [Pat.build, Pat.read, Nat.beq_refl]
  | .nilS, _, _ => rfl
  | .nilP, _, _ => rfl
  | .ifc, _, _ => rfl
  | .any, _, _ => rfl
  | .slT e, l, r => by simp [Pat.build, Pat.read, castL_self]

theorem RPat.read_build (p : RPat) (x : p.D) : p.read (p.build x) = some x := by
  cases p with
  | gone => rfl
  | box p => have := Pat.read_build p x []; rw [List.append_nil] at this; simp [RPat.build, RPat.read, this]
  | arr e => simp [RPat.build, RPat.read, castL_self]
  | imm e => simp [RPat.build, RPat.read, castL_self]

theorem readRs_build : ∀ (ps : List RPat) (x : RsD ps), readRs ps (buildRs ps x) = some x
  | [], _ => rfl
  | p :: ps, x => by simp only [buildRs, readRs, RPat.read_build, readRs_build ps x.2]

theorem Form.read_build (F : Form) (d : F.D) : F.read (F.vals d) (F.roots d) = some d := by
  have := Pat.read_build F.p d.1 []
  rw [List.append_nil] at this
  simp [Form.read, Form.vals, Form.roots, this, readRs_build]

/-- a result read back -/
def Form.back (F : Form) (x : Res) : Option F.D := F.read [x.1] x.2

theorem Form.back_res {F : Form} (h : ∀ d : F.D, ∃ v, F.vals d = [v]) (d : F.D) : F.back (F.res d) = some d := by
  obtain ⟨v, hv⟩ := h d
  have := Form.read_build F d
  unfold Form.back Form.res
  rw [hv] at this ⊢
  exact this

/-! ### what a function comes to -/

noncomputable def theM (P : Program) (tab : List Ent) (ann : List (Nat × Lab)) (out : Form) (fn : Func) (ain : Form) (d : ain.D) : Option out.D :=
  (lim fun n => runF P tab ann out fn some n (ain.vals d) (ain.roots d)).bind out.back

noncomputable def theT (C : Ctx) (items : List Item) (B : Lab) (d : B.F.D) : Option C.out.D :=
  (lim fun n => run C some n items (B.st d)).bind C.out.back

theorem theT_eqnk {C : Ctx} {items : List Item} {B : Lab} {d : B.F.D} (k : Nat) (G : Nat → R) (h : ∀ n, run C some (n + k) items (B.st d) = G n) : theT C items B d = (lim G).bind C.out.back := by
  unfold theT
  rw [lim_shiftk (run_mono C some items (B.st d)) k]
  congr 2
  funext n; exact h n

theorem theT_eqn {C : Ctx} {items : List Item} {B : Lab} {d : B.F.D} (G : Nat → R) (h : ∀ n, run C some (n + 1) items (B.st d) = G n) : theT C items B d = (lim G).bind C.out.back := theT_eqnk 1 G h

theorem theM_eqn {P : Program} {tab : List Ent} {ann : List (Nat × Lab)} {out : Form} {fn : Func} {ain : Form} {d : ain.D} (k : Nat) (G : Nat → R) (h : ∀ n, runF P tab ann out fn some (n + k) (ain.vals d) (ain.roots d) = G n) :
    theM P tab ann out fn ain d = (lim G).bind out.back := by
  unfold theM
  have hm : Mono fun n => runF P tab ann out fn some n (ain.vals d) (ain.roots d) := run_mono _ some _ _
  rw [lim_shiftk hm k]
  congr 2
  funext n; exact h n

/-- no meaning -/
def noS : Sm := fun _ _ _ => none
theorem noS_det : Det noS := by intro _ _ _ _ h; cases h
theorem noS_sound (P : Program) (f : FuncId) : Sound P f noS := by intro _ _ _ _ _ _ _ _ _ h; cases h

/-- a meaning at arguments of one shape; at others another -/
def modeS (ain out : Form) (M : ain.D → Option out.D) (S : Sm) : Sm := fun args roots K => match ain.read args roots with
  | some d => (M d).bind fun d' => K (out.res d')
  | none => S args roots K

theorem modeS_det {ain out : Form} {M : ain.D → Option out.D} {S : Sm} (hS : Det S) : Det (modeS ain out M S) := by
  intro args roots K r h
  unfold modeS at h ⊢
  split at h
  · rename_i d hd
    cases hM : M d with
    | none => rw [hM] at h; cases h
    | some d' => rw [hM] at h; exact ⟨_, h, fun K' => rfl⟩
  · exact hS args roots K r h

theorem Hist.from {A A' E : Env} {keep : Nat} (hw : A'.w = A.w) (hm : A'.m = A.m) (hI : A'.I = A.I) (key : ∀ k, fits (getH A.hp k) (getH A'.hp k) ∧ (owned (getH A'.hp k) = true → owned (getH A.hp k) = true)) (a : Hist A' keep E) : Hist A keep E := by
  have hown : ∀ b, Own A' b → Own A b := by
    rintro b ⟨k, o, h1, h2⟩
    exact ⟨k, o, (key k).2 h1, by rw [← hm]; exact h2⟩
  refine ⟨?_, ?_, ?_, ?_, ?_, ?_, ?_, a.has, ?_, ?_, ?_, ?_⟩
  · intro b h1 h2; rw [← hw] at h1 ⊢; exact a.old b h1 fun h => h2 (hown b h)
  · rw [← hw]; exact a.sz
  · intro b hb; rw [← hw]; exact (a.own b hb).imp (hown b) id
  · intro b hb; rw [← hw, ← hI]; exact (a.imm b hb).imp id (Or.imp (hown b) id)
  · intro b hb; rw [← hI] at hb; exact a.sub b hb
  · intro k hk; exact fits_trans (key k).1 (a.fit k hk)
  · intro k hk hne; rw [← hm]; exact a.map k hk hne
  · rw [← hw]; exact a.os
  · rw [← hw]; exact a.tape
  · rw [← hw]; exact a.output
  · intro b; rw [← hw]; exact a.bsz b

section
variable {P : Program} {f : FuncId} {fn : Func}

theorem mode_calls {tab : List Ent} (ht : ∀ e ∈ tab, Sound P e.f e.S) (hf : P.funcs[f]? = some fn) {c : Code} (hb : fn.body = some c) {ann : List (Nat × Lab)} {out ain : Form}
    {A : Env} {args : List AV} {vals : Array Value} {roots : List Root} (hhp : A.hp = numbered 0 roots) (H : HeapRel A) (hv : relL A args vals.toList) {d : ain.D} (hd : ain.read args roots = some d) {d' : out.D}
    (hM : theM P tab ann out fn ain d = some d') : Calls P f vals A.w fun e w' => ∃ x, e = .returned x ∧ Left A roots.length (out.res d') x w' := by
  obtain ⟨aw, am, ahp, aI⟩ := A
  simp only at hhp; subst hhp
  obtain ⟨hl, key⟩ := Form.read_key H hd
  obtain ⟨q1, q2, _⟩ := Form.read_ok H hv hd
  unfold theM at hM
  simp only [Option.bind_eq_some_iff] at hM
  obtain ⟨x, hx, hback⟩ := hM
  obtain ⟨n, hn⟩ := lim_some hx
  have := runF_ok (A := ⟨aw, am, numbered 0 (ain.roots d), aI⟩) ht hf hb hn rfl q1 q2
  refine this.mono ?_
  rintro e w' ⟨v, rfl, m', I', e1, e2, e3⟩
  refine ⟨v, rfl, ?_⟩
  rw [hl] at e2
  obtain ⟨k1, k2, k3⟩ := Form.read_ok (xs := [v]) e1 (by simp only [relL]; exact ⟨e3, trivial⟩) hback
  refine ⟨m', I', k1, Hist.from (A' := ⟨aw, am, numbered 0 (ain.roots d), aI⟩) rfl rfl rfl (fun k => ⟨(key k).1, (key k).2.2⟩) (k3 e2), ?_⟩
  show relV _ (hd1 (out.vals d')) v
  have k2' : relL ⟨w', m', numbered 0 (out.res d').2, I'⟩ (out.vals d') [v] := k2
  generalize out.vals d' = us at k2'
  cases us with
  | nil => simp [relL] at k2'
  | cons u us => cases us with
    | nil => simp only [relL] at k2'; exact k2'.1
    | cons _ _ => simp [relL] at k2'

theorem sound_mode {tab : List Ent} (ht : ∀ e ∈ tab, Sound P e.f e.S) (hf : P.funcs[f]? = some fn) {c : Code} (hb : fn.body = some c) (hname : (fn.name == "runtime.NumGoroutine") = false) {ann : List (Nat × Lab)} {out ain : Form}
    {S : Sm} (hS : Sound P f S) : Sound P f (modeS ain out (theM P tab ann out fn ain) S) := by
  intro A args vals roots r roots' hhp H hv h
  unfold modeS at h
  split at h
  · rename_i d hd
    simp only [Option.bind_eq_some_iff] at h
    obtain ⟨d', hM, he⟩ := h
    have := mode_calls ht hf hb hhp H hv hd hM
    have he : out.res d' = (r, roots') := Option.some.inj he
    rw [he] at this
    exact calls_ok hf hb hname this
  · exact hS A args vals roots r roots' hhp H hv h

/-- one meaning at arguments of a shape, another at others -/
def orS (F : Form) (S1 S2 : Sm) : Sm := fun args roots K => match F.read args roots with
  | some _ => S1 args roots K
  | none => S2 args roots K
theorem orS_det {F : Form} {S1 S2 : Sm} (h1 : Det S1) (h2 : Det S2) : Det (orS F S1 S2) := by
  intro args roots K r h
  unfold orS at h ⊢
  split at h
  · exact h1 args roots K r h
  · exact h2 args roots K r h
theorem orS_sound {F : Form} {S1 S2 : Sm} (h1 : Sound P f S1) (h2 : Sound P f S2) : Sound P f (orS F S1 S2) := by
  intro A args vals roots r roots' hhp H hv h
  unfold orS at h
  split at h
  · exact h1 A args vals roots r roots' hhp H hv h
  · exact h2 A args vals roots r roots' hhp H hv h

/-- a meaning at a slice of which it is not known whether it is nil -/
theorem nil_sound {e : Ty} {out : Form} {MT : List e.D × Unit → Option out.D} {MF : Unit × Unit → Option out.D} (hT : Sound P f (modeS ⟨.slT e, []⟩ out MT noS)) (hF : Sound P f (modeS ⟨.nilS, []⟩ out MF noS)) (h : MT ([], ()) = MF ((), ())) {S : Sm} (hS : Sound P f S) :
    Sound P f (modeS ⟨.dat (.sl e), []⟩ out MT S) := by
  intro A args vals roots r roots' hhp H hv hr
  unfold modeS at hr
  split at hr
  · rename_i d hd
    simp only [Option.bind_eq_some_iff] at hr
    obtain ⟨d', hM, he⟩ := hr
    obtain ⟨aw, am, ahp, aI⟩ := A
    simp only at hhp; subst hhp
    obtain ⟨q1, q2, _⟩ := Form.read_ok H hv hd
    have hroots : roots = [] := by
      unfold Form.read at hd
      split at hd
      · split at hd
        · rename_i h2
          cases roots with
          | nil => rfl
          | cons _ _ => simp [readRs] at h2
        · cases hd
      · cases hd
    subst hroots
    obtain ⟨l, u⟩ := d
    cases hvl : vals.toList with
    | nil => rw [hvl] at q2; simp [Form.vals, Pat.build, cellsI, relL] at q2
    | cons v vs =>
      rw [hvl] at q2
      simp only [Form.vals, Pat.build, cellsI, relL] at q2
      obtain ⟨q2, q3⟩ := q2
      cases vs with
      | cons _ _ => simp [relL] at q3
      | nil =>
        simp only [relV] at q2
        obtain ⟨ad, n, c, rfl, hrep, _⟩ := q2
        cases ad with
        | none =>
          obtain ⟨h1, h2, h3⟩ := hrep
          obtain ⟨rfl, rfl⟩ := h3
          simp at h1; subst h1
          refine hF ⟨aw, am, numbered 0 [], aI⟩ [.val (.slice none 0 0)] vals [] r roots' rfl q1 (by rw [hvl]; simp [relL, relV]) ?_
          show (MF ((), ())).bind _ = _
          rw [← h]
          rw [show MT ([], ()) = some d' from hM]
          exact he
        | some ad =>
          refine hT ⟨aw, am, numbered 0 [], aI⟩ [.sl e l (some true)] vals [] r roots' rfl q1 (by rw [hvl]; simp only [relL, relV]; exact ⟨⟨some ad, n, c, rfl, hrep, fun _ => rfl, by simp⟩, trivial⟩) ?_
          have hrd : Form.read ⟨.slT e, []⟩ [.sl e l (some true)] [] = some (l, ()) := by simp [Form.read, Pat.read, castL_self, readRs]
          unfold modeS
          rw [hrd]
          show (MT (l, ())).bind _ = _
          rw [show MT (l, ()) = some d' from hM]
          exact he
  · exact hS A args vals roots r roots' hhp H hv hr

/-- a function that is entered in place: n rounds of its loops at most -/
def inS (P : Program) (tab : List Ent) (ann : List (Nat × Lab)) (out : Form) (fn : Func) (n : Nat) : Sm := fun args roots K => runF P tab ann out fn K n args roots

end
end Go.AI
end
