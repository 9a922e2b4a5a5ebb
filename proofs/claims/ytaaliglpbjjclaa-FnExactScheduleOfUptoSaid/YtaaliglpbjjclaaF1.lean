/- FRAMES, second part: calls, operations. -/
import Derived.Test.YtaaliglpbjjclaaF0
namespace Go.AI
set_option linter.unusedVariables false
set_option linter.unusedSimpArgs false

section
variable {s s' : St} {S : Nat → Prop}

theorem snapL_fr {f f' : AV → Option (AV × List Nat)} : ∀ {cs : List AV}, (∀ c ∈ cs, f' c = f c) → snapL f' cs = snapL f cs
  | [], _ => rfl
  | c :: cs, h => by
    simp only [snapL, h c (by simp), snapL_fr (cs := cs) fun c hc => h c (by simp [hc])]

theorem snapF_fr (a : Agr s.hp s'.hp S) : ∀ (n : Nat) {v : AV}, (∀ h ∈ rdF s.hp n v, S h) → s'.snapF n v = s.snapF n v
  | 0, v, _ => rfl
  | n + 1, v, hS => by
    have rec_ : ∀ {cs : List AV}, (∀ h ∈ cs.flatMap (rdF s.hp n), S h) → snapL (s'.snapF n) cs = snapL (s.snapF n) cs := by
      intro cs hc
      refine snapL_fr fun c hcs => snapF_fr a n fun h hh => hc h (List.mem_flatMap.2 ⟨c, hcs, hh⟩)
    cases v with
    | ref h lo len => simp only [St.snapF, (a h (hS h (by simp [rdF]))).1]
    | ptr h i f =>
      simp only [St.snapF, (a h (hS h (by simp [rdF]))).1]
      split
      · rename_i cs hk
        rw [rec_ (cs := cs.drop f)]
        intro k hk'
        refine hS k ?_
        simp only [rdF, hk]
        exact List.mem_cons_of_mem _ hk'
      · rfl
      · rfl
      · rfl
    | agg cs => simp only [St.snapF]; rw [rec_ (cs := cs) (by simpa [rdF] using hS)]
    | tup cs => simp only [St.snapF]; rw [rec_ (cs := cs) (by simpa [rdF] using hS)]
    | fn f cs => simp only [St.snapF]; rw [rec_ (cs := cs) (by simpa [rdF] using hS)]
    | cp cs => simp only [St.snapF]; rw [rec_ (cs := cs) (by simpa [rdF] using hS)]
    | any => rfl
    | val u => rfl
    | ifc b => rfl
    | sl e l nn => rfl

/-- the handles that a snapshot shows are among those it looks at -/
theorem snapF_sub : ∀ (n : Nat) {v v' : AV} {vis : List Nat}, s.snapF n v = some (v', vis) → ∀ h ∈ vis, h ∈ rdF s.hp n v
  | 0, v, v', vis, h => by simp [St.snapF] at h
  | n + 1, v, v', vis, h => by
    have rec_ : ∀ {cs cs' : List AV} {vis : List Nat}, snapL (s.snapF n) cs = some (cs', vis) → ∀ h ∈ vis, h ∈ cs.flatMap (rdF s.hp n) := by
      intro cs cs' vis h
      exact snapL_own h fun c hc c' a h1 k hk => List.mem_flatMap.2 ⟨c, hc, snapF_sub n h1 k hk⟩
    cases v with
    | ref h0 lo len =>
      simp only [St.snapF] at h
      split at h
      · simp only [Option.some.injEq, Prod.mk.injEq] at h; obtain ⟨_, rfl⟩ := h; simp [rdF]
      · simp only [Option.some.injEq, Prod.mk.injEq] at h; obtain ⟨_, rfl⟩ := h; simp
      · cases h
    | ptr h0 i f =>
      simp only [St.snapF] at h
      split at h
      · rename_i cs hk
        obtain ⟨_, h⟩ := cond_none h
        split at h
        · rename_i cs' a h1
          simp only [Option.some.injEq, Prod.mk.injEq] at h; obtain ⟨_, rfl⟩ := h
          intro k hk'
          simp only [rdF, hk]
          rcases List.mem_cons.1 hk' with rfl | hk'
          · simp
          · exact List.mem_cons_of_mem _ (rec_ h1 k hk')
        · cases h
      · obtain ⟨_, h⟩ := cond_none h
        simp only [Option.some.injEq, Prod.mk.injEq] at h; obtain ⟨_, rfl⟩ := h; simp [rdF]
      · obtain ⟨_, h⟩ := cond_none h
        simp only [Option.some.injEq, Prod.mk.injEq] at h; obtain ⟨_, rfl⟩ := h; simp
      · cases h
    | agg cs =>
      simp only [St.snapF] at h
      split at h
      · rename_i cs' a h1; simp only [Option.some.injEq, Prod.mk.injEq] at h; obtain ⟨_, rfl⟩ := h; simpa [rdF] using rec_ h1
      · cases h
    | tup cs =>
      simp only [St.snapF] at h
      split at h
      · rename_i cs' a h1; simp only [Option.some.injEq, Prod.mk.injEq] at h; obtain ⟨_, rfl⟩ := h; simpa [rdF] using rec_ h1
      · cases h
    | fn f cs =>
      simp only [St.snapF] at h
      split at h
      · rename_i cs' a h1; simp only [Option.some.injEq, Prod.mk.injEq] at h; obtain ⟨_, rfl⟩ := h; simpa [rdF] using rec_ h1
      · cases h
    | cp cs =>
      simp only [St.snapF] at h
      split at h
      · rename_i cs' a h1; simp only [Option.some.injEq, Prod.mk.injEq] at h; obtain ⟨_, rfl⟩ := h; simpa [rdF] using rec_ h1
      · cases h
    | any => simp only [St.snapF, Option.some.injEq, Prod.mk.injEq] at h; obtain ⟨_, rfl⟩ := h; simp
    | val u => simp only [St.snapF, Option.some.injEq, Prod.mk.injEq] at h; obtain ⟨_, rfl⟩ := h; simp
    | ifc b => simp only [St.snapF, Option.some.injEq, Prod.mk.injEq] at h; obtain ⟨_, rfl⟩ := h; simp
    | sl e l nn => simp only [St.snapF, Option.some.injEq, Prod.mk.injEq] at h; obtain ⟨_, rfl⟩ := h; simp

theorem freeze_fr : ∀ {l : List Nat} {s s1 : St}, s.freeze l = some s1 →
    ∃ D, s1 = ⟨s.tm, D ++ s.hp⟩ ∧ ∀ (s' : St) (S : Nat → Prop), (∀ h ∈ l, S h) → Agr s.hp s'.hp S → s'.freeze l = some ⟨s'.tm, D ++ s'.hp⟩
  | [], s, s1, h => by
    simp only [St.freeze, Option.some.injEq] at h; subst h
    exact ⟨[], rfl, fun s' S _ _ => rfl⟩
  | k :: l, s, s1, h => by
    simp only [St.freeze] at h
    split at h
    · rename_i e x hk
      obtain ⟨D, rfl, hf⟩ := freeze_fr h
      refine ⟨D ++ [(k, .imm e x)], by simp [St.setH], fun s' S hS a => ?_⟩
      simp only [St.freeze, (a k (hS k (by simp))).1, hk]
      rw [hf (s'.setH k (.imm e x)) S (fun h hh => hS h (by simp [hh])) (Agr.cons a)]
      simp [St.setH]
    · rename_i e x hk
      obtain ⟨D, rfl, hf⟩ := freeze_fr h
      refine ⟨D, rfl, fun s' S hS a => ?_⟩
      simp only [St.freeze, (a k (hS k (by simp))).1, hk]
      exact hf s' S (fun h hh => hS h (by simp [hh])) a
    · cases h

theorem imp_fr {base : Nat} {v : AV} {roots : List Root} {K : St → AV → R} {r : Res} (h : s.imp base v roots K = some r) :
    ∃ D v', K ⟨s.tm, D ++ s.hp⟩ v' = some r ∧ ∀ (s' : St) (S : Nat → Prop), Wr D S → Agr s.hp s'.hp S → ∀ K' : St → AV → R, s'.imp base v roots K' = K' ⟨s'.tm, D ++ s'.hp⟩ v' := by
  unfold St.imp at h
  obtain ⟨c, h⟩ := cond_none' h
  refine ⟨_, _, h, fun s' S hw a K' => ?_⟩
  unfold St.imp
  have : ((List.range roots.length).any fun j => hasH s'.hp (base + j)) = false := by
    cases hb : (List.range roots.length).any fun j => hasH s'.hp (base + j) with
    | false => rfl
    | true =>
      obtain ⟨j, hj, hh⟩ := List.any_eq_true.1 hb
      have h1 := any_false c j hj
      have hj' := List.mem_range.1 hj
      have h2 := (a (base + j) (hw _ (by rw [hasH_numbered]; simp [hj']))).2
      rw [h2] at hh; rw [hh] at h1; cases h1
  rw [this, cond_false]; rfl

theorem collect_fr : ∀ (n : Nat) {hp hp' : List (Nat × Root)} {todo acc : List Nat}, Agr hp hp' S → (∀ h ∈ looked hp n todo acc, S h) → collect hp' n todo acc = collect hp n todo acc
  | 0, hp, hp', todo, acc, _, _ => rfl
  | n + 1, hp, hp', [], acc, _, _ => rfl
  | n + 1, hp, hp', k :: todo, acc, a, hS => by
    simp only [collect, looked] at hS ⊢
    cases hm : memN k acc with
    | true => rw [hm, cond_true] at hS; rw [cond_true, cond_true]; exact collect_fr n a hS
    | false =>
      rw [hm, cond_false] at hS
      rw [cond_false, cond_false, (a k (hS k (by simp))).1]
      split
      · rename_i hg; rw [hg] at hS; exact collect_fr n a fun h hh => hS h (by simp [hh])
      · rename_i x hx
        refine collect_fr n a fun h hh => hS h ?_
        cases hg : getH hp k with
        | gone => exact absurd hg hx
        | box cs => rw [hg] at hh; exact List.mem_cons_of_mem _ hh
        | arr e l => rw [hg] at hh; exact List.mem_cons_of_mem _ hh
        | imm e l => rw [hg] at hh; exact List.mem_cons_of_mem _ hh

/-- what is collected has been looked at -/
theorem collect_sub : ∀ (n : Nat) {hp : List (Nat × Root)} {todo acc : List Nat}, ∀ h ∈ collect hp n todo acc, h ∈ acc ∨ h ∈ looked hp n todo acc
  | 0, hp, todo, acc, h, hh => .inl hh
  | n + 1, hp, [], acc, h, hh => .inl hh
  | n + 1, hp, k :: todo, acc, h, hh => by
    simp only [collect, looked] at hh ⊢
    cases hm : memN k acc with
    | true => rw [hm, cond_true] at hh; rw [cond_true]; exact collect_sub n h hh
    | false =>
      rw [hm, cond_false] at hh
      rw [cond_false]
      split at hh
      · rename_i hg
        rcases collect_sub n h hh with h1 | h1
        · exact .inl h1
        · exact .inr (by simp [h1])
      · rename_i x hx
        rcases collect_sub n h hh with h1 | h1
        · rcases List.mem_append.1 h1 with h1 | h1
          · exact .inl h1
          · simp at h1; subst h1; exact .inr (by simp)
        · right
          cases hg : getH hp k with
          | gone => exact absurd hg hx
          | box cs => rw [hg] at h1; exact List.mem_cons_of_mem _ h1
          | arr e l => rw [hg] at h1; exact List.mem_cons_of_mem _ h1
          | imm e l => rw [hg] at h1; exact List.mem_cons_of_mem _ h1

theorem putBack_fr : ∀ {l : List Nat} {xs : List Root} {s s1 : St}, putBack l xs s = some s1 →
    ∃ D, s1 = ⟨s.tm, D ++ s.hp⟩ ∧ (∀ k ∈ l, hasH D k = true) ∧ ∀ s' : St, putBack l xs s' = some ⟨s'.tm, D ++ s'.hp⟩
  | [], xs, s, s1, h => by
    simp only [putBack, Option.some.injEq] at h; subst h
    exact ⟨[], rfl, by simp, fun s' => rfl⟩
  | k :: l, [], s, s1, h => by simp [putBack] at h
  | k :: l, x :: xs, s, s1, h => by
    simp only [putBack] at h
    obtain ⟨D, rfl, hm, hf⟩ := putBack_fr h
    refine ⟨D ++ [(k, x)], by simp [St.setH], ?_, fun s' => ?_⟩
    · intro j hj
      rw [hasH_append]
      rcases List.mem_cons.1 hj with rfl | hj
      · simp [hasH, Nat.beq_refl]
      · simp [hm j hj]
    · simp only [putBack]
      rw [hf (s'.setH k x)]
      simp [St.setH]

end
end Go.AI
