/- SOUNDNESS: calls. -/
import Derived.Test.YtaaliglpbjjclaaS13
namespace Go.AI
set_option linter.unusedVariables false
set_option linter.unusedSimpArgs false

section
variable {P : Program} {A : Env} {keep : Nat} {w : World} {m : Nat → Option (Nat × Nat)} {I : Nat → Prop} {s : St} {tmps : Array Value} {K : St → AV → R} {r : Res}

/-! ### nil slices get their types -/

theorem nil_sl {E : Env} (e : Ty) : relV E (.sl e [] (some false)) (.slice none 0 0) := by
  simp only [relV]
  exact ⟨none, 0, 0, rfl, ⟨rfl, Nat.le_refl _, rfl, rfl⟩, by simp, by simp⟩

/-! ### a call that borrows -/

theorem snapL_own {f : AV → Option (AV × List Nat)} {Q : Nat → Prop} : ∀ {cs cs' : List AV} {vis : List Nat}, snapL f cs = some (cs', vis) →
    (∀ c ∈ cs, ∀ c' a, f c = some (c', a) → ∀ h ∈ a, Q h) → ∀ h ∈ vis, Q h
  | [], cs', vis, h, _ => by simp only [snapL, Option.some.injEq, Prod.mk.injEq] at h; obtain ⟨_, rfl⟩ := h; intro h hh; cases hh
  | c :: cs, cs', vis, h, hf => by
    simp only [snapL] at h
    split at h
    · rename_i c' a h1
      split at h
      · rename_i r' b h2
        simp only [Option.some.injEq, Prod.mk.injEq] at h
        obtain ⟨_, rfl⟩ := h
        intro k hk
        rcases List.mem_append.1 hk with hk | hk
        · exact hf c (by simp) c' a h1 k hk
        · exact snapL_own h2 (fun c hc => hf c (by simp [hc])) k hk
      · cases h
    · cases h

theorem snapF_own : ∀ (n : Nat) {v v' : AV} {vis : List Nat}, s.snapF n v = some (v', vis) → ∀ h ∈ vis, owned (getH s.hp h) = true
  | 0, _, _, _, h => by simp [St.snapF] at h
  | n + 1, v, v', vis, h => by
    have hrec : ∀ {cs cs' : List AV} {a : List Nat}, snapL (s.snapF n) cs = some (cs', a) → ∀ h ∈ a, owned (getH s.hp h) = true :=
      fun h => snapL_own h fun c _ c' a h1 => snapF_own n h1
    cases v with
    | ref h0 lo len =>
      simp only [St.snapF] at h
      split at h
      · rename_i e l hg; simp only [Option.some.injEq, Prod.mk.injEq] at h; obtain ⟨_, rfl⟩ := h; intro k hk; simp at hk; subst hk; rw [hg]; rfl
      · simp only [Option.some.injEq, Prod.mk.injEq] at h; obtain ⟨_, rfl⟩ := h; intro k hk; cases hk
      · cases h
    | ptr h0 i f =>
      simp only [St.snapF] at h
      split at h
      · rename_i cs hg
        obtain ⟨_, h⟩ := cond_none h
        split at h
        · rename_i cs' a h1
          simp only [Option.some.injEq, Prod.mk.injEq] at h; obtain ⟨_, rfl⟩ := h
          intro k hk
          rcases List.mem_cons.1 hk with rfl | hk
          · rw [hg]; rfl
          · exact hrec h1 k hk
        · cases h
      · rename_i e l hg
        obtain ⟨_, h⟩ := cond_none h
        simp only [Option.some.injEq, Prod.mk.injEq] at h; obtain ⟨_, rfl⟩ := h; intro k hk; simp at hk; subst hk; rw [hg]; rfl
      · obtain ⟨_, h⟩ := cond_none h
        simp only [Option.some.injEq, Prod.mk.injEq] at h; obtain ⟨_, rfl⟩ := h; intro k hk; cases hk
      · cases h
    | agg cs =>
      simp only [St.snapF] at h
      split at h
      · rename_i cs' a h1; simp only [Option.some.injEq, Prod.mk.injEq] at h; obtain ⟨_, rfl⟩ := h; exact hrec h1
      · cases h
    | tup cs =>
      simp only [St.snapF] at h
      split at h
      · rename_i cs' a h1; simp only [Option.some.injEq, Prod.mk.injEq] at h; obtain ⟨_, rfl⟩ := h; exact hrec h1
      · cases h
    | fn f cs =>
      simp only [St.snapF] at h
      split at h
      · rename_i cs' a h1; simp only [Option.some.injEq, Prod.mk.injEq] at h; obtain ⟨_, rfl⟩ := h; exact hrec h1
      · cases h
    | cp cs =>
      simp only [St.snapF] at h
      split at h
      · rename_i cs' a h1; simp only [Option.some.injEq, Prod.mk.injEq] at h; obtain ⟨_, rfl⟩ := h; exact hrec h1
      · cases h
    | any => simp only [St.snapF, Option.some.injEq, Prod.mk.injEq] at h; obtain ⟨_, rfl⟩ := h; intro k hk; cases hk
    | val u => simp only [St.snapF, Option.some.injEq, Prod.mk.injEq] at h; obtain ⟨_, rfl⟩ := h; intro k hk; cases hk
    | ifc b => simp only [St.snapF, Option.some.injEq, Prod.mk.injEq] at h; obtain ⟨_, rfl⟩ := h; intro k hk; cases hk
    | sl e l nn => simp only [St.snapF, Option.some.injEq, Prod.mk.injEq] at h; obtain ⟨_, rfl⟩ := h; intro k hk; cases hk

theorem CallOk.mono {f : FuncId} {vals : Array Value} {G G' : Value → World → Prop} (h : CallOk P f vals w G) (hG : ∀ x w', G x w' → G' x w') : CallOk P f vals w G' := by
  rcases h with ⟨x, w', h1, h2⟩ | ⟨g, args, w', h1, h2⟩
  · exact .inl ⟨x, w', h1, hG _ _ h2⟩
  · refine .inr ⟨g, args, w', h1, h2.mono ?_⟩
    rintro e w'' ⟨x, rfl, hx⟩
    exact ⟨x, rfl, hG _ _ hx⟩

/-- what is to be shown of a call -/
def Called (P : Program) (f : FuncId) (vals : Array Value) (w : World) (A : Env) (keep : Nat) (tmps : Array Value) (K : St → AV → R) (r : Res) : Prop :=
  ∃ s2 v2, K s2 v2 = some r ∧ CallOk P f vals w fun x w' => goodV A keep s2 tmps w' v2 x

theorem empty_heap {J : Nat → Prop} (hJ : ∀ b, J b → b < w.heap.size) : HeapRel ⟨w, fun _ => none, [], J⟩ where
  root := fun h => by simp [getH, rootOk]
  inj := by intro h h' b o o' h1; simp [getH, owned] at h1
  lt := hJ

theorem callB_ok {e : Ent} (he : Sound P e.f e.S) (hg : Good A keep ⟨w, m, s.hp, I⟩ s.tm tmps) {args : List AV} {vals : Array Value} {base : Nat} (hv : relL ⟨w, m, s.hp, I⟩ args vals.toList)
    (h : callB e args base s K = some r) : Called P e.f vals w A keep tmps K r := by
  unfold callB at h
  split at h
  · cases h
  · rename_i args' vis h1
    · obtain ⟨⟨rv, roots⟩, hK, hdet⟩ := e.det _ _ _ _ h
      have h2 := hdet some
      replace h := hK
      simp only at h
      clear hK hdet
      cases hc : (immF 6 rv || roots.any immR) with
      | true =>
        rw [hc, cond_true] at h
        split at h
        · rename_i s1 hf
          unfold St.imp at h
          obtain ⟨hn, h⟩ := cond_none' h
          obtain ⟨I1, F, hs⟩ := freeze_ok hf hg
          have hargs := snapL_okL (E := ⟨w, m, s.hp, I⟩) (E' := ⟨w, fun _ => none, [], I1⟩) (shown m I1) (fun a b hk => ⟨fun k h => hk k (by simp [h]), fun k h => hk k (by simp [h])⟩) h1 hs
            (fun c hc v c' a hh hsh hr => snap_ok hg.heap F.grow.sub 6 hh hsh hr) hv
          have hg1 : Good A keep ⟨w, m, s1.hp, I1⟩ s1.tm tmps := by rw [F.tms]; exact F.good
          have := he ⟨w, fun _ => none, [], I1⟩ args' vals [] rv roots rfl (empty_heap hg1.heap.lt) hargs h2
          refine ⟨_, _, h, this.mono ?_⟩
          rintro x w' ⟨m', I', q1, q2, q3⟩
          exact imp_ok hg1 hn q1 q2 q3 (.inl fun _ h => h)
        · cases h
      | false =>
        rw [hc, cond_false] at h
        unfold St.imp at h
        obtain ⟨hn, h⟩ := cond_none' h
        have hown : ∀ k ∈ vis, owned (getH s.hp k) = true := snapL_own h1 fun c _ c' a hh => snapF_own 6 hh
        have hs : shown m (fun b => b < w.heap.size) vis := fun k hk b o hm => (hg.heap.own_lt (b := b) ⟨k, o, hown k hk, hm⟩).1
        have hargs := snapL_okL (E := ⟨w, m, s.hp, I⟩) (E' := ⟨w, fun _ => none, [], fun b => b < w.heap.size⟩) (shown m fun b => b < w.heap.size) (fun a b hk => ⟨fun k h => hk k (by simp [h]), fun k h => hk k (by simp [h])⟩) h1 hs
            (fun c hc v c' a hh hsh hr => snap_ok hg.heap hg.heap.lt 6 hh hsh hr) hv
        have := he ⟨w, fun _ => none, [], fun b => b < w.heap.size⟩ args' vals [] rv roots rfl (empty_heap fun b h => h) hargs h2
        refine ⟨_, _, h, this.mono ?_⟩
        rintro x w' ⟨m', I', q1, q2, q3⟩
        exact imp_ok hg hn q1 q2 q3 (.inr hc)

end
end Go.AI
