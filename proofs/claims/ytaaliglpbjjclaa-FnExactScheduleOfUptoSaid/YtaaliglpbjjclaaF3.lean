/- FRAMES, fourth part: any operation. -/
import Derived.Test.YtaaliglpbjjclaaF2
namespace Go.AI
set_option linter.unusedVariables false
set_option linter.unusedSimpArgs false

section
variable {P : Program} {tab : List Ent} {o : Oper} {s : St} {K : St → AV → R} {r : Res} {v : AV}

theorem ev_fr {s' : St} (ht : ∀ t ∈ tmpsOf o, getT s'.tm t = getT s.tm t) : ∀ x ∈ o.op.operands, s'.ev x = s.ev x := by
  intro x hx
  cases x with
  | tmp t => exact ht t (List.mem_filterMap.2 ⟨.tmp t, by simpa using hx, rfl⟩)
  | _ => rfl

/-- an operation depends on what it looks at alone, and does what it did -/
def FrOp (P : Program) (tab : List Ent) (o : Oper) (s : St) (K : St → AV → R) (r : Res) : Prop :=
  ∃ D v, K ⟨s.tm, D ++ s.hp⟩ v = some r ∧ ∀ (s' : St) (S : Nat → Prop), (∀ x ∈ o.op.operands, s'.ev x = s.ev x) → (∀ h ∈ readsA P o s, S h) → Wr D S → Agr s.hp s'.hp S → ∀ K' : St → AV → R, opA P tab o s' K' = K' ⟨s'.tm, D ++ s'.hp⟩ v

theorem FrOp.pure (h : K s v = some r) (hf : ∀ (s' : St) (S : Nat → Prop), (∀ x ∈ o.op.operands, s'.ev x = s.ev x) → (∀ h ∈ readsA P o s, S h) → Agr s.hp s'.hp S → ∀ K' : St → AV → R, opA P tab o s' K' = K' s' v) : FrOp P tab o s K r :=
  ⟨[], v, h, fun s' S h1 h2 _ h3 K' => hf s' S h1 h2 h3 K'⟩

theorem mapev {s' : St} {l : List Operand} (h : ∀ x ∈ l, s'.ev x = s.ev x) : l.map s'.ev = l.map s.ev := List.map_congr_left h

theorem fillC_refs {size : Nat → Option (Nat × Nat)} {S : Nat → Prop} : ∀ {ps : List (Nat × AV)} {cs cs' : List AV}, fillC size cs ps = some cs' → refsIn S cs → (∀ p ∈ ps, ∀ h ∈ hs p.2, S h) → refsIn S cs'
  | [], cs, cs', h, hr, _ => by simp only [fillC, Option.some.injEq] at h; subst h; exact hr
  | (i, v) :: ps, cs, cs', h, hr, hp => by
    simp only [fillC] at h
    split at h
    · rename_i off n xs h1 h2
      obtain ⟨_, h⟩ := cond_none h
      refine fillC_refs h ?_ fun p hp' => hp p (by simp [hp'])
      have hx : refsIn S xs := by
        intro k lo len hk
        have hv := hp (i, v) (by simp)
        cases v with
        | agg cs => simp only [cellsOfV, Option.some.injEq] at h2; subst h2; exact hv k (by simp only [hs, hsF]; exact List.mem_flatMap.2 ⟨_, hk, by simp [hsF]⟩)
        | ref k' lo' len' => simp only [cellsOfV, Option.some.injEq] at h2; subst h2; simp at hk; exact hv k (by simp [hs, hsF, hk])
        | val u => simp only [cellsOfV] at h2; obtain ⟨_, h2⟩ := cond_none h2; simp only [Option.some.injEq] at h2; subst h2; simp at hk
        | any => simp [cellsOfV] at h2
        | tup _ => simp [cellsOfV] at h2
        | fn _ _ => simp only [cellsOfV, Option.some.injEq] at h2; subst h2; simp at hk
        | ifc _ => simp only [cellsOfV, Option.some.injEq] at h2; subst h2; simp at hk
        | sl _ _ _ => simp only [cellsOfV, Option.some.injEq] at h2; subst h2; simp at hk
        | cp _ => simp only [cellsOfV, Option.some.injEq] at h2; subst h2; simp at hk
        | ptr _ _ _ => simp only [cellsOfV, Option.some.injEq] at h2; subst h2; simp at hk
      have hrep : ∀ (f : Nat) (cs : List AV), refsIn S cs → refsIn S (replAt cs f xs) := by
        intro f
        induction f with
        | zero =>
          intro cs hc k lo len hk
          cases cs <;> simp only [replAt] at hk <;> rcases List.mem_append.1 hk with hk | hk
          · exact hx k lo len hk
          · simp at hk
          · exact hx k lo len hk
          · exact hc k lo len (List.mem_of_mem_drop hk)
        | succ f ih =>
          intro cs hc k lo len hk
          cases cs with
          | nil => simp only [replAt] at hk; exact hx k lo len hk
          | cons c cs =>
            simp only [replAt] at hk
            rcases List.mem_cons.1 hk with hk | hk
            · exact hc k lo len (by simp [hk])
            · exact ih cs (fun a b c h => hc a b c (by simp [h])) k lo len hk
      exact hrep off cs hr
    · cases h

theorem vals_refs {S : Nat → Prop} {t : TypeId} {cs : List AV} (h : zeroOf P t = some cs) : refsIn S cs := by
  unfold zeroOf at h
  split at h
  · obtain ⟨_, h⟩ := cond_none h
    simp only [Option.some.injEq] at h; subst h
    intro k lo len hk
    simp [zeroCs] at hk
  · cases h

theorem cellsOfV_refs {S : Nat → Prop} {v : AV} {xs : List AV} (h2 : cellsOfV v = some xs) (hv : ∀ h ∈ hs v, S h) : refsIn S xs := by
  have := fillC_refs (S := S) (size := fun _ => some (0, xs.length)) (ps := [(0, v)]) (cs := List.replicate xs.length .any) (cs' := xs)
  refine this ?_ ?_ ?_
  · simp only [fillC, h2]
    rw [show (Nat.beq xs.length xs.length && Nat.ble (0 + xs.length) (List.replicate xs.length AV.any).length) = true by simp]
    have : ∀ (l : List AV), replAt (List.replicate l.length AV.any) 0 l = l := by
      intro l; cases l <;> simp [replAt]
    simp [this]
  · intro k lo len hk; simp at hk
  · intro p hp; simp at hp; subst hp; exact hv

end
end Go.AI
