/- FRAMES, third part: any operation. -/
import Derived.Test.YtaaliglpbjjclaaF1
namespace Go.AI
set_option linter.unusedVariables false
set_option linter.unusedSimpArgs false

section
variable {P : Program} {s s' : St} {S : Nat → Prop} {K : St → AV → R} {r : Res}

theorem callB_fr {e : Ent} {args : List AV} {base : Nat} (h : callB e args base s K = some r) :
    ∃ D v, K ⟨s.tm, D ++ s.hp⟩ v = some r ∧ ∀ (s' : St) (S : Nat → Prop), (∀ h ∈ args.flatMap (rdF s.hp 6), S h) → Wr D S → Agr s.hp s'.hp S → ∀ K' : St → AV → R, callB e args base s' K' = K' ⟨s'.tm, D ++ s'.hp⟩ v := by
  unfold callB at h
  split at h
  · cases h
  · rename_i args' vis h1
    · obtain ⟨⟨rv, roots⟩, hK, h2⟩ := e.det _ _ _ _ h
      replace h := hK
      simp only at h
      clear hK
      have hsnap : ∀ (s' : St) (S : Nat → Prop), (∀ h ∈ args.flatMap (rdF s.hp 6), S h) → Agr s.hp s'.hp S → snapL (s'.snapF 6) args = some (args', vis) := by
        intro s' S hS a
        rw [← h1]
        exact snapL_fr fun c hc => snapF_fr a 6 fun h hh => hS h (List.mem_flatMap.2 ⟨c, hc, hh⟩)
      have hvis : ∀ h ∈ vis, h ∈ args.flatMap (rdF s.hp 6) := snapL_own h1 fun c hc c' a hh k hk => List.mem_flatMap.2 ⟨c, hc, snapF_sub 6 hh k hk⟩
      cases hc : (immF 6 rv || roots.any immR) with
      | true =>
        rw [hc, cond_true] at h
        split at h
        · rename_i s1 hf
          obtain ⟨D1, rfl, f1⟩ := freeze_fr hf
          obtain ⟨D2, v', h3, f2⟩ := imp_fr h
          refine ⟨D2 ++ D1, v', by simpa using h3, fun s' S hS hw a K' => ?_⟩
          unfold callB
          rw [hsnap s' S hS a]
          simp only [h2, hc, cond_true]
          rw [f1 s' S (fun k hk => hS k (hvis k hk)) a]
          simp only
          rw [f2 ⟨s'.tm, D1 ++ s'.hp⟩ S hw.left a.app]
          simp
        · cases h
      | false =>
        rw [hc, cond_false] at h
        obtain ⟨D2, v', h3, f2⟩ := imp_fr h
        refine ⟨D2, v', h3, fun s' S hS hw a K' => ?_⟩
        unfold callB
        rw [hsnap s' S hS a]
        simp only [h2, hc, cond_false]
        exact f2 s' S hw a K'

theorem callM_fr {e : Ent} {args : List AV} {base : Nat} (h : callM e args base s K = some r) :
    ∃ D v, K ⟨s.tm, D ++ s.hp⟩ v = some r ∧ ∀ (s' : St) (S : Nat → Prop), (∀ h ∈ looked s.hp 200 (args.flatMap hs) [], S h) → Wr D S → Agr s.hp s'.hp S → ∀ K' : St → AV → R, callM e args base s' K' = K' ⟨s'.tm, D ++ s'.hp⟩ v := by
  unfold callM at h
  simp only at h
  · obtain ⟨⟨rv, roots⟩, hK, hS0⟩ := e.det _ _ _ _ h
    replace h := hK
    simp only at h
    clear hK
    obtain ⟨hfr, h⟩ := cond_none' h
    split at h
    · rename_i s1 hpb
      obtain ⟨D, rfl, hm, hf⟩ := putBack_fr hpb
      refine ⟨D, _, h, fun s' S hS hw a K' => ?_⟩
      unfold callM
      have hc := collect_fr 200 a hS
      simp only [hc]
      have hroots : (collect s.hp 200 (args.flatMap hs) []).map (fun h => renRoot (idxO (collect s.hp 200 (args.flatMap hs) [])) (getH s'.hp h)) =
          (collect s.hp 200 (args.flatMap hs) []).map (fun h => renRoot (idxO (collect s.hp 200 (args.flatMap hs) [])) (getH s.hp h)) := by
        refine List.map_congr_left fun k hk => ?_
        have := (collect_sub 200 k hk).resolve_left (by simp)
        rw [(a k (hS k this)).1]
      rw [hroots, hS0]
      simp only
      have hany : ((List.range (roots.length - (collect s.hp 200 (args.flatMap hs) []).length)).any fun j => hasH s'.hp (base + j)) = false := by
        cases hb : (List.range (roots.length - (collect s.hp 200 (args.flatMap hs) []).length)).any fun j => hasH s'.hp (base + j) with
        | false => rfl
        | true =>
          obtain ⟨j, hj, hh⟩ := List.any_eq_true.1 hb
          have h1 := any_false hfr j hj
          have hmem : base + j ∈ homes (collect s.hp 200 (args.flatMap hs) []) base roots.length := by
            unfold homes
            exact List.mem_append_right _ (List.mem_map.2 ⟨j, hj, rfl⟩)
          have h2 := (a (base + j) (hw _ (hm _ hmem))).2
          rw [h2] at hh; rw [hh] at h1; cases h1
      rw [hany, cond_false, hf s']
    · cases h

/-- the handles that a call looks at -/
def callRd (args : List AV) (hp : List (Nat × Root)) : List Nat := looked hp 200 (args.flatMap hs) [] ++ args.flatMap (rdF hp 6)

theorem callA_fr {tab : List Ent} {f : FuncId} {args : List AV} {base : Nat} (h : callA P tab f args base s K = some r) :
    ∃ D v, K ⟨s.tm, D ++ s.hp⟩ v = some r ∧ ∀ (s' : St) (S : Nat → Prop), (∀ h ∈ callRd args s.hp, S h) → Wr D S → Agr s.hp s'.hp S → ∀ K' : St → AV → R, callA P tab f args base s' K' = K' ⟨s'.tm, D ++ s'.hp⟩ v := by
  unfold callA at h
  split at h
  · cases h
  · rename_i e he
    cases hm : e.mv with
    | true =>
      rw [hm, cond_true] at h
      obtain ⟨D, v, h1, h2⟩ := callM_fr h
      refine ⟨D, v, h1, fun s' S hS hw a K' => ?_⟩
      unfold callA
      simp only [he, hm, cond_true]
      exact h2 s' S (fun k hk => hS k (by simp only [callRd]; exact List.mem_append_left _ hk)) hw a K'
    | false =>
      rw [hm, cond_false] at h
      obtain ⟨D, v, h1, h2⟩ := callB_fr h
      refine ⟨D, v, h1, fun s' S hS hw a K' => ?_⟩
      unfold callA
      simp only [he, hm, cond_false]
      exact h2 s' S (fun k hk => hS k (by simp only [callRd]; exact List.mem_append_right _ hk)) hw a K'

/-! ### operators -/

theorem intOp_det {op : BinOp} {k : IntKind} {a b : Int} {K : Value → R} (h : intOp op k a b K = some r) : ∃ v, K v = some r ∧ ∀ K', intOp op k a b K' = K' v := by
  cases op <;> simp only [intOp] at h ⊢ <;> first
    | exact ⟨_, h, fun _ => rfl⟩
    | (obtain ⟨c, h⟩ := chk_some h; exact ⟨_, h, fun K' => by rw [c]; rfl⟩)
    | cases h
theorem strOp_det {op : BinOp} {a b : ByteArray} {K : Value → R} (h : strOp op a b K = some r) : ∃ v, K v = some r ∧ ∀ K', strOp op a b K' = K' v := by
  cases op <;> simp only [strOp] at h ⊢ <;> first
    | exact ⟨_, h, fun _ => rfl⟩
    | (obtain ⟨c, h⟩ := chk_some h; exact ⟨_, h, fun K' => by rw [c]; rfl⟩)
    | cases h
theorem eqNe_det {op : BinOp} {b : Bool} {K : AV → R} (h : eqNe op b K = some r) : ∃ v, K v = some r ∧ ∀ K', eqNe op b K' = K' v := by
  cases op <;> simp only [eqNe] at h ⊢ <;> first
    | exact ⟨_, h, fun _ => rfl⟩
    | cases h

theorem binA_det {t : TypeId} {op : BinOp} {yc : Bool} {a b : AV} {K : AV → R} (h : binA P t op yc a b K = some r) : ∃ v, K v = some r ∧ ∀ K', binA P t op yc a b K' = K' v := by
  unfold binA at h
  split at h
  · rename_i k x k' y
    cases op
    case shl => simp only at h; obtain ⟨c, h⟩ := chk_some h; exact ⟨_, h, fun K' => by simp [binA, c, chk]⟩
    case shr => simp only at h; obtain ⟨c, h⟩ := chk_some h; exact ⟨_, h, fun K' => by simp [binA, c, chk]⟩
    all_goals
      simp only at h
      obtain ⟨c, h⟩ := cond_none h
      obtain ⟨v, h1, h2⟩ := intOp_det h
      exact ⟨_, h1, fun K' => by simp only [binA, c, cond_true]; exact h2 _⟩
  · obtain ⟨v, h1, h2⟩ := strOp_det h
    exact ⟨_, h1, fun K' => by simp only [binA]; exact h2 _⟩
  · split at h
    · rename_i hu
      obtain ⟨v, h1, h2⟩ := eqNe_det h
      exact ⟨v, h1, fun K' => by simp only [binA, hu]; exact h2 _⟩
    · cases h
  · split at h
    · rename_i hu
      obtain ⟨c, h⟩ := cond_none h
      obtain ⟨v, h1, h2⟩ := eqNe_det h
      exact ⟨v, h1, fun K' => by simp only [binA, hu, c, cond_true]; exact h2 _⟩
    · cases h
  · split at h
    · rename_i hu
      obtain ⟨v, h1, h2⟩ := eqNe_det h
      exact ⟨v, h1, fun K' => by simp only [binA, hu]; exact h2 _⟩
    · cases h
  · split at h
    · rename_i hu
      obtain ⟨v, h1, h2⟩ := eqNe_det h
      exact ⟨v, h1, fun K' => by simp only [binA, hu]; exact h2 _⟩
    · cases h
  · split at h
    · rename_i fs hu
      obtain ⟨c, h⟩ := cond_none h
      split at h
      · rename_i b hb
        obtain ⟨v, h1, h2⟩ := eqNe_det h
        exact ⟨v, h1, fun K' => by simp only [binA, hu, c, cond_true, hb]; exact h2 _⟩
      · cases h
    · cases h
  · cases h

end
end Go.AI
