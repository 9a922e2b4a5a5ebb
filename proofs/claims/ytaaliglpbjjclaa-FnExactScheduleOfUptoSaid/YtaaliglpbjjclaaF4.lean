/- FRAMES, fifth part: any operation. -/
import Derived.Test.YtaaliglpbjjclaaF3
namespace Go.AI
set_option linter.unusedVariables false
set_option linter.unusedSimpArgs false

section
variable {P : Program} {tab : List Ent} {o : Oper} {s : St} {K : St → AV → R} {r : Res} {v : AV}

theorem call_operands {c : Call} (ho : o.op = .call c) : ∀ x ∈ c.args.toList, x ∈ o.op.operands := by
  intro x hx
  rw [ho]
  simp only [Op.operands, Call.operands]
  split <;> simp_all

theorem call_callee {c : Call} {f : Operand} (ho : o.op = .call c) (hc : c.callee = .value f) : f ∈ o.op.operands := by
  rw [ho]
  simp [Op.operands, Call.operands, hc]

theorem opA_fr (h : opA P tab o s K = some r) : FrOp P tab o s K r := by
  unfold opA at h
  simp only at h
  split at h
  · rename_i x ho
    exact FrOp.pure h fun s' S hev _ _ K' => by
      unfold opA; simp only [ho]; rw [hev x (by simp [ho, Op.operands])]
  · rename_i x ho
    exact FrOp.pure h fun s' S hev _ _ K' => by
      unfold opA; simp only [ho]; rw [hev x (by simp [ho, Op.operands])]
  · rename_i c x y ho
    split at h
    · rename_i b hb
      split at h
      · rename_i p q hp hq
        exact FrOp.pure h fun s' S hev _ _ K' => by
          unfold opA; simp only [ho]; rw [hev c (by simp [ho, Op.operands]), hev x (by simp [ho, Op.operands]), hev y (by simp [ho, Op.operands])]
          simp only [hb, hp, hq]
      · rename_i hne
        cases b with
        | true =>
          exact FrOp.pure h fun s' S hev _ _ K' => by
            unfold opA; simp only [ho]; rw [hev c (by simp [ho, Op.operands]), hev x (by simp [ho, Op.operands]), hev y (by simp [ho, Op.operands])]
            simp only [hb]
            rfl
        | false =>
          exact FrOp.pure h fun s' S hev _ _ K' => by
            unfold opA; simp only [ho]; rw [hev c (by simp [ho, Op.operands]), hev x (by simp [ho, Op.operands]), hev y (by simp [ho, Op.operands])]
            simp only [hb]
            rfl
    · cases h
  · rename_i t ho
    split at h
    · rename_i cs hz
      obtain ⟨h1, h2⟩ := new_fr h
      refine ⟨[(_, .box cs)], _, h1, fun s' S hev _ hw a K' => ?_⟩
      unfold opA; simp only [ho, hz]
      exact h2 s' S hw.head a fun s1 => K' s1 _
    · cases h
  · rename_i t x ho
    split at h
    · rename_i cs hz
      obtain ⟨h1, h2⟩ := new_fr h
      refine ⟨[(_, .box cs)], _, h1, fun s' S hev _ hw a K' => ?_⟩
      unfold opA; simp only [ho]; rw [hev x (by simp [ho, Op.operands])]; simp only [hz]
      exact h2 s' S hw.head a fun s1 => K' s1 _
    · cases h
  · rename_i t ps ho
    split at h
    · rename_i z fs hz hu
      split at h
      · rename_i places hpl
        split at h
        · rename_i cs hf
          exact FrOp.pure h fun s' S hev _ _ K' => by
            unfold opA; simp only [ho, hz, hu, hpl]
            have : (ps.toList.map fun p => (p.1, s'.ev p.2)) = ps.toList.map fun p => (p.1, s.ev p.2) := by
              refine List.map_congr_left fun p hp => ?_
              rw [hev p.2 (by simp only [ho, Op.operands]; simp; exact ⟨p.1, by simpa using hp⟩)]
            rw [this, hf]
        · cases h
      · cases h
    · cases h
  · rename_i t n ps ho
    split at h
    · rename_i he
      split at h
      · rename_i z hz
        obtain ⟨c1, h⟩ := cond_none h
        split at h
        · rename_i cs hf
          obtain ⟨h1, h2⟩ := new_fr h
          refine ⟨[(_, .box cs)], _, h1, fun s' S hev hrd hw a K' => ?_⟩
          unfold opA; simp only [ho, he, hz, c1, cond_true]
          have : (ps.toList.map fun p => (p.1, s'.ev p.2)) = ps.toList.map fun p => (p.1, s.ev p.2) := by
            refine List.map_congr_left fun p hp => ?_
            rw [hev p.2 (by simp only [ho, Op.operands]; simp; exact ⟨p.1, by simpa using hp⟩)]
          rw [this, hf]
          exact h2 s' S hw.head a fun s1 => K' s1 _
        · cases h
      · cases h
    · rename_i et e bytes he
      split at h
      · rename_i z hz
        obtain ⟨c1, h⟩ := cond_none h
        split at h
        · rename_i cs hf
          split at h
          · rename_i s1 l hl
            obtain ⟨D, rfl, f1⟩ := takeAll_fr hl
            obtain ⟨h1, h2⟩ := new_fr h
            refine ⟨(_, .arr e l) :: D, _, h1, fun s' S hev hrd hw a K' => ?_⟩
            unfold opA; simp only [ho, he, hz, c1, cond_true]
            have : (ps.toList.map fun p => (p.1, s'.ev p.2)) = ps.toList.map fun p => (p.1, s.ev p.2) := by
              refine List.map_congr_left fun p hp => ?_
              rw [hev p.2 (by simp only [ho, Op.operands]; simp; exact ⟨p.1, by simpa using hp⟩)]
            rw [this, hf]
            simp only
            have hw' : Wr D S := Wr.right (D := [_]) hw
            have hrefs : refsIn S cs := by
              refine fillC_refs hf ?_ ?_
              · intro k lo len hk
                obtain ⟨l', hl', hk'⟩ := List.mem_flatten.1 hk
                have := List.eq_of_mem_replicate hl'
                subst this
                exact vals_refs hz k lo len hk'
              · intro p hp k hk
                obtain ⟨q, hq, rfl⟩ := List.mem_map.1 hp
                refine hrd k ?_
                simp only [readsA, ho]
                exact List.mem_flatMap.2 ⟨q, hq, hk⟩
            rw [f1 s' S hrefs hw' a]
            exact h2 ⟨s'.tm, D ++ s'.hp⟩ S hw.head a.app fun s1 => K' s1 _
          · cases h
        · cases h
      · cases h
  · rename_i t x ho
    split at h
    · rename_i n hl
      split at h
      · rename_i cs hc
        exact FrOp.pure h fun s' S hev hrd a K' => by
          unfold opA; simp only [ho, hl]; rw [hev x (by simp [ho, Op.operands]), cells_fr (fun k hk => hrd k (by simp only [readsA, ho]; exact hk)) a, hc]
      · cases h
    · rename_i n hl
      split at h
      · rename_i u hc
        exact FrOp.pure h fun s' S hev hrd a K' => by
          unfold opA; simp only [ho, hl]; rw [hev x (by simp [ho, Op.operands]), cells_fr (fun k hk => hrd k (by simp only [readsA, ho]; exact hk)) a, hc]
      · cases h
    · cases h
  · rename_i t x y ho
    split at h
    · rename_i cs b n hc hl
      obtain ⟨c1, h⟩ := cond_none h
      obtain ⟨D, h1, h2⟩ := store_fr h
      refine ⟨D, _, h1, fun s' S hev hrd hw a K' => ?_⟩
      unfold opA; simp only [ho]; rw [hev x (by simp [ho, Op.operands]), hev y (by simp [ho, Op.operands])]
      simp only [hc, hl, c1, cond_true]
      have hrd' : ∀ h ∈ hs (s.ev x) ++ hs (s.ev y), S h := fun k hk => hrd k (by simp only [readsA, ho]; exact hk)
      exact h2 s' S (fun k hk => hrd' k (by simp [hk])) (cellsOfV_refs hc fun k hk => hrd' k (by simp [hk])) hw a fun s1 => K' s1 _
    · cases h
  · rename_i x ho
    split at h
    · rename_i cs hx
      exact FrOp.pure h fun s' S hev hrd a K' => by
        unfold opA; simp only [ho]; rw [hev x (by simp [ho, Op.operands])]; simp only [hx]
    · rename_i k i f hx
      split at h
      · cases h
      · rename_i hk
        exact FrOp.pure h fun s' S hev hrd a K' => by
          unfold opA; simp only [ho]; rw [hev x (by simp [ho, Op.operands])]; simp only [hx]
          rw [(a k (hrd k (by simp [readsA, ho, hx, hs, hsF]))).1]
          split
          · rename_i hg; exact absurd hg hk
          · rfl
    · rename_i f cs hx
      exact FrOp.pure h fun s' S hev hrd a K' => by
        unfold opA; simp only [ho]; rw [hev x (by simp [ho, Op.operands])]; simp only [hx]
    · cases h
  · rename_i op t x y ty ho
    have h : binA P t op (match y with | .const _ => true | _ => false) (s.ev x) (s.ev y) (K s) = some r := by cases y <;> exact h
    obtain ⟨u, h1, h2⟩ := binA_det h
    exact FrOp.pure h1 fun s' S hev hrd a K' => by
      unfold opA; simp only [ho]; rw [hev x (by simp [ho, Op.operands]), hev y (by simp [ho, Op.operands])]
      have := h2 (K' s')
      cases y <;> exact this
  · rename_i op t x ho
    split at h
    · rename_i u hu
      exact FrOp.pure h fun s' S hev hrd a K' => by
        unfold opA; simp only [ho]; rw [hev x (by simp [ho, Op.operands])]; simp only [hu]
    · cases h
  · rename_i src dst x ho
    split at h
    · rename_i k n k' k'' hx h1 h2
      exact FrOp.pure h fun s' S hev hrd a K' => by
        unfold opA; simp only [ho]; rw [hev x (by simp [ho, Op.operands])]; simp only [hx, h1, h2]
    · rename_i b hx h1 h2
      exact FrOp.pure h fun s' S hev hrd a K' => by
        unfold opA; simp only [ho]; rw [hev x (by simp [ho, Op.operands])]; simp only [hx, h1, h2]
    · rename_i e _ _ h1 h2
      split at h
      · rename_i l h3 h4
        exact FrOp.pure h fun s' S hev hrd a K' => by
          unfold opA; simp only [ho]; rw [hev x (by simp [ho, Op.operands])]
          have hsl := slice_fr (v := s.ev x) (fun k hk => hrd k (by simp only [readsA, ho]; exact hk)) a
          simp only [h1, h2]
          rw [hsl, h4]
          simp only [h3]
      · cases h
    · cases h
  · rename_i f first caps ho
    obtain ⟨c1, h⟩ := cond_none h
    exact FrOp.pure h fun s' S hev hrd a K' => by
      unfold opA; simp only [ho, c1, cond_true]
      rw [mapev (l := caps.toList) fun x hx => hev x (by simp only [ho, Op.operands]; simp; exact .inr (by simpa using hx))]
  · rename_i t l c ho
    split at h
    · cases h
    · rename_i et e bytes he
      split at h
      · rename_i z n m hz h1 h2
        obtain ⟨c1, h⟩ := cond_none h
        obtain ⟨c2, h⟩ := chk_some h
        obtain ⟨c3, h⟩ := chk_some h
        obtain ⟨c4, h⟩ := chk_some h
        obtain ⟨q1, q2⟩ := new_fr h
        refine ⟨[(_, .arr e _)], _, q1, fun s' S hev hrd hw a K' => ?_⟩
        unfold opA; simp only [ho, he]; rw [hev l (by simp [ho, Op.operands]), hev c (by simp [ho, Op.operands])]
        simp only [hz, h1, h2, c1, c2, c3, c4, cond_true, chk]
        exact q2 s' S hw.head a fun s1 => K' s1 _
      · cases h
  · rename_i t x lo hi mx ho
    have hS : ∀ {S : Nat → Prop}, (∀ h ∈ readsA P o s, S h) → ∀ h ∈ hs (s.ev x), S h := fun hrd k hk => hrd k (by simp only [readsA, ho]; exact hk)
    have elo : ∀ {s' : St}, (∀ x ∈ o.op.operands, s'.ev x = s.ev x) → ∀ y, lo = some y → s'.ev y = s.ev y := fun hev y e => hev y (by simp [ho, Op.operands, e])
    have ehi : ∀ {s' : St}, (∀ x ∈ o.op.operands, s'.ev x = s.ev x) → ∀ y, hi = some y → s'.ev y = s.ev y := fun hev y e => hev y (by simp [ho, Op.operands, e])
    split at h
    · rename_i y
      split at h
      · rename_i b k hk
        split at h
        · rename_i j et e bytes len hj hel hlen
          obtain ⟨c1, h⟩ := chk_some h
          obtain ⟨h1, h2⟩ := new_fr h
          refine ⟨[(_, .arr e [])], _, h1, fun s' S hev hrd hw a K' => ?_⟩
          unfold opA; simp only [ho]
          rw [hev y (by simp [ho, Op.operands])]
          simp only [hk]
          rw [hev b (by simp [ho, Op.operands]), hev x (by simp [ho, Op.operands]), len_fr (hS hrd) a]
          simp only [hj, hel, hlen, c1, chk, cond_true]
          exact h2 s' S hw.head a fun s1 => K' s1 _
        · cases h
      · cases h
    split at h
    · rename_i b hx
      split at h
      · rename_i hu
        obtain ⟨c1, h⟩ := chk_some h
        obtain ⟨c2, h⟩ := chk_some h
        obtain ⟨c3, h⟩ := chk_some h
        exact FrOp.pure h fun s' S hev hrd a K' => by
          unfold opA; simp only [ho]; rw [hev x (by simp [ho, Op.operands])]
          simp only [hx, hu]
          have e1 : s'.bnd 0 lo = s.bnd 0 lo := by
            cases lo with
            | none => rfl
            | some y => simp only [St.bnd, elo hev y rfl]
          have e2 : s'.bnd (b.size : Nat) hi = s.bnd (b.size : Nat) hi := by
            cases hi with
            | none => rfl
            | some y => simp only [St.bnd, ehi hev y rfl]
          rw [e1, e2]
          simp only [c1, c2, c3, chk, cond_true]
      · cases h
    · rename_i hns
      split at h
      · rename_i n sz hn hz
        have hh := cond_none h
        clear h
        obtain ⟨hs0, h⟩ := hh
        split at h
        · split at h
          · rename_i v2 hv
            exact FrOp.pure h fun s' S hev hrd a K' => by
              unfold opA; simp only [ho]; rw [hev x (by simp [ho, Op.operands])]; simp only [hns]; rw [len_fr (hS hrd) a]
              simp only [hn, hz]
              rw [szOk_fr (hS hrd) a]
              simp only [hs0, cond_true, hv]
          · cases h
        · rename_i y
          split at h
          · rename_i l hl
            obtain ⟨c1, h⟩ := chk_some h
            obtain ⟨c2, h⟩ := chk_some h
            split at h
            · rename_i v2 hv
              exact FrOp.pure h fun s' S hev hrd a K' => by
                unfold opA; simp only [ho]; rw [hev x (by simp [ho, Op.operands])]; simp only [hns]; rw [len_fr (hS hrd) a]
                simp only [hn, hz]
                rw [szOk_fr (hS hrd) a]
                simp only [hs0, cond_true]; rw [elo hev y rfl]; simp only [cond_true, hl, c1, c2, chk, hv]
            · cases h
          · cases h
        · rename_i y
          split at h
          · rename_i l hl
            obtain ⟨c1, h⟩ := chk_some h
            obtain ⟨c2, h⟩ := chk_some h
            split at h
            · rename_i v2 hv
              exact FrOp.pure h fun s' S hev hrd a K' => by
                unfold opA; simp only [ho]; rw [hev x (by simp [ho, Op.operands])]; simp only [hns]; rw [len_fr (hS hrd) a]
                simp only [hn, hz]
                rw [szOk_fr (hS hrd) a]
                simp only [hs0, cond_true]; rw [ehi hev y rfl]; simp only [cond_true, hl, c1, c2, chk, hv]
            · cases h
          · cases h
        · rename_i y z
          split at h
          · rename_i l l' hl hl'
            obtain ⟨c1, h⟩ := chk_some h
            obtain ⟨c2, h⟩ := chk_some h
            obtain ⟨c3, h⟩ := chk_some h
            split at h
            · rename_i v2 hv
              exact FrOp.pure h fun s' S hev hrd a K' => by
                unfold opA; simp only [ho]; rw [hev x (by simp [ho, Op.operands])]; simp only [hns]; rw [len_fr (hS hrd) a]
                simp only [hn, hz]
                rw [szOk_fr (hS hrd) a]
                simp only [hs0, cond_true]; rw [elo hev y rfl, ehi hev z rfl]; simp only [cond_true, hl, hl', c1, c2, c3, chk, hv]
            · cases h
          · cases h
      · cases h
  · rename_i t x f ho
    split at h
    · rename_i fd hf
      obtain ⟨c1, h⟩ := cond_none h
      split at h
      · rename_i u hu
        exact FrOp.pure h fun s' S hev hrd a K' => by
          unfold opA; simp only [ho, hf, c1, cond_true]; rw [hev x (by simp [ho, Op.operands]), fldAddr_fr (fun k hk => hrd k (by simp only [readsA, ho]; exact hk)) a, hu]
      · cases h
    · cases h
  · rename_i t x f ho
    split at h
    · rename_i fd cs hf hx
      split at h
      · rename_i n hl
        obtain ⟨c1, h⟩ := cond_none h
        exact FrOp.pure h fun s' S hev hrd a K' => by
          unfold opA; simp only [ho, hf]; rw [hev x (by simp [ho, Op.operands])]; simp only [hx, hl, c1, cond_true]
      · rename_i n hl
        split at h
        · rename_i u hu
          exact FrOp.pure h fun s' S hev hrd a K' => by
            unfold opA; simp only [ho, hf]; rw [hev x (by simp [ho, Op.operands])]; simp only [hx, hl, hu]
        · cases h
      · cases h
    · cases h
  · rename_i t x i ho
    split at h
    · rename_i sz n len hz hi hl
      obtain ⟨c1, h⟩ := cond_none h
      obtain ⟨c2, h⟩ := chk_some h
      obtain ⟨c3, h⟩ := chk_some h
      split at h
      · rename_i u hu
        exact FrOp.pure h fun s' S hev hrd a K' => by
          have hS : ∀ h ∈ hs (s.ev x), S h := fun k hk => hrd k (by simp only [readsA, ho]; exact hk)
          unfold opA; simp only [ho]; rw [hev x (by simp [ho, Op.operands]), hev i (by simp [ho, Op.operands]), len_fr hS a]
          simp only [hz, hi, hl]
          rw [szOk_fr hS a, idxAddr_fr hS a]
          simp only [c1, c2, c3, cond_true, chk, hu]
      · cases h
    · cases h
  · rename_i t x i ho
    split at h
    · rename_i b n hx hi hu
      obtain ⟨c2, h⟩ := chk_some h
      obtain ⟨c3, h⟩ := chk_some h
      exact FrOp.pure h fun s' S hev hrd a K' => by
        unfold opA; simp only [ho]; rw [hev x (by simp [ho, Op.operands]), hev i (by simp [ho, Op.operands])]
        simp only [hx, hi, hu, c2, c3, cond_true, chk]
    · cases h
  · rename_i x i ho
    split at h
    · rename_i vs hx
      split at h
      · rename_i u hu
        exact FrOp.pure h fun s' S hev hrd a K' => by
          unfold opA; simp only [ho]; rw [hev x (by simp [ho, Op.operands])]; simp only [hx, hu]
      · cases h
    · cases h
  · rename_i c ho
    split at h
    · rename_i b hc
      have hrd0 : ∀ {S : Nat → Prop}, (∀ h ∈ readsA P o s, S h) → ∀ x ∈ c.args.toList, ∀ h ∈ hs (s.ev x), S h := fun hrd x hx k hk => hrd k (by simp only [readsA, ho, hc]; exact List.mem_flatMap.2 ⟨x, hx, hk⟩)
      have hargs : ∀ {s' : St}, (∀ x ∈ o.op.operands, s'.ev x = s.ev x) → c.args.toList.map s'.ev = c.args.toList.map s.ev := fun hev => mapev fun x hx => hev x (call_operands ho x hx)
      unfold builtA at h
      split at h
      · rename_i t x hts has
        obtain ⟨y, hy, rfl⟩ := arr_one has
        split at h
        · rename_i b hx hu
          exact FrOp.pure h fun s' S hev hrd a K' => by
            unfold opA; simp only [ho, hc]; rw [hargs hev, has, hts]; simp only [builtA, hx, hu]
        · rename_i e hne hu
          split at h
          · rename_i n hn
            exact FrOp.pure h fun s' S hev hrd a K' => by
              unfold opA; simp only [ho, hc]; rw [hargs hev, has, hts]; simp only [builtA, hu]
              rw [len_fr (hrd0 hrd y (by simp [hy])) a, hn]
          · cases h
        · cases h
      · rename_i t u x y hts has
        obtain ⟨x', y', hy, rfl, rfl⟩ := arr_two has
        obtain ⟨D, v, h1, h2⟩ := append_fr h
        refine ⟨D, v, h1, fun s' S hev hrd hw a K' => ?_⟩
        unfold opA; simp only [ho, hc]; rw [hargs hev, has, hts]; simp only [builtA]
        exact h2 s' S (hrd0 hrd x' (by simp [hy])) (hrd0 hrd y' (by simp [hy])) hw a K'
      · rename_i k p k' q has
        exact FrOp.pure h fun s' S hev hrd a K' => by
          unfold opA; simp only [ho, hc]; rw [hargs hev, has]; simp only [builtA]
      · rename_i k p k' q has
        exact FrOp.pure h fun s' S hev hrd a K' => by
          unfold opA; simp only [ho, hc]; rw [hargs hev, has]; simp only [builtA]
      · cases h
    · rename_i f hc
      split at h
      · rename_i g caps hf
        obtain ⟨D, u, h1, h2⟩ := callA_fr h
        refine ⟨D, u, h1, fun s' S hev hrd hw a K' => ?_⟩
        unfold opA; simp only [ho, hc]; rw [hev f (call_callee ho hc)]; simp only [hf]
        rw [mapev (l := c.args.toList) fun x hx => hev x (call_operands ho x hx)]
        refine h2 s' S (fun k hk => hrd k ?_) hw a K'
        simp only [readsA, ho, hc, hf]
        simp only [callRd] at hk
        exact hk
      · cases h
    · cases h
  · cases h

end
end Go.AI
