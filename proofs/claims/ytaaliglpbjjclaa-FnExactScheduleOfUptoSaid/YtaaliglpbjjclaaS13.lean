/- SOUNDNESS: calls that borrow. -/
import Derived.Test.YtaaliglpbjjclaaS12
namespace Go.AI
set_option linter.unusedVariables false
set_option linter.unusedSimpArgs false

section
variable {w : World} {m : Nat → Option (Nat × Nat)} {I : Nat → Prop} {s : St}

theorem snapL_ok {f : AV → Option (AV × List Nat)} {E E' : Env} (good : List Nat → Prop) (happ : ∀ a b, good (a ++ b) → good a ∧ good b) : ∀ {cs cs' : List AV} {vis : List Nat} {vs : List Value}, snapL f cs = some (cs', vis) → good vis →
    (∀ c ∈ cs, ∀ v c' a, f c = some (c', a) → good a → relV E c v → relV E' c' v) → relC E cs vs → relC E' cs' vs
  | [], cs', vis, vs, h, _, _, hc => by
    simp only [snapL, Option.some.injEq, Prod.mk.injEq] at h
    obtain ⟨rfl, rfl⟩ := h
    cases vs <;> simp_all [relC]
  | c :: cs, cs', vis, vs, h, hv, hf, hc => by
    simp only [snapL] at h
    split at h
    · rename_i c' a h1
      split at h
      · rename_i r' b h2
        simp only [Option.some.injEq, Prod.mk.injEq] at h
        obtain ⟨rfl, rfl⟩ := h
        obtain ⟨ga, gb⟩ := happ a b hv
        cases vs with
        | nil => simp [relC] at hc
        | cons v vs =>
          simp only [relC] at hc ⊢
          exact ⟨hc.1, hf c (by simp) v c' a h1 ga hc.2.1, snapL_ok good happ h2 gb (fun c hc => hf c (by simp [hc])) hc.2.2⟩
      · cases h
    · cases h
theorem snapL_okL {f : AV → Option (AV × List Nat)} {E E' : Env} (good : List Nat → Prop) (happ : ∀ a b, good (a ++ b) → good a ∧ good b) : ∀ {cs cs' : List AV} {vis : List Nat} {vs : List Value}, snapL f cs = some (cs', vis) → good vis →
    (∀ c ∈ cs, ∀ v c' a, f c = some (c', a) → good a → relV E c v → relV E' c' v) → relL E cs vs → relL E' cs' vs
  | [], cs', vis, vs, h, _, _, hc => by
    simp only [snapL, Option.some.injEq, Prod.mk.injEq] at h
    obtain ⟨rfl, rfl⟩ := h
    cases vs <;> simp_all [relL]
  | c :: cs, cs', vis, vs, h, hv, hf, hc => by
    simp only [snapL] at h
    split at h
    · rename_i c' a h1
      split at h
      · rename_i r' b h2
        simp only [Option.some.injEq, Prod.mk.injEq] at h
        obtain ⟨rfl, rfl⟩ := h
        obtain ⟨ga, gb⟩ := happ a b hv
        cases vs with
        | nil => simp [relL] at hc
        | cons v vs =>
          simp only [relL] at hc ⊢
          exact ⟨hf c (by simp) v c' a h1 ga hc.1, snapL_okL good happ h2 gb (fun c hc => hf c (by simp [hc])) hc.2⟩
      · cases h
    · cases h

/-- the blocks of the roots shown are in J -/
def shown (m : Nat → Option (Nat × Nat)) (J : Nat → Prop) (vis : List Nat) : Prop := ∀ h ∈ vis, ∀ b o, m h = some (b, o) → J b

theorem elem_imm {J : Nat → Prop} {h : Nat} {e : Ty} {l : List e.D} {own : Bool} {i f : Nat} {x : Value} (H : arrOk ⟨w, m, s.hp, I⟩ h e l own) (hJ : ∀ b, I b → J b) (hb : ∀ b o, m h = some (b, o) → J b)
    (hr : ∃ b o, m h = some (b, o) ∧ x = .pointer (some ⟨b, o + i * e.sz + f, none⟩) ∧ i < l.length) (hf : f ≤ e.sz) {m0 : Nat → Option (Nat × Nat)} :
    relV ⟨w, m0, [], J⟩ (.cp ((cellsI e (l.getD i e.d0)).drop f)) x := by
  obtain ⟨b, o, hm, rfl, hi⟩ := hr
  obtain ⟨vss, hat, hall⟩ := arr_at H hm
  obtain ⟨h1, h2⟩ := elem_at hat hall i hi
  have hc : relC ⟨w, m0, [], J⟩ (cellsI e (l.getD i e.d0)) (vss.getD i []) := cellsI_ok (E := ⟨w, m0, [], J⟩) rfl (repT_mono (fun _ _ => rfl) hJ h2)
  have hl := repT_len h2
  simp only [relV]
  have := h1.sub' f (e.sz - f) (by omega)
  refine ⟨b, _, _, rfl, hb b o hm, this, ?_⟩
  have q := relC_drop f hc
  rwa [show ((vss.getD i []).drop f).take (e.sz - f) = (vss.getD i []).drop f from List.take_of_length_le (by simp only [List.length_drop]; omega)]

theorem snap_ok (H : HeapRel ⟨w, m, s.hp, I⟩) {J : Nat → Prop} (hJ : ∀ b, I b → J b) {m0 : Nat → Option (Nat × Nat)} : ∀ (n : Nat) {v v' : AV} {x : Value} {vis : List Nat}, s.snapF n v = some (v', vis) → shown m J vis → relV ⟨w, m, s.hp, I⟩ v x →
    relV ⟨w, m0, [], J⟩ v' x
  | 0, v, v', x, vis, h, _, _ => by simp [St.snapF] at h
  | n + 1, v, v', x, vis, h, hv, hx => by
    have happ : ∀ a b, shown m J (a ++ b) → shown m J a ∧ shown m J b := fun a b h => ⟨fun k hk => h k (by simp [hk]), fun k hk => h k (by simp [hk])⟩
    have hrec : ∀ (cs : List AV), ∀ c ∈ cs, ∀ v c' a, s.snapF n c = some (c', a) → shown m J a → relV ⟨w, m, s.hp, I⟩ c v → relV ⟨w, m0, [], J⟩ c' v := fun cs c _ v c' a h1 h2 h3 => snap_ok H hJ n h1 h2 h3
    simp only [St.snapF] at h
    split at h
    · rename_i h0 lo len
      have hroot := H.root h0
      simp only [relV] at hx
      split at h
      · rename_i e l hgt
        simp only [Option.some.injEq, Prod.mk.injEq] at h
        obtain ⟨rfl, rfl⟩ := h
        simp only [hgt] at hroot hx
        obtain ⟨a, k, c, rfl, hr, _⟩ := ref_ok hroot hx
        simp only [relV]
        exact ⟨a, k, c, rfl, repS_mono hr (fun _ _ => rfl) (fun b hb => by obtain ⟨o, hb⟩ := hb; exact hv h0 (by simp) b o hb) (fun _ _ hx => repT_mono (fun _ _ => rfl) hJ hx), by simp, by simp⟩
      · rename_i e l hgt
        simp only [Option.some.injEq, Prod.mk.injEq] at h
        obtain ⟨rfl, rfl⟩ := h
        simp only [hgt] at hroot hx
        obtain ⟨a, k, c, rfl, hr, _⟩ := ref_ok hroot hx
        simp only [relV]
        refine ⟨a, k, c, rfl, repS_mono hr (fun _ _ => rfl) (fun b hb => ?_) (fun _ _ hx => repT_mono (fun _ _ => rfl) hJ hx), by simp, by simp⟩
        obtain ⟨o, hb⟩ := hb
        rcases hroot.2 with ⟨h1, _⟩ | ⟨b', o', vss, h1, h2, _⟩
        · rw [h1] at hb; cases hb
        · rw [h1] at hb; obtain ⟨rfl, rfl⟩ := Prod.mk.inj (Option.some.inj hb)
          simp only [Bool.false_eq_true, if_false] at h2; exact hJ _ h2.1
      · cases h
    · rename_i h0 i f
      have hroot := H.root h0
      simp only [relV] at hx
      split at h
      · rename_i cs hgt
        obtain ⟨hfl, h⟩ := cond_none h
        have hfl := Nat.le_of_ble_eq_true hfl
        split at h
        · rename_i cs' a h1
          simp only [Option.some.injEq, Prod.mk.injEq] at h
          obtain ⟨rfl, rfl⟩ := h
          simp only [hgt] at hroot hx
          obtain ⟨b, hm, rfl⟩ := hx
          obtain ⟨b', vs, T, h2, h3, h4, h5⟩ := hroot
          have h2 : m h0 = some (b', 0) := h2
          rw [h2] at hm; obtain ⟨rfl, _⟩ := Prod.mk.inj (Option.some.inj hm)
          simp only [relV]
          have hat : At w b' 0 vs.toList := ⟨vs, T, _, h4, [], [], by simp, rfl⟩
          have hd := relC_drop f h5
          have hga : shown m J a := fun k hk => hv k (by simp [hk])
          have hrel := snapL_ok (E := ⟨w, m, s.hp, I⟩) (E' := ⟨w, m0, [], J⟩) (shown m J) happ h1 hga (hrec _) hd
          have hf : f ≤ vs.toList.length := by have := relC_length h5; omega
          have hs := hat.sub' f (vs.toList.length - f) hf
          rw [List.take_of_length_le (by simp), Nat.zero_add] at hs
          exact ⟨b', f, _, rfl, hv h0 (by simp) b' 0 h2, hs, hrel⟩
        · cases h
      · rename_i e l hgt
        obtain ⟨hf, h⟩ := cond_none h
        simp only [Option.some.injEq, Prod.mk.injEq] at h
        obtain ⟨rfl, rfl⟩ := h
        simp only [hgt] at hroot hx
        exact elem_imm hroot hJ (fun b o hb => hv h0 (by simp) b o hb) hx (Nat.le_of_ble_eq_true hf)
      · rename_i e l hgt
        obtain ⟨hf, h⟩ := cond_none h
        simp only [Option.some.injEq, Prod.mk.injEq] at h
        obtain ⟨rfl, rfl⟩ := h
        simp only [hgt] at hroot hx
        refine elem_imm hroot hJ (fun b o hb => ?_) hx (Nat.le_of_ble_eq_true hf)
        rcases hroot.2 with ⟨h1, _⟩ | ⟨b', o', vss, h1, h2, _⟩
        · have h1 : m h0 = none := h1
          rw [h1] at hb; cases hb
        · have h1 : m h0 = some (b', o') := h1
          rw [h1] at hb; obtain ⟨rfl, rfl⟩ := Prod.mk.inj (Option.some.inj hb)
          simp only [Bool.false_eq_true, if_false] at h2; exact hJ _ h2.1
      · cases h
    · rename_i cs
      split at h
      · rename_i cs' a h1
        simp only [Option.some.injEq, Prod.mk.injEq] at h
        obtain ⟨rfl, rfl⟩ := h
        simp only [relV] at hx ⊢
        obtain ⟨vs, rfl, hc⟩ := hx
        exact ⟨vs, rfl, snapL_ok (E := ⟨w, m, s.hp, I⟩) (E' := ⟨w, m0, [], J⟩) (shown m J) happ h1 hv (hrec _) hc⟩
      · cases h
    · rename_i cs
      split at h
      · rename_i cs' a h1
        simp only [Option.some.injEq, Prod.mk.injEq] at h
        obtain ⟨rfl, rfl⟩ := h
        simp only [relV] at hx ⊢
        obtain ⟨vs, rfl, hc⟩ := hx
        exact ⟨vs, rfl, snapL_okL (E := ⟨w, m, s.hp, I⟩) (E' := ⟨w, m0, [], J⟩) (shown m J) happ h1 hv (hrec _) hc⟩
      · cases h
    · rename_i f cs
      split at h
      · rename_i cs' a h1
        simp only [Option.some.injEq, Prod.mk.injEq] at h
        obtain ⟨rfl, rfl⟩ := h
        simp only [relV] at hx ⊢
        obtain ⟨vs, rfl, hc⟩ := hx
        exact ⟨vs, rfl, snapL_okL (E := ⟨w, m, s.hp, I⟩) (E' := ⟨w, m0, [], J⟩) (shown m J) happ h1 hv (hrec _) hc⟩
      · cases h
    · simp only [Option.some.injEq, Prod.mk.injEq] at h
      obtain ⟨rfl, rfl⟩ := h
      simp [relV]
    · simp only [Option.some.injEq, Prod.mk.injEq] at h
      obtain ⟨rfl, rfl⟩ := h
      simpa [relV] using hx
    · simp only [Option.some.injEq, Prod.mk.injEq] at h
      obtain ⟨rfl, rfl⟩ := h
      simpa [relV] using hx
    · simp only [Option.some.injEq, Prod.mk.injEq] at h
      obtain ⟨rfl, rfl⟩ := h
      simp only [relV] at hx ⊢
      obtain ⟨a, k, c, rfl, hr, h1, h2⟩ := hx
      exact ⟨a, k, c, rfl, repS_mono hr (fun _ _ => rfl) hJ (fun _ _ hx => repT_mono (fun _ _ => rfl) hJ hx), h1, h2⟩
    · split at h
      · rename_i cs' a h1
        simp only [Option.some.injEq, Prod.mk.injEq] at h
        obtain ⟨rfl, rfl⟩ := h
        simp only [relV] at hx ⊢
        obtain ⟨b, o, vs, rfl, hI, hat, hc⟩ := hx
        exact ⟨b, o, vs, rfl, hJ _ hI, hat, snapL_ok (E := ⟨w, m, s.hp, I⟩) (E' := ⟨w, m0, [], J⟩) (shown m J) happ h1 hv (hrec _) hc⟩
      · cases h


section
variable {P : Program} {A : Env} {keep : Nat} {tmps : Array Value} {K : St → AV → R} {r : Res}

/-- what a call has made becomes the caller's -/
theorem imp_ok (hg : Good A keep ⟨w, m, s.hp, I⟩ s.tm tmps) {base : Nat} {rv : AV} {roots : List Root} (hn : ((List.range roots.length).any fun j => hasH s.hp (base + j)) = false)
    {w' : World} {m' : Nat → Option (Nat × Nat)} {I' J : Nat → Prop} {m0 : Nat → Option (Nat × Nat)} {x : Value} (H' : HeapRel ⟨w', m', numbered 0 roots, I'⟩) (hh : Hist ⟨w, m0, [], J⟩ 0 ⟨w', m', numbered 0 roots, I'⟩) (hx : relV ⟨w', m', numbered 0 roots, I'⟩ rv x)
    (hI : (∀ b, J b → I b) ∨ (immF 6 rv || roots.any immR) = false) :
    goodV A keep (s.impS base roots) tmps w' (ren (shiftO roots.length base) rv) x := by
  have hfree : ∀ j, j < roots.length → hasH s.hp (base + j) = false := fun j hj => any_false hn j (List.mem_range.2 hj)
  have hnoOwn : ∀ b, ¬ Own ⟨w, m0, [], J⟩ b := by rintro b ⟨k, o, ho, _⟩; simp [getH, owned] at ho
  have old : ∀ b, b < w.heap.size → w'.heap[b]? = w.heap[b]? := fun b hb => hh.old b hb (hnoOwn b)
  have newOwn : ∀ b, Own ⟨w', m', numbered 0 roots, I'⟩ b → w.heap.size ≤ b := fun b hb => (hh.own b hb).resolve_left (hnoOwn b)
  have himm : ∀ b, I' b → J b ∨ w.heap.size ≤ b := fun b hb => by
    rcases hh.imm b hb with h | h | h
    · exact .inl h
    · exact absurd h (hnoOwn b)
    · exact .inr h
  -- the new environment
  let inNew : Nat → Prop := fun k => base ≤ k ∧ k < base + roots.length
  let m1 : Nat → Option (Nat × Nat) := fun k => if base ≤ k ∧ k < base + roots.length then m' (k - base) else m k
  let I1 : Nat → Prop := fun b => I b ∨ (I' b ∧ w.heap.size ≤ b)
  let hp1 := numbered base (roots.map (renRoot (shiftO roots.length base))) ++ s.hp
  have hlenm : (roots.map (renRoot (shiftO roots.length base))).length = roots.length := by simp
  have gNew : ∀ k, base ≤ k ∧ k < base + roots.length → getH hp1 k = renRoot (shiftO roots.length base) (getH (numbered 0 roots) (k - base)) := by
    intro k hk
    have h1 : hasH (numbered base (roots.map (renRoot (shiftO roots.length base)))) k = true := by rw [hasH_numbered, hlenm]; simpa using hk
    rw [getH_append, if_pos h1, getH_numbered, hlenm, if_pos hk, getH_numbered, if_pos (by omega)]
    rw [Nat.sub_zero]
    have hlt : k - base < roots.length := by omega
    simp [List.getD_eq_getElem?_getD, List.getElem?_map, List.getElem?_eq_getElem hlt]
  have gOld : ∀ k, ¬ (base ≤ k ∧ k < base + roots.length) → getH hp1 k = getH s.hp k := by
    intro k hk
    have h1 : ¬ hasH (numbered base (roots.map (renRoot (shiftO roots.length base)))) k = true := by rw [hasH_numbered, hlenm]; simpa using hk
    rw [getH_append, if_neg h1]
  have hasNew : ∀ k, hasH hp1 k = (decide (base ≤ k ∧ k < base + roots.length) || hasH s.hp k) := by
    intro k
    rw [hasH_append, hasH_numbered, hlenm]
  have notNew : ∀ k, hasH s.hp k = true → ¬ (base ≤ k ∧ k < base + roots.length) := by
    intro k hk hc
    have := hfree (k - base) (by omega)
    rw [show base + (k - base) = k by omega, hk] at this; cases this
  have bszOld : ∀ b, AI.bsz w b ≤ AI.bsz w' b := fun b => hh.bsz b
  have g : Grows ⟨w, m, s.hp, I⟩ ⟨w', m1, hp1, I1⟩ := by
    refine ⟨fun b hb => old b (hg.heap.lt b hb), fun b hb => .inl hb, fun k hk => by rw [hasNew, hk]; simp, ?_, ?_, bszOld⟩
    · intro k hk; simp only [gOld k (notNew k hk)]; exact fits_refl _
    · intro k hk _; simp only [m1, if_neg (notNew k hk)]
  have R : Ren (shiftO roots.length base) ⟨w', m', numbered 0 roots, I'⟩ ⟨w', m1, hp1, I1⟩ := by
    refine ⟨rfl, ?_, ?_, ?_⟩
    · intro h k e
      obtain ⟨h1, rfl⟩ := shiftO_ok e
      simp only [m1, if_pos (show base ≤ base + h ∧ base + h < base + roots.length by omega)]
      rw [show base + h - base = h by omega]
    · intro h k e
      obtain ⟨h1, rfl⟩ := shiftO_ok e
      simp only [gNew _ (show base ≤ base + h ∧ base + h < base + roots.length by omega)]
      rw [show base + h - base = h by omega]
      exact like_ren _ _
    · intro h k e
      obtain ⟨h1, rfl⟩ := shiftO_ok e
      rw [hasNew]; simp [h1]
  have hI1 : (∀ b, I' b → I1 b) ∨ (immF 6 rv || roots.any immR) = false := by
    rcases hI with hI | hI
    · left; intro b hb
      rcases himm b hb with h1 | h1
      · exact .inl (hI b h1)
      · exact .inr ⟨hb, h1⟩
    · exact .inr hI
  have hrel : relV ⟨w', m1, hp1, I1⟩ (ren (shiftO roots.length base) rv) x := by
    refine ren_ok R 6 ?_ hx
    rcases hI1 with h1 | h1
    · exact .inl h1
    · exact .inr (by simp only [Bool.or_eq_false_iff] at h1; exact h1.1)
  have ownNew : ∀ k b o, (base ≤ k ∧ k < base + roots.length) → owned (getH hp1 k) = true → m1 k = some (b, o) → w.heap.size ≤ b ∧ owned (getH (numbered 0 roots) (k - base)) = true ∧ m' (k - base) = some (b, o) := by
    intro k b o hk ho hm
    simp only [m1, if_pos hk] at hm
    rw [gNew k hk] at ho
    have ho' : owned (getH (numbered 0 roots) (k - base)) = true := by
      cases hq : getH (numbered 0 roots) (k - base) <;> rw [hq] at ho <;> simp_all [renRoot, owned]
    exact ⟨newOwn b ⟨k - base, o, ho', hm⟩, ho', hm⟩
  have ownOld : ∀ k b o, ¬ (base ≤ k ∧ k < base + roots.length) → owned (getH hp1 k) = true → m1 k = some (b, o) → owned (getH s.hp k) = true ∧ m k = some (b, o) ∧ b < w.heap.size ∧ ¬ I b := by
    intro k b o hk ho hm
    simp only [m1, if_neg hk] at hm
    rw [gOld k hk] at ho
    have := hg.heap.own_lt (b := b) ⟨k, o, ho, hm⟩
    exact ⟨ho, hm, this.1, this.2⟩
  have HR : HeapRel ⟨w', m1, hp1, I1⟩ := by
    refine ⟨?_, ?_, ?_⟩
    · intro k
      by_cases hk : base ≤ k ∧ k < base + roots.length
      · simp only [gNew k hk]
        refine rootOk_ren R (h := k - base) (by simp only [m1, if_pos hk]) ?_ ?_ (H'.root (k - base))
        · rcases hI1 with h1 | h1
          · exact .inl h1
          · right
            simp only [Bool.or_eq_false_iff] at h1
            rw [getH_numbered, if_pos (by omega), Nat.sub_zero]
            have hlt : k - base < roots.length := by omega
            simp only [List.getD_eq_getElem?_getD, List.getElem?_eq_getElem hlt, Option.getD_some]
            exact any_false h1.2 _ (List.getElem_mem hlt)
        · intro ho b o hm hnI
          have := newOwn b ⟨k - base, o, ho, hm⟩
          rintro (h1 | h1)
          · exact absurd (hg.heap.lt b h1) (by simp; omega)
          · exact hnI h1.1
      · simp only [gOld k hk]
        refine rootOk_mono g (by simp only [m1, if_neg hk]) ?_ (hg.heap.root k)
        intro ho b o hm
        have hl := hg.heap.own_lt (b := b) ⟨k, o, ho, hm⟩
        refine ⟨old b hl.1, ?_⟩
        rintro (h1 | h1)
        · exact hl.2 h1
        · exact absurd hl.1 (by have := h1.2; simp; omega)
    · intro k k' b o o' h1 h2 h3 h4
      by_cases hk : base ≤ k ∧ k < base + roots.length
      · obtain ⟨q1, q2, q3⟩ := ownNew k b o hk h1 h3
        by_cases hk' : base ≤ k' ∧ k' < base + roots.length
        · obtain ⟨p1, p2, p3⟩ := ownNew k' b o' hk' h2 h4
          have := H'.inj (k - base) (k' - base) b o o' q2 p2 q3 p3
          omega
        · obtain ⟨p1, p2, p3, p4⟩ := ownOld k' b o' hk' h2 h4
          omega
      · obtain ⟨q1, q2, q3, q4⟩ := ownOld k b o hk h1 h3
        by_cases hk' : base ≤ k' ∧ k' < base + roots.length
        · obtain ⟨p1, p2, p3⟩ := ownNew k' b o' hk' h2 h4
          omega
        · obtain ⟨p1, p2, p3, p4⟩ := ownOld k' b o' hk' h2 h4
          exact hg.heap.inj k k' b o o' q1 p1 q2 p2
    · intro b hb
      rcases hb with h1 | h1
      · exact Nat.lt_of_lt_of_le (hg.heap.lt b h1) hh.sz
      · exact H'.lt b h1.1
  have HH : Hist A keep ⟨w', m1, hp1, I1⟩ := by
    have a := hg.hist
    refine ⟨?_, Nat.le_trans a.sz hh.sz, ?_, ?_, fun b hb => .inl (a.sub b hb), ?_, ?_, ?_, hh.os.trans a.os, hh.tape.trans a.tape, hh.output.trans a.output, fun b => Nat.le_trans (a.bsz b) (bszOld b)⟩
    · intro b hb hn'
      exact (old b (Nat.lt_of_lt_of_le hb a.sz)).trans (a.old b hb hn')
    · rintro b ⟨k, o, ho, hm⟩
      by_cases hk : base ≤ k ∧ k < base + roots.length
      · exact .inr (Nat.le_trans a.sz (ownNew k b o hk ho hm).1)
      · obtain ⟨q1, q2, _⟩ := ownOld k b o hk ho hm
        exact a.own b ⟨k, o, q1, q2⟩
    · intro b hb
      rcases hb with h1 | h1
      · exact a.imm b h1
      · exact .inr (.inr (Nat.le_trans a.sz h1.2))
    · intro k hk
      have := notNew k (a.has k hk)
      simp only [gOld k this]; exact a.fit k hk
    · intro k hk hn'
      have := notNew k (a.has k hk)
      simp only [gOld k this, m1, if_neg this] at hn' ⊢
      exact a.map k hk hn'
    · intro k hk
      rw [hasNew, a.has k hk]; simp
  exact ⟨m1, I1, ⟨HR, tmR_mono g hg.tm, HH⟩, hrel⟩

theorem freeze_ok : ∀ {vis : List Nat} {s s1 : St} {I : Nat → Prop}, s.freeze vis = some s1 → Good A keep ⟨w, m, s.hp, I⟩ s.tm tmps →
    ∃ I1, Froze A keep s.tm tmps w m s s1 I I1 ∧ shown m I1 vis
  | [], s, s1, I, h, hg => by
    simp only [St.freeze, Option.some.injEq] at h; subst h
    exact ⟨I, ⟨hg, Grows.refl _, rfl⟩, by intro h hh; cases hh⟩
  | k :: vis, s, s1, I, h, hg => by
    simp only [St.freeze] at h
    have step : ∀ {s2 : St} {I2 : Nat → Prop}, Froze A keep s.tm tmps w m s s2 I I2 → (∀ b o, m k = some (b, o) → I2 b) → s2.freeze vis = some s1 → ∃ I1, Froze A keep s.tm tmps w m s s1 I I1 ∧ shown m I1 (k :: vis) := by
      intro s2 I2 f hk h2
      have hg2 : Good A keep ⟨w, m, s2.hp, I2⟩ s2.tm tmps := by rw [f.tms]; exact f.good
      obtain ⟨I1, f1, hv⟩ := freeze_ok h2 hg2
      refine ⟨I1, ⟨by have := f1.good; rw [f.tms] at this; exact this, f.grow.trans f1.grow, f1.tms.trans f.tms⟩, ?_⟩
      intro j hj b o hm
      rcases List.mem_cons.1 hj with rfl | hj
      · exact f1.grow.sub b (hk b o hm)
      · exact hv j hj b o hm
    have hroot := hg.heap.root k
    split at h
    · rename_i e l hgt
      obtain ⟨g1, g2⟩ := freeze1 hg k e l hgt
      exact step (s2 := s.setH k (.imm e l)) ⟨g1, g2, rfl⟩ (fun b o hm => .inr ⟨o, hm⟩) h
    · rename_i e l hgt
      refine step ⟨hg, Grows.refl _, rfl⟩ (fun b o hm => ?_) h
      simp only [hgt] at hroot
      rcases hroot.2 with ⟨h1, _⟩ | ⟨b', o', vss, h1, h2, _⟩
      · have h1 : m k = none := h1
        rw [h1] at hm; cases hm
      · have h1 : m k = some (b', o') := h1
        rw [h1] at hm; obtain ⟨rfl, rfl⟩ := Prod.mk.inj (Option.some.inj hm)
        simp only [Bool.false_eq_true, if_false] at h2; exact h2.1
    · cases h

end
end
end Go.AI
