/- FRAMES, first part: what a step of memory depends on. -/
import Derived.Test.YtaaliglpbjjclaaS18
namespace Go.AI
set_option linter.unusedVariables false
set_option linter.unusedSimpArgs false

/-- two heaps that agree on handles -/
def Agr (hp hp' : List (Nat × Root)) (S : Nat → Prop) : Prop := ∀ h, S h → getH hp' h = getH hp h ∧ hasH hp' h = hasH hp h
def Wr (D : List (Nat × Root)) (S : Nat → Prop) : Prop := ∀ h, hasH D h = true → S h

theorem Agr.app {hp hp' D : List (Nat × Root)} {S : Nat → Prop} (a : Agr hp hp' S) : Agr (D ++ hp) (D ++ hp') S := by
  intro h hh
  obtain ⟨h1, h2⟩ := a h hh
  rw [getH_append, getH_append, hasH_append, hasH_append, h1, h2]
  exact ⟨rfl, rfl⟩
theorem Agr.cons {hp hp' : List (Nat × Root)} {k : Nat} {x : Root} {S : Nat → Prop} (a : Agr hp hp' S) : Agr ((k, x) :: hp) ((k, x) :: hp') S := Agr.app (D := [(k, x)]) a
theorem Wr.left {D D' : List (Nat × Root)} {S : Nat → Prop} (h : Wr (D ++ D') S) : Wr D S := fun k hk => h k (by rw [hasH_append, hk]; rfl)
theorem Wr.right {D D' : List (Nat × Root)} {S : Nat → Prop} (h : Wr (D ++ D') S) : Wr D' S := fun k hk => h k (by rw [hasH_append, hk]; simp)
theorem Wr.head {k : Nat} {x : Root} {D : List (Nat × Root)} {S : Nat → Prop} (h : Wr ((k, x) :: D) S) : S k := h k (by simp [hasH, Nat.beq_refl])

section
variable {s s' : St} {S : Nat → Prop}

theorem cells_fr {n : Nat} {v : AV} (hS : ∀ h ∈ hs v, S h) (a : Agr s.hp s'.hp S) : s'.cells n v = s.cells n v := by
  cases v with
  | ptr h i f => simp only [St.cells, (a h (hS h (by simp [hs, hsF]))).1]
  | _ => simp [St.cells]
theorem slice_fr {v : AV} (hS : ∀ h ∈ hs v, S h) (a : Agr s.hp s'.hp S) : s'.slice v = s.slice v := by
  cases v with
  | ref h i f => simp only [St.slice, (a h (hS h (by simp [hs, hsF]))).1]
  | _ => simp [St.slice]
theorem len_fr {v : AV} (hS : ∀ h ∈ hs v, S h) (a : Agr s.hp s'.hp S) : s'.len v = s.len v := by
  cases v with
  | ref h i f => simp only [St.len, (a h (hS h (by simp [hs, hsF]))).1]
  | val u => simp only [St.len]; split <;> simp_all
  | _ => simp [St.len]
theorem szOk_fr {n : Nat} {v : AV} (hS : ∀ h ∈ hs v, S h) (a : Agr s.hp s'.hp S) : s'.szOk n v = s.szOk n v := by
  cases v with
  | ref h i f => simp only [St.szOk, (a h (hS h (by simp [hs, hsF]))).1]
  | _ => simp [St.szOk]
theorem idxAddr_fr {n : Nat} {v : AV} (hS : ∀ h ∈ hs v, S h) (a : Agr s.hp s'.hp S) : idxAddr s' v n = idxAddr s v n := by
  cases v with
  | ref h i f => simp only [idxAddr, (a h (hS h (by simp [hs, hsF]))).1]
  | _ => simp [idxAddr]
theorem fldAddr_fr {n : Nat} {v : AV} (hS : ∀ h ∈ hs v, S h) (a : Agr s.hp s'.hp S) : fldAddr s' v n = fldAddr s v n := by
  cases v with
  | ptr h i f => simp only [fldAddr, (a h (hS h (by simp [hs, hsF]))).1]
  | _ => simp [fldAddr]

/-! ### taking data out of cells -/

def refsIn (S : Nat → Prop) (cs : List AV) : Prop := ∀ h lo len, AV.ref h lo len ∈ cs → S h

theorem takeS_fr {e : Ty} {cs cs1 : List AV} {s1 : St} {x : List e.D} (h : takeS e s cs = some (s1, x, cs1)) :
    ∃ D, s1 = ⟨s.tm, D ++ s.hp⟩ ∧ (∃ c, cs = c :: cs1) ∧ ∀ (s' : St) (S : Nat → Prop), refsIn S cs → Wr D S → Agr s.hp s'.hp S → takeS e s' cs = some (⟨s'.tm, D ++ s'.hp⟩, x, cs1) := by
  unfold takeS at h
  split at h
  · cases h
    exact ⟨[], rfl, ⟨_, rfl⟩, fun s' S _ _ _ => rfl⟩
  · rename_i e' l nn r
    split at h
    · rename_i l' hl
      cases h
      exact ⟨[], rfl, ⟨_, rfl⟩, fun s' S _ _ _ => by simp [takeS, hl]⟩
    · cases h
  · rename_i k lo len r
    split at h
    · rename_i e' l hk
      split at h
      · rename_i l' hl
        cases h
        refine ⟨[(k, .imm e' l)], rfl, ⟨_, rfl⟩, fun s' S hr hw a => ?_⟩
        simp only [takeS, (a k (hr k lo len (by simp))).1, hk, hl]
        rfl
      · cases h
    · rename_i e' l hk
      split at h
      · rename_i l' hl
        cases h
        refine ⟨[], rfl, ⟨_, rfl⟩, fun s' S hr hw a => ?_⟩
        simp only [takeS, (a k (hr k lo len (by simp))).1, hk, hl]
        rfl
      · cases h
    · cases h
  · cases h

theorem takeD_fr : ∀ {t : Ty} {s : St} {cs cs1 : List AV} {s1 : St} {x : t.D}, takeD t s cs = some (s1, x, cs1) →
    ∃ D, s1 = ⟨s.tm, D ++ s.hp⟩ ∧ (∃ c, cs = c ++ cs1) ∧ ∀ (s' : St) (S : Nat → Prop), refsIn S cs → Wr D S → Agr s.hp s'.hp S → takeD t s' cs = some (⟨s'.tm, D ++ s'.hp⟩, x, cs1)
  | .unit, s, cs, cs1, s1, x, h => by
    simp only [takeD, Option.some.injEq, Prod.mk.injEq] at h
    obtain ⟨rfl, _, rfl⟩ := h
    exact ⟨[], rfl, ⟨[], rfl⟩, fun s' S _ _ _ => rfl⟩
  | .int k, s, cs, cs1, s1, x, h => by
    simp only [takeD] at h
    split at h
    · rename_i k' n r
      obtain ⟨hc, h⟩ := cond_none h
      cases h
      exact ⟨[], rfl, ⟨[_], rfl⟩, fun s' S _ _ _ => by simp [takeD, hc]⟩
    · cases h
  | .bool, s, cs, cs1, s1, x, h => by
    simp only [takeD] at h
    split at h
    · cases h
      exact ⟨[], rfl, ⟨[_], rfl⟩, fun s' S _ _ _ => by simp [takeD]⟩
    · cases h
  | .str, s, cs, cs1, s1, x, h => by
    simp only [takeD] at h
    split at h
    · cases h
      exact ⟨[], rfl, ⟨[_], rfl⟩, fun s' S _ _ _ => by simp [takeD]⟩
    · cases h
  | .sl e, s, cs, cs1, s1, x, h => by
    simp only [takeD] at h
    obtain ⟨D, h1, ⟨c, h2⟩, h3⟩ := takeS_fr h
    exact ⟨D, h1, ⟨[c], h2⟩, fun s' S a b c => by simp only [takeD]; exact h3 s' S a b c⟩
  | .pair a b, s, cs, cs1, s1, x, h => by
    simp only [takeD] at h
    split at h
    · rename_i s2 y cs2 h1
      split at h
      · rename_i s3 z cs3 h2
        simp only [Option.some.injEq, Prod.mk.injEq] at h
        obtain ⟨rfl, rfl, rfl⟩ := h
        obtain ⟨D1, rfl, ⟨c1, e1⟩, f1⟩ := takeD_fr h1
        obtain ⟨D2, e2, ⟨c2, e3⟩, f2⟩ := takeD_fr h2
        refine ⟨D2 ++ D1, by rw [e2]; simp, ⟨c1 ++ c2, by rw [e1, e3]; simp⟩, fun s' S hr hw ag => ?_⟩
        simp only [takeD]
        rw [f1 s' S hr hw.right ag]
        simp only
        have hr2 : refsIn S cs2 := fun k lo len hk => hr k lo len (by rw [e1]; simp [hk])
        rw [f2 ⟨s'.tm, D1 ++ s'.hp⟩ S hr2 hw.left ag.app]
        simp
      · cases h
    · cases h

theorem takeW_fr {t : Ty} {cs : List AV} {s1 : St} {x : t.D} (h : takeW t s cs = some (s1, x)) :
    ∃ D, s1 = ⟨s.tm, D ++ s.hp⟩ ∧ ∀ (s' : St) (S : Nat → Prop), refsIn S cs → Wr D S → Agr s.hp s'.hp S → takeW t s' cs = some (⟨s'.tm, D ++ s'.hp⟩, x) := by
  unfold takeW at h
  split at h
  · rename_i s2 y hy
    cases h
    obtain ⟨D, h1, _, h3⟩ := takeD_fr hy
    exact ⟨D, h1, fun s' S a b c => by unfold takeW; rw [h3 s' S a b c]⟩
  · cases h

theorem setCs_fr : ∀ {t : Ty} {s : St} {x y : t.D} {f : Nat} {cs : List AV} {s1 : St}, setCs t s x f cs = some (s1, y) →
    ∃ D, s1 = ⟨s.tm, D ++ s.hp⟩ ∧ ∀ (s' : St) (S : Nat → Prop), refsIn S cs → Wr D S → Agr s.hp s'.hp S → setCs t s' x f cs = some (⟨s'.tm, D ++ s'.hp⟩, y) := by
  intro t
  induction t with
  | pair a b iha ihb =>
    intro s x y f cs s1 h
    simp only [setCs] at h
    cases c1 : (Nat.beq f 0 && Nat.beq cs.length (a.sz + b.sz)) with
    | true =>
      rw [c1, cond_true] at h
      obtain ⟨D, h1, h2⟩ := takeW_fr h
      exact ⟨D, h1, fun s' S p q r => by simp only [setCs, c1, cond_true]; exact h2 s' S p q r⟩
    | false =>
      rw [c1, cond_false] at h
      cases c2 : Nat.ble (f + cs.length) a.sz with
      | true =>
        rw [c2, cond_true] at h
        split at h
        · rename_i s2 z hz
          cases h
          obtain ⟨D, h1, h2⟩ := iha hz
          exact ⟨D, h1, fun s' S p q r => by simp only [setCs, c1, c2, cond_true, cond_false]; rw [h2 s' S p q r]⟩
        · cases h
      | false =>
        rw [c2, cond_false] at h
        obtain ⟨c3, h⟩ := cond_none h
        split at h
        · rename_i s2 z hz
          cases h
          obtain ⟨D, h1, h2⟩ := ihb hz
          exact ⟨D, h1, fun s' S p q r => by simp only [setCs, c1, c2, c3, cond_true, cond_false]; rw [h2 s' S p q r]⟩
        · cases h
  | _ =>
    intro s x y f cs s1 h
    simp only [setCs] at h
    obtain ⟨c1, h⟩ := cond_none h
    obtain ⟨D, h1, h2⟩ := takeW_fr h
    exact ⟨D, h1, fun s' S p q r => by simp only [setCs, c1, cond_true]; exact h2 s' S p q r⟩

theorem takeAll_fr {e : Ty} : ∀ {n : Nat} {s : St} {cs : List AV} {s1 : St} {l : List e.D}, takeAll e s n cs = some (s1, l) →
    ∃ D, s1 = ⟨s.tm, D ++ s.hp⟩ ∧ ∀ (s' : St) (S : Nat → Prop), refsIn S cs → Wr D S → Agr s.hp s'.hp S → takeAll e s' n cs = some (⟨s'.tm, D ++ s'.hp⟩, l)
  | 0, s, cs, s1, l, h => by
    simp only [takeAll, Option.some.injEq, Prod.mk.injEq] at h
    obtain ⟨rfl, rfl⟩ := h
    exact ⟨[], rfl, fun s' S _ _ _ => rfl⟩
  | n + 1, s, cs, s1, l, h => by
    simp only [takeAll] at h
    split at h
    · rename_i s2 x cs2 h1
      split at h
      · rename_i s3 l3 h2
        cases h
        obtain ⟨D1, rfl, ⟨c1, e1⟩, f1⟩ := takeD_fr h1
        obtain ⟨D2, e2, f2⟩ := takeAll_fr h2
        refine ⟨D2 ++ D1, by rw [e2]; simp, fun s' S hr hw ag => ?_⟩
        simp only [takeAll]
        rw [f1 s' S hr hw.right ag]
        simp only
        have hr2 : refsIn S cs2 := fun k lo len hk => hr k lo len (by rw [e1]; simp [hk])
        rw [f2 ⟨s'.tm, D1 ++ s'.hp⟩ S hr2 hw.left ag.app]
        simp
      · cases h
    · cases h

/-! ### stores, new roots, append -/

theorem store_fr {cs : List AV} {k : St → R} {v : AV} {r : Res} (h : s.store cs k v = some r) :
    ∃ D, k ⟨s.tm, D ++ s.hp⟩ = some r ∧ ∀ (s' : St) (S : Nat → Prop), (∀ h ∈ hs v, S h) → refsIn S cs → Wr D S → Agr s.hp s'.hp S → ∀ k' : St → R, s'.store cs k' v = k' ⟨s'.tm, D ++ s'.hp⟩ := by
  cases v with
  | ptr h0 i f =>
    simp only [St.store] at h
    split at h
    · rename_i old hk
      obtain ⟨c1, h⟩ := cond_none h
      refine ⟨[(h0, .box (replAt old f cs))], h, fun s' S hS hr hw a k' => ?_⟩
      simp only [St.store, (a h0 (hS h0 (by simp [hs, hsF]))).1, hk, c1, cond_true]
      rfl
    · rename_i e l hk
      split at h
      · rename_i s1 x hx
        split at h
        · rename_i e' l' hk1
          obtain ⟨D, rfl, hf⟩ := setCs_fr hx
          refine ⟨(h0, .arr e (l.set i x)) :: D, h, fun s' S hS hr hw a k' => ?_⟩
          have hw' : Wr D S := Wr.right (D := [_]) hw
          have h0S := hS h0 (by simp [hs, hsF])
          simp only [St.store, (a h0 h0S).1, hk, hf s' S hr hw' a]
          have := (Agr.app (D := D) a h0 h0S).1
          simp only at hk1
          simp only [this, hk1]
          rfl
        · cases h
      · cases h
    · cases h
  | _ => simp [St.store] at h

theorem new_fr {id : Nat} {x : Root} {k : St → R} {r : Res} (h : s.new id x k = some r) :
    k ⟨s.tm, (id, x) :: s.hp⟩ = some r ∧ ∀ (s' : St) (S : Nat → Prop), S id → Agr s.hp s'.hp S → ∀ k' : St → R, s'.new id x k' = k' ⟨s'.tm, (id, x) :: s'.hp⟩ := by
  unfold St.new at h
  obtain ⟨c, h⟩ := cond_none' h
  refine ⟨h, fun s' S hi a k' => ?_⟩
  unfold St.new
  rw [(a id hi).2, c]; rfl

theorem appSrc_fr {e : Ty} {v : AV} (hS : ∀ h ∈ hs v, S h) (a : Agr s.hp s'.hp S) : s'.appSrc e v = s.appSrc e v := by
  unfold St.appSrc
  split
  · rfl
  · rw [slice_fr hS a]

theorem append_fr {P : Program} {t u : TypeId} {x y : AV} {id : Nat} {K : St → AV → R} {r : Res} (h : appendA P t u x y id s K = some r) :
    ∃ D v, K ⟨s.tm, D ++ s.hp⟩ v = some r ∧ ∀ (s' : St) (S : Nat → Prop), (∀ h ∈ hs x, S h) → (∀ h ∈ hs y, S h) → Wr D S → Agr s.hp s'.hp S → ∀ K' : St → AV → R, appendA P t u x y id s' K' = K' ⟨s'.tm, D ++ s'.hp⟩ v := by
  unfold appendA at h
  split at h
  · cases h
  · rename_i et e bytes he
    obtain ⟨c0, h⟩ := cond_none h
    split at h
    · cases h
    · rename_i xs hxs
      split at h
      · obtain ⟨c1, h⟩ := chk_some h
        obtain ⟨h1, h2⟩ := new_fr h
        refine ⟨[(id, .arr e xs)], _, h1, fun s' S hx hy hw a K' => ?_⟩
        unfold appendA
        simp only [he, c0, cond_true, appSrc_fr hy a, hxs, c1, chk]
        exact h2 s' S hw.head a fun s1 => K' s1 _
      · rename_i k lo _
        split at h
        · rename_i e' l hk
          split at h
          · rename_i l' hl
            obtain ⟨c1, h⟩ := chk_some h
            obtain ⟨h1, h2⟩ := new_fr h
            refine ⟨[(id, .arr e (l' ++ xs)), (k, .gone)], _, h1, fun s' S hx hy hw a K' => ?_⟩
            unfold appendA
            simp only [he, c0, cond_true, appSrc_fr hy a, hxs, (a k (hx k (by simp [hs, hsF]))).1, hk, hl, c1, chk]
            exact h2 (s'.setH k .gone) S hw.head (Agr.cons a) fun s1 => K' s1 _
          · cases h
        · cases h
      · cases h

end
end Go.AI
