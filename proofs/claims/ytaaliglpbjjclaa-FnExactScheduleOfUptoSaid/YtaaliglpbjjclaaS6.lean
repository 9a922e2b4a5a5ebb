/- SOUNDNESS: slices; freezing; data out of cells; stores. -/
import Derived.Test.YtaaliglpbjjclaaS5
namespace Go.AI

theorem takeL_len {α : Type} {l : List α} {lo : Nat} {len : Option Nat} (h : lo + lenL l.length lo len ≤ l.length) : (takeL l lo len).length = lenL l.length lo len := by
  cases len with
  | none => simp [takeL, lenL]
  | some n => simp only [takeL, lenL, List.length_take, List.length_drop] at *; omega

/-- part of an array's rows -/
theorem rows_part {E : Env} {e : Ty} {l : List e.D} {vss : List (List Value)} {b o lo : Nat} {len : Option Nat} (hat : At E.w b o vss.flatten) (h : All2 (repT E.w E.I e) l vss)
    (hb : lo + lenL l.length lo len ≤ l.length) : ∃ uss, At E.w b (o + lo * e.sz) uss.flatten ∧ All2 (repT E.w E.I e) (takeL l lo len) uss := by
  have hd := part_drop hat h lo (by omega)
  have hh : All2 (repT E.w E.I e) (l.drop lo) (vss.drop lo) := h.drop lo
  cases len with
  | none => exact ⟨vss.drop lo, hd, hh⟩
  | some n =>
    simp only [lenL] at hb
    exact ⟨(vss.drop lo).take n, part_take hd hh n (by simp; omega), hh.take n⟩

theorem repS_any {E : Env} {e : Ty} {l : List e.D} {a : Option Addr} {n c : Nat} (h : repS E.w E.I (repT E.w E.I e) l a n c) : repS E.w (fun _ => True) (repT E.w E.I e) l a n c := by
  obtain ⟨h1, h2, h3⟩ := h
  refine ⟨h1, h2, ?_⟩
  cases a with
  | none => exact h3
  | some ad => exact h3.imp id fun h => ⟨h.1, trivial, h.2.2⟩

/-- what a ref stands for -/
theorem ref_ok {E : Env} {h lo : Nat} {len : Option Nat} {e : Ty} {l : List e.D} {own : Bool} {x : Value} (H : arrOk E h e l own)
    (hx : refR E.w (E.m h) e l.length lo len x) :
    ∃ a n c, x = .slice a n c ∧ repS E.w (fun b => ∃ o, E.m h = some (b, o)) (repT E.w E.I e) (takeL l lo len) a n c ∧ n = lenL l.length lo len := by
  have htl := takeL_len hx.1
  rcases hx.2 with ⟨h0, a, rfl⟩ | ⟨b, o, c, hm, rfl, h3, h4⟩
  · have hnil : takeL l lo len = [] := List.eq_nil_of_length_eq_zero (by omega)
    refine ⟨a, 0, 0, rfl, ⟨by rw [hnil]; rfl, Nat.le_refl _, ?_⟩, h0.symm⟩
    cases a with
    | none => exact ⟨hnil, rfl⟩
    | some ad => exact .inl hnil
  · obtain ⟨vss, hat, hall⟩ := arr_at H hm
    obtain ⟨uss, h5, h6⟩ := rows_part hat hall hx.1
    exact ⟨_, _, c, rfl, ⟨htl.symm, h3, .inr ⟨rfl, ⟨o, hm⟩, uss, h5, h6⟩⟩, rfl⟩

theorem slice_ok {E : Env} {s : St} {v : AV} {x : Value} {e : Ty} {l : List e.D} (H : HeapRel E) (hs : E.hp = s.hp) (hx : relV E v x) (hc : s.slice v = some ⟨e, l⟩) :
    ∃ a n c, x = .slice a n c ∧ repS E.w (fun _ => True) (repT E.w E.I e) l a n c := by
  unfold St.slice at hc
  split at hc
  · rename_i e' l' nn
    simp only [Option.some.injEq, Sigma.mk.injEq] at hc
    obtain ⟨rfl, hc⟩ := hc
    have hc := eq_of_heq hc; subst hc
    simp only [relV] at hx
    obtain ⟨a, n, c, rfl, hr, _⟩ := hx
    exact ⟨a, n, c, rfl, repS_any hr⟩
  · rename_i h lo len
    have hroot := H.root h
    simp only [relV] at hx
    rw [hs] at hroot hx
    split at hc
    · rename_i e' l' hg
      simp only [Option.some.injEq, Sigma.mk.injEq] at hc
      obtain ⟨rfl, hc⟩ := hc
      have hc := eq_of_heq hc; subst hc
      rw [hg] at hroot hx
      obtain ⟨a, n, c, rfl, hr, _⟩ := ref_ok hroot hx
      exact ⟨a, n, c, rfl, repS_mono hr (fun _ _ => rfl) (fun _ _ => trivial) (fun _ _ h => h)⟩
    · rename_i e' l' hg
      simp only [Option.some.injEq, Sigma.mk.injEq] at hc
      obtain ⟨rfl, hc⟩ := hc
      have hc := eq_of_heq hc; subst hc
      rw [hg] at hroot hx
      obtain ⟨a, n, c, rfl, hr, _⟩ := ref_ok hroot hx
      exact ⟨a, n, c, rfl, repS_mono hr (fun _ _ => rfl) (fun _ _ => trivial) (fun _ _ h => h)⟩
    · cases hc
  · cases hc

theorem len_ok {E : Env} {s : St} {v : AV} {x : Value} {k : Nat} (H : HeapRel E) (hs : E.hp = s.hp) (hx : relV E v x) (hc : s.len v = some k) :
    ∃ a c, x = .slice a k c ∧ k ≤ c := by
  unfold St.len at hc
  split at hc
  · rename_i e' l' nn
    simp only [Option.some.injEq] at hc; subst hc
    simp only [relV] at hx
    obtain ⟨a, n, c, rfl, hr, _⟩ := hx
    obtain ⟨h1, h2, _⟩ := hr
    exact ⟨a, c, by rw [h1], by omega⟩
  · simp only [Option.some.injEq] at hc; subst hc
    simp only [relV] at hx; subst hx
    exact ⟨none, 0, rfl, Nat.le_refl _⟩
  · rename_i h lo len
    have hroot := H.root h
    simp only [relV] at hx
    rw [hs] at hroot hx
    split at hc
    · rename_i e' l' hg
      simp only [Option.some.injEq] at hc; subst hc
      rw [hg] at hroot hx
      obtain ⟨a, n, c, rfl, hr, rfl⟩ := ref_ok hroot hx
      exact ⟨a, c, rfl, hr.2.1⟩
    · rename_i e' l' hg
      simp only [Option.some.injEq] at hc; subst hc
      rw [hg] at hroot hx
      obtain ⟨a, n, c, rfl, hr, rfl⟩ := ref_ok hroot hx
      exact ⟨a, c, rfl, hr.2.1⟩
    · rename_i cs hg
      simp only [Option.some.injEq] at hc; subst hc
      rw [hg] at hx
      obtain ⟨_, hr⟩ := hx
      rcases hr with ⟨h0, a, rfl⟩ | ⟨b, o, c, _, rfl, hk, _⟩
      · exact ⟨a, 0, by rw [h0], by omega⟩
      · exact ⟨_, c, rfl, hk⟩
    · cases hc
  · cases hc

theorem upd_self (m : Nat → Option (Nat × Nat)) (h : Nat) : upd m h (m h) = m := by
  funext k; unfold upd; split
  · rename_i e; rw [e]
  · rfl

/-- an owned array becomes an immutable one -/
theorem freeze1 {A : Env} {keep : Nat} {w : World} {m : Nat → Option (Nat × Nat)} {hp : List (Nat × Root)} {I : Nat → Prop} {tm : List (Nat × AV)} {tmps : Array Value}
    (hg : Good A keep ⟨w, m, hp, I⟩ tm tmps) (h : Nat) (e : Ty) (l : List e.D) (hr : getH hp h = .arr e l) :
    let I' := fun b => I b ∨ ∃ o, m h = some (b, o)
    Good A keep ⟨w, m, (h, .imm e l) :: hp, I'⟩ tm tmps ∧ Grows ⟨w, m, hp, I⟩ ⟨w, m, (h, .imm e l) :: hp, I'⟩ := by
  intro I'
  have H := hg.heap
  have hroot := H.root h
  simp only [hr] at hroot
  have hown : ∀ b o, m h = some (b, o) → Own ⟨w, m, hp, I⟩ b := fun b o hm => ⟨h, o, by simp [hr, owned], hm⟩
  have st : Stays A ⟨w, m, hp, I⟩ h w I' (fun _ => False) := by
    refine ⟨Nat.le_refl _, fun _ _ _ => rfl, fun _ h => h.elim, fun _ => Nat.le_refl _, fun _ h => .inl h, ?_, rfl, rfl, rfl⟩
    rintro b (hb | ⟨o, hb⟩)
    · exact ⟨H.lt b hb, .inl hb⟩
    · refine ⟨(H.own_lt (hown b o hb)).1, .inr ⟨hg.hist.own b (hown b o hb), fun h' o' hne ho hm => hne (H.inj h' h b o' o ho (by simp [hr, owned]) hm hb)⟩⟩
  have := change1 hg h (.imm e l) (m h) (I' := I') st (fun _ => ⟨by rw [hr]; exact ⟨rfl, rfl⟩, fun _ => rfl⟩) (fun hc => by cases hc) (fun g => ?_)
  · rw [upd_self] at this; exact this
  · rw [upd_self] at g ⊢
    refine ⟨hroot.1, ?_⟩
    rcases hroot.2 with ⟨h1, h2⟩ | ⟨b, o, vss, h1, h2, h3⟩
    · exact .inl ⟨h1, h2⟩
    · simp only [if_true] at h2
      exact .inr ⟨b, o, vss, h1, by simp only [Bool.false_eq_true, if_false]; exact ⟨.inr ⟨o, h1⟩, h2.2.at⟩, h3.mono fun _ _ hx => repT_mono g.imm g.sub hx⟩

theorem Grows.trans {E E' E'' : Env} (g : Grows E E') (g' : Grows E' E'') : Grows E E'' where
  imm b hb := (g'.imm b (g.sub b hb)).trans (g.imm b hb)
  sub b hb := g'.sub b (g.sub b hb)
  has h hh := g'.has h (g.has h hh)
  fit h hh := fits_trans (g.fit h hh) (g'.fit h (g.has h hh))
  map h hh hn := by
    have hn' : getH E'.hp h ≠ .gone := by
      intro hgone
      have := g'.fit h (g.has h hh)
      rw [hgone] at this
      cases hx : getH E''.hp h <;> simp_all [fits]
    exact (g'.map h (g.has h hh) hn).trans (g.map h hh hn')
  size b := Nat.le_trans (g.size b) (g'.size b)

/-- the state that a datum is taken out of: its roots may be frozen -/
structure Froze (A : Env) (keep : Nat) (tm : List (Nat × AV)) (tmps : Array Value) (w : World) (m : Nat → Option (Nat × Nat)) (s s1 : St) (I I1 : Nat → Prop) : Prop where
  good : Good A keep ⟨w, m, s1.hp, I1⟩ tm tmps
  grow : Grows ⟨w, m, s.hp, I⟩ ⟨w, m, s1.hp, I1⟩
  tms : s1.tm = s.tm

theorem castL_rep {E : Env} {a b : Ty} {l : List a.D} {l' : List b.D} (h : castL a b l = some l') {I : Nat → Prop} {ad : Option Addr} {n c : Nat} (hr : repS E.w I (repT E.w E.I a) l ad n c) :
    repS E.w I (repT E.w E.I b) l' ad n c := by
  obtain ⟨rfl, rfl⟩ := castL_eq h
  exact hr

theorem takeS_ok {A : Env} {keep : Nat} {tm : List (Nat × AV)} {tmps : Array Value} {w : World} {m : Nat → Option (Nat × Nat)} {e : Ty}
    {s s1 : St} {cs cs1 : List AV} {d : List e.D} {I : Nat → Prop} {vs : List Value} (h : takeS e s cs = some (s1, d, cs1)) (hg : Good A keep ⟨w, m, s.hp, I⟩ tm tmps) (hc : relC ⟨w, m, s.hp, I⟩ cs vs) :
      ∃ I1, Froze A keep tm tmps w m s s1 I I1 ∧ ∃ v1 v2, vs = v1 ++ v2 ∧ repT w I1 (.sl e) d v1 ∧ relC ⟨w, m, s1.hp, I1⟩ cs1 v2 := by
  unfold takeS at h
  cases vs with
  | nil => cases cs <;> simp [relC] at hc; simp at h
  | cons v vs =>
    split at h
    · simp only [Option.some.injEq, Prod.mk.injEq] at h
      obtain ⟨rfl, rfl, rfl⟩ := h
      simp only [relC, relV] at hc
      obtain ⟨_, rfl, hc⟩ := hc
      exact ⟨I, ⟨hg, Grows.refl _, rfl⟩, [_], vs, rfl, ⟨none, 0, 0, rfl, rfl, Nat.le_refl _, rfl, rfl⟩, hc⟩
    · split at h
      · rename_i hl
        simp only [Option.some.injEq, Prod.mk.injEq] at h
        obtain ⟨rfl, rfl, rfl⟩ := h
        simp only [relC, relV] at hc
        obtain ⟨_, ⟨a, n, c, rfl, hr, _⟩, hc⟩ := hc
        exact ⟨I, ⟨hg, Grows.refl _, rfl⟩, [_], vs, rfl, ⟨a, n, c, rfl, castL_rep (E := ⟨w, m, s.hp, I⟩) hl hr⟩, hc⟩
      · cases h
    · rename_i h' lo len cs'
      have hroot := hg.heap.root h'
      split at h
      · rename_i e' l' hgt
        split at h
        · rename_i l2 hl
          simp only [Option.some.injEq, Prod.mk.injEq] at h
          obtain ⟨rfl, rfl, rfl⟩ := h
          simp only [relC, relV] at hc
          obtain ⟨_, hx, hc⟩ := hc
          simp only [hgt] at hroot hx
          obtain ⟨hg', g⟩ := freeze1 hg h' e' l' hgt
          obtain ⟨a, n, c, rfl, hr, _⟩ := ref_ok hroot hx
          refine ⟨_, ⟨hg', g, rfl⟩, [_], vs, rfl, ⟨a, n, c, rfl, ?_⟩, relC_mono g hc⟩
          refine castL_rep (E := ⟨w, m, s.hp, _⟩) hl ?_
          exact repS_mono hr (fun _ _ => rfl) (fun b hb => .inr hb) (fun _ _ hx => repT_mono g.imm g.sub hx)
        · cases h
      · rename_i e' l' hgt
        split at h
        · rename_i l2 hl
          simp only [Option.some.injEq, Prod.mk.injEq] at h
          obtain ⟨rfl, rfl, rfl⟩ := h
          simp only [relC, relV] at hc
          obtain ⟨_, hx, hc⟩ := hc
          simp only [hgt] at hroot hx
          obtain ⟨a, n, c, rfl, hr, _⟩ := ref_ok hroot hx
          refine ⟨I, ⟨hg, Grows.refl _, rfl⟩, [_], vs, rfl, ⟨a, n, c, rfl, ?_⟩, hc⟩
          refine castL_rep (E := ⟨w, m, s.hp, _⟩) hl ?_
          refine repS_mono hr (fun _ _ => rfl) (fun b hb => ?_) (fun _ _ hx => hx)
          obtain ⟨o, hb⟩ := hb
          rcases hroot.2 with ⟨h1, _⟩ | ⟨b', o', vss, h1, h2, _⟩
          · rw [h1] at hb; cases hb
          · rw [h1] at hb; obtain ⟨rfl, rfl⟩ := Prod.mk.inj (Option.some.inj hb)
            simp only [Bool.false_eq_true, if_false] at h2; exact h2.1
        · cases h
      · cases h
    · cases h

theorem takeD_ok {A : Env} {keep : Nat} {tm : List (Nat × AV)} {tmps : Array Value} {w : World} {m : Nat → Option (Nat × Nat)} :
    ∀ {t : Ty} {s s1 : St} {cs cs1 : List AV} {d : t.D} {I : Nat → Prop} {vs : List Value}, takeD t s cs = some (s1, d, cs1) → Good A keep ⟨w, m, s.hp, I⟩ tm tmps → relC ⟨w, m, s.hp, I⟩ cs vs →
      ∃ I1, Froze A keep tm tmps w m s s1 I I1 ∧ ∃ v1 v2, vs = v1 ++ v2 ∧ repT w I1 t d v1 ∧ relC ⟨w, m, s1.hp, I1⟩ cs1 v2 := by
  intro t
  induction t with
  | unit =>
    intro s s1 cs cs1 d I vs h hg hc
    simp only [takeD, Option.some.injEq, Prod.mk.injEq] at h
    obtain ⟨rfl, _, rfl⟩ := h
    exact ⟨I, ⟨hg, Grows.refl _, rfl⟩, [], vs, rfl, rfl, hc⟩
  | int k =>
    intro s s1 cs cs1 d I vs h hg hc
    simp only [takeD] at h
    split at h
    · obtain ⟨hk, h⟩ := cond_none h
      have hk := of_decide_eq_true hk; subst hk
      simp only [Option.some.injEq, Prod.mk.injEq] at h
      obtain ⟨rfl, rfl, rfl⟩ := h
      cases vs with
      | nil => simp [relC] at hc
      | cons v vs =>
        simp only [relC, relV] at hc
        obtain ⟨_, rfl, hc⟩ := hc
        exact ⟨I, ⟨hg, Grows.refl _, rfl⟩, [_], vs, rfl, rfl, hc⟩
    · cases h
  | bool =>
    intro s s1 cs cs1 d I vs h hg hc
    simp only [takeD] at h
    split at h
    · simp only [Option.some.injEq, Prod.mk.injEq] at h
      obtain ⟨rfl, rfl, rfl⟩ := h
      cases vs with
      | nil => simp [relC] at hc
      | cons v vs =>
        simp only [relC, relV] at hc
        obtain ⟨_, rfl, hc⟩ := hc
        exact ⟨I, ⟨hg, Grows.refl _, rfl⟩, [_], vs, rfl, rfl, hc⟩
    · cases h
  | str =>
    intro s s1 cs cs1 d I vs h hg hc
    simp only [takeD] at h
    split at h
    · simp only [Option.some.injEq, Prod.mk.injEq] at h
      obtain ⟨rfl, rfl, rfl⟩ := h
      cases vs with
      | nil => simp [relC] at hc
      | cons v vs =>
        simp only [relC, relV] at hc
        obtain ⟨_, rfl, hc⟩ := hc
        exact ⟨I, ⟨hg, Grows.refl _, rfl⟩, [_], vs, rfl, rfl, hc⟩
    · cases h
  | sl e ih =>
    intro s s1 cs cs1 d I vs h hg hc
    exact takeS_ok h hg hc
  | pair a b iha ihb =>
    intro s s1 cs cs1 d I vs h hg hc
    simp only [takeD] at h
    split at h
    · rename_i s2 x cs2 h1
      split at h
      · rename_i s3 y cs3 h2
        simp only [Option.some.injEq, Prod.mk.injEq] at h
        obtain ⟨rfl, rfl, rfl⟩ := h
        obtain ⟨I1, f1, v1, v2, rfl, r1, c1⟩ := iha h1 hg hc
        obtain ⟨I2, f2, v3, v4, rfl, r2, c2⟩ := ihb h2 f1.good c1
        refine ⟨I2, ⟨f2.good, f1.grow.trans f2.grow, f2.tms.trans f1.tms⟩, v1 ++ v3, v4, by simp, ⟨v1, v3, rfl, ?_, r2⟩, c2⟩
        exact repT_mono f2.grow.imm f2.grow.sub r1
      · cases h
    · cases h

end Go.AI
