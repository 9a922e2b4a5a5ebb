/- DETERMINACY: what follows is handed one state alone; more rounds give the same answer; the limit. -/
import Derived.Test.YtaaliglpbjjclaaS20
namespace Go.AI
set_option linter.unusedVariables false
set_option linter.unusedSimpArgs false

section
variable {P : Program} {tab : List Ent} {nt : Nat} {ops : Array Oper} {s : St} {r : Res}

theorem opA_det {o : Oper} {K : St → AV → R} (h : opA P tab o s K = some r) : ∃ s1 v, K s1 v = some r ∧ ∀ K', opA P tab o s K' = K' s1 v := by
  obtain ⟨D, v, h1, h2⟩ := opA_fr h
  exact ⟨_, v, h1, fun K' => h2 s (fun _ => True) (fun _ _ => rfl) (fun _ _ => trivial) (fun _ _ => trivial) (fun _ _ => ⟨rfl, rfl⟩) K'⟩

theorem wantA_det {o : Oper} {k : Bool → St → R} (h : wantA ops o s k = some r) : ∃ b s1, k b s1 = some r ∧ ∀ k', wantA ops o s k' = k' b s1 := by
  unfold wantA at h
  split at h
  · rename_i hgd
    exact ⟨true, s, h, fun k' => by unfold wantA; simp only [hgd]⟩
  · rename_i j want hgd
    split at h
    · rename_i oj hj
      split at h
      · rename_i d hd
        split at h
        · rename_i b hb
          cases b with
          | true => rw [cond_true] at h; exact ⟨_, _, h, fun k' => by unfold wantA; simp only [hgd, hj, hd, hb, cond_true]⟩
          | false => rw [cond_false] at h; exact ⟨_, _, h, fun k' => by unfold wantA; simp only [hgd, hj, hd, hb, cond_false]⟩
        · rename_i hb; exact ⟨false, s, h, fun k' => by unfold wantA; simp only [hgd, hj, hd, hb]⟩
        · cases h
      · cases h
    · cases h

theorem putK_one {d : Option Nat} {v : AV} {k : St → R} (h : s.putK nt d v k = some r) : ∃ s1, k s1 = some r ∧ ∀ k', s.putK nt d v k' = k' s1 := by
  obtain ⟨h1, h2⟩ := putK_det h
  exact ⟨_, h1, fun k' => h2 s k'⟩

theorem oneA_det {o : Oper} {k : St → R} (h : oneA P tab nt ops o s k = some r) : ∃ s1, k s1 = some r ∧ ∀ k', oneA P tab nt ops o s k' = k' s1 := by
  unfold oneA at h
  obtain ⟨b, s1, h1, d1⟩ := wantA_det h
  cases b with
  | true =>
    rw [cond_true] at h1
    obtain ⟨s2, v, h2, d2⟩ := opA_det h1
    obtain ⟨s3, h3, d3⟩ := putK_one h2
    exact ⟨s3, h3, fun k' => by unfold oneA; rw [d1, cond_true, d2]; exact d3 k'⟩
  | false =>
    rw [cond_false] at h1
    obtain ⟨s3, h3, d3⟩ := putK_one h1
    exact ⟨s3, h3, fun k' => by unfold oneA; rw [d1, cond_false]; exact d3 k'⟩

theorem oneD_det {o : Oper} {k : Foot → St → R} (h : oneD P tab nt ops o s k = some r) : ∃ f s1, k f s1 = some r ∧ ∀ k', oneD P tab nt ops o s k' = k' f s1 := by
  unfold oneD at h
  obtain ⟨b, s1, h1, d1⟩ := wantA_det h
  cases b with
  | true =>
    rw [cond_true] at h1
    obtain ⟨s2, v, h2, d2⟩ := opA_det h1
    obtain ⟨s3, h3, d3⟩ := putK_one h2
    exact ⟨_, s3, h3, fun k' => by unfold oneD; rw [d1, cond_true, d2]; exact d3 _⟩
  | false =>
    rw [cond_false] at h1
    obtain ⟨s3, h3, d3⟩ := putK_one h1
    exact ⟨_, s3, h3, fun k' => by unfold oneD; rw [d1, cond_false]; exact d3 _⟩

theorem opsA_det : ∀ {os : List Oper} {s : St} {k : St → R}, opsA P tab nt ops os s k = some r → ∃ s1, k s1 = some r ∧ ∀ k', opsA P tab nt ops os s k' = k' s1
  | [], s, k, h => ⟨s, h, fun _ => rfl⟩
  | o :: os, s, k, h => by
    simp only [opsA] at h
    obtain ⟨s1, h1, d1⟩ := oneA_det h
    obtain ⟨s2, h2, d2⟩ := opsA_det h1
    exact ⟨s2, h2, fun k' => by simp only [opsA]; rw [d1]; exact d2 k'⟩

theorem opsD_det : ∀ {os : List Oper} {acc : List Foot} {s : St} {k : List Foot → St → R}, opsD P tab nt ops os acc s k = some r → ∃ fs s1, k fs s1 = some r ∧ ∀ k', opsD P tab nt ops os acc s k' = k' fs s1
  | [], acc, s, k, h => ⟨acc, s, h, fun _ => rfl⟩
  | o :: os, acc, s, k, h => by
    simp only [opsD] at h
    obtain ⟨f, s1, h1, d1⟩ := oneD_det h
    obtain ⟨fs, s2, h2, d2⟩ := opsD_det h1
    exact ⟨fs, s2, h2, fun k' => by simp only [opsD]; rw [d1]; exact d2 k'⟩

theorem drawA_det {k : St → R} (h : drawA P tab nt ops s k = some r) : ∃ s1, k s1 = some r ∧ ∀ k', drawA P tab nt ops s k' = k' s1 := by
  unfold drawA at h
  obtain ⟨hed, h⟩ := cond_none h
  obtain ⟨fs, s1, h1, d1⟩ := opsD_det h
  obtain ⟨hf, h1⟩ := cond_none h1
  exact ⟨s1, h1, fun k' => by unfold drawA; rw [hed, cond_true, d1, hf, cond_true]⟩

end

section
variable {C : Ctx} {r : Res}

theorem body_det {E : St → R} {L : List Item → St → R} : ∀ (n : Nat) {first : Bool} {items : List Item} {s : St}, body C E L n first items s = some r →
    (∃ s', E s' = some r ∧ ∀ (E' : St → R) (L' : List Item → St → R), body C E' L' n first items s = E' s') ∨
    (∃ it s', L it s' = some r ∧ ∀ (E' : St → R) (L' : List Item → St → R), body C E' L' n first items s = L' it s') := by
  intro n
  induction n with
  | zero => intro first items s h; simp [body] at h
  | succ n ih =>
    intro first items s h
    cases items with
    | nil => simp only [body] at h ⊢; exact .inl ⟨s, h, fun _ _ => rfl⟩
    | cons it k =>
      cases it with
      | inBlock id => simp only [body] at h ⊢; exact ih h
      | inLoop c => simp only [body] at h ⊢; exact .inr ⟨_, s, h, fun _ _ => rfl⟩
      | code c =>
        cases c with
        | skip => simp only [body] at h ⊢; exact ih h
        | seq x y => simp only [body] at h ⊢; exact ih h
        | cond x y z =>
          simp only [body] at h ⊢
          split at h
          · rename_i v hv
            cases v with
            | true => rw [cond_true] at h; simp only [hv, cond_true]; exact ih h
            | false => rw [cond_false] at h; simp only [hv, cond_false]; exact ih h
          · cases h
        | block id c => simp only [body] at h ⊢; exact ih h
        | loop c => simp only [body] at h ⊢; exact .inr ⟨_, s, h, fun _ _ => rfl⟩
        | exit id =>
          simp only [body] at h ⊢
          split at h
          · rename_i k' hk; exact ih h
          · cases h
        | ret => simp only [body] at h ⊢; exact .inl ⟨s, h, fun _ _ => rfl⟩
        | region id ops draw =>
          simp only [body] at h
          split at h
          · rename_i live hx
            exact .inr ⟨_, s, h, fun E' L' => by simp only [body, hx]⟩
          · cases draw with
            | true =>
              rw [cond_true] at h
              obtain ⟨s1, h1, d1⟩ := drawA_det h
              rcases ih h1 with ⟨s', e1, e2⟩ | ⟨it, s', e1, e2⟩
              · exact .inl ⟨s', e1, fun E' L' => by simp only [body]; rw [cond_true, d1]; exact e2 E' L'⟩
              · exact .inr ⟨it, s', e1, fun E' L' => by simp only [body]; rw [cond_true, d1]; exact e2 E' L'⟩
            | false =>
              rw [cond_false] at h
              obtain ⟨s1, h1, d1⟩ := opsA_det h
              rcases ih h1 with ⟨s', e1, e2⟩ | ⟨it, s', e1, e2⟩
              · exact .inl ⟨s', e1, fun E' L' => by simp only [body]; rw [cond_false, d1]; exact e2 E' L'⟩
              · exact .inr ⟨it, s', e1, fun E' L' => by simp only [body]; rw [cond_false, d1]; exact e2 E' L'⟩
        | _ => simp [body] at h
      | _ => simp [body] at h

theorem fin_det {K : Res → R} {s : St} (h : fin C K s = some r) : ∃ x, K x = some r ∧ ∀ K', fin C K' s = K' x := by
  unfold fin at h
  split at h
  · cases h
  · rename_i vs hvs
    split at h
    · rename_i d hd; exact ⟨_, h, fun K' => by unfold fin; simp only [hvs, hd]⟩
    · cases h

theorem stepL_some {N : List Item → St → R} {items : List Item} {s : St} (h : stepL C N items s = some r) : ∃ it s', N it s' = some r ∧ ∀ N' : List Item → St → R, stepL C N' items s = N' it s' := by
  unfold stepL at h
  split at h
  · rename_i i hi
    split at h
    · rename_i B hB
      split at h
      · rename_i d hd; exact ⟨_, _, h, fun N' => by unfold stepL; simp only [hi, hB, hd]⟩
      · cases h
    · rename_i hB; exact ⟨_, _, h, fun N' => by unfold stepL; simp only [hi, hB]⟩
  · rename_i hi; exact ⟨_, _, h, fun N' => by unfold stepL; simp only [hi]⟩

theorem run_det {K : Res → R} : ∀ (n : Nat) {items : List Item} {s : St}, run C K n items s = some r → ∃ x, K x = some r ∧ ∀ K', run C K' n items s = K' x
  | 0, items, s, h => by
    simp only [run] at h ⊢
    rcases body_det 1000 h with ⟨s', e1, e2⟩ | ⟨it, s', e1, _⟩
    · obtain ⟨x, f1, f2⟩ := fin_det e1
      exact ⟨x, f1, fun K' => by rw [e2, f2]⟩
    · cases e1
  | n + 1, items, s, h => by
    simp only [run] at h ⊢
    rcases body_det 1000 h with ⟨s', e1, e2⟩ | ⟨it, s', e1, e2⟩
    · obtain ⟨x, f1, f2⟩ := fin_det e1
      exact ⟨x, f1, fun K' => by rw [e2, f2]⟩
    · obtain ⟨it2, s2, g1, g2⟩ := stepL_some e1
      obtain ⟨x, f1, f2⟩ := run_det n g1
      exact ⟨x, f1, fun K' => by rw [e2, g2, f2]⟩

theorem run_more {K : Res → R} : ∀ (n : Nat) {items : List Item} {s : St}, run C K n items s = some r → run C K (n + 1) items s = some r
  | 0, items, s, h => by
    simp only [run] at h
    unfold run
    rcases body_det 1000 h with ⟨s', e1, e2⟩ | ⟨it, s', e1, _⟩
    · rw [e2]; exact e1
    · cases e1
  | n + 1, items, s, h => by
    rw [run] at h
    rw [run]
    rcases body_det 1000 h with ⟨s', e1, e2⟩ | ⟨it, s', e1, e2⟩
    · rw [e2]; exact e1
    · obtain ⟨it2, s2, g1, g2⟩ := stepL_some e1
      rw [e2, g2]
      exact run_more n g1

theorem runF_det {P : Program} {tab : List Ent} {ann : List (Nat × Lab)} {out : Form} {fn : Func} {n : Nat} {args : List AV} {roots : List Root} {K : Res → R} (h : runF P tab ann out fn K n args roots = some r) :
    ∃ x, K x = some r ∧ ∀ K', runF P tab ann out fn K' n args roots = K' x := run_det n h

end

/-! ### limits -/

section
variable {α β : Type}

def Mono (F : Nat → Option α) : Prop := ∀ n r, F n = some r → F (n + 1) = some r

theorem Mono.le {F : Nat → Option α} (h : Mono F) {n : Nat} {r : α} (e : F n = some r) : ∀ k, F (n + k) = some r
  | 0 => e
  | k + 1 => h _ _ (h.le e k)

theorem Mono.one {F : Nat → Option α} (h : Mono F) {n m : Nat} {r r' : α} (e : F n = some r) (e' : F m = some r') : r = r' := by
  have h1 := h.le e m
  have h2 := h.le e' n
  rw [Nat.add_comm, h2] at h1
  exact (Option.some.inj h1).symm

open Classical in
/-- what a run comes to -/
noncomputable def lim (F : Nat → Option α) : Option α := if h : ∃ r n, F n = some r then some h.choose else none

theorem lim_of {F : Nat → Option α} (h : Mono F) {n : Nat} {r : α} (e : F n = some r) : lim F = some r := by
  unfold lim
  have hx : ∃ r n, F n = some r := ⟨r, n, e⟩
  rw [dif_pos hx]
  obtain ⟨m, hm⟩ := hx.choose_spec
  rw [h.one hm e]

theorem lim_some {F : Nat → Option α} {r : α} (e : lim F = some r) : ∃ n, F n = some r := by
  unfold lim at e
  split at e
  · rename_i h
    obtain ⟨m, hm⟩ := h.choose_spec
    cases e
    exact ⟨m, hm⟩
  · cases e

theorem lim_shift {F : Nat → Option α} (h : Mono F) : lim F = lim fun n => F (n + 1) := by
  have h' : Mono fun n => F (n + 1) := fun n r e => h _ _ e
  cases e : lim F with
  | none =>
    cases e' : lim fun n => F (n + 1) with
    | none => rfl
    | some r =>
      obtain ⟨n, hn⟩ := lim_some e'
      rw [lim_of h hn] at e
      cases e
  | some r =>
    obtain ⟨n, hn⟩ := lim_some e
    exact (lim_of h' (h _ _ hn)).symm

theorem lim_shiftk {F : Nat → Option α} (h : Mono F) : ∀ k, lim F = lim fun n => F (n + k)
  | 0 => rfl
  | k + 1 => by
    rw [lim_shiftk h k]
    rw [lim_shift (F := fun n => F (n + k)) (fun n r e => by have := h _ _ e; rwa [show n + k + 1 = n + 1 + k by omega] at this)]
    congr 1
    funext n
    congr 1; omega

theorem lim_const (x : Option α) : (lim fun _ => x) = x := by
  cases x with
  | none =>
    unfold lim
    rw [dif_neg]
    rintro ⟨r, n, h⟩; cases h
  | some r => exact lim_of (F := fun _ => some r) (n := 0) (fun _ _ h => h) rfl

theorem lim_cond (b : Bool) (F G : Nat → Option α) : (lim fun n => cond b (F n) (G n)) = cond b (lim F) (lim G) := by cases b <;> rfl
theorem lim_bind (o : Option β) (F : β → Nat → Option α) : (lim fun n => o.bind fun d => F d n) = o.bind fun d => lim (F d) := by
  cases o with
  | none => exact lim_const none
  | some d => rfl
theorem bind_some' {γ : Type} (x : α) (f : α → Option γ) : (some x).bind f = f x := rfl
theorem bind_none' {γ : Type} (f : α → Option γ) : (none : Option α).bind f = none := rfl
theorem bind_cond {γ : Type} (b : Bool) (x y : Option α) (f : α → Option γ) : (cond b x y).bind f = cond b (x.bind f) (y.bind f) := by cases b <;> rfl

end

theorem run_mono (C : Ctx) (K : Res → R) (items : List Item) (s : St) : Mono fun n => run C K n items s := fun n _ h => run_more n h

end Go.AI
