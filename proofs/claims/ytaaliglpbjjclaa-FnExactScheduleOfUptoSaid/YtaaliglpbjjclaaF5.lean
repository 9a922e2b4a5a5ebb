/- A REGION THAT DRAWS ITS ORDER, first part: steps that commute. -/
import Derived.Test.YtaaliglpbjjclaaF4
namespace Go.AI
set_option linter.unusedVariables false
set_option linter.unusedSimpArgs false

/-- two states that read alike -/
structure Ext (s s' : St) : Prop where
  tm : ∀ i, getT s.tm i = getT s'.tm i
  hp : ∀ h, getH s.hp h = getH s'.hp h ∧ hasH s.hp h = hasH s'.hp h

theorem Ext.refl (s : St) : Ext s s := ⟨fun _ => rfl, fun _ => ⟨rfl, rfl⟩⟩
theorem Ext.symm {s s' : St} (h : Ext s s') : Ext s' s := ⟨fun i => (h.tm i).symm, fun k => ⟨(h.hp k).1.symm, (h.hp k).2.symm⟩⟩
theorem Ext.trans {a b c : St} (h : Ext a b) (h' : Ext b c) : Ext a c := ⟨fun i => (h.tm i).trans (h'.tm i), fun k => ⟨(h.hp k).1.trans (h'.hp k).1, (h.hp k).2.trans (h'.hp k).2⟩⟩

/-- a step: its operation, its footprint, what it writes, what it yields -/
structure Stp where
  o : Oper
  f : Foot
  D : List (Nat × Root)
  v : AV

def put1 (tm : List (Nat × AV)) : Option Nat → AV → List (Nat × AV)
  | some d, v => (d, v) :: tm
  | none, _ => tm
theorem getT_put1 {tm tm' : List (Nat × AV)} {d : Option Nat} {v : AV} (h : ∀ i, getT tm i = getT tm' i) (i : Nat) : getT (put1 tm d v) i = getT (put1 tm' d v) i := by
  cases d with
  | none => exact h i
  | some d =>
    simp only [put1]
    by_cases e : i = d
    · subst e; rw [getT_same, getT_same]
    · rw [getT_other _ _ e, getT_other _ _ e]; exact h i

def Stp.ap (x : Stp) (s : St) : St := ⟨put1 s.tm x.o.dst x.v, x.D ++ s.hp⟩

def Stp.Ok (P : Program) (tab : List Ent) (nt : Nat) (ops : Array Oper) (x : Stp) (s : St) : Prop :=
  x.f.dst = x.o.dst.toList ∧ x.f.writes = x.D.map (·.1) ∧ ∀ s' : St, (∀ t ∈ x.f.slots, getT s'.tm t = getT s.tm t) → (∀ h, h ∈ x.f.reads ∨ h ∈ x.f.writes → getH s'.hp h = getH s.hp h ∧ hasH s'.hp h = hasH s.hp h) →
    ∃ s'', (∀ k' : St → R, oneA P tab nt ops x.o s' k' = k' s'') ∧ Ext s'' (x.ap s')

section
variable {P : Program} {tab : List Ent} {nt : Nat} {ops : Array Oper} {r : Res}

theorem wantA_fr {o : Oper} {s : St} {k : Bool → St → R} (h : wantA ops o s k = some r) :
    ∃ wd s1, k wd s1 = some r ∧ s1.hp = s.hp ∧ (∀ i, getT s1.tm i = getT s.tm i) ∧
      ∀ s' : St, (∀ t ∈ (match o.guard with | some (j, _) => dstOf ops j | none => []), getT s'.tm t = getT s.tm t) → ∃ s1', s1'.hp = s'.hp ∧ (∀ i, getT s1'.tm i = getT s'.tm i) ∧ ∀ k' : Bool → St → R, wantA ops o s' k' = k' wd s1' := by
  unfold wantA at h
  split at h
  · rename_i hgd
    exact ⟨true, s, h, rfl, fun _ => rfl, fun s' _ => ⟨s', rfl, fun _ => rfl, fun k' => by unfold wantA; simp only [hgd]⟩⟩
  · rename_i j want hgd
    split at h
    · rename_i oj hj
      split at h
      · rename_i d hd
        split at h
        · rename_i b hb
          have hset : ∀ (s : St), getT s.tm d = .val (.bool b) → ∀ i, getT (s.setT d (.val (.bool b))).tm i = getT s.tm i := by
            intro s hs i
            by_cases e : i = d
            · subst e; rw [show (s.setT i (.val (.bool b))).tm = (i, .val (.bool b)) :: s.tm from rfl, getT_same, hs]
            · rw [show (s.setT d (.val (.bool b))).tm = (d, .val (.bool b)) :: s.tm from rfl, getT_other _ _ e]
          have hget : ∀ s' : St, (∀ t ∈ (match o.guard with | some (j, _) => dstOf ops j | none => []), getT s'.tm t = getT s.tm t) → getT s'.tm d = .val (.bool b) := by
            intro s' hs'
            rw [hs' d (by simp [hgd, dstOf, hj, hd]), hb]
          cases b with
          | true =>
            rw [cond_true] at h
            refine ⟨want, s.setT d (.val (.bool true)), h, rfl, hset s hb, fun s' hs' => ⟨s'.setT d (.val (.bool true)), rfl, hset s' (hget s' hs'), fun k' => ?_⟩⟩
            unfold wantA; simp only [hgd, hj, hd, hget s' hs']; rfl
          | false =>
            rw [cond_false] at h
            refine ⟨!want, s.setT d (.val (.bool false)), h, rfl, hset s hb, fun s' hs' => ⟨s'.setT d (.val (.bool false)), rfl, hset s' (hget s' hs'), fun k' => ?_⟩⟩
            unfold wantA; simp only [hgd, hj, hd, hget s' hs']; rfl
        · rename_i hb
          refine ⟨false, s, h, rfl, fun _ => rfl, fun s' hs' => ⟨s', rfl, fun _ => rfl, fun k' => ?_⟩⟩
          have hget : getT s'.tm d = .tup [] := by rw [hs' d (by simp [hgd, dstOf, hj, hd]), hb]
          unfold wantA; simp only [hgd, hj, hd, hget]
        · cases h
      · cases h
    · cases h

theorem putK_det {s : St} {d : Option Nat} {v : AV} {k : St → R} (h : s.putK nt d v k = some r) :
    k ⟨put1 s.tm d v, s.hp⟩ = some r ∧ ∀ (s' : St) (k' : St → R), s'.putK nt d v k' = k' ⟨put1 s'.tm d v, s'.hp⟩ := by
  cases d with
  | none => exact ⟨h, fun s' k' => rfl⟩
  | some d =>
    simp only [St.putK] at h
    obtain ⟨c, h⟩ := cond_none h
    exact ⟨h, fun s' k' => by simp only [St.putK, c, cond_true]; rfl⟩

theorem oneD_ok {o : Oper} {s : St} {k : Foot → St → R} (h : oneD P tab nt ops o s k = some r) :
    ∃ x : Stp, x.o = o ∧ x.Ok P tab nt ops s ∧ ∃ s1, k x.f s1 = some r ∧ Ext s1 (x.ap s) := by
  unfold oneD at h
  obtain ⟨wd, s1, h1, hhp, htm, hf⟩ := wantA_fr h
  cases wd with
  | true =>
    rw [cond_true] at h1
    obtain ⟨D, v, h2, hop⟩ := opA_fr h1
    obtain ⟨h3, hput⟩ := putK_det h2
    have hw : wroteA s1 ⟨s1.tm, D ++ s1.hp⟩ = D.map (·.1) := by simp [wroteA]
    rw [hw] at h3
    refine ⟨⟨o, ⟨o.dst.toList, slotsR ops o, readsA P o s1, D.map (·.1)⟩, D, v⟩, rfl, ⟨rfl, rfl, fun s' hs' ha => ?_⟩, _, h3, ?_⟩
    · simp only at hs' ha
      obtain ⟨s1', e1, e2, e3⟩ := hf s' (fun t ht => hs' t (List.mem_append_right _ ht))
      refine ⟨⟨put1 s1'.tm o.dst v, D ++ s1'.hp⟩, fun k' => ?_, ?_⟩
      · unfold oneA
        simp only
        rw [e3, cond_true]
        rw [hop s1' (fun h => h ∈ readsA P o s1 ∨ h ∈ D.map (·.1)) (ev_fr fun t ht => by rw [e2, htm]; exact hs' t (List.mem_append_left _ ht)) (fun h hh => .inl hh) ?_ ?_]
        · exact hput _ _
        · intro h hh
          right
          have : ∀ (D : List (Nat × Root)), hasH D h = true → h ∈ D.map (·.1) := by
            intro D
            induction D with
            | nil => intro hh; cases hh
            | cons p D ih =>
              intro hh
              simp only [hasH, Bool.or_eq_true] at hh
              rcases hh with hh | hh
              · simp [Nat.eq_of_beq_eq_true hh]
              · simp only [List.map_cons, List.mem_cons]; exact .inr (ih hh)
          exact this D hh
        · intro h hh
          rw [e1, hhp]; exact ha h hh
      · refine ⟨fun i => ?_, fun h => ?_⟩
        · exact getT_put1 e2 i
        · simp [Stp.ap, e1]
    · refine ⟨fun i => ?_, fun h => ?_⟩
      · exact getT_put1 htm i
      · simp [Stp.ap, hhp]
  | false =>
    rw [cond_false] at h1
    obtain ⟨h3, hput⟩ := putK_det h1
    refine ⟨⟨o, ⟨o.dst.toList, slotsR ops o, [], []⟩, [], .tup []⟩, rfl, ⟨rfl, rfl, fun s' hs' ha => ?_⟩, _, h3, ?_⟩
    · simp only at hs'
      obtain ⟨s1', e1, e2, e3⟩ := hf s' (fun t ht => hs' t (List.mem_append_right _ ht))
      refine ⟨⟨put1 s1'.tm o.dst (.tup []), s1'.hp⟩, fun k' => ?_, ?_⟩
      · unfold oneA
        simp only
        rw [e3, cond_false]
        exact hput _ _
      · refine ⟨fun i => ?_, fun h => ?_⟩
        · exact getT_put1 e2 i
        · simp [Stp.ap, e1]
    · refine ⟨fun i => ?_, fun h => ?_⟩
      · exact getT_put1 htm i
      · simp [Stp.ap, hhp]

/-! ### steps one behind the other -/

def Tr (P : Program) (tab : List Ent) (nt : Nat) (ops : Array Oper) : St → List Stp → St → Prop
  | s, [], e => Ext s e
  | s, x :: xs, e => x.Ok P tab nt ops s ∧ Tr P tab nt ops (x.ap s) xs e

theorem Stp.ap_ext {x : Stp} {s s' : St} (h : Ext s s') : Ext (x.ap s) (x.ap s') := by
  refine ⟨fun i => ?_, fun k => ?_⟩
  · exact getT_put1 h.tm i
  · simp [Stp.ap, getH_append, hasH_append, (h.hp k).1, (h.hp k).2]

theorem Stp.Ok.move {x : Stp} {s s2 : St} (h : x.Ok P tab nt ops s) (h1 : ∀ t ∈ x.f.slots, getT s2.tm t = getT s.tm t) (h2 : ∀ k, k ∈ x.f.reads ∨ k ∈ x.f.writes → getH s2.hp k = getH s.hp k ∧ hasH s2.hp k = hasH s.hp k) : x.Ok P tab nt ops s2 := by
  obtain ⟨q1, q2, q3⟩ := h
  refine ⟨q1, q2, fun s' a b => q3 s' (fun t ht => (a t ht).trans (h1 t ht)) fun k hk => ⟨(b k hk).1.trans (h2 k hk).1, (b k hk).2.trans (h2 k hk).2⟩⟩

theorem Tr.ext : ∀ {xs : List Stp} {s s' e : St}, Tr P tab nt ops s xs e → Ext s s' → Tr P tab nt ops s' xs e
  | [], s, s', e, h, x => x.symm.trans h
  | y :: ys, s, s', e, h, x => ⟨h.1.move (fun t _ => (x.tm t).symm) (fun k _ => ⟨(x.hp k).1.symm, (x.hp k).2.symm⟩), Tr.ext h.2 (Stp.ap_ext x)⟩

theorem opsD_ok : ∀ {os : List Oper} {acc : List Foot} {s : St} {k : List Foot → St → R}, opsD P tab nt ops os acc s k = some r →
    ∃ xs e, xs.map (·.o) = os ∧ Tr P tab nt ops s xs e ∧ k (acc ++ xs.map (·.f)) e = some r
  | [], acc, s, k, h => ⟨[], s, rfl, Ext.refl s, by simp only [opsD] at h; simpa using h⟩
  | o :: os, acc, s, k, h => by
    simp only [opsD] at h
    obtain ⟨x, rfl, hx, s1, h1, hext⟩ := oneD_ok h
    obtain ⟨xs, e, q1, q2, q3⟩ := opsD_ok h1
    exact ⟨x :: xs, e, by simp [q1], ⟨hx, q2.ext hext⟩, by simpa using q3⟩

theorem meetN_false {a b : List Nat} (h : meetN a b = false) : ∀ x ∈ a, x ∉ b := by
  intro x hx hb
  have := any_false h x hx
  rw [memN_iff.2 hb] at this
  cases this

theorem hasH_keys {D : List (Nat × Root)} {h : Nat} : hasH D h = true ↔ h ∈ D.map (·.1) := by
  induction D with
  | nil => simp [hasH]
  | cons p D ih =>
    simp only [hasH, Bool.or_eq_true, ih, List.map_cons, List.mem_cons]
    constructor
    · rintro (hh | hh)
      · exact .inl (Nat.eq_of_beq_eq_true hh).symm
      · exact .inr hh
    · rintro (hh | hh)
      · left; rw [hh]; exact Nat.beq_refl _
      · exact .inr hh

structure Apart (a b : Foot) : Prop where
  dd : ∀ x ∈ a.dst, x ∉ b.dst
  ds : ∀ x ∈ a.dst, x ∉ b.slots
  sd : ∀ x ∈ b.dst, x ∉ a.slots
  ww : ∀ x ∈ a.writes, x ∉ b.writes
  wr : ∀ x ∈ a.writes, x ∉ b.reads
  rw_ : ∀ x ∈ b.writes, x ∉ a.reads

theorem apart_ok {a b : Foot} (h : apart a b = true) : Apart a b := by
  unfold apart at h
  simp only [Bool.not_eq_true', Bool.or_eq_false_iff] at h
  obtain ⟨⟨⟨⟨⟨h1, h2⟩, h3⟩, h4⟩, h5⟩, h6⟩ := h
  exact ⟨meetN_false h1, meetN_false h2, meetN_false h3, meetN_false h4, meetN_false h5, meetN_false h6⟩

theorem Stp.getT_ap {x : Stp} {s : St} {t : Nat} (h : t ∉ x.o.dst.toList) : getT (x.ap s).tm t = getT s.tm t := by
  simp only [Stp.ap]
  cases hd : x.o.dst with
  | none => simp only [put1]
  | some d => rw [hd] at h; simp at h; simp only [put1]; exact getT_other _ _ h
theorem Stp.getH_ap {x : Stp} {s : St} {k : Nat} (h : k ∉ x.D.map (·.1)) : getH (x.ap s).hp k = getH s.hp k ∧ hasH (x.ap s).hp k = hasH s.hp k := by
  have : hasH x.D k = false := by
    cases hb : hasH x.D k with
    | false => rfl
    | true => exact absurd (hasH_keys.1 hb) h
  simp [Stp.ap, getH_append, hasH_append, this]

theorem Tr.swap {x y : Stp} {zs : List Stp} {s e : St} (h : Tr P tab nt ops s (x :: y :: zs) e) (hap : Apart x.f y.f) : Tr P tab nt ops s (y :: x :: zs) e := by
  obtain ⟨hx, hy, hz⟩ := h
  have xd := hx.1; have xw := hx.2.1; have yd := hy.1; have yw := hy.2.1
  refine ⟨hy.move ?_ ?_, hx.move ?_ ?_, hz.ext ?_⟩
  · intro t ht
    refine (Stp.getT_ap fun hd => ?_).symm
    rw [← xd] at hd
    exact hap.ds t hd ht
  · intro k hk
    have := Stp.getH_ap (x := x) (s := s) (k := k) fun hw => by
      rw [← xw] at hw
      rcases hk with hk | hk
      · exact hap.wr k hw hk
      · exact hap.ww k hw hk
    exact ⟨this.1.symm, this.2.symm⟩
  · intro t ht
    refine Stp.getT_ap fun hd => ?_
    rw [← yd] at hd
    exact hap.sd t hd ht
  · intro k hk
    refine Stp.getH_ap fun hw => ?_
    rw [← yw] at hw
    rcases hk with hk | hk
    · exact hap.rw_ k hw hk
    · exact hap.ww k hk hw
  · refine ⟨fun i => ?_, fun k => ?_⟩
    · by_cases h1 : i ∈ x.o.dst.toList
      · have h2 : i ∉ y.o.dst.toList := by rw [← xd] at h1; rw [← yd]; exact hap.dd i h1
        rw [Stp.getT_ap h2]
        simp only [Stp.ap]
        cases hd : x.o.dst with
        | none => rw [hd] at h1; simp at h1
        | some d => rw [hd] at h1; simp at h1; subst h1; simp only [put1]; rw [getT_same, getT_same]
      · rw [Stp.getT_ap (x := x) h1]
        by_cases h2 : i ∈ y.o.dst.toList
        · simp only [Stp.ap]
          cases hd : y.o.dst with
          | none => rw [hd] at h2; simp at h2
          | some d => rw [hd] at h2; simp at h2; subst h2; simp only [put1]; rw [getT_same, getT_same]
        · rw [Stp.getT_ap h2, Stp.getT_ap h2, Stp.getT_ap h1]
    · by_cases h1 : hasH x.D k = true
      · have h2 : hasH y.D k = false := by
          cases hb : hasH y.D k with
          | false => rfl
          | true =>
            have a1 := hasH_keys.1 h1; have a2 := hasH_keys.1 hb
            rw [← xw] at a1; rw [← yw] at a2
            exact absurd a2 (hap.ww k a1)
        simp [Stp.ap, getH_append, hasH_append, h1, h2]
      · have h1 : hasH x.D k = false := by cases hb : hasH x.D k with | false => rfl | true => exact absurd hb h1
        simp [Stp.ap, getH_append, hasH_append, h1]

theorem Tr.front {x : Stp} {zs : List Stp} {e : St} : ∀ {pre : List Stp} {s : St}, Tr P tab nt ops s (pre ++ x :: zs) e → (∀ y ∈ pre, Apart y.f x.f) → Tr P tab nt ops s (x :: (pre ++ zs)) e
  | [], s, h, _ => h
  | y :: pre, s, h, ha => by
    have h2 : Tr P tab nt ops s (y :: x :: (pre ++ zs)) e := ⟨h.1, Tr.front h.2 fun z hz => ha z (by simp [hz])⟩
    exact h2.swap (ha y (by simp))

end
end Go.AI
