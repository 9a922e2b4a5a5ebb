/- SOUNDNESS: the operations of a region, in their order. -/
import Derived.Test.YtaaliglpbjjclaaS16
import Derived.Orders
namespace Go.AI
set_option linter.unusedVariables false
set_option linter.unusedSimpArgs false

/-- a state of the model, as an abstract one sees it -/
structure Sees (A : Env) (keep nt : Nat) (ds : List Deferred) (s : St) (a : Act) (w : World) : Prop where
  good : ∃ m I, Good A keep ⟨w, m, s.hp, I⟩ s.tm a.tmps
  size : nt ≤ a.tmps.size
  defers : a.defers = ds

section
variable {P : Program} {A : Env} {keep nt : Nat} {ds : List Deferred} {w : World} {s : St} {o : Oper} {a : Act} {r : Res}

theorem getT_same (tm : List (Nat × AV)) (i : Nat) (v : AV) : getT ((i, v) :: tm) i = v := by simp [getT]
theorem getT_other (tm : List (Nat × AV)) {i j : Nat} (v : AV) (e : j ≠ i) : getT ((i, v) :: tm) j = getT tm j := by
  have : Nat.beq i j = false := by
    cases h : Nat.beq i j with
    | false => rfl
    | true => exact absurd (Nat.eq_of_beq_eq_true h).symm e
  simp [getT, this]

theorem put_ok {m : Nat → Option (Nat × Nat)} {I : Nat → Prop} {d : Option Nat} {v : AV} {x : Value} {k : St → R} (h : s.putK nt d v k = some r)
    (hg : Good A keep ⟨w, m, s.hp, I⟩ s.tm a.tmps) (hs : nt ≤ a.tmps.size) (hd : a.defers = ds) (hv : relV ⟨w, m, s.hp, I⟩ v x) :
    ∃ s1, k s1 = some r ∧ Sees A keep nt ds s1 (a.put d x) w := by
  cases d with
  | none => exact ⟨s, h, ⟨⟨m, I, hg⟩, hs, hd⟩⟩
  | some i =>
    simp only [St.putK] at h
    obtain ⟨hi, h⟩ := cond_none h
    have hi : i < nt := Nat.le_of_ble_eq_true hi
    refine ⟨_, h, ⟨⟨m, I, hg.heap, ?_, hg.hist⟩, by simpa [Act.put] using hs, hd⟩⟩
    intro j
    by_cases e : j = i
    · subst e
      rw [show (s.setT j v).tm = (j, v) :: s.tm from rfl, getT_same]
      have : j < a.tmps.size := by omega
      have q : relV ⟨w, m, s.hp, I⟩ v ((a.put (some j) x).tmps.getD j undef) := by simpa [Act.put, this] using hv
      exact q
    · rw [show (s.setT i v).tm = (i, v) :: s.tm from rfl, getT_other _ _ e]
      have := hg.tm j
      have q : relV ⟨w, m, s.hp, I⟩ (getT s.tm j) ((a.put (some i) x).tmps.getD j undef) := by simpa [Act.put, Array.getElem?_setIfInBounds_ne (Ne.symm e)] using this
      exact q

/-- one operation, wanted or not -/
theorem wantA_ok {ops : Array Oper} {m : Nat → Option (Nat × Nat)} {I : Nat → Prop} {k : Bool → St → R} (h : wantA ops o s k = some r) (hg : Good A keep ⟨w, m, s.hp, I⟩ s.tm a.tmps) :
    ∃ s1, k (Region.wanted o (yielded ops a.tmps)) s1 = some r ∧ s1.hp = s.hp ∧ Good A keep ⟨w, m, s1.hp, I⟩ s1.tm a.tmps := by
  unfold wantA at h
  unfold Region.wanted
  split at h
  · rename_i hgd
    simp only [hgd]
    exact ⟨s, h, rfl, hg⟩
  · rename_i j want hgd
    simp only [hgd]
    split at h
    · rename_i oj hj
      split at h
      · rename_i d hd
        split at h
        · rename_i b hb
          have hx := hg.tm d
          rw [hb] at hx
          simp only [relV] at hx
          have hy : yielded ops a.tmps j = some b := by
            unfold yielded
            simp only [hj, Option.bind_some, hd]
            cases hq : a.tmps[d]? with
            | none => rw [Array.getD_eq_getD_getElem?, hq] at hx; simp [undef] at hx
            | some x => rw [Array.getD_eq_getD_getElem?, hq] at hx; simp only [Option.getD_some] at hx; subst hx; rfl
          have hg1 : ∀ b', b' = b → Good A keep ⟨w, m, (s.setT d (.val (.bool b'))).hp, I⟩ (s.setT d (.val (.bool b'))).tm a.tmps := by
            intro b' e; subst e
            refine ⟨hg.heap, ?_, hg.hist⟩
            intro i
            by_cases e : i = d
            · subst e; rw [show (s.setT i (.val (.bool b'))).tm = (i, .val (.bool b')) :: s.tm from rfl, getT_same]; simp only [relV]; exact hx
            · rw [show (s.setT d (.val (.bool b'))).tm = (d, .val (.bool b')) :: s.tm from rfl, getT_other _ _ e]; exact hg.tm i
          rw [hy]
          cases b with
          | true =>
            rw [cond_true] at h
            refine ⟨s.setT d (.val (.bool true)), ?_, rfl, hg1 true rfl⟩
            cases want <;> exact h
          | false =>
            rw [cond_false] at h
            refine ⟨s.setT d (.val (.bool false)), ?_, rfl, hg1 false rfl⟩
            cases want <;> exact h
        · rename_i hb
          have hx := hg.tm d
          rw [hb] at hx
          simp only [relV] at hx
          obtain ⟨vs, hv, hl⟩ := hx
          have hy : yielded ops a.tmps j = none := by
            unfold yielded
            simp only [hj, Option.bind_some, hd]
            cases hq : a.tmps[d]? with
            | none => rfl
            | some x => rw [Array.getD_eq_getD_getElem?, hq] at hv; simp only [Option.getD_some] at hv; subst hv; rfl
          rw [hy]
          exact ⟨s, h, rfl, hg⟩
        · cases h
      · cases h
    · cases h

theorem oneA_ok {tab : List Ent} (ht : ∀ e ∈ tab, Sound P e.f e.S) {ops : Array Oper} {i : Nat} (hi : ops[i]? = some o) {k : St → R} (h : oneA P tab nt ops o s k = some r) (hg : Sees A keep nt ds s a w)
    (Q : Exit → Act → World → Prop) (next : Act → World → Prop) (hn : ∀ s1, k s1 = some r → ∀ a' w', Sees A keep nt ds s1 a' w' → next a' w') : wpOp P ops Q i next a w := by
  obtain ⟨⟨m, I, g⟩, hs, hd⟩ := hg
  unfold oneA at h
  obtain ⟨s1, h1, hp1, g1⟩ := wantA_ok h g
  unfold wpOp
  simp only [hi]
  cases hw : Region.wanted o (yielded ops a.tmps) with
  | true =>
    rw [hw, cond_true] at h1
    obtain ⟨s2, v2, h2, hop⟩ := opA_ok (K := fun s2 v => s2.putK nt o.dst v k) ht g1 h1
    simp only [if_true]
    refine .inl (hop.wp next Q ?_)
    rintro x w' ⟨m', I', gg, hv⟩
    obtain ⟨s4, h4, h5⟩ := put_ok h2 gg hs hd hv
    exact hn s4 h4 _ _ h5
  | false =>
    rw [hw, cond_false] at h1
    obtain ⟨s3, h3, h4⟩ := put_ok (x := undef) h1 g1 hs hd (by simp only [relV]; exact ⟨#[], rfl, by simp [relL]⟩)
    simp only [if_false, Bool.false_eq_true]
    exact hn s3 h3 _ _ h4

theorem opsA_ok {tab : List Ent} (ht : ∀ e ∈ tab, Sound P e.f e.S) {ops : Array Oper} {k : St → R} (Q : Exit → Act → World → Prop) (hQ : ∀ s1, k s1 = some r → ∀ a' w', Sees A keep nt ds s1 a' w' → Q .normal a' w') :
    ∀ {l : List Nat} {os : List Oper} {s : St} {a : Act} {w : World}, All2 (fun i o => ops[i]? = some o) l os → opsA P tab nt ops os s k = some r → Sees A keep nt ds s a w → wpOps P ops Q l a w
  | [], [], s, a, w, _, h, hg => hQ s h _ _ hg
  | [], _ :: _, _, _, _, hl, _, _ => hl.elim
  | _ :: _, [], _, _, _, hl, _, _ => hl.elim
  | i :: l, o :: os, s, a, w, hl, h, hg => by
    simp only [opsA] at h
    rw [wpOps_cons]
    exact oneA_ok ht hl.1 h hg Q _ fun s1 h1 a' w' h2 => opsA_ok ht Q hQ hl.2 h1 h2

theorem ops_all2 (ops : Array Oper) : All2 (fun i o => ops[i]? = some o) (List.range ops.size) ops.toList := by
  have : ∀ (l : List Oper) (n : Nat), (∀ j o, l[j]? = some o → ops[n + j]? = some o) → All2 (fun i o => ops[i]? = some o) (List.range' n l.length) l := by
    intro l
    induction l with
    | nil => intro n _; trivial
    | cons o l ih =>
      intro n hl
      refine ⟨hl 0 o rfl, ih (n + 1) fun j o' ho => ?_⟩
      have := hl (j + 1) o' (by simpa using ho)
      rwa [show n + 1 + j = n + (j + 1) by omega]
  have := this ops.toList 0 (fun j o h => by simpa using h)
  rwa [← List.range_eq_range', Array.length_toList] at this

end
end Go.AI
