/- SOUNDNESS, second part: the relation between an abstract state and the model's. -/
import Derived.Test.YtaaliglpbjjclaaS0
namespace Go.AI

theorem refR_one {w : World} {p : Option (Nat × Nat)} {e : Ty} {n lo : Nat} {len : Option Nat} {x : Value} (h : refR w p e n lo len x) : x.oneCell' = true := by
  rcases h.2 with ⟨_, a, rfl, _⟩ | ⟨b, o, c, _, rfl, _⟩ <;> rfl

mutual
theorem relV_mono {E E' : Env} (g : Grows E E') : ∀ {v : AV} {x : Value}, relV E v x → relV E' v x
  | .any, _, _ => by simp [relV]
  | .val v, x, h => by simpa [relV] using h
  | .agg cs, x, h => by
    simp only [relV] at h ⊢
    obtain ⟨vs, rfl, hc⟩ := h
    exact ⟨vs, rfl, relC_mono g hc⟩
  | .tup cs, x, h => by
    simp only [relV] at h ⊢
    obtain ⟨vs, rfl, hc⟩ := h
    exact ⟨vs, rfl, relL_mono g hc⟩
  | .fn f cs, x, h => by
    simp only [relV] at h ⊢
    obtain ⟨vs, rfl, hc⟩ := h
    exact ⟨vs, rfl, relL_mono g hc⟩
  | .ifc b, x, h => by simpa [relV] using h
  | .sl e l nn, x, h => by
    simp only [relV] at h ⊢
    obtain ⟨a, n, c, rfl, hs, h1, h2⟩ := h
    exact ⟨a, n, c, rfl, repS_mono hs g.imm g.sub (fun _ _ hx => repT_mono g.imm g.sub hx), h1, h2⟩
  | .cp cs, x, h => by
    simp only [relV] at h ⊢
    obtain ⟨b, o, vs, rfl, hI, hat, hc⟩ := h
    exact ⟨b, o, vs, rfl, g.sub _ hI, hat.mono (g.imm _ hI), relC_mono g hc⟩
  | .ref h lo len, x, hr => by
    simp only [relV] at hr ⊢
    have hk : hasH E.hp h = true := by
      cases ho : getH E.hp h with
      | gone => rw [ho] at hr; exact hr.1
      | box cs => exact hasH_of_getH (by rw [ho]; simp)
      | arr e l => exact hasH_of_getH (by rw [ho]; simp)
      | imm e l => exact hasH_of_getH (by rw [ho]; simp)
    have hf := g.fit h hk
    have hm := g.map h hk
    have hh := g.has h hk
    have hone : x.oneCell' = true := by
      cases ho : getH E.hp h with
      | gone => rw [ho] at hr; exact hr.2
      | box cs => rw [ho] at hr; exact refR_one hr
      | arr e l => rw [ho] at hr; exact refR_one hr
      | imm e l => rw [ho] at hr; exact refR_one hr
    have go : ∀ (e : Ty) (l : List e.D) (e' : Ty) (l' : List e'.D), e = e' → l.length = l'.length → E'.m h = E.m h →
        refR E.w (E.m h) e l.length lo len x → refR E'.w (E'.m h) e' l'.length lo len x := by
      intro e l e' l' he hl hm h0
      subst he
      rw [hm, ← hl]
      refine ⟨h0.1, ?_⟩
      rcases h0.2 with h1 | ⟨b, o, c, h1, h2, h3, h4⟩
      · exact .inl h1
      · exact .inr ⟨b, o, c, h1, h2, h3, Nat.le_trans h4 (g.size _)⟩
    cases hn : getH E'.hp h with
    | gone => exact ⟨hh, hone⟩
    | box cs' =>
      rw [hn] at hf hm
      cases ho : getH E.hp h with
      | box cs =>
        rw [ho] at hf hr
        have hl : cs.length = cs'.length := hf
        have h0 : refR E.w (E.m h) .bool cs.length lo len x := hr
        show refR E'.w (E'.m h) .bool cs'.length lo len x
        rw [hm (by simp), ← hl]
        refine ⟨h0.1, ?_⟩
        rcases h0.2 with h1 | ⟨b, o, c, h1, h2, h3, h4⟩
        · exact .inl h1
        · exact .inr ⟨b, o, c, h1, h2, h3, Nat.le_trans h4 (g.size _)⟩
      | gone => rw [ho] at hf; exact hf.elim
      | arr e l => rw [ho] at hf; exact hf.elim
      | imm e l => rw [ho] at hf; exact hf.elim
    | arr e' l' =>
      rw [hn] at hf hm
      cases ho : getH E.hp h with
      | arr e l => rw [ho] at hf hr; exact go e l e' l' hf.1 hf.2 (hm (by simp)) hr
      | gone => rw [ho] at hf; exact hf.elim
      | box cs => rw [ho] at hf; exact hf.elim
      | imm e l => rw [ho] at hf; exact hf.elim
    | imm e' l' =>
      rw [hn] at hf hm
      cases ho : getH E.hp h with
      | arr e l => rw [ho] at hf hr; exact go e l e' l' hf.1 hf.2 (hm (by simp)) hr
      | gone => rw [ho] at hf; exact hf.elim
      | box cs => rw [ho] at hf; exact hf.elim
      | imm e l => rw [ho] at hf hr; exact go e l e' l' hf.1 hf.2 (hm (by simp)) hr
  | .ptr h i f, x, hr => by
    simp only [relV] at hr ⊢
    have hk : hasH E.hp h = true := by
      cases ho : getH E.hp h with
      | gone => rw [ho] at hr; exact hr.1
      | box cs => exact hasH_of_getH (by rw [ho]; simp)
      | arr e l => exact hasH_of_getH (by rw [ho]; simp)
      | imm e l => exact hasH_of_getH (by rw [ho]; simp)
    have hf := g.fit h hk
    have hm := g.map h hk
    have hh := g.has h hk
    have hone : x.oneCell' = true := by
      cases ho : getH E.hp h with
      | gone => rw [ho] at hr; exact hr.2
      | box cs => rw [ho] at hr; obtain ⟨b, _, rfl⟩ := hr; rfl
      | arr e l => rw [ho] at hr; obtain ⟨b, o, _, rfl, _⟩ := hr; rfl
      | imm e l => rw [ho] at hr; obtain ⟨b, o, _, rfl, _⟩ := hr; rfl
    have go : ∀ (e : Ty) (l : List e.D) (e' : Ty) (l' : List e'.D), e = e' → l.length = l'.length → E'.m h = E.m h →
        (∃ b o, E.m h = some (b, o) ∧ x = .pointer (some ⟨b, o + i * e.sz + f, none⟩) ∧ i < l.length) →
        (∃ b o, E'.m h = some (b, o) ∧ x = .pointer (some ⟨b, o + i * e'.sz + f, none⟩) ∧ i < l'.length) := by
      intro e l e' l' he hl hm h0
      subst he
      obtain ⟨b, o, h1, h2, h3⟩ := h0
      exact ⟨b, o, hm.trans h1, h2, by rw [← hl]; exact h3⟩
    cases hn : getH E'.hp h with
    | gone => exact ⟨hh, hone⟩
    | box cs' =>
      rw [hn] at hf hm
      cases ho : getH E.hp h with
      | box cs =>
        rw [ho] at hf hr
        obtain ⟨b, h1, h2⟩ := hr
        exact ⟨b, (hm (by simp)).trans h1, h2⟩
      | gone => rw [ho] at hf; exact hf.elim
      | arr e l => rw [ho] at hf; exact hf.elim
      | imm e l => rw [ho] at hf; exact hf.elim
    | arr e' l' =>
      rw [hn] at hf hm
      cases ho : getH E.hp h with
      | arr e l => rw [ho] at hf hr; exact go e l e' l' hf.1 hf.2 (hm (by simp)) hr
      | gone => rw [ho] at hf; exact hf.elim
      | box cs => rw [ho] at hf; exact hf.elim
      | imm e l => rw [ho] at hf; exact hf.elim
    | imm e' l' =>
      rw [hn] at hf hm
      cases ho : getH E.hp h with
      | arr e l => rw [ho] at hf hr; exact go e l e' l' hf.1 hf.2 (hm (by simp)) hr
      | gone => rw [ho] at hf; exact hf.elim
      | box cs => rw [ho] at hf; exact hf.elim
      | imm e l => rw [ho] at hf hr; exact go e l e' l' hf.1 hf.2 (hm (by simp)) hr
theorem relL_mono {E E' : Env} (g : Grows E E') : ∀ {cs : List AV} {vs : List Value}, relL E cs vs → relL E' cs vs
  | [], [], _ => by simp [relL]
  | c :: cs, v :: vs, h => by
    simp only [relL] at h ⊢
    exact ⟨relV_mono g h.1, relL_mono g h.2⟩
theorem relC_mono {E E' : Env} (g : Grows E E') : ∀ {cs : List AV} {vs : List Value}, relC E cs vs → relC E' cs vs
  | [], [], _ => by simp [relC]
  | c :: cs, v :: vs, h => by
    simp only [relC] at h ⊢
    exact ⟨h.1, relV_mono g h.2.1, relC_mono g h.2.2⟩
end

theorem fits_refl : ∀ (r : Root), fits r r
  | .gone => trivial
  | .box _ => rfl
  | .arr _ _ => ⟨rfl, rfl⟩
  | .imm _ _ => ⟨rfl, rfl⟩
theorem fits_trans : ∀ {a b c : Root}, fits a b → fits b c → fits a c
  | a, b, .gone, _, _ => by cases a <;> trivial
  | .box _, .box _, .box _, h, h' => Eq.trans (α := Nat) h h'
  | .arr _ _, .arr _ _, .arr _ _, h, h' => ⟨h.1.trans h'.1, h.2.trans h'.2⟩
  | .arr _ _, .arr _ _, .imm _ _, h, h' => ⟨h.1.trans h'.1, h.2.trans h'.2⟩
  | .arr _ _, .imm _ _, .imm _ _, h, h' => ⟨h.1.trans h'.1, h.2.trans h'.2⟩
  | .imm _ _, .imm _ _, .imm _ _, h, h' => ⟨h.1.trans h'.1, h.2.trans h'.2⟩
  | .gone, .gone, .box _, _, h' => h'.elim
  | .gone, .gone, .arr _ _, _, h' => h'.elim
  | .gone, .gone, .imm _ _, _, h' => h'.elim
  | .gone, .box _, _, h, _ => h.elim
  | .gone, .arr _ _, _, h, _ => h.elim
  | .gone, .imm _ _, _, h, _ => h.elim
  | .box _, .gone, .box _, _, h' => h'.elim
  | .box _, .gone, .arr _ _, _, h' => h'.elim
  | .box _, .gone, .imm _ _, _, h' => h'.elim
  | .arr _ _, .gone, .box _, _, h' => h'.elim
  | .arr _ _, .gone, .arr _ _, _, h' => h'.elim
  | .arr _ _, .gone, .imm _ _, _, h' => h'.elim
  | .imm _ _, .gone, .box _, _, h' => h'.elim
  | .imm _ _, .gone, .arr _ _, _, h' => h'.elim
  | .imm _ _, .gone, .imm _ _, _, h' => h'.elim
  | .box _, .box _, .arr _ _, _, h' => h'.elim
  | .box _, .box _, .imm _ _, _, h' => h'.elim
  | .box _, .arr _ _, _, h, _ => h.elim
  | .box _, .imm _ _, _, h, _ => h.elim
  | .arr _ _, .box _, _, h, _ => h.elim
  | .imm _ _, .box _, _, h, _ => h.elim
  | .imm _ _, .arr _ _, _, h, _ => h.elim
  | .arr _ _, .arr _ _, .box _, _, h' => h'.elim
  | .arr _ _, .imm _ _, .box _, _, h' => h'.elim
  | .arr _ _, .imm _ _, .arr _ _, _, h' => h'.elim
  | .imm _ _, .imm _ _, .box _, _, h' => h'.elim
  | .imm _ _, .imm _ _, .arr _ _, _, h' => h'.elim

theorem Grows.refl (E : Env) : Grows E E := ⟨fun _ _ => rfl, fun _ h => h, fun _ h => h, fun _ _ => fits_refl _, fun _ _ _ => rfl, fun _ => Nat.le_refl _⟩

def owned : Root → Bool
  | .box _ | .arr _ _ => true
  | _ => false

/-- the cells of block b from o on begin with these; the block may be written -/
def OwnAt (w : World) (b o : Nat) (vs : List Value) : Prop :=
  ∃ cs T, w.heap[b]? = some (.cells cs T (0, 0)) ∧ ∃ pre post, cs.toList = pre ++ vs ++ post ∧ pre.length = o
theorem OwnAt.at {w : World} {b o : Nat} {vs : List Value} (h : OwnAt w b o vs) : At w b o vs := by
  obtain ⟨cs, T, hg, r⟩ := h; exact ⟨cs, T, _, hg, r⟩
theorem OwnAt.mono {w w' : World} {b o : Nat} {vs : List Value} (h : OwnAt w b o vs) (hb : w'.heap[b]? = w.heap[b]?) : OwnAt w' b o vs := by
  obtain ⟨cs, T, hg, r⟩ := h
  exact ⟨cs, T, hb.trans hg, r⟩

def arrOk (E : Env) (h : Nat) (e : Ty) (l : List e.D) (own : Bool) : Prop :=
  0 < e.sz ∧ ((E.m h = none ∧ l = []) ∨ ∃ b o vss, E.m h = some (b, o) ∧ (if own then ¬ E.I b ∧ OwnAt E.w b o vss.flatten else E.I b ∧ At E.w b o vss.flatten) ∧ All2 (repT E.w E.I e) l vss)

def rootOk (E : Env) (h : Nat) : Root → Prop
  | .gone => True
  | .box cs => ∃ b vs T, E.m h = some (b, 0) ∧ ¬ E.I b ∧ E.w.heap[b]? = some (.cells vs T (0, 0)) ∧ relC E cs vs.toList
  | .arr e l => arrOk E h e l true
  | .imm e l => arrOk E h e l false

/-- the block is one of an owned root -/
def Own (E : Env) (b : Nat) : Prop := ∃ h o, owned (getH E.hp h) = true ∧ E.m h = some (b, o)

structure HeapRel (E : Env) : Prop where
  root : ∀ h, rootOk E h (getH E.hp h)
  inj : ∀ h h' b o o', owned (getH E.hp h) = true → owned (getH E.hp h') = true → E.m h = some (b, o) → E.m h' = some (b, o') → h = h'
  lt : ∀ b, E.I b → b < E.w.heap.size

theorem HeapRel.own_lt {E : Env} (H : HeapRel E) {b : Nat} (h : Own E b) : b < E.w.heap.size ∧ ¬ E.I b := by
  obtain ⟨k, o, ho, hm⟩ := h
  have hr := H.root k
  cases hk : getH E.hp k with
  | gone => rw [hk] at ho; cases ho
  | imm e l => rw [hk] at ho; cases ho
  | box cs =>
    rw [hk] at hr
    obtain ⟨b', vs, T, h1, h2, h3, _⟩ := hr
    rw [h1] at hm; obtain ⟨rfl, rfl⟩ := Prod.mk.inj (Option.some.inj hm)
    exact ⟨(Array.getElem?_eq_some_iff.1 h3).1, h2⟩
  | arr e l =>
    rw [hk] at hr
    rcases hr.2 with ⟨h1, _⟩ | ⟨b', o', vss, h1, h2, _⟩
    · rw [h1] at hm; cases hm
    · rw [h1] at hm; obtain ⟨rfl, rfl⟩ := Prod.mk.inj (Option.some.inj hm)
      simp only [if_true] at h2
      exact ⟨h2.2.at.lt, h2.1⟩

def tmR (E : Env) (tm : List (Nat × AV)) (tmps : Array Value) : Prop := ∀ i, relV E (getT tm i) (tmps.getD i undef)

/-- how an environment has come out of that at a function's entry -/
structure Hist (A : Env) (keep : Nat) (E : Env) : Prop where
  old : ∀ b, b < A.w.heap.size → ¬ Own A b → E.w.heap[b]? = A.w.heap[b]?
  sz : A.w.heap.size ≤ E.w.heap.size
  own : ∀ b, Own E b → Own A b ∨ A.w.heap.size ≤ b
  imm : ∀ b, E.I b → A.I b ∨ Own A b ∨ A.w.heap.size ≤ b
  sub : ∀ b, A.I b → E.I b
  fit : ∀ h, h < keep → fits (getH A.hp h) (getH E.hp h)
  map : ∀ h, h < keep → getH E.hp h ≠ .gone → E.m h = A.m h
  has : ∀ h, h < keep → hasH E.hp h = true
  os : E.w.os = A.w.os
  tape : E.w.tape = A.w.tape
  output : E.w.output = A.w.output
  bsz : ∀ b, bsz A.w b ≤ bsz E.w b

structure Good (A : Env) (keep : Nat) (E : Env) (tm : List (Nat × AV)) (tmps : Array Value) : Prop where
  heap : HeapRel E
  tm : tmR E tm tmps
  hist : Hist A keep E

def goodV (A : Env) (keep : Nat) (s : St) (tmps : Array Value) (w : World) (v : AV) (x : Value) : Prop :=
  ∃ m I, Good A keep ⟨w, m, s.hp, I⟩ s.tm tmps ∧ relV ⟨w, m, s.hp, I⟩ v x

/-- an operation comes to a value -/
def OpOk (P : Program) (o : Oper) (a : Act) (w : World) (G : Value → World → Prop) : Prop :=
  (∃ x w', (execOp a.eval o).run P w = .ok (.value x) w' ∧ G x w') ∨
  (∃ w', (execOp a.eval o).run P w = .ok .skip w' ∧ G undef w') ∨
  (∃ f args w', (execOp a.eval o).run P w = .ok (.enter f args) w' ∧ Calls P f args w' fun e w'' => ∃ x, e = .returned x ∧ G x w'')

theorem OpOk.wp {P : Program} {o : Oper} {a : Act} {w : World} {G : Value → World → Prop} (h : OpOk P o a w G) (next : Act → World → Prop) (Q : Exit → Act → World → Prop)
    (hn : ∀ x w', G x w' → next (a.put o.dst x) w') : o.wp P a w next Q := by
  unfold Oper.wp
  rcases h with ⟨x, w', h1, h2⟩ | ⟨w', h1, h2⟩ | ⟨f, args, w', h1, h2⟩
  · rw [h1]; exact hn _ _ h2
  · rw [h1]; exact hn _ _ h2
  · rw [h1, Oper.upon_enter]
    refine h2.mono ?_
    rintro e w'' ⟨x, rfl, hx⟩
    exact hn _ _ hx

theorem ev_rel {E : Env} {s : St} {a : Act} (h : tmR E s.tm a.tmps) (x : Operand) : relV E (s.ev x) (a.eval x) := by
  cases x with
  | tmp t => exact h t
  | const v =>
    simp only [St.ev, Act.eval]
    cases v <;> simp only [ofConst, relV]
    rename_i cs
    cases hc : cs.toList.all oneC with
    | false => simp [relV]
    | true =>
      simp only [cond_true, relV]
      refine ⟨cs, rfl, relC_iff.2 ?_⟩
      have : ∀ l : List Value, l.all oneC = true → All2 (fun c v => v.oneCell' = true ∧ relV E c v) (l.map AV.val) l := by
        intro l
        induction l with
        | nil => intro _; trivial
        | cons v l ih =>
          intro hl
          simp only [List.all_cons, Bool.and_eq_true] at hl
          exact ⟨⟨by cases v <;> simp_all [oneC, Value.oneCell'], by simp [relV]⟩, ih hl.2⟩
      exact this _ hc
  | global g => simp [St.ev, relV]
  | func f => simp [St.ev, Act.eval, relV, relL]

/-- a value, in the same world -/
theorem OpOk.same {P : Program} {o : Oper} {a : Act} {w : World} {A : Env} {keep : Nat} {s : St} {v : AV} {x : Value} {m : Nat → Option (Nat × Nat)} {I : Nat → Prop}
    (hg : Good A keep ⟨w, m, s.hp, I⟩ s.tm a.tmps) (hr : (execOp a.eval o).run P w = .ok (.value x) w) (hv : relV ⟨w, m, s.hp, I⟩ v x) :
    OpOk P o a w fun x w' => goodV A keep s a.tmps w' v x := .inl ⟨x, w, hr, m, I, hg, hv⟩

end Go.AI
