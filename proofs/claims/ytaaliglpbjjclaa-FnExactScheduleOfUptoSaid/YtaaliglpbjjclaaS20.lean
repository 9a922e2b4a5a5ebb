/- SOUNDNESS: code, functions. -/
import Derived.Test.YtaaliglpbjjclaaF6
namespace Go.AI
set_option linter.unusedVariables false
set_option linter.unusedSimpArgs false

/-- from these items on the frame returns a value -/
def Ends (P : Program) (f : FuncId) (items : List Item) (a : Act) (w : World) (G : Value → World → Prop) : Prop :=
  ∀ (b : Frame) (cs : List Frame), b.fn = f → b.kind = .normal → ∃ v w' fr, G v w' ∧ Steps P (lone (b.at a items) cs w) (lone fr cs w') ∧ fr.fn = f ∧ fr.leaving P w' (.returned v)

section
variable {P : Program} {A : Env} {f : FuncId} {fn : Func} {C : Ctx} {w : World} {s : St} {a : Act} {r : Res}

theorem Ends.go {items items' : List Item} {a' : Act} {w' : World} {G : Value → World → Prop} (h : ∀ (b : Frame) (cs : List Frame), b.fn = f → b.kind = .normal → Steps P (lone (b.at a items) cs w) (lone (b.at a' items') cs w'))
    (h' : Ends P f items' a' w' G) : Ends P f items a w G := by
  intro b cs hb hk
  obtain ⟨v, w2, fr, g, st, q1, q2⟩ := h' b cs hb hk
  exact ⟨v, w2, fr, g, Steps.trans (h b cs hb hk) st, q1, q2⟩

theorem Ends.ret {items : List Item} {G : Value → World → Prop} (hf : P.funcs[f]? = some fn) (hd : a.defers = []) (hE : ∃ v, (results fn a.tmps).run P w = .ok v w ∧ G v w)
    (hst : ∀ (b : Frame) (cs : List Frame), step P (lone (b.at a items) cs w) = .next (lone { b.at a items with mode := .returning } cs w)) : Ends P f items a w G := by
  obtain ⟨x, q1, q2⟩ := hE
  intro b cs hb hk
  exact ⟨x, w, { b.at a items with mode := .returning }, q2, .one (hst b cs), hb, rfl, hd, hk, fn, by rw [← hf]; exact congrArg (fun i => P.funcs[i]?) hb, q1⟩

theorem ops_ends {ops : Array Oper} {l : List Nat} {k : List Item} {G : Value → World → Prop} (h : wpOps P ops (fun e a' w' => e = .normal ∧ Ends P f k a' w' G) l a w) : Ends P f (.inRegion ops l :: k) a w G := by
  intro b cs hb hk
  obtain ⟨e, a', w', ⟨rfl, h1⟩, h2⟩ := wp_ops l a w h b k cs
  obtain ⟨v, w2, fr, g, st, q1, q2⟩ := h1 b cs hb hk
  exact ⟨v, w2, fr, g, Steps.trans h2 st, q1, q2⟩

theorem body_ok (ht : ∀ e ∈ C.tab, Sound P e.f e.S) (hP : C.P = P) (hf : P.funcs[f]? = some fn) {E : St → R} {L : List Item → St → R} {G : Value → World → Prop}
    (hE : ∀ {s : St} {a : Act} {w : World}, E s = some r → Sees A C.keep C.nt [] s a w → ∃ v, (results fn a.tmps).run P w = .ok v w ∧ G v w)
    (hL : ∀ {items : List Item} {s : St} {a : Act} {w : World}, L items s = some r → Sees A C.keep C.nt [] s a w → Ends P f items a w G) :
    ∀ (n : Nat) {first : Bool} {items : List Item} {s : St} {a : Act} {w : World}, body C E L n first items s = some r → Sees A C.keep C.nt [] s a w → Ends P f items a w G := by
  intro n
  induction n with
  | zero => intro first items s a w h _; simp [body] at h
  | succ n ih =>
    intro first items s a w h hs
    cases items with
    | nil => simp only [body] at h; exact Ends.ret hf hs.defers (hE h hs) fun b cs => step_end
    | cons it k =>
      cases it with
      | inBlock id => simp only [body] at h; exact Ends.go (fun b cs _ _ => .one step_inBlock) (ih h hs)
      | inLoop c => simp only [body] at h; exact Ends.go (fun b cs _ _ => .one step_inLoop) (hL h hs)
      | code c =>
        cases c with
        | skip => simp only [body] at h; exact Ends.go (fun b cs _ _ => .one step_skip) (ih h hs)
        | seq x y => simp only [body] at h; exact Ends.go (fun b cs _ _ => .one step_seq) (ih h hs)
        | cond x y z =>
          simp only [body] at h
          split at h
          · rename_i v hv
            obtain ⟨⟨m, I, hg⟩, h1, h2⟩ := hs
            have hx := ev_rel hg.tm x
            rw [hv] at hx
            simp only [relV] at hx
            cases v with
            | true => rw [cond_true] at h; exact Ends.go (fun b cs _ _ => .one (step_cond hx)) (ih h ⟨⟨m, I, hg⟩, h1, h2⟩)
            | false => rw [cond_false] at h; exact Ends.go (fun b cs _ _ => .one (step_cond hx)) (ih h ⟨⟨m, I, hg⟩, h1, h2⟩)
          · cases h
        | block id c => simp only [body] at h; exact Ends.go (fun b cs _ _ => .one step_block) (ih h hs)
        | loop c => simp only [body] at h; exact Ends.go (fun b cs _ _ => .one step_loop) (hL h hs)
        | exit id =>
          simp only [body] at h
          split at h
          · rename_i k' hk; exact Ends.go (fun b cs _ _ => .one (step_exit hk)) (ih h hs)
          · cases h
        | ret => simp only [body] at h; exact Ends.ret hf hs.defers (hE h hs) fun b cs => step_ret
        | region id ops draw =>
          simp only [body] at h
          split at h
          · exact hL h hs
          · cases draw with
            | true =>
              rw [cond_true, hP] at h
              refine Ends.go (a' := a) (w' := { w with drawn := w.drawn + 1 }) (items' := .inRegion ops (Region.schedule (P.follows .mixedOrders) ops (w.tape w.drawn (.order f id))) :: k) ?_ ?_
              · intro b cs hb _
                have := step_region_draw (P := P) (b := b) (a := a) (k := k) (cs := cs) (w := w) (ops := ops) (id := id)
                rw [hb] at this
                exact .one this
              · exact ops_ends (drawA_ok ht _ h hs (fun s1 h1 a' w' h2 => ⟨rfl, ih h1 h2⟩) _ _)
            | false =>
              rw [cond_false, hP] at h
              refine Ends.go (fun b cs _ _ => .one step_region) (ops_ends (opsA_ok ht _ (fun s1 h1 a' w' h2 => ⟨rfl, ih h1 h2⟩) (ops_all2 ops) h hs))
        | _ => simp [body] at h
      | _ => simp [body] at h

theorem run_ok (ht : ∀ e ∈ C.tab, Sound P e.f e.S) (hP : C.P = P) (hf : P.funcs[f]? = some fn) (hres : C.res = fn.results.toList) :
    ∀ (n : Nat) {items : List Item} {s : St} {a : Act} {w : World}, run C some n items s = some r → Sees A C.keep C.nt [] s a w → Ends P f items a w (Left A C.keep r) := by
  have hE : ∀ {s : St} {a : Act} {w : World}, fin C some s = some r → Sees A C.keep C.nt [] s a w → ∃ v, (results fn a.tmps).run P w = .ok v w ∧ Left A C.keep r v w := by
    intro s a w h hs
    obtain ⟨⟨m, I, hg⟩, _, _⟩ := hs
    exact fin_ok hP hres hg h
  intro n
  induction n with
  | zero => intro items s a w h hs; exact body_ok ht hP hf hE (L := fun _ _ => none) (fun h _ => by cases h) 1000 h hs
  | succ n ih =>
    intro items s a w h hs
    refine body_ok ht hP hf hE (L := stepL C (run C some n)) (fun h hs => ?_) 1000 h hs
    unfold stepL at h
    split at h
    · split at h
      · split at h
        · rename_i d hd; exact ih h (lab_ok hs hd)
        · cases h
      · exact ih h hs
    · exact ih h hs

theorem args0_get : ∀ (args : List AV) (i j : Nat), getT (args0 i args) j = if i ≤ j ∧ j < i + args.length then args.getD (j - i) .any else .any
  | [], i, j => by simp [args0, getT]
  | v :: args, i, j => by
    simp only [args0]
    by_cases e : j = i
    · subst e; rw [getT_same]; simp
    · rw [getT_other _ _ e, args0_get args (i + 1) j]
      simp only [List.length_cons]
      by_cases hc : i + 1 ≤ j ∧ j < i + 1 + args.length
      · rw [if_pos hc, if_pos (by omega)]
        rw [show j - i = j - (i + 1) + 1 by omega, List.getD_cons_succ]
      · rw [if_neg hc, if_neg (by omega)]

theorem relL_length {E : Env} : ∀ {cs : List AV} {vs : List Value}, relL E cs vs → cs.length = vs.length
  | [], [], _ => rfl
  | _ :: _, _ :: _, h => by simp only [relL] at h; simp [relL_length h.2]
theorem relL_get {E : Env} : ∀ {cs : List AV} {vs : List Value} {i : Nat}, relL E cs vs → i < cs.length → relV E (cs.getD i .any) (vs.getD i undef)
  | c :: cs, v :: vs, 0, h, _ => by simp only [relL] at h; simpa using h.1
  | c :: cs, v :: vs, i + 1, h, hi => by simp only [relL] at h; simpa using relL_get (i := i) h.2 (by simpa using hi)

/-- a function's abstract run is what its calls do -/
theorem runF_ok {tab : List Ent} (ht : ∀ e ∈ tab, Sound P e.f e.S) (hf : P.funcs[f]? = some fn) {c : Code} (hb : fn.body = some c) {ann : List (Nat × Lab)} {out : Form} {n : Nat} {args : List AV} {vals : Array Value} {roots : List Root}
    (h : runF P tab ann out fn some n args roots = some r) (hhp : A.hp = numbered 0 roots) (H : HeapRel A) (hv : relL A args vals.toList) :
    Calls P f vals A.w fun e w' => ∃ x, e = .returned x ∧ Left A roots.length r x w' := by
  intro cs
  let b : Frame := { (default : Frame) with fn := f, kind := .normal }
  have henter : Frame.enter P f vals .normal =
      b.at { tmps := vals ++ Array.replicate (fn.ntmps - vals.size) undef, defers := [] } [.code c] := by
    simp [Frame.enter, Frame.at, hf, hb, b]
  have hc : bodyOf fn = c := by simp [bodyOf, hb]
  unfold runF at h
  rw [hc] at h
  obtain ⟨aw, am, ahp, aI⟩ := A
  simp only at hhp; subst hhp
  have hlen := relL_length hv
  have hsees : Sees ⟨aw, am, numbered 0 roots, aI⟩ roots.length fn.ntmps [] ⟨args0 0 args, numbered 0 roots⟩ { tmps := vals ++ Array.replicate (fn.ntmps - vals.size) undef, defers := [] } aw := by
    refine ⟨⟨am, aI, H, ?_, ?_⟩, by simp; omega, rfl⟩
    · intro i
      simp only
      rw [args0_get]
      by_cases hi : 0 ≤ i ∧ i < 0 + args.length
      · rw [if_pos hi]
        have h1 : i < vals.size := by simp at hlen; omega
        have := relL_get (i := i) hv (by omega)
        rw [Array.getD_eq_getD_getElem?, Array.getElem?_append_left h1]
        simpa using this
      · rw [if_neg hi]; simp [relV]
    · refine ⟨fun _ _ _ => rfl, Nat.le_refl _, fun b hb => .inl hb, fun b hb => .inl hb, fun b hb => hb, fun h _ => fits_refl _, fun _ _ _ => rfl, ?_, rfl, rfl, rfl, fun _ => Nat.le_refl _⟩
      intro k hk
      simp only [hasH_numbered]; simp; omega
  have := run_ok (C := ctxOf P tab fn roots.length ann out) (fn := fn) ht rfl hf rfl n h hsees
  obtain ⟨v, w', fr, g, st, q1, q2⟩ := this b cs rfl rfl
  rw [henter]
  exact ⟨.returned v, w', fr, ⟨v, rfl, g⟩, st, q1, q2⟩

theorem calls_ok {vals : Array Value} {G : Value → World → Prop} (hf : P.funcs[f]? = some fn) {c : Code} (hb : fn.body = some c) (hname : (fn.name == "runtime.NumGoroutine") = false)
    (h : Calls P f vals w fun e w' => ∃ x, e = .returned x ∧ G x w') : CallOk P f vals w G := by
  refine .inr ⟨f, vals, w, ?_, h⟩
  have h1 : fn.name ≠ "runtime.NumGoroutine" := by simpa using hname
  simp [callFunc, hf, h1, hb]

end
end Go.AI
