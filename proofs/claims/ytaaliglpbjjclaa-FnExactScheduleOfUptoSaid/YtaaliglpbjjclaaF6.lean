/- A REGION THAT DRAWS ITS ORDER, second part: any order that the edges allow. -/
import Derived.Test.YtaaliglpbjjclaaF5
namespace Go.AI
set_option linter.unusedVariables false
set_option linter.unusedSimpArgs false

theorem Sees.ext {A : Env} {keep nt : Nat} {ds : List Deferred} {s s' : St} {a : Act} {w : World} (h : Sees A keep nt ds s a w) (x : Ext s s') : Sees A keep nt ds s' a w := by
  obtain ⟨⟨m, I, hg⟩, hs, hd⟩ := h
  have G : Grows ⟨w, m, s.hp, I⟩ ⟨w, m, s'.hp, I⟩ := ⟨fun _ _ => rfl, fun _ h => h, fun k hk => by rw [← (x.hp k).2]; exact hk, fun k _ => by simp only [(x.hp k).1]; exact fits_refl _, fun _ _ _ => rfl, fun _ => Nat.le_refl _⟩
  refine ⟨⟨m, I, ⟨?_, ?_, hg.heap.lt⟩, ?_, ?_⟩, hs, hd⟩
  · intro k
    simp only [← (x.hp k).1]
    exact rootOk_mono G rfl (fun ho b o hm => ⟨rfl, (hg.heap.own_lt (b := b) ⟨k, o, ho, hm⟩).2⟩) (hg.heap.root k)
  · intro k k' b o o' h1 h2 h3 h4
    simp only [← (x.hp k).1] at h1
    simp only [← (x.hp k').1] at h2
    exact hg.heap.inj k k' b o o' h1 h2 h3 h4
  · intro i
    rw [← x.tm i]
    exact relV_mono G (hg.tm i)
  · have a0 := hg.hist
    refine ⟨a0.old, a0.sz, ?_, a0.imm, a0.sub, ?_, ?_, ?_, a0.os, a0.tape, a0.output, a0.bsz⟩
    · rintro b ⟨k, o, h1, h2⟩
      simp only [← (x.hp k).1] at h1
      exact a0.own b ⟨k, o, h1, h2⟩
    · intro k hk; simp only [← (x.hp k).1]; exact a0.fit k hk
    · intro k hk hne; simp only [← (x.hp k).1] at hne; exact a0.map k hk hne
    · intro k hk; simp only [← (x.hp k).2]; exact a0.has k hk

theorem Sees.drawn {A : Env} {keep nt : Nat} {ds : List Deferred} {s : St} {a : Act} {w : World} (h : Sees A keep nt ds s a w) : Sees A keep nt ds s a { w with drawn := w.drawn + 1 } := by
  obtain ⟨⟨m, I, hg⟩, hs, hd⟩ := h
  have G : Grows ⟨w, m, s.hp, I⟩ ⟨{ w with drawn := w.drawn + 1 }, m, s.hp, I⟩ := ⟨fun _ _ => rfl, fun _ h => h, fun k hk => hk, fun k _ => fits_refl _, fun _ _ _ => rfl, fun _ => Nat.le_refl _⟩
  refine ⟨⟨m, I, ⟨?_, hg.heap.inj, hg.heap.lt⟩, fun i => relV_mono G (hg.tm i), ?_⟩, hs, hd⟩
  · intro k
    exact rootOk_mono G rfl (fun ho b o hm => ⟨rfl, (hg.heap.own_lt (b := b) ⟨k, o, ho, hm⟩).2⟩) (hg.heap.root k)
  · have a0 := hg.hist
    exact ⟨a0.old, a0.sz, a0.own, a0.imm, a0.sub, a0.fit, a0.map, a0.has, a0.os, a0.tape, a0.output, a0.bsz⟩

/-! ### edges -/

def isAny (e : Edge) : Bool := match e.ground with
  | .textOnly _ | .gcOnly _ => false
  | _ => true

theorem isAny_binds {e : Edge} (h : isAny e = true) (md : Region.Mode) : Region.binds md e = true := by
  unfold isAny at h
  unfold Region.binds
  split at h
  · cases h
  · cases h
  · rename_i h1 h2
    split
    · rename_i r hr; exact absurd hr (h1 r)
    · rename_i r hr; exact absurd hr (h2 r)
    · rfl

theorem edgesFor_ok {md : Region.Mode} {n : Nat} {pos : Nat → Nat} : ∀ {os : List Oper} {i : Nat}, edgesFor md n pos i os = true →
    ∀ (k : Nat) (o : Oper), os[k]? = some o → ∀ e ∈ o.after, Region.binds md e = true → e.on < n ∧ pos e.on < pos (i + k)
  | [], i, _, k, o, ho, _, _, _ => by simp at ho
  | x :: os, i, h, k, o, ho, e, he, hb => by
    simp only [edgesFor, Bool.and_eq_true] at h
    cases k with
    | zero =>
      simp at ho; subst ho
      have := List.all_eq_true.1 h.1 e (by simpa using he)
      rw [hb] at this
      simp only [Bool.not_true, Bool.false_or, Bool.and_eq_true] at this
      exact ⟨Nat.le_of_ble_eq_true this.1, Nat.le_of_ble_eq_true this.2⟩
    | succ k =>
      rw [List.getElem?_cons_succ] at ho
      have := edgesFor_ok h.2 k o ho e he hb
      rwa [show i + 1 + k = i + (k + 1) by omega] at this

theorem beforeA_acc : ∀ (os : List Oper) (acc : List Nat), (∀ i, i < acc.length → (beforeA os acc).getD i 0 = acc.getD i 0) ∧ (beforeA os acc).length = acc.length + os.length
  | [], acc => ⟨fun i _ => rfl, by simp [beforeA]⟩
  | o :: os, acc => by
    simp only [beforeA]
    obtain ⟨h1, h2⟩ := beforeA_acc os (acc ++ [o.after.toList.foldl (bitE acc) 0])
    refine ⟨fun i hi => ?_, by rw [h2]; simp; omega⟩
    rw [h1 i (by simp; omega)]
    simp only [List.getD_eq_getElem?_getD, List.getElem?_append_left hi]

theorem fold_bits {acc : List Nat} {y : Nat} : ∀ (es : List Edge) (b : Nat), (es.foldl (bitE acc) b).testBit y = true → b.testBit y = true ∨ ∃ e ∈ es, isAny e = true ∧ (y = e.on ∨ (acc.getD e.on 0).testBit y = true)
  | [], b, h => .inl h
  | e :: es, b, h => by
    simp only [List.foldl_cons] at h
    rcases fold_bits es _ h with h1 | ⟨e', he', h2⟩
    · cases hg : isAny e with
      | false =>
        left
        unfold isAny at hg
        split at hg
        · rename_i q; simp only [bitE, q] at h1; exact h1
        · rename_i q; simp only [bitE, q] at h1; exact h1
        · cases hg
      | true =>
        have h1' : (b ||| (2 ^ e.on) ||| acc.getD e.on 0).testBit y = true := by
          unfold isAny at hg
          split at hg
          · cases hg
          · cases hg
          · rename_i q1 q2
            unfold bitE at h1
            split at h1
            · rename_i r hr; exact absurd hr (q1 r)
            · rename_i r hr; exact absurd hr (q2 r)
            · exact h1
        rw [Nat.testBit_or, Nat.testBit_or, Bool.or_eq_true, Bool.or_eq_true, Nat.testBit_two_pow] at h1'
        rcases h1' with (h1' | h1') | h1'
        · exact .inl h1'
        · exact .inr ⟨e, by simp, hg, .inl (by simpa using h1' : e.on = y).symm⟩
        · exact .inr ⟨e, by simp, hg, .inr h1'⟩
    · exact .inr ⟨e', by simp [he'], h2⟩

theorem beforeA_bits : ∀ (os : List Oper) (acc : List Nat) (k : Nat) (o : Oper) (y : Nat), os[k]? = some o → ((beforeA os acc).getD (acc.length + k) 0).testBit y = true →
    ∃ e ∈ o.after, isAny e = true ∧ (y = e.on ∨ (e.on < acc.length + k ∧ ((beforeA os acc).getD e.on 0).testBit y = true))
  | [], acc, k, o, y, ho, _ => by simp at ho
  | x :: os, acc, k, o, y, ho, hb => by
    simp only [beforeA] at hb ⊢
    generalize hv : x.after.toList.foldl (bitE acc) 0 = v at hb ⊢
    cases k with
    | zero =>
      simp at ho; subst ho
      have h1 := (beforeA_acc os (acc ++ [v])).1 acc.length (by simp)
      rw [Nat.add_zero, h1] at hb
      simp only [List.getD_eq_getElem?_getD, List.getElem?_concat_length, Option.getD_some] at hb
      rw [← hv] at hb
      rcases fold_bits _ _ hb with h2 | ⟨e, he, h2, h3⟩
      · simp at h2
      · refine ⟨e, by simpa using he, h2, ?_⟩
        rcases h3 with h3 | h3
        · exact .inl h3
        · right
          have hlt : e.on < acc.length := by
            rcases Nat.lt_or_ge e.on acc.length with h | h
            · exact h
            · simp [List.getD_eq_getElem?_getD, List.getElem?_eq_none h] at h3
          refine ⟨by omega, ?_⟩
          rw [(beforeA_acc os (acc ++ [v])).1 e.on (by simp; omega)]
          simp only [List.getD_eq_getElem?_getD, List.getElem?_append_left hlt] at h3 ⊢
          exact h3
    | succ k =>
      rw [List.getElem?_cons_succ] at ho
      have := beforeA_bits os (acc ++ [v]) k o y ho (by simpa [Nat.add_assoc, Nat.add_comm 1 k] using hb)
      obtain ⟨e, he, h2, h3⟩ := this
      refine ⟨e, he, h2, h3.imp id fun h => ⟨?_, h.2⟩⟩
      have := h.1
      simp at this; omega

theorem freeOf_ok {i : Nat} {f : Foot} : ∀ {bs : List Nat} {fs : List Foot}, freeOf i f bs fs = true → ∀ (k : Nat) (b : Nat) (g : Foot), bs[k]? = some b → fs[k]? = some g → b.testBit i = true ∨ apart f g = true
  | [], fs, _, k, b, g, hb, _ => by simp at hb
  | b0 :: bs, [], _, k, b, g, _, hg => by simp at hg
  | b0 :: bs, g0 :: fs, h, k, b, g, hb, hg => by
    simp only [freeOf, Bool.and_eq_true, Bool.or_eq_true] at h
    cases k with
    | zero => simp at hb hg; subst hb hg; exact h.1
    | succ k => rw [List.getElem?_cons_succ] at hb hg; exact freeOf_ok h.2 k b g hb hg

theorem allFree_ok : ∀ {i : Nat} {bs : List Nat} {fs : List Foot}, allFree i bs fs = true → ∀ (a c : Nat) (b : Nat) (f g : Foot), a < c → fs[a]? = some f → bs[c]? = some b → fs[c]? = some g → b.testBit (i + a) = true ∨ apart f g = true
  | i, [], fs, _, a, c, b, f, g, _, _, hb, _ => by simp at hb
  | i, b0 :: bs, [], _, a, c, b, f, g, _, hf, _, _ => by simp at hf
  | i, b0 :: bs, f0 :: fs, h, a, c, b, f, g, hac, hf, hb, hg => by
    simp only [allFree, Bool.and_eq_true] at h
    cases c with
    | zero => omega
    | succ c =>
      rw [List.getElem?_cons_succ] at hb hg
      cases a with
      | zero => simp at hf; subst hf; exact freeOf_ok h.1 c b g hb hg
      | succ a =>
        rw [List.getElem?_cons_succ] at hf
        have := allFree_ok h.2 a c b f g (by omega) hf hb hg
        rwa [show i + 1 + a = i + (a + 1) by omega] at this

/-! ### any order -/

def unl (n : Nat) (listed : Array Bool) : List Nat := (List.range n).filter fun i => !listed.getD i true

theorem mem_unl {n : Nat} {listed : Array Bool} {i : Nat} : i ∈ unl n listed ↔ i < n ∧ listed.getD i true = false := by
  unfold unl; rw [List.mem_filter, List.mem_range]; simp

theorem unl_take {n : Nat} {listed : Array Bool} {j : Nat} (hj : j ∈ unl n listed) (hsz : listed.size = n) :
    ∃ pre post, unl n listed = pre ++ j :: post ∧ unl n (listed.setIfInBounds j true) = pre ++ post ∧ ∀ i ∈ pre, i < j := by
  obtain ⟨pre, post, he⟩ := List.append_of_mem hj
  have hsort : (unl n listed).Pairwise (· < ·) := List.Pairwise.filter _ List.pairwise_lt_range
  rw [he, List.pairwise_append] at hsort
  obtain ⟨s1, s2, s3⟩ := hsort
  have s4 := (List.pairwise_cons.1 s2).1
  refine ⟨pre, post, he, ?_, fun i hi => s3 i hi j (by simp)⟩
  have hjn := (mem_unl.1 hj).1
  have hf : unl n (listed.setIfInBounds j true) = (unl n listed).filter fun i => decide (i ≠ j) := by
    unfold unl
    rw [List.filter_filter]
    refine List.filter_congr fun i hi => ?_
    by_cases e : i = j
    · subst e; simp [hsz, hjn]
    · rw [getD_set_ne true (Ne.symm e)]; simp [e]
  rw [hf, he, List.filter_append, List.filter_cons_of_neg (by simp)]
  have h1 : pre.filter (fun i => decide (i ≠ j)) = pre := List.filter_eq_self.2 fun i hi => by have := s3 i hi j (by simp); simp; omega
  have h2 : post.filter (fun i => decide (i ≠ j)) = post := List.filter_eq_self.2 fun i hi => by have := s4 i hi; simp; omega
  rw [h1, h2]

section
variable {P : Program} {A : Env} {keep nt : Nat} {ds : List Deferred} {tab : List Ent} {ops : Array Oper} {r : Res}

/-- what has been listed is closed under the edges that bind in every mode -/
def Closed (ops : Array Oper) (listed : Array Bool) : Prop := ∀ (j : Nat) (o : Oper), ops[j]? = some o → listed.getD j false = true → ∀ e ∈ o.after, isAny e = true → listed.getD e.on false = true

theorem before_listed {listed : Array Bool} (hc : Closed ops listed) : ∀ (n j : Nat), j < n → ∀ (o : Oper) (y : Nat), ops[j]? = some o → (∀ e ∈ o.after, isAny e = true → listed.getD e.on false = true) → ((beforeA ops.toList []).getD j 0).testBit y = true → listed.getD y false = true := by
  intro n
  induction n with
  | zero => intro j hj; omega
  | succ n ih =>
    intro j hj o y ho he hb
    obtain ⟨e, h1, h2, h3⟩ := beforeA_bits ops.toList [] j o y (by simpa using ho) (by simpa using hb)
    have hl := he e h1 h2
    rcases h3 with rfl | ⟨h3, h4⟩
    · exact hl
    · have hlt : e.on < j := by simpa using h3
      have hjs := (Array.getElem?_eq_some_iff.1 ho).1
      have he' : ops[e.on]? = some ops[e.on] := Array.getElem?_eq_getElem (by omega)
      exact ih e.on (by omega) _ y he' (fun e' h5 h6 => hc e.on _ he' hl e' h5 h6) h4

open Classical in
theorem any_order (ht : ∀ e ∈ tab, Sound P e.f e.S) {md : Region.Mode} {pos : Nat → Nat} (hpos : ∀ (k : Nat) (o : Oper), ops[k]? = some o → ∀ e ∈ o.after, Region.binds md e = true → e.on < ops.size ∧ pos e.on < pos k)
    {F : Nat → Stp} (hF : ∀ i, i < ops.size → ops[i]? = some (F i).o) (hap : ∀ a c, a < c → c < ops.size → ((beforeA ops.toList []).getD c 0).testBit a = true ∨ apart (F a).f (F c).f = true)
    {Q : Exit → Act → World → Prop} {e : St} (hQ : ∀ a' w', Sees A keep nt ds e a' w' → Q .normal a' w') :
    ∀ (fuel : Nat) (listed : Array Bool) (s : St) (a : Act) (w : World), fuel = (unl ops.size listed).length → listed.size = ops.size → Closed ops listed → Tr P tab nt ops s ((unl ops.size listed).map F) e → Sees A keep nt ds s a w →
      wpAny P md ops Q fuel listed a w := by
  have complete : ∀ (listed : Array Bool), listed.size = ops.size → Region.ready md ops listed = [] → unl ops.size listed = [] := by
    intro listed hsz hr
    have key : ∀ (n i : Nat), pos i < n → i ∈ unl ops.size listed → False := by
      intro n
      induction n with
      | zero => intro i h; omega
      | succ n ih =>
        intro i hi hmem
        obtain ⟨hin, hun⟩ := mem_unl.1 hmem
        have ho : ops[i]? = some ops[i] := Array.getElem?_eq_getElem hin
        have : i ∈ Region.ready md ops listed := by
          rw [mem_ready]
          refine ⟨hun, _, ho, fun ed hed hb => ?_⟩
          obtain ⟨h1, h2⟩ := hpos i _ ho ed hed hb
          cases hl : listed.getD ed.on false with
          | true => rfl
          | false =>
            have hl' : listed.getD ed.on true = false := by
              have hlt : ed.on < listed.size := by omega
              simp [hlt] at hl ⊢; exact hl
            exact (ih ed.on (by omega) (mem_unl.2 ⟨h1, hl'⟩)).elim
        rw [hr] at this; cases this
    cases hu : unl ops.size listed with
    | nil => rfl
    | cons i l => exact (key (pos i + 1) i (by omega) (by rw [hu]; simp)).elim
  intro fuel
  induction fuel with
  | zero =>
    intro listed s a w hl hsz hc htr hs
    have hnil : unl ops.size listed = [] := List.length_eq_zero_iff.1 hl.symm
    refine ⟨?_, ?_⟩
    · cases hr : Region.ready md ops listed with
      | nil => rfl
      | cons i l =>
        have : i ∈ Region.ready md ops listed := by rw [hr]; simp
        obtain ⟨h1, o, h2, _⟩ := mem_ready.1 this
        have := mem_unl.2 ⟨(Array.getElem?_eq_some_iff.1 h2).1, h1⟩
        rw [hnil] at this; cases this
    · rw [hnil] at htr
      exact hQ _ _ (hs.ext htr)
  | succ fuel ih =>
    intro listed s a w hl hsz hc htr hs
    refine ⟨fun hr => ?_, fun j hj => ?_⟩
    · rw [complete listed hsz hr] at hl; simp at hl
    · obtain ⟨hun, o, ho, hed⟩ := mem_ready.1 hj
      have hjn := (Array.getElem?_eq_some_iff.1 ho).1
      obtain ⟨pre, post, e1, e2, e3⟩ := unl_take (mem_unl.2 ⟨hjn, hun⟩) hsz
      have hoF := hF j hjn
      have htr' : Tr P tab nt ops s (F j :: (pre.map F ++ post.map F)) e := by
        refine Tr.front ?_ ?_
        · rw [e1] at htr; simpa using htr
        · intro y hy
          obtain ⟨i, hi, rfl⟩ := List.mem_map.1 hy
          refine apart_ok ?_
          rcases hap i j (e3 i hi) hjn with h | h
          · have := before_listed hc (j + 1) j (by omega) o i ho (fun ed h1 h2 => hed ed h1 (isAny_binds h2 md)) h
            have hi' : i ∈ unl ops.size listed := by rw [e1]; simp [hi]
            obtain ⟨h3, h4⟩ := mem_unl.1 hi'
            have hlt : i < listed.size := by omega
            simp [hlt] at this h4; rw [this] at h4; cases h4
          · exact h
      obtain ⟨hok, htail⟩ := htr'
      obtain ⟨s'', hdet, hext⟩ := hok.2.2 s (fun _ _ => rfl) (fun _ _ => ⟨rfl, rfl⟩)
      refine oneA_ok (r := (.any, [])) (s := s) (o := (F j).o) ht hoF (k := fun s1 => if s1 = s'' then some (.any, []) else none) (by rw [hdet]; simp) hs Q _ ?_
      intro s1 hs1 a' w' hsees
      have : s1 = s'' := by
        by_cases h : s1 = s''
        · exact h
        · simp [h] at hs1
      subst this
      refine ih (listed.setIfInBounds j true) ((F j).ap s) a' w' ?_ (by simpa using hsz) ?_ ?_ (hsees.ext hext)
      · rw [e1] at hl; rw [e2]; simp at hl ⊢; omega
      · intro j' o' ho' hl' ed h1 h2
        by_cases e : j' = j
        · subst e
          rw [ho] at ho'; cases ho'
          exact getD_set_true (hed ed h1 (isAny_binds h2 md))
        · rw [getD_set_ne false (Ne.symm e)] at hl'
          exact getD_set_true (hc j' o' ho' hl' ed h1 h2)
      · rw [e2, List.map_append]; exact htail

theorem drawA_ok (ht : ∀ e ∈ tab, Sound P e.f e.S) {s : St} {a : Act} {w : World} {k : St → R} (Q : Exit → Act → World → Prop) (h : drawA P tab nt ops s k = some r) (hg : Sees A keep nt ds s a w)
    (hQ : ∀ s1, k s1 = some r → ∀ a' w', Sees A keep nt ds s1 a' w' → Q .normal a' w') (mixed : Bool) (t : Nat) : wpOps P ops Q (Region.schedule mixed ops t) a { w with drawn := w.drawn + 1 } := by
  unfold drawA at h
  obtain ⟨hed, h⟩ := cond_none h
  obtain ⟨xs, e, q1, q2, q3⟩ := opsD_ok h
  obtain ⟨hfree, q3⟩ := cond_none q3
  simp only [List.nil_append] at hfree
  let F : Nat → Stp := fun i => xs.getD i ⟨default, ⟨[], [], [], []⟩, [], .any⟩
  have hlen : xs.length = ops.size := by have := congrArg List.length q1; simpa using this
  have hFx : ∀ i, (hi : i < xs.length) → F i = xs[i] := fun i hi => by simp [F, hi]
  have hF : ∀ i, i < ops.size → ops[i]? = some (F i).o := by
    intro i hi
    rw [hFx i (by omega)]
    have := congrArg (fun l => l[i]?) q1
    simp only [List.getElem?_map] at this
    rw [List.getElem?_eq_getElem (by omega)] at this
    simpa using this.symm
  have hap : ∀ a c, a < c → c < ops.size → ((beforeA ops.toList []).getD c 0).testBit a = true ∨ apart (F a).f (F c).f = true := by
    intro a c hac hc
    have hbl := (beforeA_acc ops.toList []).2
    simp at hbl
    have := allFree_ok hfree a c ((beforeA ops.toList []).getD c 0) (F a).f (F c).f hac (by rw [hFx a (by omega)]; simp [show a < xs.length by omega]) (by simp [List.getD_eq_getElem?_getD, List.getElem?_eq_getElem (show c < (beforeA ops.toList []).length by omega)]) (by rw [hFx c (by omega)]; simp [show c < xs.length by omega])
    simpa using this
  have hall : unl ops.size (Array.replicate ops.size false) = List.range ops.size := by
    unfold unl
    refine List.filter_eq_self.2 fun i hi => ?_
    have := List.mem_range.1 hi
    simp [this]
  have hxs : (List.range ops.size).map F = xs := by
    rw [← hlen]
    refine List.ext_getElem (by simp) fun i h1 h2 => ?_
    simp only [List.getElem_map, List.getElem_range]
    exact hFx i h2
  have hclosed : Closed ops (Array.replicate ops.size false) := by
    intro j o ho hl
    rcases Nat.lt_or_ge j ops.size with h | h
    · simp [h] at hl
    · simp [h] at hl
  unfold edgesOk at hed
  simp only [Bool.and_eq_true] at hed
  have go : ∀ (md : Region.Mode) (pos : Nat → Nat), (∀ (k : Nat) (o : Oper), ops[k]? = some o → ∀ e ∈ o.after, Region.binds md e = true → e.on < ops.size ∧ pos e.on < pos k) → ∀ t, wpOps P ops Q (Region.linearise md ops t) a { w with drawn := w.drawn + 1 } := by
    intro md pos hpos t
    refine wpAny_sound ops.size t _ a _ ?_
    refine any_order ht hpos hF hap (fun a' w' hs => hQ e q3 a' w' hs) ops.size (Array.replicate ops.size false) s a _ (by rw [hall]; simp) (by simp) hclosed (by rw [hall, hxs]; exact q2) hg.drawn
  have htext : ∀ (k : Nat) (o : Oper), ops[k]? = some o → ∀ e ∈ o.after, Region.binds .text e = true → e.on < ops.size ∧ id e.on < id k := by
    intro k o ho e he hb
    have := edgesFor_ok hed.1 k o (by simpa using ho) e he hb
    simpa using this
  have bindsAny : ∀ e : Edge, Region.binds .any e = true → Region.binds .text e = true := by
    intro e he
    unfold Region.binds at he ⊢
    split at he <;> simp_all
  unfold Region.schedule
  split
  · exact go .any id (fun k o ho e he hb => htext k o ho e he (bindsAny e hb)) _
  · rename_i hd
    simp only [Bool.or_eq_true, Bool.not_eq_true', not_or, Bool.not_eq_false] at hd
    split
    · exact go .text id htext _
    · have hgc := hed.2
      rw [hd.2] at hgc
      simp only [Bool.not_true, Bool.false_or] at hgc
      refine go .gc (posIn (Region.linearise .gc ops 0)) (fun k o ho e he hb => ?_) _
      have := edgesFor_ok hgc k o (by simpa using ho) e he hb
      simpa using this

end
end Go.AI
