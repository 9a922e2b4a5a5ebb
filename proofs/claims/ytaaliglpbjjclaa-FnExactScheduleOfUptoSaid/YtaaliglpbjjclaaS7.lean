/- SOUNDNESS: stores; new roots. -/
import Derived.Test.YtaaliglpbjjclaaS6
namespace Go.AI

def repl {α : Type} (l : List α) (f : Nat) (xs : List α) : List α := l.take f ++ xs ++ l.drop (f + xs.length)

theorem replAt_eq {α : Type} : ∀ (l : List α) (f : Nat) (xs : List α), f ≤ l.length → replAt l f xs = repl l f xs
  | l, 0, xs, _ => by simp [replAt, repl]
  | [], f + 1, xs, h => by simp at h
  | a :: l, f + 1, xs, h => by
    simp only [replAt, repl]
    rw [replAt_eq l f xs (by simpa using h)]
    simp only [repl, List.take_succ_cons, List.cons_append, List.append_assoc, List.cons.injEq, true_and]
    rw [show f + 1 + xs.length = f + xs.length + 1 by omega, List.drop_succ_cons]

theorem repl_len {α : Type} {l : List α} {f : Nat} {xs : List α} (h : f + xs.length ≤ l.length) : (repl l f xs).length = l.length := by
  simp [repl]; omega

theorem surg {α : Type} {P v Q n : List α} {f : Nat} (h : f + n.length ≤ v.length) :
    repl (P ++ v ++ Q) (P.length + f) n = P ++ repl v f n ++ Q := by
  unfold repl
  have h1 : (P ++ v ++ Q).take (P.length + f) = P ++ v.take f := by
    rw [List.append_assoc, List.take_length_add_append, List.take_append_of_le_length (by omega)]
  have h2 : (P ++ v ++ Q).drop (P.length + f + n.length) = v.drop (f + n.length) ++ Q := by
    rw [List.append_assoc, Nat.add_assoc, List.drop_length_add_append, List.drop_append_of_le_length (by omega)]
  rw [h1, h2]
  simp

theorem flatten_at {α : Type} : ∀ (vss : List (List α)) (i : Nat), i < vss.length → vss.flatten = (vss.take i).flatten ++ vss.getD i [] ++ (vss.drop (i + 1)).flatten
  | v :: vss, 0, _ => by simp
  | v :: vss, i + 1, h => by
    have := flatten_at vss i (by simpa using h)
    simp only [List.take_succ_cons, List.flatten_cons, List.append_assoc, List.drop_succ_cons, List.getD_cons_succ, List.append_cancel_left_eq]
    simpa using this
theorem flatten_set {α : Type} (vss : List (List α)) (i : Nat) (u : List α) (h : i < vss.length) : (vss.set i u).flatten = (vss.take i).flatten ++ u ++ (vss.drop (i + 1)).flatten := by
  have := flatten_at (vss.set i u) i (by simpa using h)
  rw [this]
  simp [List.getD_eq_getElem?_getD, h, List.take_set_of_le, List.drop_set_of_lt]

theorem relC_repl {E : Env} {a n : List AV} {x y : List Value} {f : Nat} (h : relC E a x) (h' : relC E n y) : relC E (repl a f n) (repl x f y) := by
  have := relC_length h'
  unfold repl; rw [this]
  exact relC_append (relC_append (relC_take f h) h') (relC_drop _ h)

theorem repl_all {α : Type} {l n : List α} (h : n.length = l.length) : repl l 0 n = n := by
  simp [repl, h]

theorem setCs_ok {A : Env} {keep : Nat} {tm : List (Nat × AV)} {tmps : Array Value} {w : World} {m : Nat → Option (Nat × Nat)} :
    ∀ {t : Ty} {s s1 : St} {x y : t.D} {f : Nat} {cs : List AV} {I : Nat → Prop} {vs nv : List Value}, setCs t s x f cs = some (s1, y) → Good A keep ⟨w, m, s.hp, I⟩ tm tmps →
      repT w I t x vs → relC ⟨w, m, s.hp, I⟩ cs nv → ∃ I1, Froze A keep tm tmps w m s s1 I I1 ∧ repT w I1 t y (repl vs f nv) ∧ f + nv.length ≤ vs.length := by
  intro t
  have whole : ∀ {t : Ty} {s s1 : St} {y : t.D} {cs : List AV} {I : Nat → Prop} {vs nv : List Value} {x : t.D}, takeW t s cs = some (s1, y) →
      Good A keep ⟨w, m, s.hp, I⟩ tm tmps → repT w I t x vs → relC ⟨w, m, s.hp, I⟩ cs nv → ∃ I1, Froze A keep tm tmps w m s s1 I I1 ∧ repT w I1 t y (repl vs 0 nv) ∧ 0 + nv.length ≤ vs.length := by
    intro t s s1 y cs I vs nv x h hg hx hc
    unfold takeW at h
    split at h
    · rename_i s2 y2 h1
      simp only [Option.some.injEq, Prod.mk.injEq] at h
      obtain ⟨rfl, rfl⟩ := h
      obtain ⟨I1, f1, v1, v2, rfl, r1, c1⟩ := takeD_ok h1 hg hc
      have : v2 = [] := by cases v2 <;> simp_all [relC]
      subst this
      have l1 := repT_len r1
      have l2 := repT_len hx
      refine ⟨I1, f1, ?_, by simp; omega⟩
      rw [List.append_nil, repl_all (by omega)]; exact r1
    · cases h
  induction t with
  | pair a b iha ihb =>
    intro s s1 x y f cs I vs nv h hg hx hc
    simp only [setCs] at h
    cases hq : (Nat.beq f 0 && Nat.beq cs.length (a.sz + b.sz)) with
    | true =>
      rw [hq, cond_true] at h
      simp only [Bool.and_eq_true] at hq
      have hf : f = 0 := Nat.eq_of_beq_eq_true hq.1
      subst hf
      exact whole (t := .pair a b) h hg hx hc
    | false =>
      rw [hq, cond_false] at h
      obtain ⟨c1, c2, rfl, h1, h2⟩ := hx
      have l1 := repT_len h1
      have l2 := repT_len h2
      have ln := relC_length hc
      cases hq1 : Nat.ble (f + cs.length) a.sz with
      | true =>
        rw [hq1, cond_true] at h
        have hle := Nat.le_of_ble_eq_true hq1
        split at h
        · rename_i s2 y2 h3
          simp only [Option.some.injEq, Prod.mk.injEq] at h
          obtain ⟨rfl, rfl⟩ := h
          obtain ⟨I1, f1, r1, b1⟩ := iha h3 hg h1 hc
          refine ⟨I1, f1, ⟨repl c1 f nv, c2, ?_, r1, repT_mono f1.grow.imm f1.grow.sub h2⟩, by simp; omega⟩
          have := surg (P := []) (v := c1) (Q := c2) (n := nv) (f := f) b1
          simpa using this
        · cases h
      | false =>
        rw [hq1, cond_false] at h
        obtain ⟨hq2, h⟩ := cond_none h
        have hle := Nat.le_of_ble_eq_true hq2
        split at h
        · rename_i s2 y2 h3
          simp only [Option.some.injEq, Prod.mk.injEq] at h
          obtain ⟨rfl, rfl⟩ := h
          obtain ⟨I1, f1, r1, b1⟩ := ihb h3 hg h2 hc
          refine ⟨I1, f1, ⟨c1, repl c2 (f - a.sz) nv, ?_, repT_mono f1.grow.imm f1.grow.sub h1, r1⟩, by simp; omega⟩
          have := surg (P := c1) (v := c2) (Q := []) (n := nv) (f := f - a.sz) b1
          rw [l1, show a.sz + (f - a.sz) = f by omega] at this
          simpa using this
        · cases h
  | unit =>
    intro s s1 x y f cs I vs nv h hg hx hc
    simp only [setCs] at h
    obtain ⟨hf, h⟩ := cond_none h
    have hf : f = 0 := Nat.eq_of_beq_eq_true hf
    subst hf; exact whole h hg hx hc
  | int k =>
    intro s s1 x y f cs I vs nv h hg hx hc
    simp only [setCs] at h
    obtain ⟨hf, h⟩ := cond_none h
    have hf : f = 0 := Nat.eq_of_beq_eq_true hf
    subst hf; exact whole h hg hx hc
  | bool =>
    intro s s1 x y f cs I vs nv h hg hx hc
    simp only [setCs] at h
    obtain ⟨hf, h⟩ := cond_none h
    have hf : f = 0 := Nat.eq_of_beq_eq_true hf
    subst hf; exact whole h hg hx hc
  | str =>
    intro s s1 x y f cs I vs nv h hg hx hc
    simp only [setCs] at h
    obtain ⟨hf, h⟩ := cond_none h
    have hf : f = 0 := Nat.eq_of_beq_eq_true hf
    subst hf; exact whole h hg hx hc
  | sl e ih =>
    intro s s1 x y f cs I vs nv h hg hx hc
    simp only [setCs] at h
    obtain ⟨hf, h⟩ := cond_none h
    have hf : f = 0 := Nat.eq_of_beq_eq_true hf
    subst hf; exact whole h hg hx hc

theorem bsz_setRow (w : World) (b : Nat) (cs : Array Value) (old : Array Value) (T : TypeId) (fz : Nat × Nat) (hb : w.heap[b]? = some (.cells old T fz)) (hl : cs.size = old.size) (k : Nat) :
    bsz w k ≤ bsz (w.setRow b cs) k := by
  unfold bsz
  by_cases e : k = b
  · subst e; rw [setRow_heap w k old cs T fz hb, hb]; simp [hl]
  · rw [setRow_other w b k cs e]; exact Nat.le_refl _

/-- the block of an owned root changes -/
theorem Stays.write {A E : Env} {keep : Nat} {tm : List (Nat × AV)} {tmps : Array Value} (hg : Good A keep E tm tmps) {h b o : Nat} (ho : owned (getH E.hp h) = true) (hm : E.m h = some (b, o))
    {old cs : Array Value} {T : TypeId} {fz : Nat × Nat} (hb : E.w.heap[b]? = some (.cells old T fz)) (hl : cs.size = old.size) : Stays A E h (E.w.setRow b cs) E.I (fun k => k = b) where
  sz := by simp
  same k _ hk := setRow_other _ _ _ _ hk
  free k hk := by
    subst hk
    have hown : Own E k := ⟨h, o, ho, hm⟩
    exact ⟨(hg.heap.own_lt hown).2, hg.hist.own k hown, fun h' o' hne ho' hm' => hne (hg.heap.inj h' h k o' o ho' ho hm' hm)⟩
  bsz k := bsz_setRow _ _ _ _ _ _ hb hl k
  sub _ h := h
  imm k hk := ⟨by have := hg.heap.lt k hk; simpa using this, .inl hk⟩
  os := rfl
  tape := rfl
  output := rfl

theorem store_ok {P : Program} {A : Env} {keep : Nat} {tmps : Array Value} {w : World} {m : Nat → Option (Nat × Nat)} {I : Nat → Prop} {s : St} {cs : List AV} {vs : List Value} {K : St → R} {r : Res} {v : AV} {x : Value}
    (hg : Good A keep ⟨w, m, s.hp, I⟩ s.tm tmps) (h : s.store cs K v = some r) (hx : relV ⟨w, m, s.hp, I⟩ v x) (hc : relC ⟨w, m, s.hp, I⟩ cs vs) :
    ∃ s2 w' m' I' b o, K s2 = some r ∧ x = .pointer (some ⟨b, o, none⟩) ∧ (storeCells ⟨b, o, none⟩ vs).run P w = .ok () w' ∧ Good A keep ⟨w', m', s2.hp, I'⟩ s2.tm tmps := by
  unfold St.store at h
  split at h
  · rename_i h0 i f
    have hone := relC_one hc
    split at h
    · rename_i old hgt
      obtain ⟨hb, h⟩ := cond_none h
      have hle := Nat.le_of_ble_eq_true hb
      have hf : f ≤ old.length := by omega
      have hroot := hg.heap.root h0
      simp only [relV] at hx
      simp only [hgt] at hroot hx
      obtain ⟨b, hm, rfl⟩ := hx
      obtain ⟨b', vs0, T, h1, h2, h3, h4⟩ := hroot
      have h1 : m h0 = some (b', 0) := h1
      have h3 : w.heap[b']? = some (.cells vs0 T (0, 0)) := h3
      rw [h1] at hm; obtain ⟨rfl, _⟩ := Prod.mk.inj (Option.some.inj hm)
      have l4 := relC_length h4
      have lc := relC_length hc
      have hrun := run_storeCells_at P b' f T vs 0 vs0 w h3 (by simp at l4; omega) hone
      simp only [Nat.add_zero] at hrun
      have hsz : (vs0.toList.take f ++ vs ++ vs0.toList.drop (f + vs.length)).toArray.size = vs0.size := by
        have := repl_len (l := vs0.toList) (f := f) (xs := vs) (by simp at l4 ⊢; omega)
        simpa [repl] using this
      have st := Stays.write hg (h := h0) (b := b') (o := 0) (by simp [hgt, owned]) h1 h3 hsz
      have := change1 hg h0 (.box (replAt old f cs)) (m h0) st (fun _ => ⟨by rw [hgt, replAt_eq _ _ _ hf]; exact (repl_len hle).symm, fun _ => rfl⟩)
        (fun _ b o hm => ⟨hg.hist.own b ⟨h0, o, by simp [hgt, owned], hm⟩, fun h' o' hne ho' hm' => hne (hg.heap.inj h' h0 b o' o ho' (by simp [hgt, owned]) hm' hm)⟩) (fun g => ?_)
      · rw [upd_self] at this
        exact ⟨_, _, m, I, b', f, h, rfl, hrun, this.1⟩
      · rw [upd_self] at g ⊢
        refine ⟨b', _, T, h1, h2, setRow_heap w b' vs0 _ T _ h3, ?_⟩
        have := relC_repl (f := f) (relC_mono g h4) (relC_mono g hc)
        rw [← replAt_eq old f cs hf] at this
        exact this
    · rename_i e l hgt
      split at h
      · rename_i s1 y hset
        split at h
        · rename_i e1 l1 hgt1
          have hroot := hg.heap.root h0
          simp only [relV] at hx
          simp only [hgt] at hroot hx
          obtain ⟨b, o, hm, rfl, hi⟩ := hx
          rcases hroot.2 with ⟨hm0, _⟩ | ⟨b', o', vss, hm', hq, hall⟩
          · have hm0 : m h0 = none := hm0
            rw [hm0] at hm; cases hm
          have hm' : m h0 = some (b', o') := hm'
          rw [hm'] at hm; obtain ⟨rfl, rfl⟩ := Prod.mk.inj (Option.some.inj hm)
          simp only [if_true] at hq
          obtain ⟨hnI, cs0, T, hblk, pre, post, hcs0, rfl⟩ := hq
          have hblk : w.heap[b']? = some (.cells cs0 T (0, 0)) := hblk
          have hlv := hall.length
          have hel := hall.get i e.d0 [] hi
          obtain ⟨I1, fz, hy, hfl⟩ := setCs_ok hset hg hel hc
          have hlen := repT_len hel
          have hvi : i < vss.length := by omega
          obtain ⟨hfl1, hfl2⟩ := flat_split i (lens_of (E := ⟨w, m, s.hp, I⟩) hall) (Nat.le_of_lt hvi)
          have hat := flatten_at vss i hvi
          have htot : cs0.toList = (pre ++ (vss.take i).flatten) ++ vss.getD i [] ++ ((vss.drop (i + 1)).flatten ++ post) := by
            rw [hcs0, hat]; simp
          have hk : (pre ++ (vss.take i).flatten).length = pre.length + i * e.sz := by simp only [List.length_append, hfl2]
          have hsur := surg (P := pre ++ (vss.take i).flatten) (v := vss.getD i []) (Q := (vss.drop (i + 1)).flatten ++ post) (n := vs) (f := f) hfl
          rw [← htot, hk] at hsur
          have hsize : cs0.size = cs0.toList.length := by simp
          have hbound : pre.length + i * e.sz + f + 0 + vs.length ≤ cs0.size := by
            have := congrArg List.length htot
            simp only [List.length_append] at this
            rw [hsize, this, ← hfl2]; omega
          have hrun := run_storeCells_at P b' (pre.length + i * e.sz + f) T vs 0 cs0 w hblk (by omega) hone
          simp only [Nat.add_zero] at hrun
          change (storeCells ⟨b', pre.length + i * e.sz + f, none⟩ vs 0).run P w = .ok () (w.setRow b' (repl cs0.toList (pre.length + i * e.sz + f) vs).toArray) at hrun
          rw [hsur] at hrun
          have hsz : (pre ++ (vss.take i).flatten ++ repl (vss.getD i []) f vs ++ ((vss.drop (i + 1)).flatten ++ post)).toArray.size = cs0.size := by
            have := congrArg List.length htot
            simp only [List.length_append] at this
            simp only [List.size_toArray, List.length_append, repl_len hfl, hsize, this]
          have hfit := fz.grow.fit h0 (hasH_of_getH (by rw [hgt]; simp))
          simp only [hgt, hgt1] at hfit
          obtain ⟨rfl, hll⟩ : e = e1 ∧ l.length = l1.length := hfit
          have st := Stays.write fz.good (h := h0) (b := b') (o := pre.length) (by simp [hgt1, owned]) hm' hblk hsz
          have hnI1 : ¬ I1 b' := (fz.good.heap.own_lt ⟨h0, pre.length, by simp [hgt1, owned], hm'⟩).2
          have := change1 fz.good h0 (.arr e (l.set i y)) (m h0) st (fun _ => ⟨by rw [hgt1]; exact ⟨rfl, by simp [hll]⟩, fun _ => rfl⟩)
            (fun _ b o hm => ⟨fz.good.hist.own b ⟨h0, o, by simp [hgt1, owned], hm⟩, fun h' o' hne ho' hm' => hne (fz.good.heap.inj h' h0 b o' o ho' (by simp [hgt1, owned]) hm' hm)⟩) (fun g => ?_)
          · rw [upd_self] at this
            refine ⟨_, _, m, I1, b', _, h, rfl, hrun, ?_⟩
            have q := this.1
            simp only [St.setH, fz.tms]; exact q
          · rw [upd_self] at g ⊢
            refine ⟨hroot.1, .inr ⟨b', pre.length, vss.set i (repl (vss.getD i []) f vs), hm', ?_, ?_⟩⟩
            · simp only [if_true]
              refine ⟨hnI1, _, T, setRow_heap w b' cs0 _ T _ hblk, pre, post, ?_, rfl⟩
              rw [flatten_set vss i _ hvi]; simp
            · refine All2.set i (hall.mono fun _ _ hx => ?_) (repT_mono g.imm g.sub hy)
              exact repT_mono g.imm g.sub (repT_mono fz.grow.imm fz.grow.sub hx)
        · cases h
      · cases h
    · cases h
  · cases h

end Go.AI
