/- SOUNDNESS: literals, make; every operation but a call. -/
import Derived.Test.YtaaliglpbjjclaaS10
namespace Go.AI
set_option linter.unusedVariables false
set_option linter.unusedSimpArgs false

theorem repl_cons {α : Type} (l : List α) (p : Nat) (x : α) (xs : List α) (h : p < l.length) : repl (l.set p x) (p + 1) xs = repl l p (x :: xs) := by
  unfold repl
  have h1 : (l.set p x).take (p + 1) = l.take p ++ [x] := by
    rw [List.take_set, List.take_succ_eq_append_getElem h]
    rw [List.set_append_right _ _ (by simp; omega)]
    simp [Nat.min_eq_left (Nat.le_of_lt h)]
  have h2 : (l.set p x).drop (p + 1 + xs.length) = l.drop (p + (x :: xs).length) := by
    rw [List.drop_set_of_lt (by omega)]
    simp only [List.length_cons]; congr 1; omega
  rw [h1, h2]; simp

theorem fold_set (off : Nat) : ∀ (xs : List Value) (k : Nat) (cells : Array Value), off + k + xs.length ≤ cells.size →
    ((xs.zipIdx k).foldl (fun cs p => cs.setIfInBounds (off + p.2) p.1) cells).toList = repl cells.toList (off + k) xs
  | [], k, cells, _ => by simp [repl]
  | x :: xs, k, cells, h => by
    simp only [List.length_cons] at h
    simp only [List.zipIdx_cons, List.foldl_cons]
    rw [fold_set off xs (k + 1) (cells.setIfInBounds (off + k) x) (by simp; omega)]
    rw [Array.toList_setIfInBounds, ← Nat.add_assoc]
    exact repl_cons _ _ _ _ (by simp; omega)

section
variable {P : Program} {A : Env} {keep : Nat} {w : World} {m : Nat → Option (Nat × Nat)} {I : Nat → Prop} {s : St} {o : Oper} {a : Act} {K : St → AV → R} {r : Res}

theorem fill_ok {E : Env} {size : Nat → Option (Nat × Nat)} : ∀ {parts : List (Nat × AV)} {vparts : List (Nat × Value)} {cs cs' : List AV} {cells : Array Value},
    All2 (fun p q => p.1 = q.1 ∧ relV E p.2 q.2) parts vparts → relC E cs cells.toList → fillC size cs parts = some cs' → ∃ cells', Instr.fill size cells vparts = some cells' ∧ relC E cs' cells'.toList
  | [], [], cs, cs', cells, _, hc, h => by
    simp only [fillC, Option.some.injEq] at h; subst h
    exact ⟨cells, rfl, hc⟩
  | (i, v) :: parts, (j, x) :: vparts, cs, cs', cells, hp, hc, h => by
    obtain ⟨⟨rfl, hv⟩, hp⟩ := hp
    simp only [fillC] at h
    split at h
    · rename_i off n xs hs hx
      obtain ⟨hb, h⟩ := cond_none h
      simp only [Bool.and_eq_true] at hb
      have hn := Nat.eq_of_beq_eq_true hb.1
      have hle := Nat.le_of_ble_eq_true hb.2
      have hxc := cellsOfV_ok hv hx
      have hxl := relC_length hxc
      have hcl := relC_length hc
      have hsz : x.cells.size = n := by simp at hxl; omega
      have hfold : (x.cells.zipIdx.foldl (fun cs p => cs.setIfInBounds (off + p.2) p.1) cells).toList = repl cells.toList off x.cells.toList := by
        have := fold_set off x.cells.toList 0 cells (by simp at hxl hcl ⊢; omega)
        rw [Nat.add_zero] at this
        rw [← this]
        congr 1
        rw [← Array.foldl_toList]
        simp
      have hc' : relC E (repl cs off xs) (x.cells.zipIdx.foldl (fun cs p => cs.setIfInBounds (off + p.2) p.1) cells).toList := by
        rw [hfold]; exact relC_repl hc hxc
      rw [replAt_eq _ _ _ (by omega)] at h
      obtain ⟨cells', h1, h2⟩ := fill_ok hp hc' h
      refine ⟨cells', ?_, h2⟩
      simp only [Instr.fill, hs]
      rw [if_neg (by simp; simp at hcl; omega)]
      exact h1
    · cases h
  | [], _ :: _, _, _, _, hp, _, _ => by simp [All2] at hp
  | _ :: _, [], _, _, _, hp, _, _ => by simp [All2] at hp

theorem parts_rel (hg : Good A keep ⟨w, m, s.hp, I⟩ s.tm a.tmps) (l : List (Nat × Operand)) :
    All2 (fun p q => p.1 = q.1 ∧ relV ⟨w, m, s.hp, I⟩ p.2 q.2) (l.map fun p => (p.1, s.ev p.2)) (l.map fun p => (p.1, a.eval p.2)) := by
  induction l with
  | nil => trivial
  | cons x l ih => exact ⟨⟨rfl, ev_rel hg.tm x.2⟩, ih⟩

theorem op_build {t : TypeId} {parts : Array (Nat × Operand)} (ho : o.op = .build t parts) (hg : Good A keep ⟨w, m, s.hp, I⟩ s.tm a.tmps)
    (h : (match zeroOf P t, P.underlying t with
    | some z, some (.struct fs) => (match fs.toList.mapM (fun f => (P.info? f.type).map fun i => (f.offset, i.size)) with
      | some places => (match fillC (fun i => places.toArray[i]?) z (parts.toList.map fun p => (p.1, s.ev p.2)) with
        | some cs => K s (.agg cs)
        | none => none)
      | none => none)
    | _, _ => none) = some r) : Done P o a w A keep K r := by
  split at h
  · rename_i z fs hz hu
    obtain ⟨zv, hzv, hzc⟩ := zeroOf_ok (P := P) (w := w) (m := m) (I := I) (s := s) hz
    split at h
    · rename_i places hpl
      split at h
      · rename_i cs hcs
        obtain ⟨cells', h1, h2⟩ := fill_ok (parts_rel hg parts.toList) hzc hcs
        have hi : ∃ i, P.info? t = some i ∧ i.zero = some zv := by
          unfold zeroV at hzv
          split at hzv
          · rename_i i hi; exact ⟨i, hi, hzv⟩
          · cases hzv
        obtain ⟨i, hi, hiz⟩ := hi
        have hbuilt : P.built t (parts.map fun p => (p.1, a.eval p.2)).toList = some cells' := by
          unfold Program.built
          simp only [hi, hu, hiz, hpl]
          simpa using h1
        have hrun := run_build (P := P) w t _ cells' hbuilt
        refine Done.same hg h (x := .agg cells') ?_ (by simp only [relV]; exact ⟨_, rfl, h2⟩)
        simp only [execOp, ho]
        rw [Sem.run_bind]
        have e : (parts.map fun x => match x with | (i, x) => (i, a.eval x)) = parts.map fun p => (p.1, a.eval p.2) := rfl
        rw [e, hrun]; rfl
      · cases h
    · cases h
  · cases h

theorem takeAll_ok {tmps : Array Value} {tm : List (Nat × AV)} {e : Ty} : ∀ {n : Nat} {s s1 : St} {cs : List AV} {l : List e.D} {I : Nat → Prop} {vs : List Value}, takeAll e s n cs = some (s1, l) → Good A keep ⟨w, m, s.hp, I⟩ tm tmps → relC ⟨w, m, s.hp, I⟩ cs vs →
      ∃ I1, Froze A keep tm tmps w m s s1 I I1 ∧ l.length = n ∧ ∃ vss rest, vs = vss.flatten ++ rest ∧ All2 (repT w I1 e) l vss
  | 0, s, s1, cs, l, I, vs, h, hg, hc => by
    simp only [takeAll, Option.some.injEq, Prod.mk.injEq] at h
    obtain ⟨rfl, rfl⟩ := h
    exact ⟨I, ⟨hg, Grows.refl _, rfl⟩, rfl, [], vs, rfl, trivial⟩
  | n + 1, s, s1, cs, l, I, vs, h, hg, hc => by
    simp only [takeAll] at h
    split at h
    · rename_i s2 x cs2 h1
      split at h
      · rename_i s3 l2 h2
        simp only [Option.some.injEq, Prod.mk.injEq] at h
        obtain ⟨rfl, rfl⟩ := h
        obtain ⟨I1, f1, v1, v2, rfl, r1, c1⟩ := takeD_ok h1 hg hc
        obtain ⟨I2, f2, hl, vss, rest, rfl, hall⟩ := takeAll_ok h2 f1.good c1
        exact ⟨I2, ⟨f2.good, f1.grow.trans f2.grow, f2.tms.trans f1.tms⟩, by simp [hl], v1 :: vss, rest, by simp, repT_mono f2.grow.imm f2.grow.sub r1, hall⟩
      · cases h
    · cases h

theorem madeRows (z : Array Value) (n : Nat) (hz : 0 < z.size) : ((Array.range (n * z.size)).map (z[· % z.size]!)).toList = (List.replicate n z.toList).flatten := by
  induction n with
  | zero => simp
  | succ n ih =>
    have h1 : (List.replicate (n + 1) z.toList).flatten = (List.replicate n z.toList).flatten ++ z.toList := by
      rw [List.replicate_succ', List.flatten_append]; simp
    rw [h1, ← ih]
    simp only [Array.toList_map, Array.toList_range]
    rw [Nat.add_mul, Nat.one_mul, List.range_add, List.map_append]
    congr 1
    apply List.ext_getElem
    · simp
    · intro i h1 h2
      simp only [List.length_map, List.length_range] at h1
      simp [Nat.mod_eq_of_lt h1, h1]

theorem replicate_flat {E : Env} {z : List AV} {zv : List Value} (h : relC E z zv) (n : Nat) : relC E (List.replicate n z).flatten (List.replicate n zv).flatten := by
  induction n with
  | zero => simp [relC]
  | succ n ih => simp only [List.replicate_succ, List.flatten_cons]; exact relC_append h ih

theorem Froze.new_root {tmps : Array Value} {tm : List (Nat × AV)} {s s1 : St} {I I1 : Nat → Prop} (f : Froze A keep tm tmps w m s s1 I I1) : True := trivial

theorem fillC_len {size : Nat → Option (Nat × Nat)} : ∀ {parts : List (Nat × AV)} {c0 c1 : List AV}, fillC size c0 parts = some c1 → c1.length = c0.length := by
  intro parts
  induction parts with
  | nil => intro c0 c1 h; simp only [fillC, Option.some.injEq] at h; rw [h]
  | cons p parts ih =>
    intro c0 c1 h
    simp only [fillC] at h
    split at h
    · rename_i off k xs hs hx
      obtain ⟨hb, h⟩ := cond_none h
      simp only [Bool.and_eq_true] at hb
      have q3 := Nat.eq_of_beq_eq_true hb.1
      have q4 := Nat.le_of_ble_eq_true hb.2
      rw [ih h, replAt_eq _ _ _ (by omega), repl_len (by omega)]
    · cases h

theorem elemP_ok {t : TypeId} {v : AV} (h : elemP P t = some v) : ∃ et e i, P.underlying t = some (.slice et) ∧ P.underlying et = some (.pointer e) ∧ P.info? et = some i ∧ i.zero = some (.pointer none) ∧ i.size = 1 ∧ 0 < i.bytes ∧ v = .val (.pointer none) := by
  unfold elemP at h
  split at h
  · cases h
  · rename_i et he
    split at h
    · rename_i e i hu hi
      split at h
      · rename_i hz
        obtain ⟨hb, h⟩ := cond_none h
        simp only [Bool.and_eq_true] at hb
        cases h
        unfold elemT at he
        split at he
        · simp only [Option.some.injEq] at he; subst he
          exact ⟨_, e, i, by assumption, hu, hi, hz, Nat.eq_of_beq_eq_true hb.1, Nat.le_of_ble_eq_true hb.2, rfl⟩
        · cases he
      · cases h
    · cases h

theorem op_buildSliceP {t : TypeId} {n id : Nat} {parts : Array (Nat × Operand)} (ho : o.op = .buildSlice t n parts) (hg : Good A keep ⟨w, m, s.hp, I⟩ s.tm a.tmps)
    (h : (match elemP P t with
      | some z => cond (Nat.ble n 16777216)
          (match fillC (fun i => some (i * 1, 1)) (List.replicate n [z]).flatten (parts.toList.map fun p => (p.1, s.ev p.2)) with
            | some cs => s.new id (.box cs) fun s2 => K s2 (.ref id 0 none)
            | none => none) none
      | none => none) = some r) : Done P o a w A keep K r := by
  split at h
  · rename_i z hz
    obtain ⟨et, e, i, hu, hue, hi, hiz, hsz, hb, rfl⟩ := elemP_ok hz
    obtain ⟨hle, h⟩ := cond_none h
    have hle := Nat.le_of_ble_eq_true hle
    split at h
    · rename_i cs hcs
      obtain ⟨hn, h⟩ := St.new_some h
      have hzc : relC ⟨w, m, s.hp, I⟩ [AV.val (.pointer none)] (Value.pointer none).cells.toList := by
        show relC _ _ [Value.pointer none]
        simp only [relC, relV]
        exact ⟨rfl, trivial, trivial⟩
      have hzs : (Value.pointer none).cells.size = 1 := rfl
      have hrows := madeRows (Value.pointer none).cells n (by decide)
      have hc0 : relC ⟨w, m, s.hp, I⟩ (List.replicate n [AV.val (.pointer none)]).flatten ((Array.range (n * (Value.pointer none).cells.size)).map ((Value.pointer none).cells[· % (Value.pointer none).cells.size]!)).toList := by
        rw [hrows]; exact replicate_flat hzc n
      obtain ⟨cells', h1, h2⟩ := fill_ok (parts_rel hg parts.toList) hc0 hcs
      have hlen : cs.length = n := by
        rw [fillC_len hcs]
        have : ∀ n, (List.replicate n [AV.val (.pointer none)]).flatten.length = n := by
          intro n; induction n with
          | zero => simp
          | succ n ih => simp only [List.replicate_succ, List.flatten_cons, List.length_append, ih]; simp; omega
        exact this n
      have hcl : cells'.size = n := by
        have := relC_length h2
        simp only [Array.length_toList] at this
        omega
      obtain ⟨g1, g2, g3⟩ := new_box hg hn h2 et
      have hbs : (Instr.buildSlice t n (parts.map fun p => (p.1, a.eval p.2))).run P w = .ok (.slice (some ⟨w.heap.size, 0, none⟩) n n) (w.alloc (.cells cells' et)) := by
        have hnle : ¬ (16777216 < n * i.size) := by rw [hsz]; omega
        by_cases h0 : n = 0
        · subst h0
          simp at h1
          have e0 : ∀ f : Nat → Value, (Array.range 0).map f = #[] := fun f => by apply Array.ext'; simp
          rw [e0] at h1
          simp [Instr.buildSlice, underlying, hu, sizeOf, typeInfo, hi, newRow, hsz]
          rw [e0, h1]; simp
        · have h0' : ¬ (n * i.size = 0) := by rw [hsz]; omega
          rw [hzs] at h1
          simp [Instr.buildSlice, underlying, hu, sizeOf, typeInfo, hi, hnle, h0', zeroValue, hiz, newRow, hsz, h0]
          simp only [Nat.mul_one] at h1
          rw [if_neg (by omega), hzs, h1]; simp
      refine ⟨_, _, h, .inl ⟨.slice (some ⟨w.heap.size, 0, none⟩) n n, w.alloc (.cells cells' et), ?_, upd m id (some (w.heap.size, 0)), I, g1, ?_⟩⟩
      · simp only [execOp, ho]
        rw [Sem.run_bind]
        have e' : (parts.map fun x => match x with | (i, x) => (i, a.eval x)) = parts.map fun p => (p.1, a.eval p.2) := rfl
        rw [e', hbs]; rfl
      · simp only [relV, St.setH, getH_same, upd_same]
        refine ⟨by simp [lenL], .inr ⟨w.heap.size, 0, n, rfl, by simp [lenL, hlen], by simp [lenL, hlen], ?_⟩⟩
        have : AI.bsz (w.alloc (.cells cells' et)) w.heap.size = cells'.size := by
          unfold AI.bsz
          rw [heap_alloc_new]
        rw [this, hcl]; simp [Ty.sz]
    · cases h
  · cases h

theorem op_buildSlice {t : TypeId} {n id : Nat} {parts : Array (Nat × Operand)} (ho : o.op = .buildSlice t n parts) (hg : Good A keep ⟨w, m, s.hp, I⟩ s.tm a.tmps)
    (h : (match elemI P t with
    | none => match elemP P t with
      | some z => cond (Nat.ble n 16777216)
          (match fillC (fun i => some (i * 1, 1)) (List.replicate n [z]).flatten (parts.toList.map fun p => (p.1, s.ev p.2)) with
            | some cs => s.new id (.box cs) fun s2 => K s2 (.ref id 0 none)
            | none => none) none
      | none => none
    | some (et, e, _) => match zeroOf P et with
      | some z => cond (Nat.ble (n * e.sz) 16777216)
          (match fillC (fun i => some (i * e.sz, e.sz)) (List.replicate n z).flatten (parts.toList.map fun p => (p.1, s.ev p.2)) with
            | some cs => match takeAll e s n cs with
              | some (s1, l) => s1.new id (.arr e l) fun s2 => K s2 (.ref id 0 none)
              | none => none
            | none => none) none
      | none => none) = some r) : Done P o a w A keep K r := by
  split at h
  · exact op_buildSliceP ho hg h
  · rename_i et e bytes hel
    obtain ⟨i, z, hu, hi, hiz, hsz, he, rfl, hb, hzs, _⟩ := elemI_ok hel
    split at h
    · rename_i zc hz
      obtain ⟨hle, h⟩ := cond_none h
      have hle := Nat.le_of_ble_eq_true hle
      obtain ⟨zv, hzv, hzc⟩ := zeroOf_ok (P := P) (w := w) (m := m) (I := I) (s := s) hz
      have : zv = z := by
        unfold zeroV at hzv
        rw [hi] at hzv; simp only at hzv
        rw [hiz] at hzv; simpa using hzv.symm
      subst this
      split at h
      · rename_i cs hcs
        split at h
        · rename_i s1 l hta
          obtain ⟨hn, h⟩ := St.new_some h
          have hrows := madeRows zv.cells n (by omega)
          have hc0 : relC ⟨w, m, s.hp, I⟩ (List.replicate n zc).flatten ((Array.range (n * zv.cells.size)).map (zv.cells[· % zv.cells.size]!)).toList := by
            rw [hrows]; exact replicate_flat hzc n
          obtain ⟨cells', h1, h2⟩ := fill_ok (parts_rel hg parts.toList) hc0 hcs
          obtain ⟨I1, f, hl, vss, rest, hvs, hall⟩ := takeAll_ok hta hg h2
          have hfsz : cells'.size = n * e.sz := by
            have q1 := relC_length h2
            have q2 : cs.length = (List.replicate n zc).flatten.length := by
              clear h1 h2 hta hall hvs
              have : ∀ {parts : List (Nat × AV)} {c0 c1 : List AV}, fillC (fun i => some (i * e.sz, e.sz)) c0 parts = some c1 → c1.length = c0.length := by
                intro parts
                induction parts with
                | nil => intro c0 c1 h; simp only [fillC, Option.some.injEq] at h; rw [h]
                | cons p parts ih =>
                  intro c0 c1 h
                  simp only [fillC] at h
                  split at h
                  · rename_i off k xs hs hx
                    simp only [Option.some.injEq, Prod.mk.injEq] at hs
                    obtain ⟨hb, h⟩ := cond_none h
                    simp only [Bool.and_eq_true] at hb
                    have q3 := Nat.eq_of_beq_eq_true hb.1
                    have q4 := Nat.le_of_ble_eq_true hb.2
                    rw [ih h, replAt_eq _ _ _ (by omega), repl_len (by omega)]
                  · cases h
              exact this hcs
            have q3 := relC_length hzc
            simp only [Array.length_toList] at q1 q3
            rw [← q1, q2]
            have : ∀ n, (List.replicate n zc).flatten.length = n * zc.length := by
              intro n; induction n with
              | zero => simp
              | succ n ih => simp only [List.replicate_succ, List.flatten_cons, List.length_append, ih, Nat.add_mul]; omega
            rw [this, q3, hzs]
          have hrest : rest = [] := by
            have q1 := congrArg List.length hvs
            have q2 := flat_split (sz := e.sz) vss.length (lens_of (E := ⟨w, m, s1.hp, I1⟩) hall) (Nat.le_refl _)
            rw [List.take_length] at q2
            rw [List.length_append, q2.2, ← hall.length, hl] at q1
            simp only [Array.length_toList] at q1
            exact List.eq_nil_of_length_eq_zero (by omega)
          subst hrest
          obtain ⟨g1, g2, g3⟩ := new_arr f.good hn he hall et cells' [] hvs n (by omega) (by omega) (w0 := w) rfl rfl rfl rfl
          have hbs : (Instr.buildSlice t n (parts.map fun p => (p.1, a.eval p.2))).run P w = .ok (.slice (some ⟨w.heap.size, 0, none⟩) n n) (w.alloc (.cells cells' et)) := by
            have hnle : ¬ (16777216 < n * i.size) := by rw [← hsz]; omega
            have hzsz : i.size = zv.cells.size := by rw [← hsz, hzs]
            by_cases h0 : n * i.size = 0
            · have h0' : n = 0 := by
                rcases Nat.mul_eq_zero.1 h0 with h | h
                · exact h
                · omega
              subst h0'
              simp at h1
              have e0 : ∀ f : Nat → Value, (Array.range 0).map f = #[] := fun f => by apply Array.ext'; simp
              simp [Instr.buildSlice, underlying, hu, sizeOf, typeInfo, hi, newRow]
              rw [hsz] at h1
              rw [e0] at h1 ⊢
              rw [h1]; simp
            · rw [hsz] at h1
              rw [← hzsz] at h1
              simp [Instr.buildSlice, underlying, hu, sizeOf, typeInfo, hi, hnle, h0, zeroValue, hiz, newRow]
              rw [← hzsz]
              rw [show (List.map (fun p => (p.fst, a.eval p.snd)) parts.toList) = (parts.toList.map fun p => (p.1, a.eval p.2)) from rfl]
              rw [h1]; simp
          refine ⟨_, _, h, .inl ⟨.slice (some ⟨w.heap.size, 0, none⟩) n n, w.alloc (.cells cells' et), ?_, upd m id (some (w.heap.size, 0)), I1, ?_, ?_⟩⟩
          rotate_left
          · simp only [St.setH, f.tms]; exact g1
          · rw [hl] at g3; exact g3
          · simp only [execOp, ho]
            rw [Sem.run_bind]
            have e' : (parts.map fun x => match x with | (i, x) => (i, a.eval x)) = parts.map fun p => (p.1, a.eval p.2) := rfl
            rw [e', hbs]; rfl
        · cases h
      · cases h
    · cases h

theorem isZero_ok {e : Ty} {z : Value} (h : isZero e z = true) : repT w I e e.d0 z.cells.toList := by
  have go : ∀ (e : Ty) (cs rest : List Value), isZero.takeZ e cs = some rest → ∃ c1, cs = c1 ++ rest ∧ repT w I e e.d0 c1 := by
    intro e
    induction e with
    | unit => intro cs rest h; simp [isZero.takeZ] at h; exact ⟨[], by simp [h], rfl⟩
    | int k =>
      intro cs rest h
      simp only [isZero.takeZ] at h
      split at h
      · obtain ⟨hc, hb⟩ := cond_none h
        clear h
        simp only [Bool.and_eq_true, decide_eq_true_eq] at hc
        simp only [Option.some.injEq] at hb; subst hb
        obtain ⟨rfl, rfl⟩ := hc
        exact ⟨[_], rfl, rfl⟩
      · cases h
    | bool =>
      intro cs rest h
      simp only [isZero.takeZ] at h
      split at h
      · simp only [Option.some.injEq] at h; subst h
        exact ⟨[_], rfl, rfl⟩
      · cases h
    | str =>
      intro cs rest h
      simp only [isZero.takeZ] at h
      split at h
      · rename_i b rs
        obtain ⟨hc, h⟩ := cond_none h
        have hc := Nat.eq_of_beq_eq_true hc
        simp only [Option.some.injEq] at h; subst h
        have : b = ByteArray.empty := by
          cases b with
          | mk d =>
            have : d = #[] := Array.eq_empty_of_size_eq_zero hc
            subst this; rfl
        subst this
        exact ⟨[_], rfl, rfl⟩
      · cases h
    | sl e ih =>
      intro cs rest h
      simp only [isZero.takeZ] at h
      split at h
      · simp only [Option.some.injEq] at h; subst h
        exact ⟨[_], rfl, none, 0, 0, rfl, rfl, Nat.le_refl _, rfl, rfl⟩
      · cases h
    | pair a b iha ihb =>
      intro cs rest h
      simp only [isZero.takeZ] at h
      split at h
      · rename_i cs1 h1
        obtain ⟨c1, rfl, r1⟩ := iha _ _ h1
        obtain ⟨c2, rfl, r2⟩ := ihb _ _ h
        exact ⟨c1 ++ c2, by simp, c1, c2, rfl, r1, r2⟩
      · cases h
  unfold isZero at h
  split at h
  · rename_i h1
    obtain ⟨c1, h2, h3⟩ := go _ _ _ h1
    rw [h2]; simpa using h3
  · cases h


theorem op_makeSlice {t : TypeId} {x y : Operand} {id : Nat} (ho : o.op = .makeSlice t x y) (hg : Good A keep ⟨w, m, s.hp, I⟩ s.tm a.tmps)
    (h : (match elemI P t with
    | none => none
    | some (et, e, bytes) => match zeroV P et, s.ev x, s.ev y with
      | some z, .val (.int .i64 n), .val (.int .i64 m) => cond (isZero e z)
            (chk (decide (n = m)) (chk (decide (0 ≤ n)) (chk (fitBytes n.toNat bytes) (s.new id (.arr e (List.replicate n.toNat e.d0)) fun s1 => K s1 (.ref id 0 none))))) none
      | _, _, _ => none) = some r) : Done P o a w A keep K r := by
  have hx := ev_rel hg.tm x
  have hy := ev_rel hg.tm y
  split at h
  · cases h
  · rename_i et e bytes hel
    obtain ⟨i, z, hu, hi, hiz, hsz, he, rfl, hb, hzs, _⟩ := elemI_ok hel
    split at h
    · rename_i zv n m' hzv hxe hye
      have : zv = z := by
        unfold zeroV at hzv
        rw [hi] at hzv; simp only at hzv
        rw [hiz] at hzv; simpa using hzv.symm
      subst this
      rw [hxe] at hx; rw [hye] at hy
      simp only [relV] at hx hy
      obtain ⟨hz0, ha⟩ := cond_none h
      clear h
      obtain ⟨h1, hb'⟩ := chk_some ha
      clear ha
      obtain ⟨h2, hc⟩ := chk_some hb'
      clear hb'
      obtain ⟨h3, hd⟩ := chk_some hc
      clear hc
      have h1 : n = m' := of_decide_eq_true h1
      have h2 : 0 ≤ n := of_decide_eq_true h2
      have h3 : n.toNat * i.bytes ≤ 140737488355328 := of_decide_eq_true h3
      obtain ⟨hn, h⟩ := St.new_some hd
      clear hd
      subst h1
      have hle : n.toNat ≤ n.toNat * i.bytes := Nat.le_mul_of_pos_right _ hb
      have hbn : (i.bytes : Int) * n ≤ 281474976710656 := by
        have : ((n.toNat * i.bytes : Nat) : Int) ≤ 140737488355328 := by omega
        rw [Int.natCast_mul, Int.toNat_of_nonneg h2, Int.mul_comm] at this
        omega
      have hrun := run_make (P := P) w t et i zv hu hi hiz .i64 .i64 n n h2 (Int.le_refl _) hbn (by omega)
      have hrep := isZero_ok (w := w) (I := I) hz0
      have hall : All2 (repT w I e) (List.replicate n.toNat e.d0) (List.replicate n.toNat zv.cells.toList) := All2.replicate hrep _
      have hrows := madeRows zv.cells n.toNat (by omega)
      have hcells : madeCells zv.cells (n.toNat * i.size) = (Array.range (n.toNat * zv.cells.size)).map (zv.cells[· % zv.cells.size]!) := by
        rw [hzs, hsz]; unfold madeCells; rw [hzs, hsz]
      obtain ⟨g1, g2, g3⟩ := new_arr hg hn he hall et (madeCells zv.cells (n.toNat * i.size)) [] (by rw [hcells, hrows]; simp) n.toNat (by simp) (by rw [hcells]; simp [hzs]) (w0 := w) rfl rfl rfl rfl
      refine ⟨_, _, h, .inl ⟨.slice (some ⟨w.heap.size, 0, none⟩) n.toNat n.toNat, _, ?_, _, I, g1, ?_⟩⟩
      · simp only [execOp, ho, hx, hy]
        rw [Sem.run_bind, hrun]; rfl
      · rw [List.length_replicate] at g3; exact g3
    · cases h

end
end Go.AI
