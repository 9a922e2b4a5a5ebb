/- SOUNDNESS: new roots; append. -/
import Derived.Test.YtaaliglpbjjclaaS7
namespace Go.AI
set_option linter.unusedVariables false
set_option linter.unusedSimpArgs false

section
variable {A : Env} {keep : Nat} {tmps : Array Value} {w : World} {m : Nat → Option (Nat × Nat)} {hp : List (Nat × Root)} {I : Nat → Prop} {tm : List (Nat × AV)}

theorem Good.gone_of (hg : Good A keep ⟨w, m, hp, I⟩ tm tmps) {id : Nat} (hn : hasH hp id = false) : getH hp id = .gone := by
  cases hx : getH hp id with
  | gone => rfl
  | box cs => have := hasH_of_getH (hp := hp) (h := id) (by rw [hx]; simp); rw [hn] at this; cases this
  | arr e l => have := hasH_of_getH (hp := hp) (h := id) (by rw [hx]; simp); rw [hn] at this; cases this
  | imm e l => have := hasH_of_getH (hp := hp) (h := id) (by rw [hx]; simp); rw [hn] at this; cases this

theorem fresh_own (hg : Good A keep ⟨w, m, hp, I⟩ tm tmps) (b o : Nat) (h : some (w.heap.size, 0) = some (b, o)) :
    (Own A b ∨ A.w.heap.size ≤ b) ∧ ∀ h o' , owned (getH hp h) = true → m h ≠ some (b, o') := by
  obtain ⟨rfl, rfl⟩ := Prod.mk.inj (Option.some.inj h)
  refine ⟨.inr hg.hist.sz, fun k o' ho hm => ?_⟩
  have := (hg.heap.own_lt (b := w.heap.size) ⟨k, o', ho, hm⟩).1
  exact absurd this (Nat.lt_irrefl _)

theorem new_box (hg : Good A keep ⟨w, m, hp, I⟩ tm tmps) {id : Nat} (hn : hasH hp id = false) {cs : List AV} {vs : Array Value} (hc : relC ⟨w, m, hp, I⟩ cs vs.toList) (T : TypeId) :
    let E' : Env := ⟨w.alloc (.cells vs T), upd m id (some (w.heap.size, 0)), (id, .box cs) :: hp, I⟩
    Good A keep E' tm tmps ∧ Grows ⟨w, m, hp, I⟩ E' ∧ relV E' (.ptr id 0 0) (.pointer (some ⟨w.heap.size, 0, none⟩)) := by
  intro E'
  have hI : ¬ I w.heap.size := fun h => absurd (hg.heap.lt _ h) (Nat.lt_irrefl _)
  have := change1 hg id (.box cs) (some (w.heap.size, 0)) (Stays.alloc hg id (.cells vs T)) (fun h => by rw [hn] at h; cases h)
    (fun _ b o h => ⟨(fresh_own hg b o h).1, fun k o' _ => (fresh_own hg b o h).2 k o'⟩) (fun g => ?_)
  · refine ⟨this.1, this.2, ?_⟩
    simp only [relV, E', getH_same, upd_same]
    exact ⟨_, rfl, rfl⟩
  · exact ⟨w.heap.size, vs, T, upd_same _ _ _, hI, heap_alloc_new w _, relC_mono g hc⟩

theorem new_arr (hg : Good A keep ⟨w, m, hp, I⟩ tm tmps) {id : Nat} (hn : hasH hp id = false) {e : Ty} (he : 0 < e.sz) {l : List e.D} {vss : List (List Value)} (hall : All2 (repT w I e) l vss)
    (T : TypeId) (cells : Array Value) (extra : List Value) (hcs : cells.toList = vss.flatten ++ extra) (c : Nat) (hlc : l.length ≤ c) (hc : c * e.sz ≤ cells.size) {w0 : World} (hw0 : w0.heap = w.heap) (hos : w0.os = w.os) (ht : w0.tape = w.tape) (hout : w0.output = w.output) :
    let E' : Env := ⟨w0.alloc (.cells cells T), upd m id (some (w.heap.size, 0)), (id, .arr e l) :: hp, I⟩
    Good A keep E' tm tmps ∧ Grows ⟨w, m, hp, I⟩ E' ∧ relV E' (.ref id 0 none) (.slice (some ⟨w.heap.size, 0, none⟩) l.length c) := by
  intro E'
  have hI : ¬ I w.heap.size := fun h => absurd (hg.heap.lt _ h) (Nat.lt_irrefl _)
  have hnew : (w0.alloc (.cells cells T)).heap[w.heap.size]? = some (.cells cells T (0, 0)) := by
    have := heap_alloc_new w0 (.cells cells T)
    rw [hw0] at this; exact this
  have st : Stays A ⟨w, m, hp, I⟩ id (w0.alloc (.cells cells T)) I (fun _ => False) := by
    have := Stays.alloc hg id (.cells cells T)
    have e1 : (w0.alloc (.cells cells T)).heap = (w.alloc (.cells cells T)).heap := by show w0.heap.push _ = w.heap.push _; rw [hw0]
    have e2 : ∀ b, AI.bsz (w0.alloc (.cells cells T)) b = AI.bsz (w.alloc (.cells cells T)) b := fun b => by unfold AI.bsz; rw [e1]
    exact ⟨by rw [e1]; exact this.sz, fun b hb hc => by rw [e1]; exact this.same b hb hc, this.free, fun b => by rw [e2]; exact this.bsz b, this.sub, fun b hb => by rw [e1]; exact this.imm b hb, hos, ht, hout⟩
  have := change1 hg id (.arr e l) (some (w.heap.size, 0)) st (fun h => by rw [hn] at h; cases h)
    (fun _ b o h => ⟨(fresh_own hg b o h).1, fun k o' _ => (fresh_own hg b o h).2 k o'⟩) (fun g => ?_)
  · refine ⟨this.1, this.2, ?_⟩
    simp only [relV, E', getH_same, upd_same]
    refine ⟨by simp [lenL], .inr ⟨_, _, c, rfl, by simp [lenL], by simpa [lenL] using hlc, ?_⟩⟩
    unfold AI.bsz; rw [hnew]; simpa using hc
  · refine ⟨he, .inr ⟨w.heap.size, 0, vss, upd_same _ _ _, ?_, hall.mono fun _ _ => repT_mono g.imm g.sub⟩⟩
    simp only [if_true]
    exact ⟨hI, cells, T, hnew, [], extra, by simp [hcs], rfl⟩

theorem new_nil (hg : Good A keep ⟨w, m, hp, I⟩ tm tmps) {id : Nat} (hn : hasH hp id = false) {e : Ty} (he : 0 < e.sz) :
    let E' : Env := ⟨w, upd m id none, (id, .arr e []) :: hp, I⟩
    Good A keep E' tm tmps ∧ Grows ⟨w, m, hp, I⟩ E' ∧ relV E' (.ref id 0 none) (.slice none 0 0) := by
  intro E'
  have := change1 hg id (.arr e []) none (Stays.none hg id) (fun h => by rw [hn] at h; cases h) (fun _ b o h => by cases h) (fun g => ⟨he, .inl ⟨upd_same _ _ _, rfl⟩⟩)
  refine ⟨this.1, this.2, ?_⟩
  simp only [relV, E', getH_same, upd_same]
  exact ⟨by simp [lenL], .inl ⟨by simp [lenL], none, rfl⟩⟩

/-- a root is given up -/
theorem lose (hg : Good A keep ⟨w, m, hp, I⟩ tm tmps) (h : Nat) (hr : hasH hp h = true) :
    Good A keep ⟨w, m, (h, .gone) :: hp, I⟩ tm tmps ∧ Grows ⟨w, m, hp, I⟩ ⟨w, m, (h, .gone) :: hp, I⟩ := by
  have := change1 hg h .gone (m h) (Stays.none hg h) (fun _ => ⟨by cases getH hp h <;> trivial, fun _ => rfl⟩) (fun hc => by cases hc) (fun g => trivial)
  rw [upd_self] at this
  exact this
end

section
variable {P : Program} {w : World}

/-- what append appends, in the model -/
def SrcOk (P : Program) (w : World) (size : Nat) (x : Value) (n : Nat) (news : List Value) : Prop :=
  (∀ w', (Builtin.lenOf x).run P w' = .ok n w') ∧ (∀ w' : World, w'.heap = w.heap → (Builtin.firstCells size n x).run P w' = .ok news.toArray w') ∧ news.length = n * size ∧ ∀ v ∈ news, v.oneCell' = true

theorem srcTy_ok {u : TypeId} (h : srcTy P u = true) : ∃ d, P.underlying u = some d ∧ ∀ k, d ≠ .int k := by
  unfold srcTy at h
  split at h
  · exact ⟨_, by assumption, by simp⟩
  · cases h

theorem run_append_in {t u ty e : TypeId} {i : TypeInfo} (ht : P.underlying t = some (.slice e)) (hu : ∃ d, P.underlying u = some d ∧ ∀ k, d ≠ .int k) (hi : P.info? e = some i)
    {b o sLen sCap n : Nat} {x : Value} {news : List Value} (hsrc : SrcOk P w i.size x n news) (hroom : sLen + n ≤ sCap) {cur : Array Value} {T : TypeId} (hblk : w.heap[b]? = some (.cells cur T (0, 0)))
    (hfit : o + sLen * i.size + news.length ≤ cur.size) :
    (Builtin.append_ #[t, u] ty #[.slice (some ⟨b, o, none⟩) sLen sCap, x]).run P w =
      .ok (.slice (some ⟨b, o, none⟩) (sLen + n) sCap) (w.setRow b (repl cur.toList (o + sLen * i.size) news).toArray) := by
  obtain ⟨h1, h2, h3, h4⟩ := hsrc
  obtain ⟨d, hu, hd⟩ := hu
  have hz : (match d with | TypeDesc.int _ => true | _ => false) = false := by cases d <;> first | rfl | exact absurd rfl (hd _)
  have hadd : ((⟨b, o, none⟩ : Addr).add (sLen * i.size)) = ⟨b, o + sLen * i.size, none⟩ := by unfold Addr.add; split <;> simp_all
  have hst := run_storeCells_at P b (o + sLen * i.size) T news 0 cur w hblk (by omega) h4
  simp only [Nat.add_zero] at hst
  simp [Builtin.append_, underlying, ht, hu, hz, sizeOf, typeInfo, hi, h1, hroom, h2 w rfl, hadd, hst, repl]

theorem run_append_new {t u ty e : TypeId} {i : TypeInfo} {z : Value} (ht : P.underlying t = some (.slice e)) (hu : ∃ d, P.underlying u = some d ∧ ∀ k, d ≠ .int k) (hi : P.info? e = some i) (hz : i.zero = some z)
    {base : Option Addr} {sLen sCap n : Nat} {x : Value} {olds news : List Value} (hold : ∀ w' : World, w'.heap = w.heap → (Builtin.firstCells i.size sLen (.slice base sLen sCap)).run P w' = .ok olds.toArray w')
    (hsrc : SrcOk P w i.size x n news) (hroom : sCap < sLen + n) (hb : 0 < i.bytes) (hfit : (sLen + n) * i.bytes ≤ 140737488355328) :
    (Builtin.append_ #[t, u] ty #[.slice base sLen sCap, x]).run P w =
      .ok (.slice (some ⟨w.heap.size, 0, none⟩) (sLen + n) (grownCap w (sLen + n) sCap e))
        (w.drew.alloc (.cells (olds.toArray ++ news.toArray ++ Builtin.zeroCells z.cells (grownCap w (sLen + n) sCap e - (sLen + n))) e)) := by
  obtain ⟨h1, h2, h3, h4⟩ := hsrc
  obtain ⟨d, hu, hd⟩ := hu
  have hzz : (match d with | TypeDesc.int _ => true | _ => false) = false := by cases d <;> first | rfl | exact absurd rfl (hd _)
  have hn : ¬ (sLen + n ≤ sCap) := by omega
  have hle : sLen + n ≤ (sLen + n) * i.bytes := Nat.le_mul_of_pos_right _ hb
  have h63' : ¬ (9223372036854775807 < ((sLen : Int) + (n : Int))) := by omega
  have hgs := growslice_fits hroom hfit
  have h48' : ¬ (281474976710656 < Builtin.nextslicecap (sLen + n) sCap * i.bytes) := by omega
  simp [Builtin.append_, underlying, ht, hu, hzz, sizeOf, typeInfo, zeroValue, hi, hz, h1, hn, h63', h48', Question.forced, hold w.drew rfl, h2 w.drew rfl, newRow, grownCap]
  congr 2
  apply Array.ext'
  simp [List.append_assoc]
end


section
variable {P : Program} {A : Env} {keep : Nat} {tmps : Array Value} {w : World} {m : Nat → Option (Nat × Nat)} {I : Nat → Prop}

theorem first_of_repS {α : Type} {J : Nat → Prop} {Rr : α → List Value → Prop} {l : List α} {a : Option Addr} {n c size : Nat} (h : repS w J Rr l a n c) (hlen : ∀ x y, Rr x y → y.length = size) (hone : ∀ x y, Rr x y → ∀ v ∈ y, v.oneCell' = true) :
    ∃ vss, All2 Rr l vss ∧ SrcOk P w size (.slice a n c) n vss.flatten := by
  obtain ⟨h1, h2, h3⟩ := h
  cases a with
  | none =>
    obtain ⟨rfl, rfl⟩ := h3
    refine ⟨[], trivial, fun w' => by simp [Builtin.lenOf], fun w' _ => by simp [Builtin.firstCells], by simp at h1; simp [h1], by simp⟩
  | some ad =>
    rcases h3 with rfl | ⟨hs, _, vss, hat, hall⟩
    · simp at h1; subst h1
      exact ⟨[], trivial, fun w' => by simp [Builtin.lenOf], fun w' _ => by simp [Builtin.firstCells, loadCells, loadCellsFrom], by simp, by simp⟩
    have hl : ∀ v ∈ vss, v.length = size ∧ ∀ u ∈ v, u.oneCell' = true := by
      clear hat h1 h2
      induction l generalizing vss with
      | nil => cases vss <;> simp_all [All2]
      | cons x l ih => cases vss with
        | nil => simp [All2] at hall
        | cons v vss =>
          intro u hu
          rcases List.mem_cons.1 hu with rfl | hu
          · exact ⟨hlen _ _ hall.1, hone _ _ hall.1⟩
          · exact ih vss hall.2 u hu
    have hflat : vss.flatten.length = n * size := by
      have := flat_split (sz := size) vss.length (fun v hv => (hl v hv).1) (Nat.le_refl _)
      rw [List.take_length] at this
      rw [this.2, h1, hall.length]
    refine ⟨vss, hall, fun w' => by simp [Builtin.lenOf], fun w' hw' => ?_, hflat, ?_⟩
    · have had : ad = ⟨ad.block, ad.off, none⟩ := by cases ad; simp_all
      have hat' : At w' ad.block ad.off vss.flatten := hat.mono (by rw [hw'])
      simp only [Builtin.firstCells]
      rw [had]
      exact run_loadCells_at hat' hflat
    · intro v hv
      obtain ⟨u, hu, hv⟩ := List.mem_flatten.1 hv
      exact (hl u hu).2 v hv

theorem appSrc_ok {s : St} {e : Ty} {y : AV} {v : Value} {xs : List e.D} (H : HeapRel ⟨w, m, s.hp, I⟩) (h : s.appSrc e y = some xs) (hy : relV ⟨w, m, s.hp, I⟩ y v) :
    ∃ vss, All2 (repT w I e) xs vss ∧ SrcOk P w e.sz v xs.length vss.flatten := by
  unfold St.appSrc at h
  split at h
  · simp only [Option.some.injEq] at h; subst h
    simp only [relV] at hy; subst hy
    exact ⟨[], trivial, fun w' => by simp [Builtin.lenOf], fun w' _ => by simp [Builtin.firstCells], by simp, by simp⟩
  · split at h
    · rename_i e' l' hsl
      obtain ⟨a, n, c, rfl, hr⟩ := slice_ok H rfl hy hsl
      obtain ⟨rfl, rfl⟩ := castL_eq h
      obtain ⟨vss, h1, h2⟩ := first_of_repS (P := P) hr (fun _ _ => repT_len) (fun _ _ => repT_one)
      rw [hr.1] at h2 ⊢
      exact ⟨vss, h1, h2⟩
    · cases h

theorem elemI_ok {t et : TypeId} {e : Ty} {bytes : Nat} (h : elemI P t = some (et, e, bytes)) :
    ∃ i z, P.underlying t = some (.slice et) ∧ P.info? et = some i ∧ i.zero = some z ∧ e.sz = i.size ∧ 0 < e.sz ∧ i.bytes = bytes ∧ 0 < bytes ∧ z.cells.size = e.sz ∧ tyOf P et = some e := by
  unfold elemI at h
  split at h
  · cases h
  · rename_i et' he
    split at h
    · rename_i e' i hty hi
      split at h
      · rename_i z hz
        obtain ⟨hc, h⟩ := cond_none h
        simp only [Bool.and_eq_true] at hc
        simp only [Option.some.injEq, Prod.mk.injEq] at h
        obtain ⟨rfl, rfl, rfl⟩ := h
        have hu : P.underlying t = some (.slice et') := by
          unfold elemT at he
          split at he
          · simp only [Option.some.injEq] at he; subst he; assumption
          · cases he
        exact ⟨i, z, hu, hi, hz, Nat.eq_of_beq_eq_true hc.1.1.1, Nat.le_of_ble_eq_true hc.1.1.2, rfl, Nat.le_of_ble_eq_true hc.1.2, Nat.eq_of_beq_eq_true hc.2, hty⟩
      · cases h
    · cases h

theorem zeroCells_size (z : Array Value) (n : Nat) : (Builtin.zeroCells z n).size = n * z.size := by simp [Builtin.zeroCells]

/-- what a call of a new row with a slice comes to -/
theorem grow_ok {t u ty et : TypeId} {e : Ty} {i : TypeInfo} {z : Value} (hu : P.underlying t = some (.slice et)) (hsrc : ∃ d, P.underlying u = some d ∧ ∀ k, d ≠ .int k) (hi : P.info? et = some i) (hz : i.zero = some z)
    (hsz : e.sz = i.size) (he : 0 < e.sz) (hb : 0 < i.bytes) (hzs : z.cells.size = e.sz)
    {hp : List (Nat × Root)} {tm : List (Nat × AV)} (hg : Good A keep ⟨w, m, hp, I⟩ tm tmps) {id : Nat} (hn : hasH hp id = false)
    {base : Option Addr} {sLen sCap : Nat} {l xs : List e.D} {uss vss : List (List Value)} (ho : All2 (repT w I e) l uss) (hl : sLen = l.length)
    (hold : ∀ w' : World, w'.heap = w.heap → (Builtin.firstCells i.size sLen (.slice base sLen sCap)).run P w' = .ok uss.flatten.toArray w')
    {x : Value} (hx : All2 (repT w I e) xs vss) (hs : SrcOk P w e.sz x xs.length vss.flatten) (hroom : sCap < sLen + xs.length) (hfit : (sLen + xs.length) * i.bytes ≤ 140737488355328) :
    ∃ w' zv, (Builtin.append_ #[t, u] ty #[.slice base sLen sCap, x]).run P w = .ok zv w' ∧
      ∃ m', Good A keep ⟨w', m', (id, .arr e (l ++ xs)) :: hp, I⟩ tm tmps ∧ relV ⟨w', m', (id, .arr e (l ++ xs)) :: hp, I⟩ (.ref id 0 none) zv := by
  rw [hsz] at hs
  have hrun := run_append_new (P := P) (w := w) (u := u) (ty := ty) (x := x) hu hsrc hi hz hold hs hroom hb hfit
  have hge : sLen + xs.length ≤ grownCap w (sLen + xs.length) sCap et := by simp [grownCap, Question.cut]
  have hall := ho.append hx
  have hlens : ∀ {l : List e.D} {vss : List (List Value)}, All2 (repT w I e) l vss → vss.flatten.length = l.length * e.sz := by
    intro l vss h
    have := flat_split (sz := e.sz) vss.length (lens_of (E := ⟨w, m, hp, I⟩) h) (Nat.le_refl _)
    rw [List.take_length] at this
    rw [this.2, h.length]
  have := new_arr hg hn he hall et (uss.flatten.toArray ++ vss.flatten.toArray ++ Builtin.zeroCells z.cells (grownCap w (sLen + xs.length) sCap et - (sLen + xs.length)))
    (Builtin.zeroCells z.cells (grownCap w (sLen + xs.length) sCap et - (sLen + xs.length))).toList (by simp) (grownCap w (sLen + xs.length) sCap et) (by rw [List.length_append, ← hl]; exact hge)
    (by
      rw [Array.size_append, Array.size_append, zeroCells_size, hzs, List.size_toArray, List.size_toArray, hlens ho, hlens hx, ← hl, ← Nat.add_mul, ← Nat.add_mul]
      exact Nat.mul_le_mul_right _ (by omega)) (w0 := w.drew) rfl rfl rfl rfl
  refine ⟨_, _, hrun, _, this.1, ?_⟩
  have q := this.2.2
  rw [List.length_append, ← hl] at q
  exact q

theorem appendA_ok {t u ty : TypeId} {x y : AV} {vx vy : Value} {id : Nat} {s : St} {K : St → AV → R} {r : Res} (h : appendA P t u x y id s K = some r)
    (hg : Good A keep ⟨w, m, s.hp, I⟩ s.tm tmps) (hx : relV ⟨w, m, s.hp, I⟩ x vx) (hy : relV ⟨w, m, s.hp, I⟩ y vy) :
    ∃ s2 v2 w' z, K s2 v2 = some r ∧ (Builtin.append_ #[t, u] ty #[vx, vy]).run P w = .ok z w' ∧ goodV A keep s2 tmps w' v2 z := by
  unfold appendA at h
  split at h
  · cases h
  · rename_i et e bytes hel
    obtain ⟨i, z, hu, hi, hz, hsz, he, rfl, hb, hzs, _⟩ := elemI_ok hel
    obtain ⟨hst, h⟩ := cond_none h
    have hsrc := srcTy_ok hst
    split at h
    · cases h
    · rename_i xs hxs
      obtain ⟨vss, hall, hsr⟩ := appSrc_ok (P := P) hg.heap hxs hy
      split at h
      · -- onto nil
        simp only [relV] at hx; subst hx
        obtain ⟨hfit, h⟩ := chk_some h
        unfold St.new at h
        obtain ⟨hnh, h⟩ := cond_none' h
        have hfit : xs.length * i.bytes ≤ 140737488355328 := of_decide_eq_true hfit
        by_cases h0 : xs.length = 0
        · have : xs = [] := List.eq_nil_of_length_eq_zero h0
          subst this
          obtain ⟨q1, _, q3⟩ := new_nil hg hnh he
          refine ⟨_, _, w, .slice none 0 0, h, ?_, _, I, q1, q3⟩
          obtain ⟨h1, h2, h3, h4⟩ := hsr
          have hv0 : vss = [] := by cases vss <;> simp_all [All2]
          subst hv0
          obtain ⟨d, hud, hd⟩ := hsrc
          have hzz : (match d with | TypeDesc.int _ => true | _ => false) = false := by cases d <;> first | rfl | exact absurd rfl (hd _)
          rw [hsz] at h2
          simp at h2
          simp [Builtin.append_, underlying, hu, hud, hzz, sizeOf, typeInfo, hi, h1, h2]
        · obtain ⟨w', zv, hr, m', q1, q2⟩ := grow_ok (P := P) (ty := ty) hu hsrc hi hz hsz he hb hzs hg hnh (base := none) (sLen := 0) (sCap := 0) (l := []) (uss := []) trivial rfl
            (fun w' _ => by simp [Builtin.firstCells]) hall hsr (by omega) (by simpa using hfit)
          exact ⟨_, _, w', zv, h, hr, m', I, q1, q2⟩
      · -- onto an owned array
        rename_i h0 lo _
        split at h
        · rename_i e' l hgt
          split at h
          · rename_i l' hcast
            obtain ⟨rfl, rfl⟩ := castL_eq hcast
            obtain ⟨hfit, h⟩ := chk_some h
            unfold St.new at h
            obtain ⟨hnh, h⟩ := cond_none' h
            have hfit : ((l.drop lo).length + xs.length) * i.bytes ≤ 140737488355328 := of_decide_eq_true hfit
            have hroot := hg.heap.root h0
            simp only [relV] at hx
            simp only [hgt] at hroot hx
            have hhas : hasH s.hp h0 = true := hasH_of_getH (by rw [hgt]; simp)
            obtain ⟨lg, lgr⟩ := lose hg h0 hhas
            rcases hx.2 with ⟨hlen0, ab, rfl⟩ | ⟨b, o, c, hm, rfl, hb2, hb3⟩
            · have hd0 : l.drop lo = [] := List.eq_nil_of_length_eq_zero (by simpa [lenL] using hlen0)
              by_cases hx0 : xs.length = 0
              · have : xs = [] := List.eq_nil_of_length_eq_zero hx0
                subst this
                obtain ⟨q1, _, q3⟩ := new_nil lg hnh he
                have e0 : (l.drop lo ++ []) = [] := by simp [hd0]
                refine ⟨_, _, w, .slice ab 0 0, h, ?_, upd m id none, I, ?_, ?_⟩
                · obtain ⟨h1, h2, h3, h4⟩ := hsr
                  have hv0 : vss = [] := by cases vss <;> simp_all [All2]
                  subst hv0
                  obtain ⟨d, hud, hd⟩ := hsrc
                  have hzz : (match d with | TypeDesc.int _ => true | _ => false) = false := by cases d <;> first | rfl | exact absurd rfl (hd _)
                  rw [hsz] at h2
                  simp at h2
                  cases ab <;> simp [Builtin.append_, underlying, hu, hud, hzz, sizeOf, typeInfo, hi, h1, h2, storeCells]
                · simp only [St.setH, e0]; exact q1
                · simp only [St.setH, e0, relV, getH_same, upd_same]
                  exact ⟨by simp [lenL], .inl ⟨by simp [lenL], ab, rfl⟩⟩
              · obtain ⟨w', zv, hr, m', q1, q2⟩ := grow_ok (P := P) (ty := ty) hu hsrc hi hz hsz he hb hzs lg hnh (base := ab) (sLen := 0) (sCap := 0) (l := l.drop lo) (uss := []) (by rw [hd0]; trivial) (by simp [hd0])
                  (fun w' _ => by cases ab <;> simp [Builtin.firstCells, loadCells, loadCellsFrom]) hall hsr (by omega) (by rw [hd0] at hfit; simpa using hfit)
                exact ⟨_, _, w', zv, h, hr, m', I, q1, q2⟩
            · have hb1 := hx.1
              simp only [lenL] at hb1 hb2 ⊢
              rcases hroot.2 with ⟨hm0, _⟩ | ⟨b', o', uss, hm', hq, huss⟩
              · have hm0 : m h0 = none := hm0
                rw [hm0] at hm; cases hm
              have hm' : m h0 = some (b', o') := hm'
              rw [hm'] at hm; obtain ⟨rfl, rfl⟩ := Prod.mk.inj (Option.some.inj hm)
              simp only [if_true] at hq
              obtain ⟨hnI, cur, T, hblk, pre, post, hcur, rfl⟩ := hq
              have hblk : w.heap[b']? = some (.cells cur T (0, 0)) := hblk
              have hull := huss.length
              have hlens := lens_of (E := ⟨w, m, s.hp, I⟩) huss
              have hfl := flat_split (sz := e'.sz) lo hlens (by omega)
              have hfln := flat_split (sz := e'.sz) uss.length hlens (Nat.le_refl _)
              rw [List.take_length] at hfln
              by_cases hroom : (l.length - lo) + xs.length ≤ c
              · -- there is room
                have hsr' := hsr
                rw [hsz] at hsr'
                have hbs : bsz w b' = cur.size := by simp [AI.bsz, hblk]
                have hnl : vss.flatten.length = xs.length * e'.sz := hsr.2.2.1
                have e1 : lo * e'.sz + (l.length - lo) * e'.sz = l.length * e'.sz := by rw [← Nat.add_mul]; congr 1; omega
                have e2 : (lo + c) * e'.sz = lo * e'.sz + c * e'.sz := Nat.add_mul _ _ _
                have e3 : (l.length - lo + xs.length) * e'.sz ≤ c * e'.sz := Nat.mul_le_mul_right _ hroom
                have e4 : (l.length - lo + xs.length) * e'.sz = (l.length - lo) * e'.sz + xs.length * e'.sz := Nat.add_mul _ _ _
                have hb3 : pre.length + (lo + c) * e'.sz ≤ cur.size := by rw [← hbs]; exact hb3
                have hpos : pre.length + lo * e'.sz + (l.length - lo) * e'.sz = (pre ++ uss.flatten).length := by
                  rw [List.length_append, hfln.2, ← hull]; omega
                have hcl : cur.size = (pre ++ uss.flatten).length + post.length := by
                  have := congrArg List.length hcur
                  simp only [List.length_append, Array.length_toList] at this ⊢
                  omega
                have hfits : vss.flatten.length ≤ post.length := by omega
                have hrun := run_append_in (P := P) (w := w) (ty := ty) (u := u) (x := vy) (b := b') (o := pre.length + lo * e'.sz) (sLen := l.length - lo) (sCap := c) hu hsrc hi hsr' hroom hblk (by rw [← hsz]; omega)
                rw [← hsz, hpos] at hrun
                have hrepl : repl cur.toList (pre ++ uss.flatten).length vss.flatten = (pre ++ (uss.take lo).flatten) ++ ((uss.drop lo) ++ vss).flatten ++ post.drop vss.flatten.length := by
                  have := surg (P := pre ++ uss.flatten) (v := post) (Q := []) (n := vss.flatten) (f := 0) (by omega)
                  rw [List.append_nil, ← hcur, Nat.add_zero, List.append_nil] at this
                  rw [this]
                  conv => lhs; rw [hfl.1]
                  simp [repl]
                rw [hrepl] at hrun
                have hsize : ((pre ++ (uss.take lo).flatten) ++ ((uss.drop lo) ++ vss).flatten ++ post.drop vss.flatten.length).toArray.size = cur.size := by
                  rw [← hrepl]
                  have := repl_len (l := cur.toList) (f := (pre ++ uss.flatten).length) (xs := vss.flatten) (by simp only [Array.length_toList]; omega)
                  simpa using this
                have hown0 : Own ⟨w, m, s.hp, I⟩ b' := ⟨h0, pre.length, by simp [hgt, owned], hm'⟩
                have hfree : ∀ h o, owned (getH ((h0, Root.gone) :: s.hp) h) = true → m h ≠ some (b', o) := by
                  intro h o ho hmh
                  by_cases e : h = h0
                  · subst e; rw [getH_same] at ho; cases ho
                  · rw [getH_other _ _ e] at ho
                    exact e (hg.heap.inj h h0 b' o pre.length ho (by simp [hgt, owned]) hmh hm')
                have hownA := hg.hist.own b' hown0
                have st : Stays A ⟨w, m, (h0, .gone) :: s.hp, I⟩ id (w.setRow b' ((pre ++ (uss.take lo).flatten) ++ ((uss.drop lo) ++ vss).flatten ++ post.drop vss.flatten.length).toArray) I (fun k => k = b') :=
                  ⟨by simp, fun k _ hk => setRow_other _ _ _ _ hk, fun k hk => by subst hk; exact ⟨hnI, hownA, fun h o _ => hfree h o⟩, fun k => bsz_setRow _ _ _ _ _ _ hblk hsize k, fun _ h => h,
                    fun k hk => ⟨by have := hg.heap.lt k hk; simpa using this, .inl hk⟩, rfl, rfl, rfl⟩
                have hnh' : hasH ((h0, Root.gone) :: s.hp) id = false := hnh
                have hc1 := change1 lg id (.arr e' (l.drop lo ++ xs)) (some (b', pre.length + lo * e'.sz)) st (fun h => by rw [hnh'] at h; cases h)
                  (fun _ k o hk => by obtain ⟨rfl, rfl⟩ := Prod.mk.inj (Option.some.inj hk); exact ⟨hownA, fun h o' _ => hfree h o'⟩)
                  (fun g => ⟨he, .inr ⟨b', _, uss.drop lo ++ vss, upd_same _ _ _, by
                    simp only [if_true]
                    exact ⟨hnI, _, T, setRow_heap w b' cur _ T _ hblk, pre ++ (uss.take lo).flatten, post.drop vss.flatten.length, by simp, by simp only [List.length_append, hfl.2]⟩,
                    ((huss.drop lo).append hall).mono fun _ _ hx => repT_mono g.imm g.sub hx⟩⟩)
                refine ⟨_, _, _, _, h, hrun, _, I, hc1.1, ?_⟩
                simp only [relV, St.setH, getH_same, upd_same]
                have hlen : (l.drop lo ++ xs).length = l.length - lo + xs.length := by simp
                refine ⟨by simp [lenL], .inr ⟨_, _, c, rfl, by rw [hlen]; simp [lenL], by rw [hlen]; simpa [lenL] using hroom, ?_⟩⟩
                have : AI.bsz (w.setRow b' ((pre ++ (uss.take lo).flatten) ++ ((uss.drop lo) ++ vss).flatten ++ post.drop vss.flatten.length).toArray) b' = cur.size := by
                  unfold AI.bsz; rw [setRow_heap w b' cur _ T _ hblk]; exact hsize
                rw [this]
                simp only [Nat.zero_add]; omega
              · -- it grows
                have hold : ∀ w' : World, w'.heap = w.heap → (Builtin.firstCells i.size (l.length - lo) (.slice (some ⟨b', pre.length + lo * e'.sz, none⟩) (l.length - lo) c)).run P w' = .ok (uss.drop lo).flatten.toArray w' := by
                  intro w' hw'
                  have hat : At w b' pre.length uss.flatten := ⟨cur, T, _, hblk, pre, post, hcur, rfl⟩
                  have hd := part_drop (E := ⟨w, m, s.hp, I⟩) hat huss lo (by omega)
                  have hd' : At w' b' (pre.length + lo * e'.sz) (uss.drop lo).flatten := hd.mono (by rw [hw'])
                  simp only [Builtin.firstCells]
                  refine run_loadCells_at hd' ?_
                  have := flat_split (sz := e'.sz) (vss := uss.drop lo) (uss.drop lo).length (fun v hv => hlens v (List.mem_of_mem_drop hv)) (Nat.le_refl _)
                  rw [List.take_length] at this
                  rw [this.2, ← hsz, List.length_drop, ← hull]
                obtain ⟨w', zv, hr, m', q1, q2⟩ := grow_ok (P := P) (ty := ty) hu hsrc hi hz hsz he hb hzs lg hnh (base := some ⟨b', pre.length + lo * e'.sz, none⟩) (sLen := l.length - lo) (sCap := c) (l := l.drop lo) (uss := uss.drop lo)
                  (huss.drop lo) (by simp) hold hall hsr (by omega) (by simpa using hfit)
                exact ⟨_, _, w', zv, h, hr, m', I, q1, q2⟩
          · cases h
        · cases h
      · cases h
end

end Go.AI
