/- THE BRIDGE, second part: a reading of an argument gives a datum. -/
import Derived.Test.YtaaliglpbjjclaaB0
namespace Go.AI
open Go.Proofs.Ytaaliglpbjjclaa
set_option linter.unusedVariables false
set_option linter.unusedSimpArgs false

section
variable {H : Type} {enc : TypeId × Value → H} {P : Program} {w : World} {T : TypeId → Prop}

/-- the cells from an address on are these -/
def Cl (w : World) (a : Addr) (cs : List Value) : Prop := ∀ i, i < cs.length → w.cell? (a.add i) = some (cs.getD i undef)

theorem Cl.append {a : Addr} {x y : List Value} (h : Cl w a x) (h' : Cl w (a.add x.length) y) : Cl w a (x ++ y) := by
  intro i hi
  by_cases hx : i < x.length
  · rw [h i hx]; simp [List.getD_eq_getElem?_getD, List.getElem?_append_left hx]
  · have := h' (i - x.length) (by simp at hi; omega)
    rw [Deep.add_add, show x.length + (i - x.length) = i by omega] at this
    rw [this]
    simp [List.getD_eq_getElem?_getD, List.getElem?_append_right (show x.length ≤ i by omega)]

theorem Cl.at {a : Addr} {cs : List Value} (h : Cl w a cs) (hne : cs ≠ []) : a.spot = none ∧ a.block < w.heap.size ∧ At w a.block a.off cs := by
  have h0 := h 0 (by cases cs <;> simp_all)
  rw [show a.add 0 = a by simp [Addr.add]] at h0
  have hsp : a.spot = none := by
    unfold World.cell? at h0
    split at h0
    · cases hs : a.spot with
      | none => rfl
      | some x => simp [hs] at h0
    · cases h0
  obtain ⟨b, o, sp⟩ := a
  simp only at hsp
  subst hsp
  have hat : At w b o cs := by
    refine at_of_cells hne fun i hi => ?_
    have := h i hi
    rw [← this]
    congr 1
    unfold Addr.add
    split
    · rename_i e; subst e; rfl
    · rfl
  exact ⟨rfl, hat.lt, hat⟩

theorem elems_rep {e : TypeId} {ty : Ty} {n : Nat} {a : Addr} {sp : Nat → Bool} (hsz : 0 < P.cellsOf e) (IH : ∀ (cs : List Value) (x : DataW H × List MemPlace), DataW.trod enc P w 0 sp true n e cs = some x → Reads w ty cs x.1) :
    ∀ (elems : List (DataW H × List MemPlace)) (k : Nat), (∀ i, i < elems.length → (w.cells? 0 (a.add ((k + i) * P.cellsOf e)) (P.cellsOf e)).bind (DataW.trod enc P w 0 sp true n e) = elems[i]?) →
      ∃ (vs : List ty.D) (css : List (List Value)), All2 (repT w (fun b => b < w.heap.size) ty) vs css ∧ vs.length = elems.length ∧ (∀ v ∈ vs, okD ty v) ∧ (vs.map (bulkD ty)).sum ≤ Rows.uptoBulkAll (elems.map (·.1)) ∧
        Cl w (a.add (k * P.cellsOf e)) css.flatten ∧ css.flatten.length = elems.length * P.cellsOf e
  | [], k, _ => ⟨[], [], trivial, rfl, by simp, by simp [Rows.uptoBulkAll], by intro i hi; simp at hi, by simp⟩
  | x :: elems, k, h => by
    have h0 := h 0 (by simp)
    simp only [Nat.add_zero, List.getElem?_cons_zero] at h0
    obtain ⟨cs, hc, hx⟩ := Option.bind_eq_some_iff.1 h0
    obtain ⟨v, q1, q2, q3⟩ := IH cs x hx
    obtain ⟨hlen, hcell⟩ := cells_at hc
    obtain ⟨vs, css, r1, r2, r3, r4, r5, r6⟩ := elems_rep hsz IH elems (k + 1) fun i hi => by
      have := h (i + 1) (by simpa using hi)
      rw [List.getElem?_cons_succ] at this
      rwa [show k + 1 + i = k + (i + 1) by omega]
    refine ⟨v :: vs, cs :: css, ⟨q1, r1⟩, by simp [r2], ?_, ?_, ?_, ?_⟩
    · intro u hu
      rcases List.mem_cons.1 hu with rfl | hu
      · exact q2
      · exact r3 u hu
    · simp only [List.map_cons, List.sum_cons, Rows.uptoBulkAll]; omega
    · rw [List.flatten_cons]
      refine Cl.append (fun i hi => hcell i (by omega)) ?_
      rw [Deep.add_add, hlen, show k * P.cellsOf e + P.cellsOf e = (k + 1) * P.cellsOf e by rw [Nat.add_mul]; omega]
      exact r5
    · simp only [List.flatten_cons, List.length_append, r6, hlen, List.length_cons, Nat.add_mul]; omega

theorem fields_rep {d : Nat} {n : Nat} {sp : Nat → Bool} {cs0 : List Value} (IH : ∀ (t : TypeId) (ty : Ty) (cs : List Value) (x : DataW H × List MemPlace), T t → tyF P d t = some ty → DataW.trod enc P w 0 sp true n t cs = some x → Reads w ty cs x.1) :
    ∀ (fs : List Field) (off : Nat) (ty : Ty) (xs : List (DataW H × List MemPlace)), (∀ f ∈ fs, T f.type) → (∀ (j : Nat) f, fs[j]? = some f → f.offset = off + ((fs.take j).map fun f => P.cellsOf f.type).sum) →
      off + (fs.map fun f => P.cellsOf f.type).sum ≤ cs0.length → combine (fs.map fun f => tyF P d f.type) = some ty →
      (fs.mapM fun f => DataW.trod enc P w 0 sp true n f.type ((cs0.drop f.offset).take (P.cellsOf f.type))) = some xs →
      ∃ v : ty.D, repT w (fun b => b < w.heap.size) ty v ((cs0.drop off).take (fs.map fun f => P.cellsOf f.type).sum) ∧ okD ty v ∧ bulkD ty v ≤ Rows.uptoBulkAll (xs.map (·.1))
  | [], off, ty, xs, _, _, _, hc, hm => by
    simp only [List.map_nil, combine, Option.some.injEq] at hc
    subst hc
    exact ⟨(), by simp [repT], trivial, Nat.zero_le _⟩
  | [f], off, ty, xs, hT, ho, hl, hc, hm => by
    simp only [List.map_cons, List.map_nil, combine] at hc
    rw [List.mapM_cons] at hm
    simp only [Option.bind_eq_bind, Option.bind_eq_some_iff, Option.pure_def, Option.some.injEq, List.mapM_nil] at hm
    obtain ⟨x, hx, xs', hxs', rfl⟩ := hm
    cases hxs'
    have hoff := ho 0 f rfl
    simp at hoff
    rw [hoff] at hx
    obtain ⟨v, q1, q2, q3⟩ := IH f.type ty _ x (hT f (by simp)) hc hx
    refine ⟨v, by simpa using q1, q2, ?_⟩
    simp only [List.map_cons, List.map_nil, Rows.uptoBulkAll]; omega
  | f :: g :: fs, off, ty, xs, hT, ho, hl, hc, hm => by
    simp only [List.map_cons, combine] at hc
    split at hc
    · rename_i ta tb hta htb
      simp only [Option.some.injEq] at hc; subst hc
      rw [List.mapM_cons] at hm
      simp only [Option.bind_eq_bind, Option.bind_eq_some_iff, Option.pure_def, Option.some.injEq] at hm
      obtain ⟨x, hx, xs', hxs', rfl⟩ := hm
      have hoff := ho 0 f rfl
      simp at hoff
      rw [hoff] at hx
      obtain ⟨v, q1, q2, q3⟩ := IH f.type ta _ x (hT f (by simp)) hta hx
      obtain ⟨u, r1, r2, r3⟩ := fields_rep IH (g :: fs) (off + P.cellsOf f.type) tb xs' (fun f' hf' => hT f' (by simp at hf' ⊢; exact .inr hf')) (fun j f' hj => by
        have := ho (j + 1) f' (by simpa using hj)
        simp only [List.take_succ_cons, List.map_cons, List.sum_cons] at this
        omega) (by simp only [List.map_cons, List.sum_cons] at hl ⊢; omega) (by simpa using htb) hxs'
      refine ⟨(v, u), ⟨_, _, ?_, q1, r1⟩, ⟨q2, r2⟩, ?_⟩
      · rw [List.map_cons, List.sum_cons, List.take_add, List.drop_drop]
      · simp only [bulkD, List.map_cons, Rows.uptoBulkAll] at r3 ⊢
        omega
    · cases hc

theorem trod_rep (K : Kids P T) (hz : ∀ t e, T t → P.underlying t = some (.slice e) → 0 < P.cellsOf e) {sp : Nat → Bool} : ∀ (d fuel : Nat) (t : TypeId) (ty : Ty) (cs : List Value) (x : DataW H × List MemPlace), T t → tyF P d t = some ty →
    DataW.trod enc P w 0 sp true fuel t cs = some x → Reads w ty cs x.1 := by
  intro d
  induction d with
  | zero => intro fuel t ty cs x _ h; simp [tyF] at h
  | succ d ih =>
    intro fuel t ty cs x hT hty h
    simp only [tyF] at hty
    split at hty
    · rename_i hu
      simp only [Option.some.injEq] at hty; subst hty
      cases fuel with
      | zero => simp [DataW.trod] at h
      | succ fuel =>
        simp only [DataW.trod, hu] at h
        split at h <;> simp_all
        subst h
        rename_i b
        exact ⟨b, by simp [repT], trivial, by simp [bulkD, Rows.uptoBulk]⟩
    · rename_i k hu
      simp only [Option.some.injEq] at hty; subst hty
      cases fuel with
      | zero => simp [DataW.trod] at h
      | succ fuel =>
        simp only [DataW.trod, hu] at h
        split at h <;> simp_all
        obtain ⟨⟨rfl, hw⟩, rfl⟩ := h
        simp only [Lit.wf, Bool.and_eq_true, decide_eq_true_eq] at hw
        exact ⟨_, by simp [repT], hw, by simp [bulkD, Rows.uptoBulk]⟩
    · rename_i hu
      simp only [Option.some.injEq] at hty; subst hty
      cases fuel with
      | zero => simp [DataW.trod] at h
      | succ fuel =>
        simp only [DataW.trod, hu] at h
        split at h <;> simp_all
        obtain ⟨_, rfl⟩ := h
        rename_i s _
        refine ⟨s, by simp [repT], trivial, ?_⟩
        simp [bulkD, Rows.uptoBulk]
    · rename_i e hu
      split at hty
      · rename_i te hte
        simp only [Option.some.injEq] at hty; subst hty
        rcases DataW.trod_slice hu h with ⟨rfl, rfl⟩ | ⟨a, len, cap, elems, rest, n, rfl, rfl, rfl, _, hlc, _, hlen, hel, _, _⟩
        · exact ⟨[], ⟨none, 0, 0, rfl, rfl, Nat.le_refl _, rfl, rfl⟩, by simp [okD], by simp [bulkD, Rows.uptoBulk]⟩
        · obtain ⟨vs, css, r1, r2, r3, r4, r5, r6⟩ := elems_rep (a := a) (hz t e hT hu) (fun cs x hx => ih n e te cs x (K.slice hT hu) hte hx) elems 0 fun i hi => by
            have := hel i (by omega)
            rwa [Nat.zero_add]
          refine ⟨vs, ⟨some a, len, cap, rfl, by omega, hlc, ?_⟩, r3, ?_⟩
          · by_cases hl0 : len = 0
            · exact .inl (List.eq_nil_of_length_eq_zero (by omega))
            · have hne : css.flatten ≠ [] := by
                intro e0
                rw [e0] at r6
                have h1 := hz t e hT hu
                have h2 : 0 < elems.length * P.cellsOf e := Nat.mul_pos (by omega) h1
                simp at r6; omega
              rw [Nat.zero_mul, show a.add 0 = a by simp [Addr.add]] at r5
              obtain ⟨q1, q2, q3⟩ := r5.at hne
              exact .inr ⟨q1, q2, css, q3, r1⟩
          · simp only [bulkD, Rows.uptoBulk]; omega
      · cases hty
    · rename_i fs hu
      cases fuel with
      | zero => simp [DataW.trod] at h
      | succ fuel =>
        obtain ⟨k1, k2, k3⟩ := K.struct hT hu
        simp only [DataW.trod, hu] at h
        split at h
        · rename_i hl
          simp only [Option.map_eq_some_iff] at h
          obtain ⟨xs, hxs, rfl⟩ := h
          obtain ⟨v, q1, q2, q3⟩ := fields_rep (T := T) (d := d) (fun t ty cs x hT hty hx => ih fuel t ty cs x hT hty hx) fs.toList 0 ty xs k1 (fun j f hj => by rw [k3 j f hj]; omega) (by rw [hl, k2]; omega) hty hxs
          rw [← k2, ← hl] at q1
          refine ⟨v, by simpa using q1, q2, ?_⟩
          simp only [Rows.uptoBulk]; omega
        · cases h
    · cases hty

end
end Go.AI
