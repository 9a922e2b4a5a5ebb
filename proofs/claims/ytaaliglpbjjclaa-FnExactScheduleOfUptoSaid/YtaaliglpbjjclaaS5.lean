/- SOUNDNESS: reading; data out of cells. -/
import Derived.Test.YtaaliglpbjjclaaS4
namespace Go.AI

theorem At.sub {w : World} {b o : Nat} {vs : List Value} (h : At w b o vs) (i n : Nat) : At w b (o + (vs.take i).length) ((vs.drop i).take n) := by
  have : vs = vs.take i ++ (vs.drop i).take n ++ (vs.drop i).drop n := by rw [List.append_assoc, List.take_append_drop, List.take_append_drop]
  rw [this] at h
  exact h.part
theorem At.sub' {w : World} {b o : Nat} {vs : List Value} (h : At w b o vs) (i n : Nat) (hi : i ≤ vs.length) : At w b (o + i) ((vs.drop i).take n) := by
  have := h.sub i n
  simpa [Nat.min_eq_left hi] using this
theorem At.nil_of {w : World} {b o : Nat} {vs : List Value} (h : At w b o vs) : At w b o [] := by
  have := h.sub' 0 0 (Nat.zero_le _)
  simpa using this

theorem flat_split {vss : List (List Value)} {sz : Nat} : ∀ (i : Nat), (∀ v ∈ vss, v.length = sz) → i ≤ vss.length →
    vss.flatten = (vss.take i).flatten ++ (vss.drop i).flatten ∧ (vss.take i).flatten.length = i * sz := by
  induction vss with
  | nil => intro i _ hi; simp at hi; subst hi; simp
  | cons v vss ih =>
    intro i hv hi
    cases i with
    | zero => simp
    | succ i =>
      obtain ⟨h1, h2⟩ := ih i (fun u hu => hv u (by simp [hu])) (by simpa using hi)
      have := hv v (by simp)
      simp only [List.take_succ_cons, List.drop_succ_cons, List.flatten_cons, List.append_assoc, List.length_append]
      rw [← h1, h2, this, Nat.add_mul]
      exact ⟨rfl, by omega⟩

section
variable {E : Env} {e : Ty} {l : List e.D} {vss : List (List Value)} {b o : Nat}
theorem lens_of (h : All2 (repT E.w E.I e) l vss) : ∀ v ∈ vss, v.length = e.sz := by
  induction l generalizing vss with
  | nil => cases vss <;> simp_all [All2]
  | cons x l ih => cases vss with
    | nil => simp [All2] at h
    | cons v vss =>
      intro u hu
      rcases List.mem_cons.1 hu with rfl | hu
      · exact repT_len h.1
      · exact ih h.2 u hu

theorem part_drop (hat : At E.w b o vss.flatten) (h : All2 (repT E.w E.I e) l vss) (i : Nat) (hi : i ≤ l.length) : At E.w b (o + i * e.sz) (vss.drop i).flatten := by
  have hl := h.length
  obtain ⟨h1, h2⟩ := flat_split i (lens_of h) (by omega)
  rw [h1] at hat
  have : At E.w b o ((vss.take i).flatten ++ (vss.drop i).flatten ++ []) := by simpa using hat
  rw [← h2]; exact this.part
theorem At.pre {w : World} {b o : Nat} {l m : List Value} (h : At w b o (l ++ m)) : At w b o l := by
  have : At w b o ([] ++ l ++ m) := by simpa using h
  simpa using this.part
theorem part_take (hat : At E.w b o vss.flatten) (h : All2 (repT E.w E.I e) l vss) (i : Nat) (hi : i ≤ l.length) : At E.w b o (vss.take i).flatten := by
  have hl := h.length
  obtain ⟨h1, h2⟩ := flat_split i (lens_of h) (by omega)
  rw [h1] at hat
  exact hat.pre

theorem elem_at (hat : At E.w b o vss.flatten) (h : All2 (repT E.w E.I e) l vss) (i : Nat) (hi : i < l.length) :
    At E.w b (o + i * e.sz) (vss.getD i []) ∧ repT E.w E.I e (l.getD i e.d0) (vss.getD i []) := by
  refine ⟨?_, h.get i _ _ hi⟩
  have hd := part_drop hat h i (by omega)
  have hl := h.length
  cases hv : vss.drop i with
  | nil => have := congrArg List.length hv; simp at this; omega
  | cons v r =>
    rw [hv] at hd
    simp only [List.flatten_cons] at hd
    have : vss.getD i [] = v := by
      have := congrArg (fun l => l[0]?) hv
      simp at this
      simp [List.getD_eq_getElem?_getD, this]
    rw [this]; exact hd.pre
end

theorem relC_getLen {E : Env} {cs : List AV} {vs : List Value} (h : relC E cs vs) : vs.length = cs.length := (relC_length h).symm

/-- what an owned or an immutable array root stands for -/
theorem arr_at {E : Env} {h : Nat} {e : Ty} {l : List e.D} {own : Bool} {b o : Nat} (H : arrOk E h e l own) (hm : E.m h = some (b, o)) :
    ∃ vss, At E.w b o vss.flatten ∧ All2 (repT E.w E.I e) l vss := by
  rcases H.2 with ⟨h1, _⟩ | ⟨b', o', vss, h1, h2, h3⟩
  · rw [h1] at hm; cases hm
  · rw [h1] at hm; obtain ⟨rfl, rfl⟩ := Prod.mk.inj (Option.some.inj hm)
    refine ⟨vss, ?_, h3⟩
    cases own with
    | true => simp only [if_true] at h2; exact h2.2.at
    | false => simp only [Bool.false_eq_true, if_false] at h2; exact h2.2

theorem elem_cells {E : Env} {h : Nat} {e : Ty} {l : List e.D} {own : Bool} {i f n : Nat} {x : Value} (H : arrOk E h e l own)
    (hr : ∃ b o, E.m h = some (b, o) ∧ x = .pointer (some ⟨b, o + i * e.sz + f, none⟩) ∧ i < l.length) (hn : f + n ≤ e.sz) :
    ∃ b o vs, x = .pointer (some ⟨b, o, none⟩) ∧ At E.w b o vs ∧ relC E (((cellsI e (l.getD i e.d0)).drop f).take n) vs ∧ (((cellsI e (l.getD i e.d0)).drop f).take n).length = n := by
  obtain ⟨b, o, hm, rfl, hi⟩ := hr
  obtain ⟨vss, hat, hall⟩ := arr_at H hm
  obtain ⟨h1, h2⟩ := elem_at hat hall i hi
  have hc : relC E (cellsI e (l.getD i e.d0)) (vss.getD i []) := cellsI_ok rfl h2
  have hl := repT_len h2
  refine ⟨b, _, _, rfl, h1.sub' f n (by omega), relC_take n (relC_drop f hc), ?_⟩
  have := relC_length hc
  rw [List.length_take, List.length_drop]; omega

theorem cells_ok {E : Env} {s : St} {n : Nat} {v : AV} {x : Value} {cs : List AV} (H : HeapRel E) (hs : E.hp = s.hp) (hx : relV E v x) (hc : s.cells n v = some cs) :
    ∃ b o vs, x = .pointer (some ⟨b, o, none⟩) ∧ At E.w b o vs ∧ relC E cs vs ∧ cs.length = n := by
  unfold St.cells at hc
  split at hc
  · rename_i cs0
    obtain ⟨hb, hc⟩ := cond_none hc
    simp only [Option.some.injEq] at hc; subst hc
    simp only [relV] at hx
    obtain ⟨b, o, vs, rfl, hI, hat, hr⟩ := hx
    have hn : n ≤ cs0.length := Nat.le_of_ble_eq_true hb
    have := hat.sub' 0 n (Nat.zero_le _)
    refine ⟨b, o, vs.take n, rfl, by simpa using this, relC_take n hr, by simp; omega⟩
  · rename_i h i f
    have hroot := H.root h
    simp only [relV] at hx
    rw [hs] at hroot hx
    split at hc
    · rename_i cs0 hg
      obtain ⟨hb, hc⟩ := cond_none hc
      simp only [Option.some.injEq] at hc; subst hc
      rw [hg] at hroot hx
      obtain ⟨b, hm, rfl⟩ := hx
      obtain ⟨b', vs, T, h1, h2, h3, h4⟩ := hroot
      rw [h1] at hm; obtain ⟨rfl, _⟩ := Prod.mk.inj (Option.some.inj hm)
      have hn : f + n ≤ cs0.length := Nat.le_of_ble_eq_true hb
      have hl := relC_length h4
      have hat : At E.w b' 0 vs.toList := ⟨vs, T, _, h3, [], [], by simp, rfl⟩
      have := hat.sub' f n (by omega)
      refine ⟨b', f, _, rfl, by simpa using this, relC_take n (relC_drop f h4), by simp; omega⟩
    · rename_i e l hg
      obtain ⟨hb, hc⟩ := cond_none hc
      simp only [Option.some.injEq] at hc; subst hc
      rw [hg] at hroot hx
      exact elem_cells hroot hx (Nat.le_of_ble_eq_true hb)
    · rename_i e l hg
      obtain ⟨hb, hc⟩ := cond_none hc
      simp only [Option.some.injEq] at hc; subst hc
      rw [hg] at hroot hx
      exact elem_cells hroot hx (Nat.le_of_ble_eq_true hb)
    · cases hc
  · cases hc

section
variable {P : Program} {w : World}
theorem run_loadCells_at {b o n : Nat} {vs : List Value} (h : At w b o vs) (hn : vs.length = n) : (loadCells ⟨b, o, none⟩ n).run P w = .ok vs.toArray w := by
  subst hn
  apply run_loadCells_list
  intro j v hj
  have hlt : j < vs.length := by
    rcases Nat.lt_or_ge j vs.length with h | h
    · exact h
    · rw [List.getElem?_eq_none h] at hj; cases hj
  have hadd : (⟨b, o, none⟩ : Addr).add j = ⟨b, o + j, none⟩ := by unfold Addr.add; split <;> simp_all
  rw [hadd, h.cell j hlt]
  simp [List.getD_eq_getElem?_getD, hj]

theorem ldT_agg {t : TypeId} {n : Nat} (h : ldT P t = some (true, n)) : (isAgg t).run P w = .ok true w ∧ (sizeOf t).run P w = .ok n w := by
  unfold ldT at h
  split at h <;> try (simp at h; done)
  · rename_i hu hi
    simp at h; subst h
    exact ⟨by simp [isAgg, underlying, hu], by simp [sizeOf, typeInfo, hi]⟩
  · rename_i hu hi
    simp at h; subst h
    exact ⟨by simp [isAgg, underlying, hu], by simp [sizeOf, typeInfo, hi]⟩
theorem ldT_one {t : TypeId} {n : Nat} (h : ldT P t = some (false, n)) : (isAgg t).run P w = .ok false w ∧ (sizeOf t).run P w = .ok n w := by
  unfold ldT at h
  split at h <;> try (simp at h; done)
  rename_i d i h1 h2 hu hi
  simp at h; subst h
  refine ⟨?_, by simp [sizeOf, typeInfo, hi]⟩
  cases d <;> first
    | exact (h1 _ rfl).elim
    | exact (h2 _ _ rfl).elim
    | simp [isAgg, underlying, hu]
theorem ldT_size {t : TypeId} {a : Bool} {n : Nat} (h : ldT P t = some (a, n)) : (sizeOf t).run P w = .ok n w := by
  cases a with
  | true => exact (ldT_agg h).2
  | false => exact (ldT_one h).2
end

end Go.AI
