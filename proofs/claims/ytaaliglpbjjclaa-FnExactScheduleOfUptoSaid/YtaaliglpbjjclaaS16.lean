/- SOUNDNESS: any operation. -/
import Derived.Test.YtaaliglpbjjclaaS15
namespace Go.AI
set_option linter.unusedVariables false
set_option linter.unusedSimpArgs false

section
variable {P : Program} {A : Env} {keep : Nat} {w : World} {m : Nat → Option (Nat × Nat)} {I : Nat → Prop} {s : St} {o : Oper} {a : Act} {K : St → AV → R} {r : Res}

theorem arr_one {α : Type} {xs : Array α} {f : α → AV} {y : AV} (h : xs.toList.map f = [y]) : ∃ x, xs = #[x] ∧ f x = y := by
  cases xs with
  | mk l =>
    cases l with
    | nil => cases h
    | cons x l => cases l with
      | nil => simp at h; exact ⟨x, rfl, h⟩
      | cons _ _ => simp at h
theorem arr_two {α : Type} {xs : Array α} {f : α → AV} {y z : AV} (h : xs.toList.map f = [y, z]) : ∃ x x', xs = #[x, x'] ∧ f x = y ∧ f x' = z := by
  cases xs with
  | mk l =>
    cases l with
    | nil => cases h
    | cons x l => cases l with
      | nil => simp at h
      | cons x' l => cases l with
        | nil => simp at h; exact ⟨x, x', rfl, h.1, h.2⟩
        | cons _ _ => simp at h
theorem arr_of {α : Type} {xs : Array α} {l : List α} (h : xs.toList = l) : xs = l.toArray := by subst h; simp

theorem op_built {c : Call} {b : Builtin} {id : Nat} (ho : o.op = .call c) (hc : c.callee = .builtin b) (hg : Good A keep ⟨w, m, s.hp, I⟩ s.tm a.tmps)
    (h : builtA P b c.argTypes.toList (c.args.toList.map s.ev) id s K = some r) : Done P o a w A keep K r := by
  unfold builtA at h
  split at h
  · rename_i t x hts has
    obtain ⟨y, hy, rfl⟩ := arr_one has
    exact op_len (args := []) (vals := #[]) ho hc hy (arr_of hts) hg h
  · rename_i t u x y hts has
    obtain ⟨x', y', hy, rfl, rfl⟩ := arr_two has
    exact op_append ho hc hy (arr_of hts) hg h
  · rename_i k p k' q has
    obtain ⟨x', y', hy, h1, h2⟩ := arr_two has
    exact op_max (big := true) ho (by simpa using hc) hy hg (by rw [h1, h2]; simpa using h)
  · rename_i k p k' q has
    obtain ⟨x', y', hy, h1, h2⟩ := arr_two has
    exact op_max (big := false) ho (by simpa using hc) hy hg (by rw [h1, h2]; simpa using h)
  · cases h

theorem op_call {tab : List Ent} (ht : ∀ e ∈ tab, Sound P e.f e.S) {c : Call} {f : Operand} {g : FuncId} {caps : List AV} {id : Nat} (ho : o.op = .call c) (hc : c.callee = .value f) (hf : s.ev f = .fn g caps)
    (hg : Good A keep ⟨w, m, s.hp, I⟩ s.tm a.tmps) (h : callA P tab g (c.args.toList.map s.ev ++ caps) id s K = some r) : Done P o a w A keep K r := by
  have hx := ev_rel hg.tm f
  rw [hf] at hx
  simp only [relV] at hx
  obtain ⟨cv, hfv, hcv⟩ := hx
  have hrel : relL ⟨w, m, s.hp, I⟩ (c.args.toList.map s.ev ++ caps) ((c.args.map a.eval) ++ cv).toList := by
    rw [Array.toList_append]
    refine relL_iff.2 ((relL_iff.1 ?_).append (relL_iff.1 hcv))
    have := evs_rel hg c.args.toList
    simpa using this
  obtain ⟨s2, v2, hK, hcall⟩ := callA_ok ht hg hrel h
  have hrun : (execOp a.eval o).run P w = (callFunc g ((c.args.map a.eval) ++ cv)).run P w := by
    simp [execOp, ho, resolve, hc, hfv, Deferred.ofValue, invoke]
  refine ⟨s2, v2, hK, ?_⟩
  rcases hcall with ⟨x, w', h1, h2⟩ | ⟨g', args, w', h1, h2⟩
  · exact .inl ⟨x, w', hrun.trans h1, h2⟩
  · exact .inr (.inr ⟨g', args, w', hrun.trans h1, h2⟩)

theorem asStr_ok {v : AV} {b : ByteArray} (h : asStr v = some b) : v = .val (.string b) := by
  unfold asStr at h
  split at h
  · cases h; rfl
  · cases h

theorem opA_ok {tab : List Ent} (ht : ∀ e ∈ tab, Sound P e.f e.S) (hg : Good A keep ⟨w, m, s.hp, I⟩ s.tm a.tmps) (h : opA P tab o s K = some r) : Done P o a w A keep K r := by
  unfold opA at h
  simp only at h
  split at h
  · rename_i x ho; exact op_move (.inl ho) hg h
  · rename_i x ho; exact op_move (.inr ho) hg h
  · rename_i c x y ho; exact op_pick ho hg h
  · rename_i t ho; exact op_alloc ho hg h
  · rename_i t x ho; exact op_box ho hg h
  · rename_i t ps ho; exact op_build ho hg h
  · rename_i t n ps ho; exact op_buildSlice ho hg h
  · rename_i t x ho; exact op_load ho hg h
  · rename_i t x y ho; exact op_store ho hg h
  · rename_i x ho; exact op_nil ho hg h
  · rename_i op t x y ty ho; exact op_bin ho hg (by cases y <;> exact h)
  · rename_i op t x ho; exact op_un ho hg h
  · rename_i src dst x ho; exact op_conv ho hg h
  · rename_i f first caps ho; exact op_fn ho hg h
  · rename_i t l c ho; exact op_makeSlice ho hg h
  · rename_i t x lo hi mx ho
    split at h
    · split at h
      · rename_i b k hk
        split at h
        · rename_i j et e bytes len hj hel hlen
          obtain ⟨hc, h⟩ := chk_some h
          simp only [Bool.and_eq_true, decide_eq_true_eq] at hc
          obtain ⟨rfl, rfl⟩ := hc
          exact op_slice_0 ho hg hk hj hel hlen h
        · cases h
      · cases h
    split at h
    · rename_i b hx
      have hx := asStr_ok hx
      split at h
      · rename_i hu
        obtain ⟨c1, h⟩ := chk_some h
        obtain ⟨c2, h⟩ := chk_some h
        obtain ⟨c3, h⟩ := chk_some h
        have c1 := of_decide_eq_true c1
        have c2 := of_decide_eq_true c2
        have c3 := of_decide_eq_true c3
        refine op_slice_str _ _ ho hg hx hu ?_ ?_ c1 c2 c3 h
        · cases lo with
          | none => rfl
          | some y =>
            simp only [St.bnd] at c1 ⊢
            cases hy : intOf? (s.ev y) with
            | none => rw [hy] at c1; simp at c1
            | some n => rfl
        · cases hi with
          | none => rfl
          | some y =>
            have hc2 := Int.le_trans c1 c2
            simp only [St.bnd] at hc2 ⊢
            cases hy : intOf? (s.ev y) with
            | none => rw [hy] at hc2; simp at hc2
            | some n => rfl
      · cases h
    · split at h
      · rename_i n sz hn hz
        have hh := cond_none h
        clear h
        obtain ⟨hs, h⟩ := hh
        split at h
        · split at h
          · rename_i v2 hv
            exact op_slice_s (lo := none) (hi := none) 0 (n : Nat) ho hg hn hz hs rfl rfl (by omega) (by omega) (by omega) hv h
          · cases h
        · rename_i y
          split at h
          · rename_i l hl
            obtain ⟨c1, h⟩ := chk_some h
            obtain ⟨c2, h⟩ := chk_some h
            have c1 := of_decide_eq_true c1
            have c2 := of_decide_eq_true c2
            split at h
            · rename_i v2 hv
              exact op_slice_s (lo := some y) (hi := none) l (n : Nat) ho hg hn hz hs hl rfl c1 c2 (by omega) hv h
            · cases h
          · cases h
        · rename_i y
          split at h
          · rename_i l hl
            obtain ⟨c1, h⟩ := chk_some h
            obtain ⟨c2, h⟩ := chk_some h
            have c1 := of_decide_eq_true c1
            have c2 := of_decide_eq_true c2
            split at h
            · rename_i v2 hv
              exact op_slice_s (lo := none) (hi := some y) 0 l ho hg hn hz hs rfl hl (by omega) c1 c2 hv h
            · cases h
          · cases h
        · rename_i y z
          split at h
          · rename_i l l' hl hl'
            obtain ⟨c1, h⟩ := chk_some h
            obtain ⟨c2, h⟩ := chk_some h
            obtain ⟨c3, h⟩ := chk_some h
            have c1 := of_decide_eq_true c1
            have c2 := of_decide_eq_true c2
            have c3 := of_decide_eq_true c3
            split at h
            · rename_i v2 hv
              exact op_slice_s (lo := some y) (hi := some z) l l' ho hg hn hz hs hl hl' c1 c2 c3 hv h
            · cases h
          · cases h
      · cases h
  · rename_i t x f ho; exact op_fieldAddr ho hg h
  · rename_i t x f ho; exact op_field ho hg h
  · rename_i t x i ho; exact op_indexAddr ho hg h
  · rename_i t x i ho; exact op_index ho hg h
  · rename_i x i ho; exact op_extract ho hg h
  · rename_i c ho
    split at h
    · rename_i b hc; exact op_built ho hc hg h
    · rename_i f hc
      split at h
      · rename_i g caps hf; exact op_call ht ho hc hf hg h
      · cases h
    · cases h
  · cases h

end
end Go.AI
