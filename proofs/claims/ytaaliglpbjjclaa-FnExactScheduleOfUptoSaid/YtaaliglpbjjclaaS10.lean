/- SOUNDNESS: slicing, fields, literals, make. -/
import Derived.Test.YtaaliglpbjjclaaS9
namespace Go.AI
set_option linter.unusedVariables false
set_option linter.unusedSimpArgs false

section
variable {P : Program} {A : Env} {keep : Nat} {w : World} {m : Nat → Option (Nat × Nat)} {I : Nat → Prop} {s : St} {o : Oper} {a : Act} {K : St → AV → R} {r : Res}

/-- bounds of a slice expression -/
theorem run_sliceBounds {isSlice : Bool} {n c : Nat} {lo hi : Option Value} {l h : Nat}
    (hh : match hi with | none => h = n | some v => ∃ k, v = .int k (h : Int))
    (hl : match lo with | none => l = 0 | some v => ∃ k, v = .int k (l : Int)) (h1 : l ≤ h) (h2 : h ≤ (if isSlice then c else n)) (h3 : isSlice = false → c = n) :
    (Instr.sliceBounds isSlice n c lo hi none).run P w = .ok (l, h, c) w := by
  have hc : h ≤ c := by cases isSlice <;> simp_all
  unfold Instr.sliceBounds
  have e1 : ∀ (x : Nat) (k : IntKind) (y : Nat) (code : BoundsCode), x ≤ y → (Instr.sliceBound (.int k (x : Int)) y code).run P w = .ok x w := by
    intro x k y code hxy
    simp [Instr.sliceBound, asIntOf, hxy]
  cases hi with
  | none =>
    simp only at hh; subst hh
    cases lo with
    | none => simp only at hl; subst hl; simp
    | some v => obtain ⟨k, rfl⟩ := hl; simp [e1 l k h _ h1]
  | some v =>
    obtain ⟨k, rfl⟩ := hh
    cases lo with
    | none => simp only at hl; subst hl; simp [e1 h k c _ hc]
    | some v => obtain ⟨k', rfl⟩ := hl; simp [e1 h k c _ hc, e1 l k' h _ h1]

theorem run_slice_of {t e : TypeId} {i : TypeInfo} (hu : P.underlying t = some (.slice e)) (hi : P.info? e = some i) {ad : Option Addr} {n c : Nat} {lo hi' : Option Value} {l h : Nat}
    (hb : (Instr.sliceBounds true n c lo hi' none).run P w = .ok (l, h, c) w) :
    (Instr.sliceAt t (.slice ad n c) lo hi' none).run P w = .ok (.slice (if c = l then ad else ad.map (·.add (l * i.size))) (h - l) (c - l)) w := by
  simp [Instr.sliceAt, Instr.slice, underlying, hu, hb, sizeOf, typeInfo, hi]

/-- a part of a slice value -/
theorem subV_ok {v v2 : AV} {x : Value} {l h k sz : Nat} {ho : Option Nat} (H : HeapRel ⟨w, m, s.hp, I⟩) (hx : relV ⟨w, m, s.hp, I⟩ v x) (hlen : s.len v = some k) (hs : s.szOk sz v = true)
    (hv : subV v l ho = some v2) (h1 : l ≤ h) (h2 : h ≤ k) (hho : ho = some h ∨ (ho = none ∧ h = k)) :
    ∃ ad c, x = .slice ad k c ∧ k ≤ c ∧ relV ⟨w, m, s.hp, I⟩ v2 (.slice (if c = l then ad else ad.map (·.add (l * sz))) (h - l) (c - l)) := by
  unfold subV at hv
  split at hv
  · rename_i e ls nn
    simp only [Option.some.injEq] at hv; subst hv
    simp only [St.len, Option.some.injEq] at hlen; subst hlen
    have hs : e.sz = sz := Nat.eq_of_beq_eq_true hs
    simp only [relV] at hx
    obtain ⟨ad, n, c, rfl, hr, hn1, hn2⟩ := hx
    obtain ⟨rfl, hnc, h3⟩ := hr
    refine ⟨ad, c, rfl, hnc, ?_⟩
    have hlist : subL ls l ho = (ls.take h).drop l := by
      rcases hho with rfl | ⟨rfl, rfl⟩
      · rfl
      · simp [subL]
    simp only [relV, hlist]
    have hlen' : ((ls.take h).drop l).length = h - l := by simp; omega
    have hrep : repS w I (repT w I e) ((ls.take h).drop l) (if c = l then ad else ad.map (·.add (l * sz))) (h - l) (c - l) := by
      refine ⟨hlen'.symm, by omega, ?_⟩
      cases ad with
      | none =>
        obtain ⟨rfl, rfl⟩ := h3
        have e1 : (if 0 = l then none else Option.map (fun x => Addr.add x (l * sz)) none) = (none : Option Addr) := by split <;> rfl
        simp only [e1]
        exact ⟨by simp, by omega⟩
      | some ad =>
        by_cases hcl : c = l
        · have e1 : (ls.take h).drop l = [] := List.eq_nil_of_length_eq_zero (by rw [hlen']; omega)
          rw [if_pos hcl]
          exact .inl e1
        · rw [if_neg hcl]
          rcases h3 with rfl | ⟨hsp, hI, vss, hat, hall⟩
          · left; simp
          · have had : ad.add (l * sz) = ⟨ad.block, ad.off + l * sz, none⟩ := by cases ad; unfold Addr.add; split <;> simp_all
            simp only [Option.map_some, had]
            right
            refine ⟨trivial, ?_⟩
            have hd := part_drop (E := ⟨w, m, s.hp, I⟩) hat hall l (by omega)
            refine ⟨hI, (vss.take h).drop l, ?_, (hall.take h).drop l⟩
            have hh : All2 (repT w I e) (ls.drop l) (vss.drop l) := hall.drop l
            have := part_take (E := ⟨w, m, s.hp, I⟩) hd hh (h - l) (by simp; omega)
            rw [← hs, List.drop_take]
            exact this
    refine ⟨_, _, _, rfl, hrep, ?_, ?_⟩
    · intro hnn
      have := hn1 hnn
      cases ad with
      | none => simp at this
      | some ad => split <;> simp
    · intro hnn
      have := hn2 hnn
      subst this; split <;> rfl
  · rename_i hh l0 len
    simp only [Option.some.injEq] at hv; subst hv
    have go : ∀ (e : Ty) (n : Nat), k = lenL n l0 len → e.sz = sz → refR w (m hh) e n l0 len x →
        ∃ ad c, x = .slice ad k c ∧ k ≤ c ∧ refR w (m hh) e n (l + l0) (subN l ho len) (.slice (if c = l then ad else ad.map (·.add (l * sz))) (h - l) (c - l)) := by
      intro e n hk he hR
      obtain ⟨hb, hR⟩ := hR
      rw [← hk] at hb
      have hnew : lenL n (l + l0) (subN l ho len) = h - l := by
        rcases hho with rfl | ⟨rfl, rfl⟩
        · rfl
        · cases len with
          | none => simp only [lenL, subN] at hk ⊢; omega
          | some q => simp only [lenL, subN] at hk ⊢; omega
      rcases hR with ⟨h0, ad, rfl⟩ | ⟨b, of, c, hm, rfl, hkc, hsz⟩
      · rw [← hk] at h0
        subst h0
        have : l = 0 := by omega
        subst this
        have : h = 0 := by omega
        subst this
        refine ⟨ad, 0, rfl, Nat.le_refl _, ?_⟩
        refine ⟨by rw [hnew]; omega, .inl ⟨hnew, ad, by simp⟩⟩
      · rw [← hk] at hkc
        refine ⟨_, c, by rw [← hk], hkc, ?_⟩
        refine ⟨by rw [hnew]; omega, ?_⟩
        by_cases hcl : c = l
        · left
          exact ⟨by rw [hnew]; omega, _, by simp only [hcl, if_true]; congr 1 <;> omega⟩
        · right
          refine ⟨b, of, c - l, hm, ?_, by rw [hnew]; omega, ?_⟩
          · simp only [hcl, if_false, Option.map_some, hnew]
            have hadd : (⟨b, of + l0 * e.sz, none⟩ : Addr).add (l * sz) = ⟨b, of + l0 * e.sz + l * sz, none⟩ := by unfold Addr.add; split <;> simp_all
            rw [hadd, ← he, Nat.add_mul]; congr 3; omega
          · rw [show l + l0 + (c - l) = l0 + c by omega]; exact hsz
    simp only [relV] at hx ⊢
    simp only [St.len, St.szOk] at hlen hs
    cases hgt : getH s.hp hh with
    | gone => rw [hgt] at hlen; cases hlen
    | box cs =>
      rw [hgt] at hlen hs hx
      simp only [Option.some.injEq] at hlen
      exact go .bool cs.length hlen.symm (Nat.eq_of_beq_eq_true hs) hx
    | arr e ls =>
      rw [hgt] at hlen hs hx
      simp only [Option.some.injEq] at hlen
      exact go e ls.length hlen.symm (Nat.eq_of_beq_eq_true hs) hx
    | imm e ls =>
      rw [hgt] at hlen hs hx
      simp only [Option.some.injEq] at hlen
      exact go e ls.length hlen.symm (Nat.eq_of_beq_eq_true hs) hx
  · cases hv

/-- the bounds of a slice expression as numbers -/
def loI (s : St) : Option Operand → Option Int
  | none => some 0
  | some y => intOf? (s.ev y)

theorem op_slice_s {t : TypeId} {x : Operand} {lo hi : Option Operand} {n sz : Nat} {v2 : AV} (l h : Int) (ho : o.op = .slice t x lo hi none) (hg : Good A keep ⟨w, m, s.hp, I⟩ s.tm a.tmps)
    (hn : s.len (s.ev x) = some n) (hz : elemSz P t = some sz) (hs : s.szOk sz (s.ev x) = true)
    (hl : match lo with | none => l = 0 | some y => intOf? (s.ev y) = some l) (hh : match hi with | none => h = (n : Nat) | some y => intOf? (s.ev y) = some h) (h0 : 0 ≤ l) (h1 : l ≤ h) (h2 : h ≤ (n : Nat))
    (hv : subV (s.ev x) l.toNat (match hi with | none => none | some _ => some h.toNat) = some v2) (hK : K s v2 = some r) : Done P o a w A keep K r := by
  have hx := ev_rel hg.tm x
  obtain ⟨e, i, hu, hi', hisz⟩ := elemSz_ok hz
  subst hisz
  obtain ⟨ad, c, hxe, hnc, hrel⟩ := subV_ok (h := h.toNat) hg.heap hx hn hs hv (by omega) (by omega) (by
    cases hi with
    | none => simp only at hh; subst hh; exact .inr ⟨rfl, by omega⟩
    | some y => exact .inl rfl)
  have hb := run_sliceBounds (P := P) (w := w) (isSlice := true) (n := n) (c := c) (lo := lo.map a.eval) (hi := hi.map a.eval) (l := l.toNat) (h := h.toNat)
    (by
      cases hi with
      | none => simp only at hh ⊢; simp [hh]
      | some y =>
        obtain ⟨k, hk⟩ := intOf_ok hh (ev_rel hg.tm y)
        exact ⟨k, by rw [hk]; congr 1; omega⟩)
    (by
      cases lo with
      | none => simp only at hl ⊢; simp [hl]
      | some y =>
        obtain ⟨k, hk⟩ := intOf_ok hl (ev_rel hg.tm y)
        exact ⟨k, by rw [hk]; congr 1; omega⟩) (by omega) (by simp; omega) (by simp)
  refine Done.same hg hK ?_ hrel
  simp [execOp, ho, hxe, run_slice_of hu hi' hb]

theorem op_slice_str {t : TypeId} {x : Operand} {lo hi : Option Operand} {b : ByteArray} (l h : Int) (ho : o.op = .slice t x lo hi none) (hg : Good A keep ⟨w, m, s.hp, I⟩ s.tm a.tmps)
    (hx : s.ev x = .val (.string b)) (hu : P.underlying t = some .string)
    (hl : match lo with | none => l = 0 | some y => intOf? (s.ev y) = some l) (hh : match hi with | none => h = (b.size : Nat) | some y => intOf? (s.ev y) = some h) (h0 : 0 ≤ l) (h1 : l ≤ h) (h2 : h ≤ (b.size : Nat))
    (hK : K s (.val (.string (b.extract l.toNat h.toNat))) = some r) : Done P o a w A keep K r := by
  have hx' := ev_rel hg.tm x
  rw [hx] at hx'; simp only [relV] at hx'
  have hb := run_sliceBounds (P := P) (w := w) (isSlice := false) (n := b.size) (c := b.size) (lo := lo.map a.eval) (hi := hi.map a.eval) (l := l.toNat) (h := h.toNat)
    (by
      cases hi with
      | none => simp only at hh ⊢; simp [hh]
      | some y =>
        obtain ⟨k, hk⟩ := intOf_ok hh (ev_rel hg.tm y)
        exact ⟨k, by rw [hk]; congr 1; omega⟩)
    (by
      cases lo with
      | none => simp only at hl ⊢; simp [hl]
      | some y =>
        obtain ⟨k, hk⟩ := intOf_ok hl (ev_rel hg.tm y)
        exact ⟨k, by rw [hk]; congr 1; omega⟩) (by omega) (by simp; omega) (by simp)
  refine Done.same hg hK (x := .string (b.extract l.toNat h.toNat)) ?_ (by simp [relV])
  simp [execOp, ho, hx', Instr.sliceAt, Instr.slice, underlying, hu, hb]

theorem op_field {t : TypeId} {y : Operand} {f : Nat} (ho : o.op = .field t y f) (hg : Good A keep ⟨w, m, s.hp, I⟩ s.tm a.tmps)
    (h : (match fieldT P t f, s.ev y with
    | some fd, .agg cs => (match ldT P fd.type with
      | some (true, n) => cond (Nat.ble (fd.offset + n) cs.length) (K s (.agg ((cs.drop fd.offset).take n))) none
      | some (false, _) => (match (cs.drop fd.offset).take 1 with | [v] => K s v | _ => none)
      | none => none)
    | _, _ => none) = some r) : Done P o a w A keep K r := by
  have hy := ev_rel hg.tm y
  split at h
  · rename_i fd cs hf hv
    rw [hv] at hy; simp only [relV] at hy
    obtain ⟨vs, hx, hc⟩ := hy
    have hu : ∃ fs, P.underlying t = some (.struct fs) ∧ fs[f]? = some fd := by
      unfold fieldT at hf
      split at hf
      · exact ⟨_, by assumption, hf⟩
      · cases hf
    obtain ⟨fs, hu, hfd⟩ := hu
    have hl := relC_length hc
    split at h
    · rename_i n hld
      obtain ⟨hle, h⟩ := cond_none h
      have hle := Nat.le_of_ble_eq_true hle
      refine Done.same hg h (x := .agg (vs.extract fd.offset (fd.offset + n))) ?_ ?_
      · simp [execOp, ho, hx, Instr.field, underlying, hu, hfd, asAgg, part, (ldT_agg (P := P) (w := w) hld).1, (ldT_agg (P := P) (w := w) hld).2]
      · simp only [relV]
        refine ⟨_, rfl, ?_⟩
        have := relC_take n (relC_drop fd.offset hc)
        have e : (vs.extract fd.offset (fd.offset + n)).toList = (vs.toList.drop fd.offset).take n := by
          rw [Array.toList_extract]; simp [List.extract_eq_take_drop]
        rw [e]; exact this
    · rename_i n hld
      split at h
      · rename_i v hv1
        have hd := relC_take 1 (relC_drop fd.offset hc)
        rw [hv1] at hd
        cases hvs : (vs.toList.drop fd.offset).take 1 with
        | nil => rw [hvs] at hd; simp [relC] at hd
        | cons u us =>
          rw [hvs] at hd
          simp only [relC] at hd
          have hu' : vs[fd.offset]? = some u := by
            have := congrArg (fun l => l[0]?) hvs
            simpa using this
          refine Done.same hg h (x := u) ?_ hd.2.1
          simp [execOp, ho, hx, Instr.field, underlying, hu, hfd, asAgg, part, (ldT_one (P := P) (w := w) hld).1, hu']
      · cases h
    · cases h
  · cases h

/-- s[:0:0] -/
theorem op_slice_0 {t et : TypeId} {x b y : Operand} {e : Ty} {bytes n id : Nat} (ho : o.op = .slice t x none (some b) (some y)) (hg : Good A keep ⟨w, m, s.hp, I⟩ s.tm a.tmps)
    (hk : intOf? (s.ev y) = some 0) (hj : intOf? (s.ev b) = some 0) (hel : elemI P t = some (et, e, bytes)) (hn : s.len (s.ev x) = some n)
    (h : (s.new id (.arr e []) fun s1 => K s1 (.ref id 0 none)) = some r) : Done P o a w A keep K r := by
  have hx := ev_rel hg.tm x
  obtain ⟨i, z, hu, hi, hiz, hsz, he, _⟩ := elemI_ok hel
  obtain ⟨ad, c, hxe, hnc⟩ := len_ok hg.heap rfl hx hn
  obtain ⟨k1, hy⟩ := intOf_ok hk (ev_rel hg.tm y)
  obtain ⟨k2, hb⟩ := intOf_ok hj (ev_rel hg.tm b)
  obtain ⟨hnew, h⟩ := St.new_some h
  have hbounds : (Instr.sliceBounds true n c none (some (.int k2 0)) (some (.int k1 0))).run P w = .ok (0, 0, 0) w := by
    unfold Instr.sliceBounds
    simp [Instr.sliceBound, asIntOf]
  have st : Stays A ⟨w, m, s.hp, I⟩ id w I (fun _ => False) :=
    ⟨Nat.le_refl _, fun _ _ _ => rfl, fun _ h => h.elim, fun _ => Nat.le_refl _, fun _ h => h, fun b hb => ⟨hg.heap.lt b hb, .inl hb⟩, rfl, rfl, rfl⟩
  obtain ⟨g1, _⟩ := change1 hg id (.arr e []) none st (fun h => by rw [hnew] at h; cases h) (fun _ b o h => by cases h) (fun _ => ⟨he, .inl ⟨upd_same _ _ _, rfl⟩⟩)
  refine ⟨_, _, h, .inl ⟨.slice (if 0 = 0 then ad else ad.map (·.add (0 * i.size))) 0 0, w, ?_, upd m id none, I, g1, ?_⟩⟩
  · simp [execOp, ho, hxe, hy, hb, Instr.sliceAt, Instr.slice, underlying, hu, hbounds, sizeOf, typeInfo, hi]
  · simp only [relV, St.setH, getH_same]
    exact ⟨by simp [lenL], .inl ⟨by simp [lenL], ad, by simp⟩⟩

end
end Go.AI
