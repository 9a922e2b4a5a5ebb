/- SOUNDNESS: the operations, one by one (calls are not among them). -/
import Derived.Test.YtaaliglpbjjclaaS8
import Derived.Laws.BytesString
import Derived.Laws.MakeOwn
namespace Go.AI
set_option linter.unusedVariables false
set_option linter.unusedSimpArgs false

section
variable {P : Program} {A : Env} {keep : Nat} {w : World} {m : Nat → Option (Nat × Nat)} {I : Nat → Prop} {s : St} {o : Oper} {a : Act} {K : St → AV → R} {r : Res}

/-- what is to be shown of an operation -/
def Done (P : Program) (o : Oper) (a : Act) (w : World) (A : Env) (keep : Nat) (K : St → AV → R) (r : Res) : Prop :=
  ∃ s2 v2, K s2 v2 = some r ∧ OpOk P o a w fun x w' => goodV A keep s2 a.tmps w' v2 x

theorem Done.same (hg : Good A keep ⟨w, m, s.hp, I⟩ s.tm a.tmps) {v : AV} {x : Value} (h : K s v = some r) (hr : (execOp a.eval o).run P w = .ok (.value x) w) (hv : relV ⟨w, m, s.hp, I⟩ v x) :
    Done P o a w A keep K r := ⟨s, v, h, OpOk.same hg hr hv⟩

theorem op_move {y : Operand} (ho : o.op = .move y ∨ o.op = .assign y) (hg : Good A keep ⟨w, m, s.hp, I⟩ s.tm a.tmps) (h : K s (s.ev y) = some r) : Done P o a w A keep K r :=
  Done.same hg h (by rcases ho with ho | ho <;> simp [execOp, ho]) (ev_rel hg.tm y)

theorem op_pick {c x y : Operand} (ho : o.op = .pick c x y) (hg : Good A keep ⟨w, m, s.hp, I⟩ s.tm a.tmps)
    (h : (match s.ev c with
      | .val (.bool v) => match s.ev x, s.ev y with
        | .val (.bool p), .val (.bool q) => K s (.val (.bool (cond v p q)))
        | p, q => cond v (K s p) (K s q)
      | _ => none) = some r) : Done P o a w A keep K r := by
  have hc := ev_rel hg.tm c
  have hx := ev_rel hg.tm x
  have hy := ev_rel hg.tm y
  split at h
  · rename_i v hv
    rw [hv] at hc; simp only [relV] at hc
    have hrun : (execOp a.eval o).run P w = .ok (.value (if v = true then a.eval x else a.eval y)) w := by
      simp [execOp, ho, hc, asBool]
    split at h
    · rename_i p q hp hq
      rw [hp] at hx; rw [hq] at hy; simp only [relV] at hx hy
      rw [hx, hy] at hrun
      refine Done.same hg h (x := .bool (cond v p q)) ?_ (by simp [relV])
      rw [hrun]; cases v <;> rfl
    · cases v with
      | true => exact Done.same hg h (by simpa using hrun) hx
      | false => exact Done.same hg h (by simpa using hrun) hy
  · cases h

theorem zeroOf_ok {t : TypeId} {cs : List AV} (h : zeroOf P t = some cs) : ∃ z, zeroV P t = some z ∧ relC ⟨w, m, s.hp, I⟩ cs z.cells.toList := by
  unfold zeroOf at h
  split at h
  · rename_i z hz
    obtain ⟨hc, h⟩ := cond_none h
    simp only [Option.some.injEq] at h; subst h
    refine ⟨z, hz, relC_iff.2 ?_⟩
    unfold zeroCs
    generalize z.cells.toList = l at hc
    induction l with
    | nil => trivial
    | cons v l ih =>
      simp only [List.all_cons, Bool.and_eq_true] at hc
      exact ⟨⟨by cases v <;> simp_all [oneC, Value.oneCell'], by simp [relV]⟩, ih hc.2⟩
  · cases h
theorem run_zeroV {t : TypeId} {z : Value} (h : zeroV P t = some z) : (zeroValue t).run P w = .ok z w := by
  unfold zeroV at h
  split at h
  · rename_i i hi
    simp [zeroValue, typeInfo, hi, h]
  · cases h

theorem St.new_some {id : Nat} {x : Root} {k : St → R} (h : s.new id x k = some r) : hasH s.hp id = false ∧ k (s.setH id x) = some r := by
  unfold St.new at h
  exact cond_none' h

theorem op_alloc {t : TypeId} {id : Nat} (ho : o.op = .alloc t) (hg : Good A keep ⟨w, m, s.hp, I⟩ s.tm a.tmps)
    (h : (match zeroOf P t with | some cs => s.new id (.box cs) fun s1 => K s1 (.ptr id 0 0) | none => none) = some r) : Done P o a w A keep K r := by
  split at h
  · rename_i cs hz
    obtain ⟨z, hz, hc⟩ := zeroOf_ok (P := P) (w := w) (m := m) (I := I) (s := s) hz
    obtain ⟨hn, h⟩ := St.new_some h
    obtain ⟨g1, g2, g3⟩ := new_box hg hn hc t
    refine ⟨_, _, h, .inl ⟨_, _, ?_, _, I, g1, g3⟩⟩
    simp [execOp, ho, Instr.alloc, run_zeroV hz, newVar, newRow]
  · cases h

theorem op_box {t : TypeId} {y : Operand} {id : Nat} (ho : o.op = .box t y) (hg : Good A keep ⟨w, m, s.hp, I⟩ s.tm a.tmps)
    (h : (match cellsOfV (s.ev y) with | some cs => s.new id (.box cs) fun s1 => K s1 (.ptr id 0 0) | none => none) = some r) : Done P o a w A keep K r := by
  split at h
  · rename_i cs hz
    have hc := cellsOfV_ok (ev_rel hg.tm y) hz
    obtain ⟨hn, h⟩ := St.new_some h
    obtain ⟨g1, g2, g3⟩ := new_box hg hn hc t
    refine ⟨_, _, h, .inl ⟨_, _, ?_, _, I, g1, g3⟩⟩
    simp [execOp, ho, Instr.box, newVar, newRow]
  · cases h

theorem op_load {t : TypeId} {y : Operand} (ho : o.op = .load t y) (hg : Good A keep ⟨w, m, s.hp, I⟩ s.tm a.tmps)
    (h : (match ldT P t with
    | some (true, n) => (match s.cells n (s.ev y) with | some cs => K s (.agg cs) | none => none)
    | some (false, _) => (match s.cells 1 (s.ev y) with | some [v] => K s v | _ => none)
    | none => none) = some r) : Done P o a w A keep K r := by
  split at h
  · rename_i n hl
    split at h
    · rename_i cs hc
      obtain ⟨b, off, vs, hx, hat, hr, hn⟩ := cells_ok hg.heap rfl (ev_rel hg.tm y) hc
      have hrun := run_loadCells_at (P := P) hat ((relC_getLen hr).trans hn)
      refine Done.same hg h (x := .agg vs.toArray) ?_ (relV_of_cells hr)
      simp [execOp, ho, Instr.loadAt, hx, Instr.sureAddr, loadVar, (ldT_agg (P := P) (w := w) hl).1, (ldT_agg (P := P) (w := w) hl).2, hrun]
    · cases h
  · rename_i n hl
    split at h
    · rename_i v hc
      obtain ⟨b, off, vs, hx, hat, hr, hn⟩ := cells_ok hg.heap rfl (ev_rel hg.tm y) hc
      cases vs with
      | nil => simp [relC] at hr
      | cons u vs =>
        simp only [relC] at hr
        have hcell := hat.cell 0 (by simp)
        simp at hcell
        refine Done.same hg h (x := u) ?_ hr.2.1
        simp [execOp, ho, Instr.loadAt, hx, Instr.sureAddr, loadVar, (ldT_one (P := P) (w := w) hl).1, hcell]
    · cases h
  · cases h

theorem op_store {t : TypeId} {y z : Operand} (ho : o.op = .store t y z) (hg : Good A keep ⟨w, m, s.hp, I⟩ s.tm a.tmps)
    (h : (match cellsOfV (s.ev z), ldT P t with
    | some cs, some (_, n) => cond (Nat.beq cs.length n) (s.store cs (fun s1 => K s1 .any) (s.ev y)) none
    | _, _ => none) = some r) : Done P o a w A keep K r := by
  split at h
  · rename_i cs ag n hz hl
    obtain ⟨hlen, h⟩ := cond_none h
    have hlen := Nat.eq_of_beq_eq_true hlen
    have hc := cellsOfV_ok (ev_rel hg.tm z) hz
    obtain ⟨s2, w', m', I', b, off, h1, h2, h3, h4⟩ := store_ok (P := P) hg h (ev_rel hg.tm y) hc
    refine ⟨s2, .any, h1, .inr (.inl ⟨w', ?_, m', I', h4, by simp [relV]⟩)⟩
    have hsz : (a.eval z).cells.size = n := by have := relC_length hc; simp at this; omega
    simp [execOp, ho, Instr.storeAt, h2, Instr.sureAddr, storeVar, ldT_size (P := P) (w := w) hl, hsz, h3]
  · cases h

theorem op_nil {y : Operand} (ho : o.op = .nilCheck y) (hg : Good A keep ⟨w, m, s.hp, I⟩ s.tm a.tmps)
    (h : (match s.ev y with
    | .cp cs => K s (.cp cs)
    | .ptr h i f => (match getH s.hp h with | .gone => none | _ => K s (.ptr h i f))
    | .fn f cs => K s (.fn f cs)
    | _ => none) = some r) : Done P o a w A keep K r := by
  have hy := ev_rel hg.tm y
  split at h
  · rename_i cs hv
    rw [hv] at hy
    have hy' := hy
    simp only [relV] at hy'
    obtain ⟨b, of, vs, hx, _⟩ := hy'
    exact Done.same hg h (by simp [execOp, ho, hx]; rfl) (by rw [← hx]; exact hy)
  · rename_i h0 i f hv
    rw [hv] at hy
    have hx : ∃ ad, a.eval y = .pointer (some ad) ∧ K s (.ptr h0 i f) = some r := by
      have hy' := hy
      simp only [relV] at hy'
      cases hgt : getH s.hp h0 with
      | gone => rw [hgt] at h; cases h
      | box cs => rw [hgt] at h hy'; obtain ⟨b, _, hx⟩ := hy'; exact ⟨_, hx, h⟩
      | arr e l => rw [hgt] at h hy'; obtain ⟨b, of, _, hx, _⟩ := hy'; exact ⟨_, hx, h⟩
      | imm e l => rw [hgt] at h hy'; obtain ⟨b, of, _, hx, _⟩ := hy'; exact ⟨_, hx, h⟩
    obtain ⟨ad, hx, h⟩ := hx
    exact Done.same hg h (by simp [execOp, ho, hx]; rfl) (by rw [← hx]; exact hy)
  · rename_i f cs hv
    rw [hv] at hy
    have hy' := hy
    simp only [relV] at hy'
    obtain ⟨vs, hx, _⟩ := hy'
    exact Done.same hg h (by simp [execOp, ho, hx]; rfl) (by rw [← hx]; exact hy)
  · cases h


theorem op_un {op : UnOp} {t : TypeId} {y : Operand} (ho : o.op = .unOp op t y) (hg : Good A keep ⟨w, m, s.hp, I⟩ s.tm a.tmps)
    (h : (match unA op (s.ev y) with | some v => K s v | none => none) = some r) : Done P o a w A keep K r := by
  split at h
  · rename_i v hv
    obtain ⟨z, h1, h2⟩ := unA_ok (P := P) (w := w) hv (ev_rel hg.tm y)
    exact Done.same hg h (by simp [execOp, ho, h1]) h2
  · cases h

theorem op_bin {op : BinOp} {t ty : TypeId} {y z : Operand} (ho : o.op = .binOp op t y z ty) (hg : Good A keep ⟨w, m, s.hp, I⟩ s.tm a.tmps)
    (h : binA P t op (match z with | .const _ => true | _ => false) (s.ev y) (s.ev z) (K s) = some r) : Done P o a w A keep K r := by
  obtain ⟨v, u, h1, h2, h3⟩ := binA_ok (P := P) (w := w) (xo := y) (yo := z) h (by cases z <;> simp) (ev_rel hg.tm y) (ev_rel hg.tm z)
  refine Done.same hg h1 (x := u) ?_ h3
  unfold BinRun at h2
  simp only [execOp, ho]
  rw [Sem.run_bind, h2]
  rfl

theorem op_conv {src dst : TypeId} {y : Operand} (ho : o.op = .convert src dst y) (hg : Good A keep ⟨w, m, s.hp, I⟩ s.tm a.tmps)
    (h : (match s.ev y, P.underlying src, P.underlying dst with
    | .val (.int _ n), some (.int _), some (.int k) => K s (.val (.int k (k.wrap n)))
    | .val (.string b), some .string, some .string => K s (.val (.string b))
    | v, some (.slice e), some .string => (match P.underlying e, s.slice v with
      | some (.int .u8), some ⟨.int .u8, l⟩ => K s (.val (.string (bytesStr l)))
      | _, _ => none)
    | _, _, _ => none) = some r) : Done P o a w A keep K r := by
  have hy := ev_rel hg.tm y
  split at h
  · rename_i k0 n k1 k hv h1 h2
    rw [hv] at hy; simp only [relV] at hy
    exact Done.same hg h (x := .int k (k.wrap n)) (by simp [execOp, ho, hy, convert, underlying, h1, h2, Conv.intToInt]) (by simp [relV])
  · rename_i b hv h1 h2
    rw [hv] at hy; simp only [relV] at hy
    exact Done.same hg h (x := .string b) (by simp [execOp, ho, hy, convert, underlying, h1, h2]) (by simp [relV])
  · rename_i v e h1 h2
    split at h
    · rename_i l he hs
      obtain ⟨ad, n, c, hx, hr⟩ := slice_ok hg.heap rfl hy hs
      obtain ⟨vss, hall, hsrc⟩ := first_of_repS (P := P) hr (fun _ _ => repT_len) (fun _ _ => repT_one)
      have hvs : vss.flatten = l.map (Value.int .u8) := by
        clear hsrc hr hs h
        induction l generalizing vss with
        | nil => cases vss <;> simp_all [All2]
        | cons x l ih => cases vss with
          | nil => simp [All2] at hall
          | cons u vss =>
            have := ih _ hall.2
            have h0 := hall.1
            simp only [repT] at h0
            simp [h0, this]
      refine Done.same hg h (x := .string (bytesStr l)) ?_ (by simp [relV])
      have hconv : (Conv.bytesToString (.slice ad n c)).run P w = .ok (.string (bytesStr l)) w := by
        cases ad with
        | none =>
          obtain ⟨_, _, h3⟩ := hr
          obtain ⟨rfl, _⟩ := h3
          simp [Conv.bytesToString, bytesStr]
        | some ad =>
          have hf := hsrc.2.1 w rfl
          simp only [Builtin.firstCells, Ty.sz, Nat.mul_one] at hf
          rw [hvs] at hf
          exact run_bytesToString w ad n c l hf
      simp [execOp, ho, hx, convert, underlying, h1, h2, he, hconv]
    · cases h
  · cases h

theorem evs_rel (hg : Good A keep ⟨w, m, s.hp, I⟩ s.tm a.tmps) (l : List Operand) : relL ⟨w, m, s.hp, I⟩ (l.map s.ev) (l.map a.eval) := by
  induction l with
  | nil => simp [relL]
  | cons x l ih => simp only [List.map_cons, relL]; exact ⟨ev_rel hg.tm x, ih⟩

theorem op_fn {f : FuncId} {first caps : Array Operand} (ho : o.op = .makeFunc (.func f) first caps) (hg : Good A keep ⟨w, m, s.hp, I⟩ s.tm a.tmps)
    (h : cond (Nat.beq first.size 0) (K s (.fn f (caps.toList.map s.ev))) none = some r) : Done P o a w A keep K r := by
  obtain ⟨h0, h⟩ := cond_none h
  have h0 := Nat.eq_of_beq_eq_true h0
  have hf : first = #[] := Array.eq_empty_of_size_eq_zero h0
  subst hf
  refine Done.same hg h (x := .func (.func f) #[] (caps.map a.eval)) (by simp [execOp, ho, Instr.makeFunc]) ?_
  simp only [relV]
  exact ⟨_, rfl, by simpa using evs_rel hg caps.toList⟩

theorem op_fieldAddr {t : TypeId} {y : Operand} {f : Nat} (ho : o.op = .fieldAddr t y f) (hg : Good A keep ⟨w, m, s.hp, I⟩ s.tm a.tmps)
    (h : (match fieldT P t f with
    | some fd => cond (Nat.blt 0 (szT P fd.type)) (match fldAddr s (s.ev y) fd.offset with | some v => K s v | none => none) none
    | none => none) = some r) : Done P o a w A keep K r := by
  have hy := ev_rel hg.tm y
  split at h
  · rename_i fd hf
    obtain ⟨h0, h⟩ := cond_none h
    have h0 := Nat.le_of_ble_eq_true h0
    have hu : ∃ fs, P.underlying t = some (.struct fs) ∧ fs[f]? = some fd := by
      unfold fieldT at hf
      split at hf
      · exact ⟨_, by assumption, hf⟩
      · cases hf
    obtain ⟨fs, hu, hfd⟩ := hu
    have hsz : ∀ w, ∃ n, (sizeOf fd.type).run P w = .ok n w ∧ n ≠ 0 := by
      intro w
      unfold szT at h0
      split at h0
      · rename_i i hi
        exact ⟨i.size, by simp [sizeOf, typeInfo, hi], by omega⟩
      · omega
    have hrun : ∀ b of, a.eval y = .pointer (some ⟨b, of, none⟩) → (execOp a.eval o).run P w = .ok (.value (.pointer (some ⟨b, of + fd.offset, none⟩))) w := by
      intro b of hx
      obtain ⟨n, h1, h2⟩ := hsz w
      have hadd : (⟨b, of, none⟩ : Addr).add fd.offset = ⟨b, of + fd.offset, none⟩ := by unfold Addr.add; split <;> simp_all
      simp [execOp, ho, hx, Instr.fieldAt, underlying, hu, hfd, Instr.sureAddr, fieldPlace, h1, h2, hadd]
    split at h
    · rename_i v hv
      unfold fldAddr at hv
      split at hv
      · rename_i cs hev
        obtain ⟨hle, hv⟩ := cond_none hv
        have hle := Nat.le_of_ble_eq_true hle
        simp only [Option.some.injEq] at hv; subst hv
        rw [hev] at hy; simp only [relV] at hy
        obtain ⟨b, of, vs, hx, hI, hat, hc⟩ := hy
        refine Done.same hg h (hrun b of hx) ?_
        simp only [relV]
        have hl := relC_length hc
        have := hat.sub' fd.offset (vs.length - fd.offset) (by omega)
        exact ⟨b, _, _, rfl, hI, this, by have := relC_drop fd.offset hc; rwa [show (vs.drop fd.offset).take (vs.length - fd.offset) = vs.drop fd.offset from List.take_of_length_le (by simp)]⟩
      · rename_i h' i f' hev
        rw [hev] at hy; simp only [relV] at hy
        split at hv
        · cases hv
        · rename_i hng
          simp only [Option.some.injEq] at hv; subst hv
          cases hgt : getH s.hp h' with
          | gone => exact absurd hgt hng
          | box cs =>
            rw [hgt] at hy; obtain ⟨b, hm, hx⟩ := hy
            exact Done.same hg h (hrun _ _ hx) (by simp only [relV, hgt]; exact ⟨b, hm, rfl⟩)
          | arr e l =>
            rw [hgt] at hy; obtain ⟨b, of, hm, hx, hi⟩ := hy
            exact Done.same hg h (hrun _ _ hx) (by simp only [relV, hgt]; exact ⟨b, of, hm, by rw [Nat.add_assoc], hi⟩)
          | imm e l =>
            rw [hgt] at hy; obtain ⟨b, of, hm, hx, hi⟩ := hy
            exact Done.same hg h (hrun _ _ hx) (by simp only [relV, hgt]; exact ⟨b, of, hm, by rw [Nat.add_assoc], hi⟩)
      · cases hv
    · cases h
  · cases h

theorem op_extract {y : Operand} {i : Nat} (ho : o.op = .extract y i) (hg : Good A keep ⟨w, m, s.hp, I⟩ s.tm a.tmps)
    (h : (match s.ev y with
    | .tup vs => (match vs[i]? with | some v => K s v | none => none)
    | _ => none) = some r) : Done P o a w A keep K r := by
  have hy := ev_rel hg.tm y
  split at h
  · rename_i vs hv
    rw [hv] at hy; simp only [relV] at hy
    obtain ⟨xs, hx, hl⟩ := hy
    split at h
    · rename_i v hvi
      have hl := relL_iff.1 hl
      have hlen := hl.length
      have hi : i < vs.length := (List.getElem?_eq_some_iff.1 hvi).1
      have hr := hl.get i .any undef hi
      have e1 : vs.getD i .any = v := by simp [List.getD_eq_getElem?_getD, hvi]
      obtain ⟨u, hu, hur⟩ : ∃ u, xs[i]? = some u ∧ xs.toList.getD i undef = u := by
        have h2 : i < xs.size := by simp at hlen; omega
        exact ⟨xs[i], by simp [h2], by simp [List.getD_eq_getElem?_getD, h2]⟩
      rw [e1, hur] at hr
      exact Done.same hg h (by simp [execOp, ho, hx, Instr.extract, hu]) hr
    · cases h
  · cases h

theorem szOk_ok {v : AV} {x : Value} {n k : Nat} (hk : s.len v = some k) (hs : s.szOk n v = true) : True := trivial

theorem elemSz_ok {t : TypeId} {n : Nat} (h : elemSz P t = some n) : ∃ e i, P.underlying t = some (.slice e) ∧ P.info? e = some i ∧ i.size = n := by
  unfold elemSz at h
  split at h
  · rename_i et he
    split at h
    · rename_i i hi
      simp only [Option.some.injEq] at h
      unfold elemT at he
      split at he
      · simp only [Option.some.injEq] at he; subst he
        exact ⟨_, i, by assumption, hi, h⟩
      · cases he
    · cases h
  · cases h

theorem intOf_ok {v : AV} {x : Value} {n : Int} {E : Env} (h : intOf? v = some n) (hx : relV E v x) : ∃ k, x = .int k n := by
  unfold intOf? at h
  split at h
  · simp only [Option.some.injEq] at h; subst h
    simp only [relV] at hx; exact ⟨_, hx⟩
  · cases h

theorem op_indexAddr {t : TypeId} {y z : Operand} (ho : o.op = .indexAddr t y z) (hg : Good A keep ⟨w, m, s.hp, I⟩ s.tm a.tmps)
    (h : (match elemSz P t, intOf? (s.ev z), s.len (s.ev y) with
    | some sz, some n, some len => cond (s.szOk sz (s.ev y)) (chk (decide (0 ≤ n)) (chk (decide (n < (len : Nat))) (match idxAddr s (s.ev y) n.toNat with | some v => K s v | none => none))) none
    | _, _, _ => none) = some r) : Done P o a w A keep K r := by
  have hy := ev_rel hg.tm y
  split at h
  · rename_i sz n len h1 h2 h3
    obtain ⟨hsz, ha⟩ := cond_none h
    clear h
    obtain ⟨h4, hb⟩ := chk_some ha
    clear ha
    obtain ⟨h5, hK⟩ := chk_some hb
    clear hb
    have h4 : 0 ≤ n := of_decide_eq_true h4
    have h5 : n < (len : Int) := of_decide_eq_true h5
    obtain ⟨k, hz⟩ := intOf_ok h2 (ev_rel hg.tm z)
    obtain ⟨e, i, hu, hi, hisz⟩ := elemSz_ok h1
    obtain ⟨ad, c, hx, _⟩ := len_ok hg.heap rfl hy h3
    have hrun : ∀ b of, ad = some ⟨b, of, none⟩ → (execOp a.eval o).run P w = .ok (.value (.pointer (some ⟨b, of + n.toNat * sz, none⟩))) w := by
      intro b of had
      have hadd : (⟨b, of, none⟩ : Addr).add (n.toNat * sz) = ⟨b, of + n.toNat * sz, none⟩ := by unfold Addr.add; split <;> simp_all
      simp [execOp, ho, hx, hz, Instr.indexAt, asIntOf, underlying, hu, had, h4, h5, sizeOf, typeInfo, hi, hisz, hadd]
    split at hK
    · rename_i v hv
      unfold idxAddr at hv
      split at hv
      · rename_i e' l nn hev
        simp only [Option.some.injEq] at hv; subst hv
        rw [hev] at hy h3 hsz
        simp only [St.len, Option.some.injEq] at h3; subst h3
        have hsz : e'.sz = sz := Nat.eq_of_beq_eq_true hsz
        simp only [relV] at hy
        obtain ⟨a', n', c', hx', hr, _⟩ := hy
        rw [hx] at hx'
        obtain ⟨rfl, rfl, rfl⟩ : ad = a' ∧ l.length = n' ∧ c = c' := by simpa using hx'
        obtain ⟨_, _, h6⟩ := hr
        have hnl : n.toNat < l.length := by omega
        cases ad with
        | none => obtain ⟨rfl, _⟩ := h6; simp at hnl
        | some ad =>
          rcases h6 with rfl | ⟨hsp, hI, vss, hat, hall⟩
          · simp at hnl
          · obtain ⟨q1, q2⟩ := elem_at (E := ⟨w, m, s.hp, I⟩) hat hall n.toNat hnl
            have had : ad = ⟨ad.block, ad.off, none⟩ := by cases ad; simp_all
            refine Done.same hg hK (hrun ad.block ad.off (by rw [← had])) ?_
            simp only [relV]
            exact ⟨_, _, _, rfl, hI, by rw [← hsz]; exact q1, cellsI_ok rfl q2⟩
      · rename_i h' lo len' hev
        rw [hev] at hy h3 hsz
        simp only [relV] at hy
        simp only [St.len, St.szOk] at h3 hsz
        have go : ∀ (e' : Ty) (l : List e'.D), len = lenL l.length lo len' → e'.sz = sz → refR w (m h') e' l.length lo len' (a.eval y) →
            ∃ b of, m h' = some (b, of) ∧ ad = some ⟨b, of + lo * e'.sz, none⟩ ∧ n.toNat + lo < l.length := by
          intro e' l hlen he hR
          obtain ⟨hb, hR⟩ := hR
          rcases hR with ⟨h0, _⟩ | ⟨b, of, c2, hm, hx2, _⟩
          · omega
          · rw [hx] at hx2
            have := (Value.slice.inj hx2).1
            exact ⟨b, of, hm, this, by omega⟩
        cases hgt : getH s.hp h' with
        | gone => rw [hgt] at h3; cases h3
        | box cs =>
          rw [hgt] at h3 hsz hy hv
          simp only [Option.some.injEq] at h3 hv
          subst hv
          have he : 1 = sz := Nat.eq_of_beq_eq_true hsz
          subst he
          obtain ⟨b1, _, _, hm1, _, _, _⟩ := (by have := hg.heap.root h'; simp only [hgt] at this; exact this : rootOk ⟨w, m, s.hp, I⟩ h' (.box cs))
          have hm1 : m h' = some (b1, 0) := hm1
          obtain ⟨hb, hR⟩ := hy
          rcases hR with ⟨h0, _⟩ | ⟨b, of, c2, hm, hx2, _⟩
          · omega
          · rw [hx] at hx2
            have had := (Value.slice.inj hx2).1
            have hm' : m h' = some (b, of) := hm
            rw [hm1] at hm'
            obtain ⟨rfl, rfl⟩ := Prod.mk.inj (Option.some.inj hm')
            refine Done.same hg hK (hrun _ _ had) ?_
            simp only [relV, hgt]
            exact ⟨b1, hm1, by simp [Ty.sz]; omega⟩
        | arr e' l =>
          rw [hgt] at h3 hsz hy hv
          simp only [Option.some.injEq] at h3 hv
          subst hv
          have he := Nat.eq_of_beq_eq_true hsz
          obtain ⟨b, of, hm, had, hlt⟩ := go e' l h3.symm he hy
          refine Done.same hg hK (hrun _ _ had) ?_
          simp only [relV, hgt]
          exact ⟨b, of, hm, by rw [he, Nat.add_mul]; congr 3; omega, hlt⟩
        | imm e' l =>
          rw [hgt] at h3 hsz hy hv
          simp only [Option.some.injEq] at h3 hv
          subst hv
          have he := Nat.eq_of_beq_eq_true hsz
          obtain ⟨b, of, hm, had, hlt⟩ := go e' l h3.symm he hy
          refine Done.same hg hK (hrun _ _ had) ?_
          simp only [relV, hgt]
          exact ⟨b, of, hm, by rw [he, Nat.add_mul]; congr 3; omega, hlt⟩
      · cases hv
    · cases hK
  · cases h

theorem op_index {t : TypeId} {y z : Operand} (ho : o.op = .index t y z) (hg : Good A keep ⟨w, m, s.hp, I⟩ s.tm a.tmps)
    (h : (match s.ev y, intOf? (s.ev z), P.underlying t with
    | .val (.string b), some n, some .string => chk (decide (0 ≤ n)) (chk (decide (n < (b.size : Nat))) (K s (.val (.int .u8 (b.data.getD n.toNat 0).toNat))))
    | _, _, _ => none) = some r) : Done P o a w A keep K r := by
  have hy := ev_rel hg.tm y
  split at h
  · rename_i b n hv h2 hu
    rw [hv] at hy; simp only [relV] at hy
    obtain ⟨k, hz⟩ := intOf_ok h2 (ev_rel hg.tm z)
    obtain ⟨h4, h⟩ := chk_some h
    obtain ⟨h5, h⟩ := chk_some h
    have h4 : 0 ≤ n := of_decide_eq_true h4
    have h5 : n < (b.size : Int) := of_decide_eq_true h5
    refine Done.same hg h (x := .int .u8 (b.data.getD n.toNat 0).toNat) ?_ (by simp [relV])
    have hlt : n.toNat < b.size := by omega
    have hb : b[n.toNat]? = some (b.data.getD n.toNat 0) := by
      have h1 : b[n.toNat]? = some (b[n.toNat]'hlt) := by simp [hlt]
      rw [h1]
      have hlt' : n.toNat < b.data.size := hlt
      simp only [Option.some.injEq]
      show b.data[n.toNat] = _
      simp [Array.getD, hlt']
      intro hc; omega
    simp [execOp, ho, hy, hz, Instr.index, asIntOf, underlying, hu, h4, hb]
  · cases h


theorem op_len {args : List AV} {vals : Array Value} {c : Call} {x : Operand} {tt : TypeId} (ho : o.op = .call c) (hc : c.callee = .builtin .len) (ha : c.args = #[x]) (ht : c.argTypes = #[tt]) (hg : Good A keep ⟨w, m, s.hp, I⟩ s.tm a.tmps)
    (h : (match s.ev x, P.underlying tt with
      | .val (.string b), some .string => K s (.val (.int .i64 (b.size : Nat)))
      | v, some (.slice _) => (match s.len v with
        | some n => K s (.val (.int .i64 (n : Nat)))
        | none => none)
      | _, _ => none) = some r) : Done P o a w A keep K r := by
  have hx := ev_rel hg.tm x
  have hrun : ∀ z, (Builtin.len_ #[tt] o.type #[a.eval x]).run P w = .ok z w → (execOp a.eval o).run P w = .ok (.value z) w := by
    intro z hz
    obtain ⟨callee, cargs, ctys⟩ := c
    simp only at hc ha ht
    subst hc ha ht
    simp [execOp, ho, resolve, invoke, builtin, hz]
  split at h
  · rename_i b hv hu
    rw [hv] at hx; simp only [relV] at hx
    exact Done.same hg h (x := .int .i64 (b.size : Nat)) (hrun _ (by simp [Builtin.len_, underlying, hu, hx, goInt])) (by simp [relV])
  · rename_i v e hu
    split at h
    · rename_i n hn
      obtain ⟨ad, c', hv, _⟩ := len_ok hg.heap rfl hx hn
      exact Done.same hg h (x := .int .i64 (n : Nat)) (hrun _ (by simp [Builtin.len_, underlying, hu, hv, goInt])) (by simp [relV])
    · cases h
  · cases h

theorem op_max {c : Call} {x y : Operand} {big : Bool} (ho : o.op = .call c) (hc : c.callee = .builtin (if big then .max else .min)) (ha : c.args = #[x, y]) (hg : Good A keep ⟨w, m, s.hp, I⟩ s.tm a.tmps)
    (h : (match s.ev x, s.ev y with
      | .val (.int k p), .val (.int _ q) => K s (.val (.int k (if big then cond (decide (p < q)) q p else cond (decide (q < p)) q p)))
      | _, _ => none) = some r) : Done P o a w A keep K r := by
  have hx := ev_rel hg.tm x
  have hy := ev_rel hg.tm y
  split at h
  · rename_i k p k' q h1 h2
    rw [h1] at hx; rw [h2] at hy; simp only [relV] at hx hy
    obtain ⟨callee, cargs, ctys⟩ := c
    simp only at hc ha
    subst hc ha
    refine Done.same hg h (x := .int k (if big then cond (decide (p < q)) q p else cond (decide (q < p)) q p)) ?_ (by simp [relV])
    cases big with
    | true =>
      simp [execOp, ho, resolve, invoke, builtin, Builtin.max_, hx, hy, Builtin.max2]
    | false =>
      simp [execOp, ho, resolve, invoke, builtin, Builtin.min_, hx, hy, Builtin.min2]
  · cases h

theorem op_append {c : Call} {x y : Operand} {t u : TypeId} {id : Nat} (ho : o.op = .call c) (hc : c.callee = .builtin .append) (ha : c.args = #[x, y]) (ht : c.argTypes = #[t, u]) (hg : Good A keep ⟨w, m, s.hp, I⟩ s.tm a.tmps)
    (h : appendA P t u (s.ev x) (s.ev y) id s K = some r) : Done P o a w A keep K r := by
  obtain ⟨s2, v2, w', z, h1, h2, h3⟩ := appendA_ok (P := P) (ty := o.type) h hg (ev_rel hg.tm x) (ev_rel hg.tm y)
  obtain ⟨callee, cargs, ctys⟩ := c
  simp only at hc ha ht
  subst hc ha ht
  refine ⟨s2, v2, h1, .inl ⟨z, w', ?_, h3⟩⟩
  simp [execOp, ho, resolve, invoke, builtin, h2]

end
end Go.AI
