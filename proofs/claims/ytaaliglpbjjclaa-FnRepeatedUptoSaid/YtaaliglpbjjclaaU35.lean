/- THE ROW OF FnRepeated: it answers true for every argument of bulk at most 1048576. -/
import Derived.Test.YtaaliglpbjjclaaU34
import Derived.Test.YtaaliglpbjjclaaU32
import Derived.Carry
import Derived.ProofKit
import Derived.OpenShut
import Derived.JoinedCond
import Derived.Below
import Derived.Test.YtaaliglpbjjclaaRows
import Derived.WalkKit

section
/- THE BRIDGE, third part: a law of one argument that answers true. -/
namespace Go.AI
open Go.Proofs.Ytaaliglpbjjclaa Go.ChangeShapes Go.WideShapes Go.ChangeAt Go.RowKit
set_option linter.unusedVariables false
set_option linter.unusedSimpArgs false

section
variable {H : Type} {enc : TypeId × Value → H} {P : Program}

/-- 'post', where nothing that was there when the call began has turned -/
theorem post_of_below {f : Func} {s : ChangeSpec} {apart fresh handsOn again : Bool} {W W' : World} {args : Array Value} {v : Value} {ds gs : List (DataW H)} {before pa pv : List MemPlace}
    (hW : DataW.Whole enc P f.params.toList s.vars apart W args.toList ds gs before) (hb : Below W.heap.size W W')
    (hres : ∀ (b : Nat) (sp : Nat → Bool) (hd : Bool), DataW.TrodAll enc P W' b sp hd f.resultTypes.toList (v.resultList f.resultTypes.size) (s.fn H (ds ++ gs)).results [])
    (hargs : ∀ sp : Nat → Bool, (∀ p ∈ before, sp p.block = true) → DataW.TrodAll enc P W' 0 sp true f.params.toList args.toList (s.fn H (ds ++ gs)).args pa)
    (hvars : ∀ sp : Nat → Bool, (∀ p ∈ before, sp p.block = true) → DataW.TrodVars enc P W' sp s.vars (s.fn H (ds ++ gs)).vars pv)
    (hps : before = pa ++ pv)
    (hok : ∀ (j : Nat) (t : TypeId) (r : Value), f.resultTypes[j]? = some t → (v.resultList f.resultTypes.size)[j]? = some r → Value.okWide P W' .any 0 t r) :
    s.post enc P f apart fresh handsOn again W args v W' := by
  have hlt : ∀ p ∈ before, p.block < W.heap.size := fun p hp => by simpa using hW.lt p hp
  have hold : ∀ p ∈ before, (fun b => decide (b < W.heap.size)) p.block = true := fun p hp => by simpa using hlt p hp
  refine ⟨ds, gs, before, [], pa, pv, hW, hres _ _ _, hargs _ hold, hvars _ hold, hb.frame _, fun _ => ?_⟩
  obtain ⟨_, _, _, _, _, hz, hn⟩ := hW
  refine ⟨hok, _, _, ([] ++ pa) ++ pv, ⟨[] ++ pa, pv, trodAll_append (hargs _ (fun _ _ => rfl)) (hres _ _ _), hvars _ (fun _ _ => rfl), rfl, ?_, ?_⟩, ?_⟩
  · intro b off hp
    have hp' : MemPlace.cell b off ∈ before := by rw [hps]; simpa using hp
    rw [hb.frozen (hlt _ hp')]
    exact hz b off hp'
  · intro ha
    have := hn ha
    rw [hps] at this
    simpa using this
  · intro p hp _
    rw [hps]
    simpa using hp

/-- an argument as an abstract value -/
def argOf (P : Program) (t : TypeId) (cs : List AV) : AV := cond (isAggT P t) (.agg cs) (match cs with | c :: _ => c | [] => .any)

theorem argOf_ok {E : Env} {t : TypeId} {ty : Ty} {x : ty.D} {v : Value} {W : World} {r : Reach} {base : Nat} (hty : tyOf P t = some ty) (hval : Value.okWide P W r base t v) (hE : E.w = W) (hI : E.I = fun b => b < W.heap.size)
    (h : repT W (fun b => b < W.heap.size) ty x v.cells.toList) : relV E (argOf P t (cellsI ty x)) v := by
  rw [← hI, ← hE] at h
  have hc := cellsI_ok (E := E) rfl h
  unfold argOf isAggT
  unfold Value.okWide at hval
  have one : (∃ u, v = u ∧ v.cells = #[v]) → relV E (match cellsI ty x with | c :: _ => c | [] => .any) v := by
    rintro ⟨u, rfl, hv⟩
    rw [hv] at hc
    cases hq : cellsI ty x with
    | nil => simp [relV]
    | cons c cs =>
      rw [hq] at hc
      simp only [relC] at hc
      exact hc.2.1
  unfold tyOf at hty
  simp only [tyF] at hty
  split at hty
  · rename_i hu
    simp only [hu] at hval ⊢
    refine one ⟨v, rfl, ?_⟩
    simp only [Cell.okWide, hu] at hval
    cases v <;> simp [Cell.ok, hu] at hval <;> rfl
  · rename_i k hu
    simp only [hu] at hval ⊢
    refine one ⟨v, rfl, ?_⟩
    simp only [Cell.okWide, hu] at hval
    cases v <;> simp [Cell.ok, hu] at hval <;> rfl
  · rename_i hu
    simp only [hu] at hval ⊢
    refine one ⟨v, rfl, ?_⟩
    simp only [Cell.okWide, hu] at hval
    cases v <;> simp [Cell.ok, hu] at hval <;> rfl
  · rename_i e hu
    simp only [hu] at hval ⊢
    refine one ⟨v, rfl, ?_⟩
    simp only [Cell.okWide, hu] at hval
    cases v <;> simp [Cell.ok, hu] at hval <;> rfl
  · rename_i fs hu
    simp only [hu, cond_true] at hval ⊢
    obtain ⟨cs, rfl, _, _⟩ := hval
    simp only [relV]
    exact ⟨cs, rfl, hc⟩
  · cases hty

theorem law_calls {f : FuncId} {fn : Func} {c : Code} {t tb : TypeId} {ty : Ty} {s : ChangeSpec} (hf : P.funcs[f]? = some fn) (hbody : fn.body = some c) (hparams : fn.params = #[t]) (hresT : fn.resultTypes = #[tb]) (htb : P.underlying tb = some .bool)
    (hty : tyOf P t = some ty) (hl : laidOutB P = true) (hm : mapsRowed P = true) (hr : P.readableRec t = true) (hrow : t < P.types.size)
    (hz : ∀ t e, t < P.types.size → P.underlying t = some (.slice e) → 0 < P.cellsOf e)
    (hvars : s.vars = []) (hspec : ∀ d : DataW H, s.fn H [d] = { results := [.lit (.bool true)], args := [d] })
    {tab : List Ent} (ht : ∀ e ∈ tab, Sound P e.f e.S) {ann : List (Nat × Lab)} {p : Pat} (inj : ty.D → p.D) (hp : ∀ x, p.build (inj x) = [argOf P t (cellsI ty x)])
    (hrun : ∀ x : ty.D, okD ty x → bulkD ty x ≤ 1048576 → theM P tab ann ⟨.dat .bool, []⟩ fn ⟨p, []⟩ (inj x, ()) = some (true, ()))
    (W : World) (base : Nat) (args : Array Value) (ds gs : List (DataW H)) (before : List MemPlace)
    (hval : ∀ (j : Nat) t v, fn.params[j]? = some t → args[j]? = some v → Value.okWide P W .any base t v)
    (hW : DataW.Whole enc P fn.params.toList s.vars false W args.toList ds gs before) (hk : Rows.uptoSmall H (ds ++ gs) = true) :
    Calls P f args W fun e W' => ∃ v, e = .returned v ∧ s.post enc P fn false true false false W args v W' := by
  have hW' := hW
  obtain ⟨p, q, hA, hV, rfl, hfz, hnd⟩ := hW
  rw [hvars] at hV
  obtain ⟨rfl, rfl⟩ := trodVars_none hV
  rw [hparams] at hA hval
  obtain ⟨v0, vs0, d0, ds0, p0, q0, hargs, rfl, rfl, h0, r0⟩ := trodAll_cons hA
  obtain ⟨rfl, rfl, rfl⟩ := trodAll_nil r0
  obtain rfl : args = #[v0] := by cases args; simp_all
  have hv0 := hval 0 t v0 rfl rfl
  obtain ⟨fuel, hfuel⟩ := h0
  obtain ⟨x, x1, x2, x3⟩ := trod_rep (kids_rows hl hm) hz 12 fuel t ty _ _ hrow hty hfuel
  have hbulk : bulkD ty x ≤ 1048576 := by
    have : Rows.uptoBulkAll ([d0] ++ []) ≤ 1048576 := of_decide_eq_true hk
    simp only [List.append_nil, Rows.uptoBulkAll] at this
    simp only at x3
    omega
  have hn := hrun x x2 hbulk
  let A : Env := ⟨W, fun _ => none, [], fun b => b < W.heap.size⟩
  have hrel : relL A [argOf P t (cellsI ty x)] (#[v0] : Array Value).toList := by
    simp only [relL]
    exact ⟨argOf_ok hty hv0 rfl rfl x1, trivial⟩
  have hread : (⟨p, []⟩ : Form).read [argOf P t (cellsI ty x)] [] = some (inj x, ()) := by
    have := Form.read_build ⟨p, []⟩ (inj x, ())
    simp only [Form.vals, Form.roots, buildRs, hp] at this
    exact this
  have := mode_calls (A := A) (roots := []) ht hf hbody rfl (empty_heap fun b h => h) hrel hread hn
  refine this.mono ?_
  rintro e W' ⟨v, rfl, m', I', h1, h2, h3⟩
  have h3' : relV ⟨W', m', numbered 0 [], I'⟩ (.val (.bool true)) v := h3
  simp only [relV] at h3'
  subst h3'
  have hno : ∀ b, ¬ Own A b := by rintro b ⟨k, o, ho, _⟩; simp [A, getH, owned] at ho
  have hb : Below W.heap.size W W' := ⟨h2.os, h2.tape, h2.output, h2.sz, fun k hk => h2.old k hk (hno k)⟩
  have hlt : ∀ y ∈ p0, y.block < W.heap.size := fun y hy => by
    have := hW'.lt y (by simp [hy])
    simpa using this
  refine ⟨_, rfl, post_of_below (pa := p0) (pv := []) hW' hb ?_ ?_ ?_ (by simp) ?_⟩
  · intro b sp hd
    rw [hresT]
    simp only [List.append_nil, hspec]
    exact trodAll_cons_mk (shut_bool htb _) trodAll_mk0
  · intro sp hsp
    rw [hparams]
    simp only [List.append_nil, hspec]
    have := WideElems.Trod_stays (sp' := sp) hl hr hrow ⟨fuel, hfuel⟩ (fun y hy => hb.same (hlt y hy)) (fun y hy => hsp y (by simp [hy]))
    have h2 := trodAll_cons_mk this (trodAll_mk0 (enc := enc) (P := P) (w := W') (base := 0) (spare := sp) (held := true))
    simpa using h2
  · intro sp hsp
    rw [hvars]
    simp only [List.append_nil, hspec]
    rfl
  · exact ok_one hresT rfl (okWide_bool_mk htb _)

end
end Go.AI
end

section
/- ROWS: facts about the program that every row asks. -/
namespace Go.Proofs.Ytaaliglpbjjclaa
open Go.AI Go.ChangeShapes Go.WideShapes Go.ChangeAt Go.RowKit

theorem own : ownKnob Try.prog.godebug = none := by kernel_rfl

theorem laid : laidOutB Try.prog = true := by kernel_rfl

theorem rowed : mapsRowed Try.prog = true := by kernel_rfl

/-- each slice's elements take up cells -/
def wideS (P : Program) : Bool := (List.range P.types.size).all fun t => match P.underlying t with
  | some (.slice e) => decide (0 < P.cellsOf e)
  | _ => true

theorem wideS_ok {P : Program} (h : wideS P = true) : ∀ t e, t < P.types.size → P.underlying t = some (.slice e) → 0 < P.cellsOf e := by
  intro t e ht he
  have := List.all_eq_true.1 h t (List.mem_range.2 ht)
  rw [he] at this
  exact of_decide_eq_true this

theorem wide : wideS Try.prog = true := by kernel_rfl

end Go.Proofs.Ytaaliglpbjjclaa
end

section
/- THE ROW OF FnRepeated: it answers true for every argument of bulk at most 1048576. -/
namespace Go.Proofs.Ytaaliglpbjjclaa.fnRepeated
open Go.AI Go.ChangeShapes Go.WideShapes Go.ChangeAt Go.RowKit
set_option linter.unusedVariables false
set_option linter.unusedSimpArgs false

abbrev BT : Ty := .sl (.int .u8)

theorem room (l : List Int) (h : bulkD BT l ≤ 1048576) : l.length ≤ 1048576 := by
  have h1 : ∀ k : List Int, k.length ≤ (k.map (bulkD (.int .u8))).sum := by
    intro k
    induction k with
    | nil => simp
    | cons a k ih => simp only [List.map_cons, List.sum_cons, List.length_cons, bulkD] at ih ⊢; omega
  have := h1 l
  simp only [BT, bulkD] at h this
  omega

set_option maxRecDepth 100000 in
theorem lifted (os : Os) (started : os.Started) (H : Type) (enc : TypeId × Value → H) (F : Stop.Interp) :
    ReturnsInHanded {} Try.checked os 3 .any ((Rows.OpenSpec.upto Rows.fnRepeatedSpec).pre6 enc Try.prog Try.f3 Rows.fnRepeatedUptoRow.domain false) (((Rows.OpenSpec.upto Rows.fnRepeatedSpec).at F).post enc Try.prog Try.f3 false true false false) := by
  refine returnsInHanded_of_cond (C := Try.checked) (s := Rows.OpenSpec.upto Rows.fnRepeatedSpec) (k := Rows.uptoSmall) rfl own started (by kernel_rfl) Try.func3
    (OpenSpec.witness (enc := enc) (C := Try.checked) (s := Rows.OpenSpec.upto Rows.fnRepeatedSpec) (k := Rows.uptoSmall) rfl false ⟨#[], #[.slice none 0 0], []⟩ 8 (by kernel_rfl) (by kernel_rfl) (by kernel_rfl)
      (x := ([.nil], [], [])) (by kernel_rfl) rfl (by kernel_rfl)) ?_
  intro W base args ds gs before hval hW _ hk _
  have hp : ∀ x : BT.D, Pat.build (.dat BT) x = [argOf Try.prog (Try.f3.params.getD 0 0) (cellsI BT x)] := fun x => by
    have : isAggT Try.prog (Try.f3.params.getD 0 0) = false := by kernel_rfl
    simp only [argOf, this, cond_false, Pat.build]
    rfl
  exact law_calls (f := 3) (fn := Try.f3) (c := bodyOf Try.f3) (t := Try.f3.params.getD 0 0) (tb := Try.f3.resultTypes.getD 0 0) (ty := BT)
    Try.func3 (by kernel_rfl) (by kernel_rfl) (by kernel_rfl) (by kernel_rfl) (by kernel_rfl) laid rowed (by kernel_rfl) (of_decide_eq_true (by kernel_rfl)) (wideS_ok wide) rfl (fun _ => rfl)
    tab3_ok (p := .dat BT) (fun x => x) hp
    (fun x _ hb => law3 x (room x hb)) W base args ds gs before hval hW hk

theorem over : Rows.fnRepeatedUptoRow.holds Try.pinned (Rows.OpenSpec.upto Rows.fnRepeatedSpec) :=
  OpenClaim.holds_of_cond 3 Try.f3 rfl rfl rfl rfl rfl rfl rfl ⟨rfl, rfl, rfl, rfl, rfl⟩ rfl rfl rfl rfl rfl (by kernel_rfl) Try.func3 (by kernel_rfl)
    (of_decide_eq_true (by kernel_rfl)) (by unfold Func.isWrapper; first | (rw [if_pos (by decide +kernel)]; kernel_rfl) | (rw [if_neg (by decide +kernel)]; exact ⟨rfl, rfl⟩))
    (fun os started H enc _ F => lifted os started H enc F)

theorem proved : Rows.FnRepeatedUptoSaid :=
  over
end Go.Proofs.Ytaaliglpbjjclaa.fnRepeated
end
