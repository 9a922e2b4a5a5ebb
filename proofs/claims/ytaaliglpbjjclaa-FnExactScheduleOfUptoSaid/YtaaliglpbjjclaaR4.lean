/- THE ROW OF FnExactScheduleOf: the program's schedules are the reference's, for every argument of bulk at most 1048576. -/
import Derived.Test.YtaaliglpbjjclaaG14
import Derived.Test.YtaaliglpbjjclaaR0
namespace Go.Proofs.Ytaaliglpbjjclaa.fnExactScheduleOf
open Go.AI Go.ChangeShapes Go.WideShapes Go.ChangeAt Go.RowKit
set_option linter.unusedVariables false

abbrev GT : Ty := .pair (.int .i64) (.sl (.pair (.int .i64) (.pair (.int .i64) (.pair (.int .i64) (.pair (.int .i64) (.int .i64))))))

theorem room (l : List (Ty.D (.pair (.int .i64) (.pair (.int .i64) (.pair (.int .i64) (.pair (.int .i64) (.int .i64))))))) (n : Int) (h : bulkD GT (n, l) ≤ 1048576) : l.length ≤ 1048576 := by
  have h1 : ∀ k : List (Ty.D (.pair (.int .i64) (.pair (.int .i64) (.pair (.int .i64) (.pair (.int .i64) (.int .i64)))))), k.length ≤ (k.map (bulkD (.pair (.int .i64) (.pair (.int .i64) (.pair (.int .i64) (.pair (.int .i64) (.int .i64))))))).sum := by
    intro k
    induction k with
    | nil => simp
    | cons a k ih => simp only [List.map_cons, List.sum_cons, List.length_cons, bulkD] at ih ⊢; omega
  have := h1 l
  simp only [GT, bulkD] at h this
  omega

set_option maxRecDepth 100000 in
theorem lifted (os : Os) (started : os.Started) (H : Type) (enc : TypeId × Value → H) (F : Stop.Interp) :
    ReturnsInHanded {} Try.checked os 4 .any ((Rows.OpenSpec.upto Rows.fnExactScheduleOfSpec).pre6 enc Try.prog Try.f4 Rows.fnExactScheduleOfUptoRow.domain false) (((Rows.OpenSpec.upto Rows.fnExactScheduleOfSpec).at F).post enc Try.prog Try.f4 false true false false) := by
  refine returnsInHanded_of_cond (C := Try.checked) (s := Rows.OpenSpec.upto Rows.fnExactScheduleOfSpec) (k := Rows.uptoSmall) rfl own started (by kernel_rfl) Try.func4
    (OpenSpec.witness (enc := enc) (C := Try.checked) (s := Rows.OpenSpec.upto Rows.fnExactScheduleOfSpec) (k := Rows.uptoSmall) rfl false ⟨#[], #[.agg #[.int .i64 0, .slice none 0 0]], []⟩ 8 (by kernel_rfl) (by kernel_rfl) (by kernel_rfl)
      (x := ([.agg [.lit (.int .i64 0), .nil]], [], [])) (by kernel_rfl) rfl (by kernel_rfl)) ?_
  intro W base args ds gs before hval hW _ hk _
  have hp : ∀ x : GT.D, Pat.build (.agg (.dat GT)) x = [argOf Try.prog 38 (cellsI GT x)] := fun x => by
    have : isAggT Try.prog 38 = true := by kernel_rfl
    simp only [argOf, this, cond_true, Pat.build]
  exact law_calls (f := 4) (fn := Try.f4) (c := bodyOf Try.f4) (t := 38) (tb := Try.f4.resultTypes.getD 0 0) (ty := GT)
    Try.func4 (by kernel_rfl) (by kernel_rfl) (by kernel_rfl) (by kernel_rfl) (by kernel_rfl) laid rowed (by kernel_rfl) (of_decide_eq_true (by kernel_rfl)) (wideS_ok wide) rfl (fun _ => rfl)
    tab4_ok (ann := []) (p := .agg (.dat GT)) (fun x => x) hp
    (fun x _ hb => law4 x.1 x.2 (room x.2 x.1 hb)) W base args ds gs before hval hW hk

theorem over : Rows.fnExactScheduleOfUptoRow.holds Try.pinned (Rows.OpenSpec.upto Rows.fnExactScheduleOfSpec) :=
  OpenClaim.holds_of_cond 4 Try.f4 rfl rfl rfl rfl rfl rfl rfl ⟨rfl, rfl, rfl, rfl, rfl⟩ rfl rfl rfl rfl rfl (by kernel_rfl) Try.func4 (by kernel_rfl)
    (of_decide_eq_true (by kernel_rfl)) (by unfold Func.isWrapper; first | (rw [if_pos (by decide +kernel)]; kernel_rfl) | (rw [if_neg (by decide +kernel)]; exact ⟨rfl, rfl⟩))
    (fun os started H enc _ F => lifted os started H enc F)

theorem proved : Rows.FnExactScheduleOfUptoSaid :=
  over
end Go.Proofs.Ytaaliglpbjjclaa.fnExactScheduleOf
