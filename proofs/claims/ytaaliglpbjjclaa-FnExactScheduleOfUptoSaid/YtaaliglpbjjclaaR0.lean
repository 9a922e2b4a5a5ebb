/- ROWS: facts about the program that every row asks. -/
import Derived.Test.YtaaliglpbjjclaaB2
import Derived.Test.YtaaliglpbjjclaaRows
import Derived.WalkKit
import Derived.ProofKit
import Derived.OpenShut
import Derived.JoinedCond
namespace Go.Proofs.Ytaaliglpbjjclaa
open Go.AI Go.ChangeShapes Go.WideShapes Go.ChangeAt Go.RowKit

theorem own : ownKnob Try.prog.godebug = none := by kernel_rfl

theorem laid : laidOutB Try.prog = true := by kernel_rfl

theorem rowed : mapsRowed Try.prog = true := by kernel_rfl

/-- each slice's elements take up cells -/
def wideS (P : Program) : Bool := (List.range P.types.size).all fun t => match P.underlying t with
  | some (.slice e) => decide (0 < P.cellsOf e)
  | _ => true

theorem wideS_ok {P : Program} (h : wideS P = true) : ∀ t e, t < P.types.size → P.underlying t = some (.slice e) → 0 < P.cellsOf e := by
  intro t e ht he
  have := List.all_eq_true.1 h t (List.mem_range.2 ht)
  rw [he] at this
  exact of_decide_eq_true this

theorem wide : wideS Try.prog = true := by kernel_rfl

end Go.Proofs.Ytaaliglpbjjclaa
