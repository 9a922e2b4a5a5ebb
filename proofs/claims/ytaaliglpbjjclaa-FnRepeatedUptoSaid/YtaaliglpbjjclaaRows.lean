/-
  No cell of these rows narrows 'for every input' (looked for: loops, veiled, ifaces, maps, wideKeys, modest, calm, conditions, laid).
  DERIVED. THE GIVEN ROWS OF THIS SEAT. 7 by the template 'for every input the law returns true; each argument reads behind the call as it read before'; 0 by the template 'total and deterministic' (their statements: YtaaliglpbjjclaaTotals.lean).
  GIVEN WITH THE SEED: the statements are not yours to turn. If you find one false, say at which input.
  Laid BY PROGRAM, IN A SANDBOX (cutbox-rows.mjs): the forced cells as the released guide's own fill.sh prints them over the translation 731b91c598f60e08… (all of the seat's roots in one cut). By AI agents, Wed Nov 11 2026. No macro, syntax, notation, axiom, sorry.
-/
import Derived.Test.YtaaliglpbjjclaaChecked
import GoSem.Claim
import GoSem.ClaimJoined
import GoSem.ClaimMapViews
import Derived.JoinedTies
import Derived.KernelRfl
namespace Go.Proofs.Ytaaliglpbjjclaa
/- THE CELL 'sum', in the pinned program and in every row, IS THE sha256 OF THE DUMP (.gsa) THAT YtaaliglpbjjclaaProg.lean LOADS. Nothing in Lean hashes anything: it is a label: what it is worth is what the hold of that sum in a sandbox is worth. -/
noncomputable def Try.pinned : Pinned := { name := "ytaaliglpbjjclaa", sum := "731b91c598f60e080c7c5474334a31cdd9ec56ecd642e02390e9921a5e499849", checked := Try.checked }
namespace Rows
def none {H : Type} : Left H := { results := [], args := [] }

/-- 'laws.FnRepeated': WHATEVER THE INPUT: true; the input reads as it did. -/
def fnRepeatedSpec : ChangeSpec := { name := "fnRepeated", fn := fun _ => fun
  | [d] => { results := [.lit (.bool true)], args := [d] }
  | _ => none }
def fnRepeatedRow : OpenClaim := { program := "ytaaliglpbjjclaa", sum := "731b91c598f60e080c7c5474334a31cdd9ec56ecd642e02390e9921a5e499849", func := "loop.example/g03224/laws.FnRepeated", spec := "fnRepeated", unfollowed := true, recurses := true, apart := false }
def FnRepeatedSaid : Prop := fnRepeatedRow.holds Try.pinned (OpenSpec.ofChange fnRepeatedSpec)

/-- ITS FALSE NEIGHBOUR: 'it returns false'. Refute it at one input. -/
def fnRepeatedWrong : ChangeSpec := { name := "fnRepeated", fn := fun _ => fun
  | [d] => { results := [.lit (.bool false)], args := [d] }
  | _ => none }
def FnRepeatedWrongFalsely : Prop := fnRepeatedRow.holds Try.pinned (OpenSpec.ofChange fnRepeatedWrong)

/-- 'laws.FnExactScheduleOf': WHATEVER THE INPUT: true; the input reads as it did. -/
def fnExactScheduleOfSpec : ChangeSpec := { name := "fnExactScheduleOf", fn := fun _ => fun
  | [d] => { results := [.lit (.bool true)], args := [d] }
  | _ => none }
def fnExactScheduleOfRow : OpenClaim := { program := "ytaaliglpbjjclaa", sum := "731b91c598f60e080c7c5474334a31cdd9ec56ecd642e02390e9921a5e499849", func := "loop.example/g03224/laws.FnExactScheduleOf", spec := "fnExactScheduleOf", unfollowed := true, recurses := true, apart := false }
def FnExactScheduleOfSaid : Prop := fnExactScheduleOfRow.holds Try.pinned (OpenSpec.ofChange fnExactScheduleOfSpec)

/-- ITS FALSE NEIGHBOUR: 'it returns false'. Refute it at one input. -/
def fnExactScheduleOfWrong : ChangeSpec := { name := "fnExactScheduleOf", fn := fun _ => fun
  | [d] => { results := [.lit (.bool false)], args := [d] }
  | _ => none }
def FnExactScheduleOfWrongFalsely : Prop := fnExactScheduleOfRow.holds Try.pinned (OpenSpec.ofChange fnExactScheduleOfWrong)

/-- 'laws.FnFed': WHATEVER THE INPUT: true; the input reads as it did. -/
def fnFedSpec : ChangeSpec := { name := "fnFed", fn := fun _ => fun
  | [d] => { results := [.lit (.bool true)], args := [d] }
  | _ => none }
def fnFedRow : OpenClaim := { program := "ytaaliglpbjjclaa", sum := "731b91c598f60e080c7c5474334a31cdd9ec56ecd642e02390e9921a5e499849", func := "loop.example/g03224/laws.FnFed", spec := "fnFed", unfollowed := true, recurses := true, apart := false }
def FnFedSaid : Prop := fnFedRow.holds Try.pinned (OpenSpec.ofChange fnFedSpec)

/-- ITS FALSE NEIGHBOUR: 'it returns false'. Refute it at one input. -/
def fnFedWrong : ChangeSpec := { name := "fnFed", fn := fun _ => fun
  | [d] => { results := [.lit (.bool false)], args := [d] }
  | _ => none }
def FnFedWrongFalsely : Prop := fnFedRow.holds Try.pinned (OpenSpec.ofChange fnFedWrong)

/-- 'laws.FnSelf': WHATEVER THE INPUT: true; the input reads as it did. -/
def fnSelfSpec : ChangeSpec := { name := "fnSelf", fn := fun _ => fun
  | [d] => { results := [.lit (.bool true)], args := [d] }
  | _ => none }
def fnSelfRow : OpenClaim := { program := "ytaaliglpbjjclaa", sum := "731b91c598f60e080c7c5474334a31cdd9ec56ecd642e02390e9921a5e499849", func := "loop.example/g03224/laws.FnSelf", spec := "fnSelf", unfollowed := true, recurses := true, apart := false }
def FnSelfSaid : Prop := fnSelfRow.holds Try.pinned (OpenSpec.ofChange fnSelfSpec)

/-- ITS FALSE NEIGHBOUR: 'it returns false'. Refute it at one input. -/
def fnSelfWrong : ChangeSpec := { name := "fnSelf", fn := fun _ => fun
  | [d] => { results := [.lit (.bool false)], args := [d] }
  | _ => none }
def FnSelfWrongFalsely : Prop := fnSelfRow.holds Try.pinned (OpenSpec.ofChange fnSelfWrong)

/-- 'laws.FnCounted': WHATEVER THE INPUT: true; the input reads as it did. -/
def fnCountedSpec : ChangeSpec := { name := "fnCounted", fn := fun _ => fun
  | [d] => { results := [.lit (.bool true)], args := [d] }
  | _ => none }
def fnCountedRow : OpenClaim := { program := "ytaaliglpbjjclaa", sum := "731b91c598f60e080c7c5474334a31cdd9ec56ecd642e02390e9921a5e499849", func := "loop.example/g03224/laws.FnCounted", spec := "fnCounted", unfollowed := true, recurses := true, apart := false }
def FnCountedSaid : Prop := fnCountedRow.holds Try.pinned (OpenSpec.ofChange fnCountedSpec)

/-- ITS FALSE NEIGHBOUR: 'it returns false'. Refute it at one input. -/
def fnCountedWrong : ChangeSpec := { name := "fnCounted", fn := fun _ => fun
  | [d] => { results := [.lit (.bool false)], args := [d] }
  | _ => none }
def FnCountedWrongFalsely : Prop := fnCountedRow.holds Try.pinned (OpenSpec.ofChange fnCountedWrong)

/-- 'laws.FnDropped': WHATEVER THE INPUT: true; the input reads as it did. -/
def fnDroppedSpec : ChangeSpec := { name := "fnDropped", fn := fun _ => fun
  | [d] => { results := [.lit (.bool true)], args := [d] }
  | _ => none }
def fnDroppedRow : OpenClaim := { program := "ytaaliglpbjjclaa", sum := "731b91c598f60e080c7c5474334a31cdd9ec56ecd642e02390e9921a5e499849", func := "loop.example/g03224/laws.FnDropped", spec := "fnDropped", unfollowed := true, recurses := true, apart := false }
def FnDroppedSaid : Prop := fnDroppedRow.holds Try.pinned (OpenSpec.ofChange fnDroppedSpec)

/-- ITS FALSE NEIGHBOUR: 'it returns false'. Refute it at one input. -/
def fnDroppedWrong : ChangeSpec := { name := "fnDropped", fn := fun _ => fun
  | [d] => { results := [.lit (.bool false)], args := [d] }
  | _ => none }
def FnDroppedWrongFalsely : Prop := fnDroppedRow.holds Try.pinned (OpenSpec.ofChange fnDroppedWrong)

/-- 'laws.FnRates': WHATEVER THE INPUT: true; the input reads as it did. -/
def fnRatesSpec : ChangeSpec := { name := "fnRates", fn := fun _ => fun
  | [d] => { results := [.lit (.bool true)], args := [d] }
  | _ => none }
def fnRatesRow : OpenClaim := { program := "ytaaliglpbjjclaa", sum := "731b91c598f60e080c7c5474334a31cdd9ec56ecd642e02390e9921a5e499849", func := "loop.example/g03224/laws.FnRates", spec := "fnRates", unfollowed := true, recurses := true, apart := false }
def FnRatesSaid : Prop := fnRatesRow.holds Try.pinned (OpenSpec.ofChange fnRatesSpec)

/-- ITS FALSE NEIGHBOUR: 'it returns false'. Refute it at one input. -/
def fnRatesWrong : ChangeSpec := { name := "fnRates", fn := fun _ => fun
  | [d] => { results := [.lit (.bool false)], args := [d] }
  | _ => none }
def FnRatesWrongFalsely : Prop := fnRatesRow.holds Try.pinned (OpenSpec.ofChange fnRatesWrong)

/- THE SECOND FORM. 'bulk': how many values and letters a reading holds, each counted each time it is reached (what is shared counts as often as it is met; a slice's spare places count too). A statement '..UptoSaid' is the law's where the arguments, and the package variables that the reading takes, are together of bulk at most 1048576: NARROWER than '..Said'. Prove '..Said' where nothing that the law and all that it calls make is longer than what came in: it says more and counts as full. Else prove '..UptoSaid'. A law counts once. -/
mutual
def uptoBulk {H : Type} : DataW H → Nat
  | .lit (.string bytes) => bytes.length + 1
  | .lit _ => 1
  | .nil => 1
  | .ptr d => uptoBulk d + 1
  | .slice elems spare => uptoBulkAll elems + uptoBulkAll spare + 1
  | .agg parts => uptoBulkAll parts + 1
  | .iface _ d => uptoBulk d + 1
  | .map entries => uptoBulkEntries entries + 1
  | .held _ => 1
def uptoBulkAll {H : Type} : List (DataW H) → Nat
  | [] => 0
  | d :: r => uptoBulk d + uptoBulkAll r
def uptoBulkEntries {H : Type} : List (Lit × DataW H) → Nat
  | [] => 0
  | x :: r => uptoBulkEntry x + uptoBulkEntries r
def uptoBulkEntry {H : Type} : Lit × DataW H → Nat
  | (.string bytes, d) => bytes.length + uptoBulk d + 1
  | (_, d) => uptoBulk d + 1
 end
def uptoSmall : (H : Type) → List (DataW H) → Bool := fun _ ds => decide (uptoBulkAll ds ≤ 1048576)
def OpenSpec.upto (s : _root_.Go.ChangeSpec) : _root_.Go.OpenSpec := { _root_.Go.OpenSpec.ofChange s with cond := some uptoSmall }

/-- 'laws.FnRepeated', WHERE WHAT IT READS IS OF BULK AT MOST 1048576: true; the input reads as it did. -/
def fnRepeatedUptoRow : OpenClaim := { program := "ytaaliglpbjjclaa", sum := "731b91c598f60e080c7c5474334a31cdd9ec56ecd642e02390e9921a5e499849", func := "loop.example/g03224/laws.FnRepeated", spec := "fnRepeated", unfollowed := true, recurses := true, apart := false, narrowed := true }
def FnRepeatedUptoSaid : Prop := fnRepeatedUptoRow.holds Try.pinned (OpenSpec.upto fnRepeatedSpec)

/-- 'laws.FnExactScheduleOf', WHERE WHAT IT READS IS OF BULK AT MOST 1048576: true; the input reads as it did. -/
def fnExactScheduleOfUptoRow : OpenClaim := { program := "ytaaliglpbjjclaa", sum := "731b91c598f60e080c7c5474334a31cdd9ec56ecd642e02390e9921a5e499849", func := "loop.example/g03224/laws.FnExactScheduleOf", spec := "fnExactScheduleOf", unfollowed := true, recurses := true, apart := false, narrowed := true }
def FnExactScheduleOfUptoSaid : Prop := fnExactScheduleOfUptoRow.holds Try.pinned (OpenSpec.upto fnExactScheduleOfSpec)

/-- 'laws.FnFed', WHERE WHAT IT READS IS OF BULK AT MOST 1048576: true; the input reads as it did. -/
def fnFedUptoRow : OpenClaim := { program := "ytaaliglpbjjclaa", sum := "731b91c598f60e080c7c5474334a31cdd9ec56ecd642e02390e9921a5e499849", func := "loop.example/g03224/laws.FnFed", spec := "fnFed", unfollowed := true, recurses := true, apart := false, narrowed := true }
def FnFedUptoSaid : Prop := fnFedUptoRow.holds Try.pinned (OpenSpec.upto fnFedSpec)

/-- 'laws.FnSelf', WHERE WHAT IT READS IS OF BULK AT MOST 1048576: true; the input reads as it did. -/
def fnSelfUptoRow : OpenClaim := { program := "ytaaliglpbjjclaa", sum := "731b91c598f60e080c7c5474334a31cdd9ec56ecd642e02390e9921a5e499849", func := "loop.example/g03224/laws.FnSelf", spec := "fnSelf", unfollowed := true, recurses := true, apart := false, narrowed := true }
def FnSelfUptoSaid : Prop := fnSelfUptoRow.holds Try.pinned (OpenSpec.upto fnSelfSpec)

/-- 'laws.FnCounted', WHERE WHAT IT READS IS OF BULK AT MOST 1048576: true; the input reads as it did. -/
def fnCountedUptoRow : OpenClaim := { program := "ytaaliglpbjjclaa", sum := "731b91c598f60e080c7c5474334a31cdd9ec56ecd642e02390e9921a5e499849", func := "loop.example/g03224/laws.FnCounted", spec := "fnCounted", unfollowed := true, recurses := true, apart := false, narrowed := true }
def FnCountedUptoSaid : Prop := fnCountedUptoRow.holds Try.pinned (OpenSpec.upto fnCountedSpec)

/-- 'laws.FnDropped', WHERE WHAT IT READS IS OF BULK AT MOST 1048576: true; the input reads as it did. -/
def fnDroppedUptoRow : OpenClaim := { program := "ytaaliglpbjjclaa", sum := "731b91c598f60e080c7c5474334a31cdd9ec56ecd642e02390e9921a5e499849", func := "loop.example/g03224/laws.FnDropped", spec := "fnDropped", unfollowed := true, recurses := true, apart := false, narrowed := true }
def FnDroppedUptoSaid : Prop := fnDroppedUptoRow.holds Try.pinned (OpenSpec.upto fnDroppedSpec)

/-- 'laws.FnRates', WHERE WHAT IT READS IS OF BULK AT MOST 1048576: true; the input reads as it did. -/
def fnRatesUptoRow : OpenClaim := { program := "ytaaliglpbjjclaa", sum := "731b91c598f60e080c7c5474334a31cdd9ec56ecd642e02390e9921a5e499849", func := "loop.example/g03224/laws.FnRates", spec := "fnRates", unfollowed := true, recurses := true, apart := false, narrowed := true }
def FnRatesUptoSaid : Prop := fnRatesUptoRow.holds Try.pinned (OpenSpec.upto fnRatesSpec)

end Rows
end Go.Proofs.Ytaaliglpbjjclaa
