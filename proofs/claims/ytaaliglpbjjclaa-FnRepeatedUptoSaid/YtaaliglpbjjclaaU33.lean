/- PART 3 of the texts on which the proof rests: an abstract machine, the equations of the functions, plain words on them. -/
import Derived.Test.YtaaliglpbjjclaaU32
import Derived.Test.YtaaliglpbjjclaaProg

section
/- PRINTED BY A PROGRAM: what the functions compute, as equations. -/
namespace Go.AI
set_option linter.unusedVariables false
set_option linter.unusedSimpArgs false
set_option maxRecDepth 100000
set_option maxHeartbeats 1000000
/- laws.szEdgeS -/
def a61 : Form := ⟨(.cons (.dat (.sl (.pair I64 (.pair I64 (.pair I64 (.pair I64 I64)))))) (.dat I64)), []⟩
def o61 : Form := ⟨(.dat I64), []⟩
noncomputable def tab61 : List Ent := []
theorem tab61_ok : ∀ e ∈ tab61, Sound Go.Proofs.Try.prog e.f e.S := fun _ h => nomatch h
noncomputable def C61 : Ctx := ctxOf Go.Proofs.Try.prog tab61 Go.Proofs.Try.f61 0 [] o61
noncomputable def M61 (x0 : List (Int × Int × Int × Int × Int)) (x1 : Int) : Option ((Int) × Unit) := theM Go.Proofs.Try.prog tab61 [] o61 Go.Proofs.Try.f61 a61 ((x0, x1), ())
noncomputable def r61 {ρ : Type} (ret : (Int) × Unit → Option ρ) (x0 : List (Int × Int × Int × Int × Int)) (x1 : Int) : Option ρ :=
  bif decide (IntKind.wrap IntKind.i64 (x1 - (↑(List.length x0) : Int)) < 0) then ret (-1, ()) else ret (IntKind.wrap IntKind.i64 (x1 - (↑(List.length x0) : Int)), ())
theorem k61 (n : Nat) (x0 : List (Int × Int × Int × Int × Int)) (x1 : Int) : runF Go.Proofs.Try.prog tab61 [] o61 Go.Proofs.Try.f61 some (n + 1) (a61.vals ((x0, x1), ())) (a61.roots ((x0, x1), ())) = r61 (fun d => some (o61.res d)) x0 x1 := by kernel_rfl
theorem M61_eq (x0 : List (Int × Int × Int × Int × Int)) (x1 : Int) : M61 x0 x1 = r61 some x0 x1 := by
  refine (theM_eqn 1 _ fun n => k61 n x0 x1).trans ?_
  have hb : ∀ d, o61.back (o61.res d) = some d := Form.back_res fun d => ⟨_, rfl⟩
  unfold r61
  simp only [lim_cond, lim_bind, lim_const, bind_cond, Option.bind_assoc, bind_some', bind_none', hb]
  try rfl
noncomputable def S61 : Sm := modeS a61 o61 (theM Go.Proofs.Try.prog tab61 [] o61 Go.Proofs.Try.f61 a61) noS
theorem S61_det : Det S61 := modeS_det noS_det
theorem S61_ok : Sound Go.Proofs.Try.prog 61 S61 := sound_mode tab61_ok Go.Proofs.Try.func61 (c := bodyOf Go.Proofs.Try.f61) (by kernel_rfl) (by kernel_rfl) (noS_sound _ _)
/- laws.szGraph -/
def a17 : Form := ⟨(.cons (.agg (.dat (.pair I64 (.sl (.pair I64 (.pair I64 (.pair I64 (.pair I64 I64)))))))) (.dat I64)), []⟩
def o17 : Form := ⟨(.dat I64), []⟩
noncomputable def tab17 : List Ent := [⟨61, false, S61, S61_det⟩]
theorem tab17_ok : ∀ e ∈ tab17, Sound Go.Proofs.Try.prog e.f e.S := List.forall_mem_cons.2 ⟨S61_ok, fun _ h => nomatch h⟩
noncomputable def C17 : Ctx := ctxOf Go.Proofs.Try.prog tab17 Go.Proofs.Try.f17 0 [] o17
noncomputable def M17 (x0 : Int) (x1 : List (Int × Int × Int × Int × Int)) (x2 : Int) : Option ((Int) × Unit) := theM Go.Proofs.Try.prog tab17 [] o17 Go.Proofs.Try.f17 a17 (((x0, x1), x2), ())
noncomputable def r17 {ρ : Type} (ret : (Int) × Unit → Option ρ) (x0 : Int) (x1 : List (Int × Int × Int × Int × Int)) (x2 : Int) : Option ρ :=
  Option.bind (M61 x1 x2) fun d1 => bif decide (Prod.fst d1 < 0) then ret (-1, ()) else ret (Prod.fst d1, ())
theorem k17 (n : Nat) (x0 : Int) (x1 : List (Int × Int × Int × Int × Int)) (x2 : Int) : runF Go.Proofs.Try.prog tab17 [] o17 Go.Proofs.Try.f17 some (n + 1) (a17.vals (((x0, x1), x2), ())) (a17.roots (((x0, x1), x2), ())) = r17 (fun d => some (o17.res d)) x0 x1 x2 := by kernel_rfl
theorem M17_eq (x0 : Int) (x1 : List (Int × Int × Int × Int × Int)) (x2 : Int) : M17 x0 x1 x2 = r17 some x0 x1 x2 := by
  refine (theM_eqn 1 _ fun n => k17 n x0 x1 x2).trans ?_
  have hb : ∀ d, o17.back (o17.res d) = some d := Form.back_res fun d => ⟨_, rfl⟩
  unfold r17
  simp only [lim_cond, lim_bind, lim_const, bind_cond, Option.bind_assoc, bind_some', bind_none', hb]
  try rfl
noncomputable def S17 : Sm := modeS a17 o17 (theM Go.Proofs.Try.prog tab17 [] o17 Go.Proofs.Try.f17 a17) noS
theorem S17_det : Det S17 := modeS_det noS_det
theorem S17_ok : Sound Go.Proofs.Try.prog 17 S17 := sound_mode tab17_ok Go.Proofs.Try.func17 (c := bodyOf Go.Proofs.Try.f17) (by kernel_rfl) (by kernel_rfl) (noS_sound _ _)
/- laws.toEdge -/
def a123 : Form := ⟨(.agg (.dat (.pair I64 (.pair I64 (.pair I64 (.pair I64 I64)))))), []⟩
def o123 : Form := ⟨(.agg (.dat (.pair I64 (.pair I64 (.pair I64 (.pair I64 I64)))))), []⟩
noncomputable def tab123 : List Ent := []
theorem tab123_ok : ∀ e ∈ tab123, Sound Go.Proofs.Try.prog e.f e.S := fun _ h => nomatch h
noncomputable def C123 : Ctx := ctxOf Go.Proofs.Try.prog tab123 Go.Proofs.Try.f123 0 [] o123
noncomputable def M123 (x0 : Int) (x1 : Int) (x2 : Int) (x3 : Int) (x4 : Int) : Option ((Int × Int × Int × Int × Int) × Unit) := theM Go.Proofs.Try.prog tab123 [] o123 Go.Proofs.Try.f123 a123 ((x0, (x1, (x2, (x3, x4)))), ())
noncomputable def r123 {ρ : Type} (ret : (Int × Int × Int × Int × Int) × Unit → Option ρ) (x0 : Int) (x1 : Int) (x2 : Int) (x3 : Int) (x4 : Int) : Option ρ :=
  ret ((x0, x1, x2, x3, x4), ())
theorem k123 (n : Nat) (x0 : Int) (x1 : Int) (x2 : Int) (x3 : Int) (x4 : Int) : runF Go.Proofs.Try.prog tab123 [] o123 Go.Proofs.Try.f123 some (n + 1) (a123.vals ((x0, (x1, (x2, (x3, x4)))), ())) (a123.roots ((x0, (x1, (x2, (x3, x4)))), ())) = r123 (fun d => some (o123.res d)) x0 x1 x2 x3 x4 := by kernel_rfl
theorem M123_eq (x0 : Int) (x1 : Int) (x2 : Int) (x3 : Int) (x4 : Int) : M123 x0 x1 x2 x3 x4 = r123 some x0 x1 x2 x3 x4 := by
  refine (theM_eqn 1 _ fun n => k123 n x0 x1 x2 x3 x4).trans ?_
  have hb : ∀ d, o123.back (o123.res d) = some d := Form.back_res fun d => ⟨_, rfl⟩
  unfold r123
  simp only [lim_cond, lim_bind, lim_const, bind_cond, Option.bind_assoc, bind_some', bind_none', hb]
  try rfl
noncomputable def S123 : Sm := modeS a123 o123 (theM Go.Proofs.Try.prog tab123 [] o123 Go.Proofs.Try.f123 a123) noS
theorem S123_det : Det S123 := modeS_det noS_det
theorem S123_ok : Sound Go.Proofs.Try.prog 123 S123 := sound_mode tab123_ok Go.Proofs.Try.func123 (c := bodyOf Go.Proofs.Try.f123) (by kernel_rfl) (by kernel_rfl) (noS_sound _ _)
/- laws.toEdgeS -/
def a62 : Form := ⟨(.dat (.sl (.pair I64 (.pair I64 (.pair I64 (.pair I64 I64)))))), []⟩
def o62 : Form := ⟨(.ref 0 (.pair I64 (.pair I64 (.pair I64 (.pair I64 I64))))), [.arr (.pair I64 (.pair I64 (.pair I64 (.pair I64 I64))))]⟩
def l62_3 : Lab := ⟨[0, 3, 4], ⟨(.cons (.dat (.sl (.pair I64 (.pair I64 (.pair I64 (.pair I64 I64)))))) (.cons (.ref 0 (.pair I64 (.pair I64 (.pair I64 (.pair I64 I64))))) (.dat I64))), [.arr (.pair I64 (.pair I64 (.pair I64 (.pair I64 I64))))]⟩⟩
noncomputable def tab62 : List Ent := [⟨123, false, S123, S123_det⟩]
theorem tab62_ok : ∀ e ∈ tab62, Sound Go.Proofs.Try.prog e.f e.S := List.forall_mem_cons.2 ⟨S123_ok, fun _ h => nomatch h⟩
noncomputable def C62 : Ctx := ctxOf Go.Proofs.Try.prog tab62 Go.Proofs.Try.f62 0 [(3, l62_3)] o62
noncomputable def i62_3 : List Item := at_ (bodyOf Go.Proofs.Try.f62) [1, 1, 0, 1, 0, 0] []
noncomputable def t62_3 (x0 : List (Int × Int × Int × Int × Int)) (x1 : Int) (x2 : List (Int × Int × Int × Int × Int)) : Option ((Unit) × (List (Int × Int × Int × Int × Int)) × Unit) := theT C62 i62_3 l62_3 ((x0, ((), x1)), (x2, ()))
noncomputable def M62 (x0 : List (Int × Int × Int × Int × Int)) : Option ((Unit) × (List (Int × Int × Int × Int × Int)) × Unit) := theM Go.Proofs.Try.prog tab62 [(3, l62_3)] o62 Go.Proofs.Try.f62 a62 (x0, ())
noncomputable def r62 {ρ : Type} (ret : (Unit) × (List (Int × Int × Int × Int × Int)) × Unit → Option ρ) (t3 : (List (Int × Int × Int × Int × Int)) → Int → (List (Int × Int × Int × Int × Int)) → Option ρ) (x0 : List (Int × Int × Int × Int × Int)) : Option ρ :=
  bif decide ((↑(List.length x0) : Int) = (↑(List.length x0) : Int)) then bif fitBytes (Int.toNat (↑(List.length x0) : Int)) 40 then t3 x0 0 (@List.replicate (Ty.D (Ty.pair (Ty.int IntKind.i64) (Ty.pair (Ty.int IntKind.i64) (Ty.pair (Ty.int IntKind.i64) (Ty.pair (Ty.int IntKind.i64) (Ty.int IntKind.i64)))))) (Int.toNat (↑(List.length x0) : Int)) (0, 0, 0, 0, 0)) else none else none
theorem k62 (n : Nat) (x0 : List (Int × Int × Int × Int × Int)) : runF Go.Proofs.Try.prog tab62 [(3, l62_3)] o62 Go.Proofs.Try.f62 some (n + 1) (a62.vals (x0, ())) (a62.roots (x0, ())) = r62 (fun d => some (o62.res d)) (fun x0 x1 x2 => run C62 some n i62_3 (l62_3.st ((x0, ((), x1)), (x2, ())))) x0 := by kernel_rfl
theorem M62_eq (x0 : List (Int × Int × Int × Int × Int)) : M62 x0 = r62 some t62_3 x0 := by
  refine (theM_eqn 1 _ fun n => k62 n x0).trans ?_
  have hb : ∀ d, o62.back (o62.res d) = some d := Form.back_res fun d => ⟨_, rfl⟩
  unfold r62
  simp only [lim_cond, lim_bind, lim_const, bind_cond, Option.bind_assoc, bind_some', bind_none', hb]
  try rfl
noncomputable def r62_3 {ρ : Type} (ret : (Unit) × (List (Int × Int × Int × Int × Int)) × Unit → Option ρ) (t3 : (List (Int × Int × Int × Int × Int)) → Int → (List (Int × Int × Int × Int × Int)) → Option ρ) (x0 : List (Int × Int × Int × Int × Int)) (x1 : Int) (x2 : List (Int × Int × Int × Int × Int)) : Option ρ :=
  bif decide (x1 < (↑(List.length x0) : Int)) then bif decide (0 ≤ x1) then bif decide (x1 < (↑(List.length x0) : Int)) then Option.bind (M123 (Prod.fst (List.getD x0 (Int.toNat x1) (0, 0, 0, 0, 0))) (Prod.fst (Prod.snd (List.getD x0 (Int.toNat x1) (0, 0, 0, 0, 0)))) (Prod.fst (Prod.snd (Prod.snd (List.getD x0 (Int.toNat x1) (0, 0, 0, 0, 0))))) (Prod.fst (Prod.snd (Prod.snd (Prod.snd (List.getD x0 (Int.toNat x1) (0, 0, 0, 0, 0)))))) (Prod.snd (Prod.snd (Prod.snd (Prod.snd (List.getD x0 (Int.toNat x1) (0, 0, 0, 0, 0))))))) fun d4 => bif decide (0 ≤ x1) then bif decide (x1 < (↑(List.length x2) : Int)) then t3 x0 (IntKind.wrap IntKind.i64 (x1 + 1)) (List.set x2 (Int.toNat x1) (Prod.fst (Prod.fst d4), Prod.fst (Prod.snd (Prod.fst d4)), Prod.fst (Prod.snd (Prod.snd (Prod.fst d4))), Prod.fst (Prod.snd (Prod.snd (Prod.snd (Prod.fst d4)))), Prod.snd (Prod.snd (Prod.snd (Prod.snd (Prod.fst d4)))))) else none else none else none else none else ret ((), x2, ())
theorem k62_3 (n : Nat) (x0 : List (Int × Int × Int × Int × Int)) (x1 : Int) (x2 : List (Int × Int × Int × Int × Int)) : run C62 some (n + 1) i62_3 (l62_3.st ((x0, ((), x1)), (x2, ()))) = r62_3 (fun d => some (o62.res d)) (fun x0 x1 x2 => run C62 some n i62_3 (l62_3.st ((x0, ((), x1)), (x2, ())))) x0 x1 x2 := by kernel_rfl
theorem t62_3_eq (x0 : List (Int × Int × Int × Int × Int)) (x1 : Int) (x2 : List (Int × Int × Int × Int × Int)) : t62_3 x0 x1 x2 = r62_3 some t62_3 x0 x1 x2 := by
  refine (theT_eqn _ fun n => k62_3 n x0 x1 x2).trans ?_
  have hb : ∀ d, o62.back (o62.res d) = some d := Form.back_res fun d => ⟨_, rfl⟩
  unfold r62_3
  simp only [lim_cond, lim_bind, lim_const, bind_cond, Option.bind_assoc, bind_some', bind_none', hb]
  try rfl
noncomputable def S62 : Sm := modeS a62 o62 (theM Go.Proofs.Try.prog tab62 [(3, l62_3)] o62 Go.Proofs.Try.f62 a62) noS
theorem S62_det : Det S62 := modeS_det noS_det
theorem S62_ok : Sound Go.Proofs.Try.prog 62 S62 := sound_mode tab62_ok Go.Proofs.Try.func62 (c := bodyOf Go.Proofs.Try.f62) (by kernel_rfl) (by kernel_rfl) (noS_sound _ _)
/- laws.toGraph -/
def a18 : Form := ⟨(.agg (.dat (.pair I64 (.sl (.pair I64 (.pair I64 (.pair I64 (.pair I64 I64)))))))), []⟩
def o18 : Form := ⟨(.agg (.cons (.dat I64) (.ref 0 (.pair I64 (.pair I64 (.pair I64 (.pair I64 I64))))))), [.arr (.pair I64 (.pair I64 (.pair I64 (.pair I64 I64))))]⟩
noncomputable def tab18 : List Ent := [⟨62, false, S62, S62_det⟩]
theorem tab18_ok : ∀ e ∈ tab18, Sound Go.Proofs.Try.prog e.f e.S := List.forall_mem_cons.2 ⟨S62_ok, fun _ h => nomatch h⟩
noncomputable def C18 : Ctx := ctxOf Go.Proofs.Try.prog tab18 Go.Proofs.Try.f18 0 [] o18
noncomputable def M18 (x0 : Int) (x1 : List (Int × Int × Int × Int × Int)) : Option (((Int) × Unit) × (List (Int × Int × Int × Int × Int)) × Unit) := theM Go.Proofs.Try.prog tab18 [] o18 Go.Proofs.Try.f18 a18 ((x0, x1), ())
noncomputable def r18 {ρ : Type} (ret : ((Int) × Unit) × (List (Int × Int × Int × Int × Int)) × Unit → Option ρ) (x0 : Int) (x1 : List (Int × Int × Int × Int × Int)) : Option ρ :=
  Option.bind (M62 x1) fun d6 => ret ((x0, ()), Prod.fst (Prod.snd d6), ())
theorem k18 (n : Nat) (x0 : Int) (x1 : List (Int × Int × Int × Int × Int)) : runF Go.Proofs.Try.prog tab18 [] o18 Go.Proofs.Try.f18 some (n + 1) (a18.vals ((x0, x1), ())) (a18.roots ((x0, x1), ())) = r18 (fun d => some (o18.res d)) x0 x1 := by kernel_rfl
theorem M18_eq (x0 : Int) (x1 : List (Int × Int × Int × Int × Int)) : M18 x0 x1 = r18 some x0 x1 := by
  refine (theM_eqn 1 _ fun n => k18 n x0 x1).trans ?_
  have hb : ∀ d, o18.back (o18.res d) = some d := Form.back_res fun d => ⟨_, rfl⟩
  unfold r18
  simp only [lim_cond, lim_bind, lim_const, bind_cond, Option.bind_assoc, bind_some', bind_none', hb]
  try rfl
noncomputable def S18 : Sm := modeS a18 o18 (theM Go.Proofs.Try.prog tab18 [] o18 Go.Proofs.Try.f18 a18) noS
theorem S18_det : Det S18 := modeS_det noS_det
theorem S18_ok : Sound Go.Proofs.Try.prog 18 S18 := sound_mode tab18_ok Go.Proofs.Try.func18 (c := bodyOf Go.Proofs.Try.f18) (by kernel_rfl) (by kernel_rfl) (noS_sound _ _)
/- spec.l1In -/
def a95 : Form := ⟨(.cons (.dat I64) (.cons (.dat I64) (.dat I64))), []⟩
def o95 : Form := ⟨(.dat .bool), []⟩
noncomputable def tab95 : List Ent := []
theorem tab95_ok : ∀ e ∈ tab95, Sound Go.Proofs.Try.prog e.f e.S := fun _ h => nomatch h
noncomputable def C95 : Ctx := ctxOf Go.Proofs.Try.prog tab95 Go.Proofs.Try.f95 0 [] o95
noncomputable def M95 (x0 : Int) (x1 : Int) (x2 : Int) : Option ((Bool) × Unit) := theM Go.Proofs.Try.prog tab95 [] o95 Go.Proofs.Try.f95 a95 ((x0, (x1, x2)), ())
noncomputable def r95 {ρ : Type} (ret : (Bool) × Unit → Option ρ) (x0 : Int) (x1 : Int) (x2 : Int) : Option ρ :=
  bif decide (x0 ≥ x1) then ret (decide (x0 ≤ x2), ()) else ret (false, ())
theorem k95 (n : Nat) (x0 : Int) (x1 : Int) (x2 : Int) : runF Go.Proofs.Try.prog tab95 [] o95 Go.Proofs.Try.f95 some (n + 1) (a95.vals ((x0, (x1, x2)), ())) (a95.roots ((x0, (x1, x2)), ())) = r95 (fun d => some (o95.res d)) x0 x1 x2 := by kernel_rfl
theorem M95_eq (x0 : Int) (x1 : Int) (x2 : Int) : M95 x0 x1 x2 = r95 some x0 x1 x2 := by
  refine (theM_eqn 1 _ fun n => k95 n x0 x1 x2).trans ?_
  have hb : ∀ d, o95.back (o95.res d) = some d := Form.back_res fun d => ⟨_, rfl⟩
  unfold r95
  simp only [lim_cond, lim_bind, lim_const, bind_cond, Option.bind_assoc, bind_some', bind_none', hb]
  try rfl
noncomputable def S95 : Sm := modeS a95 o95 (theM Go.Proofs.Try.prog tab95 [] o95 Go.Proofs.Try.f95 a95) noS
theorem S95_det : Det S95 := modeS_det noS_det
theorem S95_ok : Sound Go.Proofs.Try.prog 95 S95 := sound_mode tab95_ok Go.Proofs.Try.func95 (c := bodyOf Go.Proofs.Try.f95) (by kernel_rfl) (by kernel_rfl) (noS_sound _ _)
/- spec.IsGraph -/
def a52 : Form := ⟨(.agg (.dat (.pair I64 (.sl (.pair I64 (.pair I64 (.pair I64 (.pair I64 I64)))))))), []⟩
def o52 : Form := ⟨(.dat .bool), []⟩
def l52_4 : Lab := ⟨[1, 16, 17, 18], ⟨(.cons (.ptr 0 0) (.cons (.dat (.sl (.pair I64 (.pair I64 (.pair I64 (.pair I64 I64)))))) (.cons (.dat I64) (.dat I64)))), [.box (.dat (.pair I64 (.sl (.pair I64 (.pair I64 (.pair I64 (.pair I64 I64)))))))]⟩⟩
noncomputable def tab52 : List Ent := [⟨95, false, S95, S95_det⟩]
theorem tab52_ok : ∀ e ∈ tab52, Sound Go.Proofs.Try.prog e.f e.S := List.forall_mem_cons.2 ⟨S95_ok, fun _ h => nomatch h⟩
noncomputable def C52 : Ctx := ctxOf Go.Proofs.Try.prog tab52 Go.Proofs.Try.f52 0 [(4, l52_4)] o52
noncomputable def i52_4 : List Item := at_ (bodyOf Go.Proofs.Try.f52) [1, 1, 0, 1, 0, 0] []
noncomputable def t52_4 (x0 : List (Int × Int × Int × Int × Int)) (x1 : Int) (x2 : Int) (x3 : Int) (x4 : List (Int × Int × Int × Int × Int)) : Option ((Bool) × Unit) := theT C52 i52_4 l52_4 (((), (x0, (x1, x2))), ((x3, x4), ()))
noncomputable def M52 (x0 : Int) (x1 : List (Int × Int × Int × Int × Int)) : Option ((Bool) × Unit) := theM Go.Proofs.Try.prog tab52 [(4, l52_4)] o52 Go.Proofs.Try.f52 a52 ((x0, x1), ())
noncomputable def r52 {ρ : Type} (ret : (Bool) × Unit → Option ρ) (t4 : (List (Int × Int × Int × Int × Int)) → Int → Int → Int → (List (Int × Int × Int × Int × Int)) → Option ρ) (x0 : Int) (x1 : List (Int × Int × Int × Int × Int)) : Option ρ :=
  Option.bind (M95 x0 0 8) fun d9 => bif !Prod.fst d9 then ret (false, ()) else bif decide ((↑(List.length x1) : Int) > 16) then ret (false, ()) else t4 x1 (↑(List.length x1) : Int) 0 x0 x1
theorem k52 (n : Nat) (x0 : Int) (x1 : List (Int × Int × Int × Int × Int)) : runF Go.Proofs.Try.prog tab52 [(4, l52_4)] o52 Go.Proofs.Try.f52 some (n + 1) (a52.vals ((x0, x1), ())) (a52.roots ((x0, x1), ())) = r52 (fun d => some (o52.res d)) (fun x0 x1 x2 x3 x4 => run C52 some n i52_4 (l52_4.st (((), (x0, (x1, x2))), ((x3, x4), ())))) x0 x1 := by kernel_rfl
theorem M52_eq (x0 : Int) (x1 : List (Int × Int × Int × Int × Int)) : M52 x0 x1 = r52 some t52_4 x0 x1 := by
  refine (theM_eqn 1 _ fun n => k52 n x0 x1).trans ?_
  have hb : ∀ d, o52.back (o52.res d) = some d := Form.back_res fun d => ⟨_, rfl⟩
  unfold r52
  simp only [lim_cond, lim_bind, lim_const, bind_cond, Option.bind_assoc, bind_some', bind_none', hb]
  try rfl
noncomputable def r52_4 {ρ : Type} (ret : (Bool) × Unit → Option ρ) (t4 : (List (Int × Int × Int × Int × Int)) → Int → Int → Int → (List (Int × Int × Int × Int × Int)) → Option ρ) (x0 : List (Int × Int × Int × Int × Int)) (x1 : Int) (x2 : Int) (x3 : Int) (x4 : List (Int × Int × Int × Int × Int)) : Option ρ :=
  bif decide (x2 < x1) then bif decide (0 ≤ x2) then bif decide (x2 < (↑(List.length x0) : Int)) then Option.bind (M95 (Prod.fst (List.getD x0 (Int.toNat x2) (0, 0, 0, 0, 0))) 0 (IntKind.wrap IntKind.i64 (x3 - 1))) fun d10 => bif !Prod.fst d10 then ret (false, ()) else Option.bind (M95 (Prod.fst (Prod.snd (List.getD x0 (Int.toNat x2) (0, 0, 0, 0, 0)))) 0 (IntKind.wrap IntKind.i64 (x3 - 1))) fun d11 => bif !Prod.fst d11 then ret (false, ()) else Option.bind (M95 (Prod.fst (Prod.snd (Prod.snd (List.getD x0 (Int.toNat x2) (0, 0, 0, 0, 0))))) 1 5) fun d12 => bif !Prod.fst d12 then ret (false, ()) else Option.bind (M95 (Prod.fst (Prod.snd (Prod.snd (Prod.snd (List.getD x0 (Int.toNat x2) (0, 0, 0, 0, 0)))))) 1 5) fun d13 => bif !Prod.fst d13 then ret (false, ()) else Option.bind (M95 (Prod.snd (Prod.snd (Prod.snd (Prod.snd (List.getD x0 (Int.toNat x2) (0, 0, 0, 0, 0)))))) 0 50) fun d14 => bif !Prod.fst d14 then ret (false, ()) else t4 x0 x1 (IntKind.wrap IntKind.i64 (x2 + 1)) x3 x4 else none else none else ret (true, ())
theorem k52_4 (n : Nat) (x0 : List (Int × Int × Int × Int × Int)) (x1 : Int) (x2 : Int) (x3 : Int) (x4 : List (Int × Int × Int × Int × Int)) : run C52 some (n + 1) i52_4 (l52_4.st (((), (x0, (x1, x2))), ((x3, x4), ()))) = r52_4 (fun d => some (o52.res d)) (fun x0 x1 x2 x3 x4 => run C52 some n i52_4 (l52_4.st (((), (x0, (x1, x2))), ((x3, x4), ())))) x0 x1 x2 x3 x4 := by kernel_rfl
theorem t52_4_eq (x0 : List (Int × Int × Int × Int × Int)) (x1 : Int) (x2 : Int) (x3 : Int) (x4 : List (Int × Int × Int × Int × Int)) : t52_4 x0 x1 x2 x3 x4 = r52_4 some t52_4 x0 x1 x2 x3 x4 := by
  refine (theT_eqn _ fun n => k52_4 n x0 x1 x2 x3 x4).trans ?_
  have hb : ∀ d, o52.back (o52.res d) = some d := Form.back_res fun d => ⟨_, rfl⟩
  unfold r52_4
  simp only [lim_cond, lim_bind, lim_const, bind_cond, Option.bind_assoc, bind_some', bind_none', hb]
  try rfl
noncomputable def S52 : Sm := modeS a52 o52 (theM Go.Proofs.Try.prog tab52 [(4, l52_4)] o52 Go.Proofs.Try.f52 a52) noS
theorem S52_det : Det S52 := modeS_det noS_det
theorem S52_ok : Sound Go.Proofs.Try.prog 52 S52 := sound_mode tab52_ok Go.Proofs.Try.func52 (c := bodyOf Go.Proofs.Try.f52) (by kernel_rfl) (by kernel_rfl) (noS_sound _ _)
/- spec.l7Gcd -/
def a115 : Form := ⟨(.cons (.dat I64) (.dat I64)), []⟩
def o115 : Form := ⟨(.dat I64), []⟩
def l115_1 : Lab := ⟨[0, 1], ⟨(.cons (.dat I64) (.dat I64)), []⟩⟩
noncomputable def tab115 : List Ent := []
theorem tab115_ok : ∀ e ∈ tab115, Sound Go.Proofs.Try.prog e.f e.S := fun _ h => nomatch h
noncomputable def C115 : Ctx := ctxOf Go.Proofs.Try.prog tab115 Go.Proofs.Try.f115 0 [(1, l115_1)] o115
noncomputable def i115_1 : List Item := at_ (bodyOf Go.Proofs.Try.f115) [1, 0, 0, 0] []
noncomputable def t115_1 (x0 : Int) (x1 : Int) : Option ((Int) × Unit) := theT C115 i115_1 l115_1 ((x0, x1), ())
noncomputable def M115 (x0 : Int) (x1 : Int) : Option ((Int) × Unit) := theM Go.Proofs.Try.prog tab115 [(1, l115_1)] o115 Go.Proofs.Try.f115 a115 ((x0, x1), ())
noncomputable def r115 {ρ : Type} (ret : (Int) × Unit → Option ρ) (t1 : Int → Int → Option ρ) (x0 : Int) (x1 : Int) : Option ρ :=
  t1 x0 x1
theorem k115 (n : Nat) (x0 : Int) (x1 : Int) : runF Go.Proofs.Try.prog tab115 [(1, l115_1)] o115 Go.Proofs.Try.f115 some (n + 1) (a115.vals ((x0, x1), ())) (a115.roots ((x0, x1), ())) = r115 (fun d => some (o115.res d)) (fun x0 x1 => run C115 some n i115_1 (l115_1.st ((x0, x1), ()))) x0 x1 := by kernel_rfl
theorem M115_eq (x0 : Int) (x1 : Int) : M115 x0 x1 = r115 some t115_1 x0 x1 := by
  refine (theM_eqn 1 _ fun n => k115 n x0 x1).trans ?_
  have hb : ∀ d, o115.back (o115.res d) = some d := Form.back_res fun d => ⟨_, rfl⟩
  unfold r115
  simp only [lim_cond, lim_bind, lim_const, bind_cond, Option.bind_assoc, bind_some', bind_none', hb]
  try rfl
noncomputable def r115_1 {ρ : Type} (ret : (Int) × Unit → Option ρ) (t1 : Int → Int → Option ρ) (x0 : Int) (x1 : Int) : Option ρ :=
  bif x1 != 0 then bif decide (x1 ≠ 0) then t1 x1 (Int.tmod x0 x1) else none else ret (x0, ())
theorem k115_1 (n : Nat) (x0 : Int) (x1 : Int) : run C115 some (n + 1) i115_1 (l115_1.st ((x0, x1), ())) = r115_1 (fun d => some (o115.res d)) (fun x0 x1 => run C115 some n i115_1 (l115_1.st ((x0, x1), ()))) x0 x1 := by kernel_rfl
theorem t115_1_eq (x0 : Int) (x1 : Int) : t115_1 x0 x1 = r115_1 some t115_1 x0 x1 := by
  refine (theT_eqn _ fun n => k115_1 n x0 x1).trans ?_
  have hb : ∀ d, o115.back (o115.res d) = some d := Form.back_res fun d => ⟨_, rfl⟩
  unfold r115_1
  simp only [lim_cond, lim_bind, lim_const, bind_cond, Option.bind_assoc, bind_some', bind_none', hb]
  try rfl
noncomputable def S115 : Sm := modeS a115 o115 (theM Go.Proofs.Try.prog tab115 [(1, l115_1)] o115 Go.Proofs.Try.f115 a115) noS
theorem S115_det : Det S115 := modeS_det noS_det
theorem S115_ok : Sound Go.Proofs.Try.prog 115 S115 := sound_mode tab115_ok Go.Proofs.Try.func115 (c := bodyOf Go.Proofs.Try.f115) (by kernel_rfl) (by kernel_rfl) (noS_sound _ _)
/- spec.l7Scale -/
def a120 : Form := ⟨(.cons (.ref 0 I64) (.cons (.ref 1 .bool) (.dat I64))), [.arr I64, .arr .bool]⟩
def o120 : Form := ⟨(.tup .nil), [.arr I64, .arr .bool]⟩
def l120_1 : Lab := ⟨[0, 1, 2, 8, 9], ⟨(.cons (.ref 0 I64) (.cons (.ref 1 .bool) (.cons (.dat I64) (.cons (.dat I64) (.dat I64))))), [.arr I64, .arr .bool]⟩⟩
noncomputable def tab120 : List Ent := []
theorem tab120_ok : ∀ e ∈ tab120, Sound Go.Proofs.Try.prog e.f e.S := fun _ h => nomatch h
noncomputable def C120 : Ctx := ctxOf Go.Proofs.Try.prog tab120 Go.Proofs.Try.f120 2 [(1, l120_1)] o120
noncomputable def i120_1 : List Item := at_ (bodyOf Go.Proofs.Try.f120) [1, 0, 0] []
noncomputable def t120_1 (x0 : Int) (x1 : Int) (x2 : Int) (x3 : List Int) (x4 : List Bool) : Option ((Unit) × (List Int) × (List Bool) × Unit) := theT C120 i120_1 l120_1 (((), ((), (x0, (x1, x2)))), (x3, (x4, ())))
noncomputable def M120 (x0 : Int) (x1 : List Int) (x2 : List Bool) : Option ((Unit) × (List Int) × (List Bool) × Unit) := theM Go.Proofs.Try.prog tab120 [(1, l120_1)] o120 Go.Proofs.Try.f120 a120 (((), ((), x0)), (x1, (x2, ())))
noncomputable def r120 {ρ : Type} (ret : (Unit) × (List Int) × (List Bool) × Unit → Option ρ) (t1 : Int → Int → Int → (List Int) → (List Bool) → Option ρ) (x0 : Int) (x1 : List Int) (x2 : List Bool) : Option ρ :=
  t1 x0 (↑(List.length x1) : Int) 0 x1 x2
theorem k120 (n : Nat) (x0 : Int) (x1 : List Int) (x2 : List Bool) : runF Go.Proofs.Try.prog tab120 [(1, l120_1)] o120 Go.Proofs.Try.f120 some (n + 1) (a120.vals (((), ((), x0)), (x1, (x2, ())))) (a120.roots (((), ((), x0)), (x1, (x2, ())))) = r120 (fun d => some (o120.res d)) (fun x0 x1 x2 x3 x4 => run C120 some n i120_1 (l120_1.st (((), ((), (x0, (x1, x2)))), (x3, (x4, ()))))) x0 x1 x2 := by kernel_rfl
theorem M120_eq (x0 : Int) (x1 : List Int) (x2 : List Bool) : M120 x0 x1 x2 = r120 some t120_1 x0 x1 x2 := by
  refine (theM_eqn 1 _ fun n => k120 n x0 x1 x2).trans ?_
  have hb : ∀ d, o120.back (o120.res d) = some d := Form.back_res fun d => ⟨_, rfl⟩
  unfold r120
  simp only [lim_cond, lim_bind, lim_const, bind_cond, Option.bind_assoc, bind_some', bind_none', hb]
  try rfl
noncomputable def r120_1 {ρ : Type} (ret : (Unit) × (List Int) × (List Bool) × Unit → Option ρ) (t1 : Int → Int → Int → (List Int) → (List Bool) → Option ρ) (x0 : Int) (x1 : Int) (x2 : Int) (x3 : List Int) (x4 : List Bool) : Option ρ :=
  bif decide (x2 < x1) then bif decide (0 ≤ x2) then bif decide (x2 < (↑(List.length x4) : Int)) then bif List.getD x4 (Int.toNat x2) false then bif decide (0 ≤ x2) then bif decide (x2 < (↑(List.length x3) : Int)) then bif decide (0 ≤ x2) then bif decide (x2 < (↑(List.length x3) : Int)) then t1 x0 x1 (IntKind.wrap IntKind.i64 (x2 + 1)) (List.set x3 (Int.toNat x2) (IntKind.wrap IntKind.i64 (List.getD x3 (Int.toNat x2) 0 * x0))) x4 else none else none else none else none else t1 x0 x1 (IntKind.wrap IntKind.i64 (x2 + 1)) x3 x4 else none else none else ret ((), x3, x4, ())
theorem k120_1 (n : Nat) (x0 : Int) (x1 : Int) (x2 : Int) (x3 : List Int) (x4 : List Bool) : run C120 some (n + 1) i120_1 (l120_1.st (((), ((), (x0, (x1, x2)))), (x3, (x4, ())))) = r120_1 (fun d => some (o120.res d)) (fun x0 x1 x2 x3 x4 => run C120 some n i120_1 (l120_1.st (((), ((), (x0, (x1, x2)))), (x3, (x4, ()))))) x0 x1 x2 x3 x4 := by kernel_rfl
theorem t120_1_eq (x0 : Int) (x1 : Int) (x2 : Int) (x3 : List Int) (x4 : List Bool) : t120_1 x0 x1 x2 x3 x4 = r120_1 some t120_1 x0 x1 x2 x3 x4 := by
  refine (theT_eqn _ fun n => k120_1 n x0 x1 x2 x3 x4).trans ?_
  have hb : ∀ d, o120.back (o120.res d) = some d := Form.back_res fun d => ⟨_, rfl⟩
  unfold r120_1
  simp only [lim_cond, lim_bind, lim_const, bind_cond, Option.bind_assoc, bind_some', bind_none', hb]
  try rfl
noncomputable def S120 : Sm := modeS a120 o120 (theM Go.Proofs.Try.prog tab120 [(1, l120_1)] o120 Go.Proofs.Try.f120 a120) noS
theorem S120_det : Det S120 := modeS_det noS_det
theorem S120_ok : Sound Go.Proofs.Try.prog 120 S120 := sound_mode tab120_ok Go.Proofs.Try.func120 (c := bodyOf Go.Proofs.Try.f120) (by kernel_rfl) (by kernel_rfl) (noS_sound _ _)
/- spec.l7Part -/
def a53 : Form := ⟨(.cons (.agg (.dat (.pair I64 (.sl (.pair I64 (.pair I64 (.pair I64 (.pair I64 I64)))))))) (.cons (.ref 0 I64) (.dat I64))), [.arr I64]⟩
def o53 : Form := ⟨(.dat .bool), [.arr I64]⟩
def l53_5 : Lab := ⟨[1, 3, 7, 28, 29], ⟨(.cons (.ref 0 I64) (.cons (.ptr 1 0) (.cons (.ref 2 .bool) (.cons (.dat I64) (.dat I64))))), [.arr I64, .box (.dat (.pair I64 (.sl (.pair I64 (.pair I64 (.pair I64 (.pair I64 I64))))))), .arr .bool]⟩⟩
def l53_7 : Lab := ⟨[1, 3, 7, 28, 29, 32, 33, 34], ⟨(.cons (.ref 0 I64) (.cons (.ptr 1 0) (.cons (.ref 2 .bool) (.cons (.dat I64) (.cons (.dat I64) (.cons (.dat (.sl (.pair I64 (.pair I64 (.pair I64 (.pair I64 I64)))))) (.cons (.dat I64) (.dat I64)))))))), [.arr I64, .box (.dat (.pair I64 (.sl (.pair I64 (.pair I64 (.pair I64 (.pair I64 I64))))))), .arr .bool]⟩⟩
def l53_25 : Lab := ⟨[1, 7, 15, 103, 104], ⟨(.cons (.ref 0 I64) (.cons (.ref 1 .bool) (.cons (.dat I64) (.cons (.dat I64) (.dat I64))))), [.arr I64, .arr .bool]⟩⟩
def l53_16 : Lab := ⟨[1, 3, 7, 10, 11, 12, 13, 28, 29, 32, 33, 34], ⟨(.cons (.ref 0 I64) (.cons (.ptr 1 0) (.cons (.ref 2 .bool) (.cons (.dat I64) (.cons (.dat I64) (.cons (.dat I64) (.cons (.dat I64) (.cons (.dat I64) (.cons (.dat I64) (.cons (.dat (.sl (.pair I64 (.pair I64 (.pair I64 (.pair I64 I64)))))) (.cons (.dat I64) (.dat I64)))))))))))), [.arr I64, .box (.dat (.pair I64 (.sl (.pair I64 (.pair I64 (.pair I64 (.pair I64 I64))))))), .arr .bool]⟩⟩
def l53_29 : Lab := ⟨[1, 7, 15, 103, 104], ⟨(.cons (.ref 0 I64) (.cons (.ref 1 .bool) (.cons (.dat I64) (.cons (.dat I64) (.dat I64))))), [.arr I64, .arr .bool]⟩⟩
def l53_31 : Lab := ⟨[1, 7, 15, 119, 120], ⟨(.cons (.ref 0 I64) (.cons (.ref 1 .bool) (.cons (.dat I64) (.cons (.dat I64) (.dat I64))))), [.arr I64, .arr .bool]⟩⟩
def l53_21 : Lab := ⟨[1, 3, 7, 28, 29, 32, 33, 34], ⟨(.cons (.ref 0 I64) (.cons (.ptr 1 0) (.cons (.ref 2 .bool) (.cons (.dat I64) (.cons (.dat I64) (.cons (.dat (.sl (.pair I64 (.pair I64 (.pair I64 (.pair I64 I64)))))) (.cons (.dat I64) (.dat I64)))))))), [.arr I64, .box (.dat (.pair I64 (.sl (.pair I64 (.pair I64 (.pair I64 (.pair I64 I64))))))), .arr .bool]⟩⟩
def l53_35 : Lab := ⟨[1, 7, 15, 119, 120], ⟨(.cons (.ref 0 I64) (.cons (.ref 1 .bool) (.cons (.dat I64) (.cons (.dat I64) (.dat I64))))), [.arr I64, .arr .bool]⟩⟩
noncomputable def tab53 : List Ent := [⟨115, false, S115, S115_det⟩, ⟨120, true, S120, S120_det⟩]
theorem tab53_ok : ∀ e ∈ tab53, Sound Go.Proofs.Try.prog e.f e.S := List.forall_mem_cons.2 ⟨S115_ok, List.forall_mem_cons.2 ⟨S120_ok, fun _ h => nomatch h⟩⟩
noncomputable def C53 : Ctx := ctxOf Go.Proofs.Try.prog tab53 Go.Proofs.Try.f53 1 [(5, l53_5), (7, l53_7), (25, l53_25), (16, l53_16), (29, l53_29), (31, l53_31), (21, l53_21), (35, l53_35)] o53
noncomputable def i53_5 : List Item := at_ (bodyOf Go.Proofs.Try.f53) [1, 1, 1, 1, 0, 1, 0, 0] []
noncomputable def t53_5 (x0 : Int) (x1 : Int) (x2 : List Int) (x3 : Int) (x4 : List (Int × Int × Int × Int × Int)) (x5 : List Bool) : Option ((Bool) × (List Int) × Unit) := theT C53 i53_5 l53_5 (((), ((), ((), (x0, x1)))), (x2, ((x3, x4), (x5, ()))))
noncomputable def i53_7 : List Item := at_ (bodyOf Go.Proofs.Try.f53) [1, 1, 1, 1, 0, 1, 0, 0, 1, 1, 0, 0, 1, 0, 0] []
noncomputable def t53_7 (x0 : Int) (x1 : Int) (x2 : List (Int × Int × Int × Int × Int)) (x3 : Int) (x4 : Int) (x5 : List Int) (x6 : Int) (x7 : List (Int × Int × Int × Int × Int)) (x8 : List Bool) : Option ((Bool) × (List Int) × Unit) := theT C53 i53_7 l53_7 (((), ((), ((), (x0, (x1, (x2, (x3, x4))))))), (x5, ((x6, x7), (x8, ()))))
noncomputable def i53_25 : List Item := at_ (bodyOf Go.Proofs.Try.f53) [1, 1, 1, 1, 1, 1, 0, 1, 0, 0] []
noncomputable def t53_25 (x0 : Int) (x1 : Int) (x2 : Int) (x3 : List Int) (x4 : List Bool) : Option ((Bool) × (List Int) × Unit) := theT C53 i53_25 l53_25 (((), ((), (x0, (x1, x2)))), (x3, (x4, ())))
noncomputable def i53_16 : List Item := at_ (bodyOf Go.Proofs.Try.f53) [1, 1, 1, 1, 0, 1, 0, 0, 1, 1, 0, 0, 1, 0, 0, 1, 1, 0, 0, 1, 1, 1, 1, 1, 1, 0, 0] []
noncomputable def t53_16 (x0 : Int) (x1 : Int) (x2 : Int) (x3 : Int) (x4 : Int) (x5 : Int) (x6 : List (Int × Int × Int × Int × Int)) (x7 : Int) (x8 : Int) (x9 : List Int) (x10 : Int) (x11 : List (Int × Int × Int × Int × Int)) (x12 : List Bool) : Option ((Bool) × (List Int) × Unit) := theT C53 i53_16 l53_16 (((), ((), ((), (x0, (x1, (x2, (x3, (x4, (x5, (x6, (x7, x8))))))))))), (x9, ((x10, x11), (x12, ()))))
noncomputable def i53_29 : List Item := at_ (bodyOf Go.Proofs.Try.f53) [1, 1, 1, 1, 1, 1, 0, 1, 0, 0, 1, 1, 1] []
noncomputable def t53_29 (x0 : Int) (x1 : Int) (x2 : Int) (x3 : List Int) (x4 : List Bool) : Option ((Bool) × (List Int) × Unit) := theT C53 i53_29 l53_29 (((), ((), (x0, (x1, x2)))), (x3, (x4, ())))
noncomputable def i53_31 : List Item := at_ (bodyOf Go.Proofs.Try.f53) [1, 1, 1, 1, 1, 1, 1, 0, 1, 0, 0] []
noncomputable def t53_31 (x0 : Int) (x1 : Int) (x2 : Int) (x3 : List Int) (x4 : List Bool) : Option ((Bool) × (List Int) × Unit) := theT C53 i53_31 l53_31 (((), ((), (x0, (x1, x2)))), (x3, (x4, ())))
noncomputable def i53_21 : List Item := at_ (bodyOf Go.Proofs.Try.f53) [1, 1, 1, 1, 0, 1, 0, 0, 1, 1, 0, 0, 1, 0, 0, 1, 1, 1] []
noncomputable def t53_21 (x0 : Int) (x1 : Int) (x2 : List (Int × Int × Int × Int × Int)) (x3 : Int) (x4 : Int) (x5 : List Int) (x6 : Int) (x7 : List (Int × Int × Int × Int × Int)) (x8 : List Bool) : Option ((Bool) × (List Int) × Unit) := theT C53 i53_21 l53_21 (((), ((), ((), (x0, (x1, (x2, (x3, x4))))))), (x5, ((x6, x7), (x8, ()))))
noncomputable def i53_35 : List Item := at_ (bodyOf Go.Proofs.Try.f53) [1, 1, 1, 1, 1, 1, 1, 0, 1, 0, 0, 1, 1, 1] []
noncomputable def t53_35 (x0 : Int) (x1 : Int) (x2 : Int) (x3 : List Int) (x4 : List Bool) : Option ((Bool) × (List Int) × Unit) := theT C53 i53_35 l53_35 (((), ((), (x0, (x1, x2)))), (x3, (x4, ())))
noncomputable def M53 (x0 : Int) (x1 : List (Int × Int × Int × Int × Int)) (x2 : Int) (x3 : List Int) : Option ((Bool) × (List Int) × Unit) := theM Go.Proofs.Try.prog tab53 [(5, l53_5), (7, l53_7), (25, l53_25), (16, l53_16), (29, l53_29), (31, l53_31), (21, l53_21), (35, l53_35)] o53 Go.Proofs.Try.f53 a53 (((x0, x1), ((), x2)), (x3, ()))
noncomputable def r53 {ρ : Type} (ret : (Bool) × (List Int) × Unit → Option ρ) (t5 : Int → Int → (List Int) → Int → (List (Int × Int × Int × Int × Int)) → (List Bool) → Option ρ) (t7 : Int → Int → (List (Int × Int × Int × Int × Int)) → Int → Int → (List Int) → Int → (List (Int × Int × Int × Int × Int)) → (List Bool) → Option ρ) (t25 : Int → Int → Int → (List Int) → (List Bool) → Option ρ) (t16 : Int → Int → Int → Int → Int → Int → (List (Int × Int × Int × Int × Int)) → Int → Int → (List Int) → Int → (List (Int × Int × Int × Int × Int)) → (List Bool) → Option ρ) (t29 : Int → Int → Int → (List Int) → (List Bool) → Option ρ) (t31 : Int → Int → Int → (List Int) → (List Bool) → Option ρ) (t21 : Int → Int → (List (Int × Int × Int × Int × Int)) → Int → Int → (List Int) → Int → (List (Int × Int × Int × Int × Int)) → (List Bool) → Option ρ) (t35 : Int → Int → Int → (List Int) → (List Bool) → Option ρ) (x0 : Int) (x1 : List (Int × Int × Int × Int × Int)) (x2 : Int) (x3 : List Int) : Option ρ :=
  bif decide (x0 = x0) then bif decide (0 ≤ x0) then bif fitBytes (Int.toNat x0) 1 then bif decide (0 ≤ x2) then bif decide (x2 < (↑(List.length (@List.replicate (Ty.D Ty.bool) (Int.toNat x0) false)) : Int)) then bif decide (0 ≤ x2) then bif decide (x2 < (↑(List.length x3) : Int)) then t5 x0 0 (List.set x3 (Int.toNat x2) 1) x0 x1 (List.set (@List.replicate (Ty.D Ty.bool) (Int.toNat x0) false) (Int.toNat x2) true) else none else none else none else none else none else none else none
theorem k53 (n : Nat) (x0 : Int) (x1 : List (Int × Int × Int × Int × Int)) (x2 : Int) (x3 : List Int) : runF Go.Proofs.Try.prog tab53 [(5, l53_5), (7, l53_7), (25, l53_25), (16, l53_16), (29, l53_29), (31, l53_31), (21, l53_21), (35, l53_35)] o53 Go.Proofs.Try.f53 some (n + 1) (a53.vals (((x0, x1), ((), x2)), (x3, ()))) (a53.roots (((x0, x1), ((), x2)), (x3, ()))) = r53 (fun d => some (o53.res d)) (fun x0 x1 x2 x3 x4 x5 => run C53 some n i53_5 (l53_5.st (((), ((), ((), (x0, x1)))), (x2, ((x3, x4), (x5, ())))))) (fun x0 x1 x2 x3 x4 x5 x6 x7 x8 => run C53 some n i53_7 (l53_7.st (((), ((), ((), (x0, (x1, (x2, (x3, x4))))))), (x5, ((x6, x7), (x8, ())))))) (fun x0 x1 x2 x3 x4 => run C53 some n i53_25 (l53_25.st (((), ((), (x0, (x1, x2)))), (x3, (x4, ()))))) (fun x0 x1 x2 x3 x4 x5 x6 x7 x8 x9 x10 x11 x12 => run C53 some n i53_16 (l53_16.st (((), ((), ((), (x0, (x1, (x2, (x3, (x4, (x5, (x6, (x7, x8))))))))))), (x9, ((x10, x11), (x12, ())))))) (fun x0 x1 x2 x3 x4 => run C53 some n i53_29 (l53_29.st (((), ((), (x0, (x1, x2)))), (x3, (x4, ()))))) (fun x0 x1 x2 x3 x4 => run C53 some n i53_31 (l53_31.st (((), ((), (x0, (x1, x2)))), (x3, (x4, ()))))) (fun x0 x1 x2 x3 x4 x5 x6 x7 x8 => run C53 some n i53_21 (l53_21.st (((), ((), ((), (x0, (x1, (x2, (x3, x4))))))), (x5, ((x6, x7), (x8, ())))))) (fun x0 x1 x2 x3 x4 => run C53 some n i53_35 (l53_35.st (((), ((), (x0, (x1, x2)))), (x3, (x4, ()))))) x0 x1 x2 x3 := by kernel_rfl
theorem M53_eq (x0 : Int) (x1 : List (Int × Int × Int × Int × Int)) (x2 : Int) (x3 : List Int) : M53 x0 x1 x2 x3 = r53 some t53_5 t53_7 t53_25 t53_16 t53_29 t53_31 t53_21 t53_35 x0 x1 x2 x3 := by
  refine (theM_eqn 1 _ fun n => k53 n x0 x1 x2 x3).trans ?_
  have hb : ∀ d, o53.back (o53.res d) = some d := Form.back_res fun d => ⟨_, rfl⟩
  unfold r53
  simp only [lim_cond, lim_bind, lim_const, bind_cond, Option.bind_assoc, bind_some', bind_none', hb]
  try rfl
noncomputable def r53_5 {ρ : Type} (ret : (Bool) × (List Int) × Unit → Option ρ) (t5 : Int → Int → (List Int) → Int → (List (Int × Int × Int × Int × Int)) → (List Bool) → Option ρ) (t7 : Int → Int → (List (Int × Int × Int × Int × Int)) → Int → Int → (List Int) → Int → (List (Int × Int × Int × Int × Int)) → (List Bool) → Option ρ) (t25 : Int → Int → Int → (List Int) → (List Bool) → Option ρ) (t16 : Int → Int → Int → Int → Int → Int → (List (Int × Int × Int × Int × Int)) → Int → Int → (List Int) → Int → (List (Int × Int × Int × Int × Int)) → (List Bool) → Option ρ) (t29 : Int → Int → Int → (List Int) → (List Bool) → Option ρ) (t31 : Int → Int → Int → (List Int) → (List Bool) → Option ρ) (t21 : Int → Int → (List (Int × Int × Int × Int × Int)) → Int → Int → (List Int) → Int → (List (Int × Int × Int × Int × Int)) → (List Bool) → Option ρ) (t35 : Int → Int → Int → (List Int) → (List Bool) → Option ρ) (x0 : Int) (x1 : Int) (x2 : List Int) (x3 : Int) (x4 : List (Int × Int × Int × Int × Int)) (x5 : List Bool) : Option ρ :=
  bif decide (x1 < x0) then t7 x0 x1 x4 (↑(List.length x4) : Int) 0 x2 x3 x4 x5 else t25 0 (↑(List.length x2) : Int) 0 x2 x5
theorem k53_5 (n : Nat) (x0 : Int) (x1 : Int) (x2 : List Int) (x3 : Int) (x4 : List (Int × Int × Int × Int × Int)) (x5 : List Bool) : run C53 some (n + 1) i53_5 (l53_5.st (((), ((), ((), (x0, x1)))), (x2, ((x3, x4), (x5, ()))))) = r53_5 (fun d => some (o53.res d)) (fun x0 x1 x2 x3 x4 x5 => run C53 some n i53_5 (l53_5.st (((), ((), ((), (x0, x1)))), (x2, ((x3, x4), (x5, ())))))) (fun x0 x1 x2 x3 x4 x5 x6 x7 x8 => run C53 some n i53_7 (l53_7.st (((), ((), ((), (x0, (x1, (x2, (x3, x4))))))), (x5, ((x6, x7), (x8, ())))))) (fun x0 x1 x2 x3 x4 => run C53 some n i53_25 (l53_25.st (((), ((), (x0, (x1, x2)))), (x3, (x4, ()))))) (fun x0 x1 x2 x3 x4 x5 x6 x7 x8 x9 x10 x11 x12 => run C53 some n i53_16 (l53_16.st (((), ((), ((), (x0, (x1, (x2, (x3, (x4, (x5, (x6, (x7, x8))))))))))), (x9, ((x10, x11), (x12, ())))))) (fun x0 x1 x2 x3 x4 => run C53 some n i53_29 (l53_29.st (((), ((), (x0, (x1, x2)))), (x3, (x4, ()))))) (fun x0 x1 x2 x3 x4 => run C53 some n i53_31 (l53_31.st (((), ((), (x0, (x1, x2)))), (x3, (x4, ()))))) (fun x0 x1 x2 x3 x4 x5 x6 x7 x8 => run C53 some n i53_21 (l53_21.st (((), ((), ((), (x0, (x1, (x2, (x3, x4))))))), (x5, ((x6, x7), (x8, ())))))) (fun x0 x1 x2 x3 x4 => run C53 some n i53_35 (l53_35.st (((), ((), (x0, (x1, x2)))), (x3, (x4, ()))))) x0 x1 x2 x3 x4 x5 := by kernel_rfl
theorem t53_5_eq (x0 : Int) (x1 : Int) (x2 : List Int) (x3 : Int) (x4 : List (Int × Int × Int × Int × Int)) (x5 : List Bool) : t53_5 x0 x1 x2 x3 x4 x5 = r53_5 some t53_5 t53_7 t53_25 t53_16 t53_29 t53_31 t53_21 t53_35 x0 x1 x2 x3 x4 x5 := by
  refine (theT_eqn _ fun n => k53_5 n x0 x1 x2 x3 x4 x5).trans ?_
  have hb : ∀ d, o53.back (o53.res d) = some d := Form.back_res fun d => ⟨_, rfl⟩
  unfold r53_5
  simp only [lim_cond, lim_bind, lim_const, bind_cond, Option.bind_assoc, bind_some', bind_none', hb]
  try rfl
noncomputable def r53_7 {ρ : Type} (ret : (Bool) × (List Int) × Unit → Option ρ) (t5 : Int → Int → (List Int) → Int → (List (Int × Int × Int × Int × Int)) → (List Bool) → Option ρ) (t7 : Int → Int → (List (Int × Int × Int × Int × Int)) → Int → Int → (List Int) → Int → (List (Int × Int × Int × Int × Int)) → (List Bool) → Option ρ) (t25 : Int → Int → Int → (List Int) → (List Bool) → Option ρ) (t16 : Int → Int → Int → Int → Int → Int → (List (Int × Int × Int × Int × Int)) → Int → Int → (List Int) → Int → (List (Int × Int × Int × Int × Int)) → (List Bool) → Option ρ) (t29 : Int → Int → Int → (List Int) → (List Bool) → Option ρ) (t31 : Int → Int → Int → (List Int) → (List Bool) → Option ρ) (t21 : Int → Int → (List (Int × Int × Int × Int × Int)) → Int → Int → (List Int) → Int → (List (Int × Int × Int × Int × Int)) → (List Bool) → Option ρ) (t35 : Int → Int → Int → (List Int) → (List Bool) → Option ρ) (x0 : Int) (x1 : Int) (x2 : List (Int × Int × Int × Int × Int)) (x3 : Int) (x4 : Int) (x5 : List Int) (x6 : Int) (x7 : List (Int × Int × Int × Int × Int)) (x8 : List Bool) : Option ρ :=
  bif decide (x4 < x3) then bif decide (0 ≤ x4) then bif decide (x4 < (↑(List.length x2) : Int)) then bif decide (0 ≤ Prod.fst (Prod.snd (List.getD x2 (Int.toNat x4) (0, 0, 0, 0, 0)))) then bif decide (Prod.fst (Prod.snd (List.getD x2 (Int.toNat x4) (0, 0, 0, 0, 0))) < (↑(List.length x8) : Int)) then bif List.getD x8 (Int.toNat (Prod.fst (Prod.snd (List.getD x2 (Int.toNat x4) (0, 0, 0, 0, 0))))) false then bif decide (0 ≤ Prod.fst (List.getD x2 (Int.toNat x4) (0, 0, 0, 0, 0))) then bif decide (Prod.fst (List.getD x2 (Int.toNat x4) (0, 0, 0, 0, 0)) < (↑(List.length x8) : Int)) then bif !List.getD x8 (Int.toNat (Prod.fst (List.getD x2 (Int.toNat x4) (0, 0, 0, 0, 0)))) false then t16 (Prod.fst (Prod.snd (List.getD x2 (Int.toNat x4) (0, 0, 0, 0, 0)))) (Prod.fst (List.getD x2 (Int.toNat x4) (0, 0, 0, 0, 0))) (Prod.fst (Prod.snd (Prod.snd (Prod.snd (List.getD x2 (Int.toNat x4) (0, 0, 0, 0, 0)))))) (Prod.fst (Prod.snd (Prod.snd (List.getD x2 (Int.toNat x4) (0, 0, 0, 0, 0))))) x0 x1 x2 x3 x4 x5 x6 x7 x8 else t16 (Prod.fst (List.getD x2 (Int.toNat x4) (0, 0, 0, 0, 0))) (Prod.fst (Prod.snd (List.getD x2 (Int.toNat x4) (0, 0, 0, 0, 0)))) (Prod.fst (Prod.snd (Prod.snd (List.getD x2 (Int.toNat x4) (0, 0, 0, 0, 0))))) (Prod.fst (Prod.snd (Prod.snd (Prod.snd (List.getD x2 (Int.toNat x4) (0, 0, 0, 0, 0)))))) x0 x1 x2 x3 x4 x5 x6 x7 x8 else none else none else t16 (Prod.fst (List.getD x2 (Int.toNat x4) (0, 0, 0, 0, 0))) (Prod.fst (Prod.snd (List.getD x2 (Int.toNat x4) (0, 0, 0, 0, 0)))) (Prod.fst (Prod.snd (Prod.snd (List.getD x2 (Int.toNat x4) (0, 0, 0, 0, 0))))) (Prod.fst (Prod.snd (Prod.snd (Prod.snd (List.getD x2 (Int.toNat x4) (0, 0, 0, 0, 0)))))) x0 x1 x2 x3 x4 x5 x6 x7 x8 else none else none else none else none else t5 x0 (IntKind.wrap IntKind.i64 (x1 + 1)) x5 x6 x7 x8
theorem k53_7 (n : Nat) (x0 : Int) (x1 : Int) (x2 : List (Int × Int × Int × Int × Int)) (x3 : Int) (x4 : Int) (x5 : List Int) (x6 : Int) (x7 : List (Int × Int × Int × Int × Int)) (x8 : List Bool) : run C53 some (n + 1) i53_7 (l53_7.st (((), ((), ((), (x0, (x1, (x2, (x3, x4))))))), (x5, ((x6, x7), (x8, ()))))) = r53_7 (fun d => some (o53.res d)) (fun x0 x1 x2 x3 x4 x5 => run C53 some n i53_5 (l53_5.st (((), ((), ((), (x0, x1)))), (x2, ((x3, x4), (x5, ())))))) (fun x0 x1 x2 x3 x4 x5 x6 x7 x8 => run C53 some n i53_7 (l53_7.st (((), ((), ((), (x0, (x1, (x2, (x3, x4))))))), (x5, ((x6, x7), (x8, ())))))) (fun x0 x1 x2 x3 x4 => run C53 some n i53_25 (l53_25.st (((), ((), (x0, (x1, x2)))), (x3, (x4, ()))))) (fun x0 x1 x2 x3 x4 x5 x6 x7 x8 x9 x10 x11 x12 => run C53 some n i53_16 (l53_16.st (((), ((), ((), (x0, (x1, (x2, (x3, (x4, (x5, (x6, (x7, x8))))))))))), (x9, ((x10, x11), (x12, ())))))) (fun x0 x1 x2 x3 x4 => run C53 some n i53_29 (l53_29.st (((), ((), (x0, (x1, x2)))), (x3, (x4, ()))))) (fun x0 x1 x2 x3 x4 => run C53 some n i53_31 (l53_31.st (((), ((), (x0, (x1, x2)))), (x3, (x4, ()))))) (fun x0 x1 x2 x3 x4 x5 x6 x7 x8 => run C53 some n i53_21 (l53_21.st (((), ((), ((), (x0, (x1, (x2, (x3, x4))))))), (x5, ((x6, x7), (x8, ())))))) (fun x0 x1 x2 x3 x4 => run C53 some n i53_35 (l53_35.st (((), ((), (x0, (x1, x2)))), (x3, (x4, ()))))) x0 x1 x2 x3 x4 x5 x6 x7 x8 := by kernel_rfl
theorem t53_7_eq (x0 : Int) (x1 : Int) (x2 : List (Int × Int × Int × Int × Int)) (x3 : Int) (x4 : Int) (x5 : List Int) (x6 : Int) (x7 : List (Int × Int × Int × Int × Int)) (x8 : List Bool) : t53_7 x0 x1 x2 x3 x4 x5 x6 x7 x8 = r53_7 some t53_5 t53_7 t53_25 t53_16 t53_29 t53_31 t53_21 t53_35 x0 x1 x2 x3 x4 x5 x6 x7 x8 := by
  refine (theT_eqn _ fun n => k53_7 n x0 x1 x2 x3 x4 x5 x6 x7 x8).trans ?_
  have hb : ∀ d, o53.back (o53.res d) = some d := Form.back_res fun d => ⟨_, rfl⟩
  unfold r53_7
  simp only [lim_cond, lim_bind, lim_const, bind_cond, Option.bind_assoc, bind_some', bind_none', hb]
  try rfl
noncomputable def r53_25 {ρ : Type} (ret : (Bool) × (List Int) × Unit → Option ρ) (t5 : Int → Int → (List Int) → Int → (List (Int × Int × Int × Int × Int)) → (List Bool) → Option ρ) (t7 : Int → Int → (List (Int × Int × Int × Int × Int)) → Int → Int → (List Int) → Int → (List (Int × Int × Int × Int × Int)) → (List Bool) → Option ρ) (t25 : Int → Int → Int → (List Int) → (List Bool) → Option ρ) (t16 : Int → Int → Int → Int → Int → Int → (List (Int × Int × Int × Int × Int)) → Int → Int → (List Int) → Int → (List (Int × Int × Int × Int × Int)) → (List Bool) → Option ρ) (t29 : Int → Int → Int → (List Int) → (List Bool) → Option ρ) (t31 : Int → Int → Int → (List Int) → (List Bool) → Option ρ) (t21 : Int → Int → (List (Int × Int × Int × Int × Int)) → Int → Int → (List Int) → Int → (List (Int × Int × Int × Int × Int)) → (List Bool) → Option ρ) (t35 : Int → Int → Int → (List Int) → (List Bool) → Option ρ) (x0 : Int) (x1 : Int) (x2 : Int) (x3 : List Int) (x4 : List Bool) : Option ρ :=
  bif decide (x2 < x1) then bif decide (0 ≤ x2) then bif decide (x2 < (↑(List.length x4) : Int)) then bif List.getD x4 (Int.toNat x2) false then bif decide (0 ≤ x2) then bif decide (x2 < (↑(List.length x3) : Int)) then Option.bind (M115 x0 (List.getD x3 (Int.toNat x2) 0)) fun d21 => t29 (Prod.fst d21) x1 x2 x3 x4 else none else none else t29 x0 x1 x2 x3 x4 else none else none else t31 x0 (↑(List.length x3) : Int) 0 x3 x4
theorem k53_25 (n : Nat) (x0 : Int) (x1 : Int) (x2 : Int) (x3 : List Int) (x4 : List Bool) : run C53 some (n + 1) i53_25 (l53_25.st (((), ((), (x0, (x1, x2)))), (x3, (x4, ())))) = r53_25 (fun d => some (o53.res d)) (fun x0 x1 x2 x3 x4 x5 => run C53 some n i53_5 (l53_5.st (((), ((), ((), (x0, x1)))), (x2, ((x3, x4), (x5, ())))))) (fun x0 x1 x2 x3 x4 x5 x6 x7 x8 => run C53 some n i53_7 (l53_7.st (((), ((), ((), (x0, (x1, (x2, (x3, x4))))))), (x5, ((x6, x7), (x8, ())))))) (fun x0 x1 x2 x3 x4 => run C53 some n i53_25 (l53_25.st (((), ((), (x0, (x1, x2)))), (x3, (x4, ()))))) (fun x0 x1 x2 x3 x4 x5 x6 x7 x8 x9 x10 x11 x12 => run C53 some n i53_16 (l53_16.st (((), ((), ((), (x0, (x1, (x2, (x3, (x4, (x5, (x6, (x7, x8))))))))))), (x9, ((x10, x11), (x12, ())))))) (fun x0 x1 x2 x3 x4 => run C53 some n i53_29 (l53_29.st (((), ((), (x0, (x1, x2)))), (x3, (x4, ()))))) (fun x0 x1 x2 x3 x4 => run C53 some n i53_31 (l53_31.st (((), ((), (x0, (x1, x2)))), (x3, (x4, ()))))) (fun x0 x1 x2 x3 x4 x5 x6 x7 x8 => run C53 some n i53_21 (l53_21.st (((), ((), ((), (x0, (x1, (x2, (x3, x4))))))), (x5, ((x6, x7), (x8, ())))))) (fun x0 x1 x2 x3 x4 => run C53 some n i53_35 (l53_35.st (((), ((), (x0, (x1, x2)))), (x3, (x4, ()))))) x0 x1 x2 x3 x4 := by kernel_rfl
theorem t53_25_eq (x0 : Int) (x1 : Int) (x2 : Int) (x3 : List Int) (x4 : List Bool) : t53_25 x0 x1 x2 x3 x4 = r53_25 some t53_5 t53_7 t53_25 t53_16 t53_29 t53_31 t53_21 t53_35 x0 x1 x2 x3 x4 := by
  refine (theT_eqn _ fun n => k53_25 n x0 x1 x2 x3 x4).trans ?_
  have hb : ∀ d, o53.back (o53.res d) = some d := Form.back_res fun d => ⟨_, rfl⟩
  unfold r53_25
  simp only [lim_cond, lim_bind, lim_const, bind_cond, Option.bind_assoc, bind_some', bind_none', hb]
  try rfl
noncomputable def r53_16 {ρ : Type} (ret : (Bool) × (List Int) × Unit → Option ρ) (t5 : Int → Int → (List Int) → Int → (List (Int × Int × Int × Int × Int)) → (List Bool) → Option ρ) (t7 : Int → Int → (List (Int × Int × Int × Int × Int)) → Int → Int → (List Int) → Int → (List (Int × Int × Int × Int × Int)) → (List Bool) → Option ρ) (t25 : Int → Int → Int → (List Int) → (List Bool) → Option ρ) (t16 : Int → Int → Int → Int → Int → Int → (List (Int × Int × Int × Int × Int)) → Int → Int → (List Int) → Int → (List (Int × Int × Int × Int × Int)) → (List Bool) → Option ρ) (t29 : Int → Int → Int → (List Int) → (List Bool) → Option ρ) (t31 : Int → Int → Int → (List Int) → (List Bool) → Option ρ) (t21 : Int → Int → (List (Int × Int × Int × Int × Int)) → Int → Int → (List Int) → Int → (List (Int × Int × Int × Int × Int)) → (List Bool) → Option ρ) (t35 : Int → Int → Int → (List Int) → (List Bool) → Option ρ) (x0 : Int) (x1 : Int) (x2 : Int) (x3 : Int) (x4 : Int) (x5 : Int) (x6 : List (Int × Int × Int × Int × Int)) (x7 : Int) (x8 : Int) (x9 : List Int) (x10 : Int) (x11 : List (Int × Int × Int × Int × Int)) (x12 : List Bool) : Option ρ :=
  bif decide (0 ≤ x0) then bif decide (x0 < (↑(List.length x12) : Int)) then bif !List.getD x12 (Int.toNat x0) false then t21 x4 x5 x6 x7 x8 x9 x10 x11 x12 else bif decide (0 ≤ x1) then bif decide (x1 < (↑(List.length x12) : Int)) then bif List.getD x12 (Int.toNat x1) false then t21 x4 x5 x6 x7 x8 x9 x10 x11 x12 else bif decide (0 ≤ x0) then bif decide (x0 < (↑(List.length x9) : Int)) then Option.bind (M115 (IntKind.wrap IntKind.i64 (List.getD x9 (Int.toNat x0) 0 * x2)) x3) fun d22 => bif decide (Prod.fst d22 ≠ 0) then Option.bind (M120 (IntKind.wrap IntKind.i64 (Int.tdiv x3 (Prod.fst d22))) x9 x12) fun d23 => bif decide (0 ≤ x1) then bif decide (x1 < (↑(List.length (Prod.fst (Prod.snd (Prod.snd d23)))) : Int)) then bif decide (0 ≤ x0) then bif decide (x0 < (↑(List.length (Prod.fst (Prod.snd d23))) : Int)) then bif decide (x3 ≠ 0) then bif decide (0 ≤ x1) then bif decide (x1 < (↑(List.length (Prod.fst (Prod.snd d23))) : Int)) then t21 x4 x5 x6 x7 x8 (List.set (Prod.fst (Prod.snd d23)) (Int.toNat x1) (IntKind.wrap IntKind.i64 (Int.tdiv (IntKind.wrap IntKind.i64 (List.getD (Prod.fst (Prod.snd d23)) (Int.toNat x0) 0 * x2)) x3))) x10 x11 (List.set (Prod.fst (Prod.snd (Prod.snd d23))) (Int.toNat x1) true) else none else none else none else none else none else none else none else none else none else none else none else none else none else none
theorem k53_16 (n : Nat) (x0 : Int) (x1 : Int) (x2 : Int) (x3 : Int) (x4 : Int) (x5 : Int) (x6 : List (Int × Int × Int × Int × Int)) (x7 : Int) (x8 : Int) (x9 : List Int) (x10 : Int) (x11 : List (Int × Int × Int × Int × Int)) (x12 : List Bool) : run C53 some (n + 1) i53_16 (l53_16.st (((), ((), ((), (x0, (x1, (x2, (x3, (x4, (x5, (x6, (x7, x8))))))))))), (x9, ((x10, x11), (x12, ()))))) = r53_16 (fun d => some (o53.res d)) (fun x0 x1 x2 x3 x4 x5 => run C53 some n i53_5 (l53_5.st (((), ((), ((), (x0, x1)))), (x2, ((x3, x4), (x5, ())))))) (fun x0 x1 x2 x3 x4 x5 x6 x7 x8 => run C53 some n i53_7 (l53_7.st (((), ((), ((), (x0, (x1, (x2, (x3, x4))))))), (x5, ((x6, x7), (x8, ())))))) (fun x0 x1 x2 x3 x4 => run C53 some n i53_25 (l53_25.st (((), ((), (x0, (x1, x2)))), (x3, (x4, ()))))) (fun x0 x1 x2 x3 x4 x5 x6 x7 x8 x9 x10 x11 x12 => run C53 some n i53_16 (l53_16.st (((), ((), ((), (x0, (x1, (x2, (x3, (x4, (x5, (x6, (x7, x8))))))))))), (x9, ((x10, x11), (x12, ())))))) (fun x0 x1 x2 x3 x4 => run C53 some n i53_29 (l53_29.st (((), ((), (x0, (x1, x2)))), (x3, (x4, ()))))) (fun x0 x1 x2 x3 x4 => run C53 some n i53_31 (l53_31.st (((), ((), (x0, (x1, x2)))), (x3, (x4, ()))))) (fun x0 x1 x2 x3 x4 x5 x6 x7 x8 => run C53 some n i53_21 (l53_21.st (((), ((), ((), (x0, (x1, (x2, (x3, x4))))))), (x5, ((x6, x7), (x8, ())))))) (fun x0 x1 x2 x3 x4 => run C53 some n i53_35 (l53_35.st (((), ((), (x0, (x1, x2)))), (x3, (x4, ()))))) x0 x1 x2 x3 x4 x5 x6 x7 x8 x9 x10 x11 x12 := by kernel_rfl
theorem t53_16_eq (x0 : Int) (x1 : Int) (x2 : Int) (x3 : Int) (x4 : Int) (x5 : Int) (x6 : List (Int × Int × Int × Int × Int)) (x7 : Int) (x8 : Int) (x9 : List Int) (x10 : Int) (x11 : List (Int × Int × Int × Int × Int)) (x12 : List Bool) : t53_16 x0 x1 x2 x3 x4 x5 x6 x7 x8 x9 x10 x11 x12 = r53_16 some t53_5 t53_7 t53_25 t53_16 t53_29 t53_31 t53_21 t53_35 x0 x1 x2 x3 x4 x5 x6 x7 x8 x9 x10 x11 x12 := by
  refine (theT_eqn _ fun n => k53_16 n x0 x1 x2 x3 x4 x5 x6 x7 x8 x9 x10 x11 x12).trans ?_
  have hb : ∀ d, o53.back (o53.res d) = some d := Form.back_res fun d => ⟨_, rfl⟩
  unfold r53_16
  simp only [lim_cond, lim_bind, lim_const, bind_cond, Option.bind_assoc, bind_some', bind_none', hb]
  try rfl
noncomputable def r53_29 {ρ : Type} (ret : (Bool) × (List Int) × Unit → Option ρ) (t5 : Int → Int → (List Int) → Int → (List (Int × Int × Int × Int × Int)) → (List Bool) → Option ρ) (t7 : Int → Int → (List (Int × Int × Int × Int × Int)) → Int → Int → (List Int) → Int → (List (Int × Int × Int × Int × Int)) → (List Bool) → Option ρ) (t25 : Int → Int → Int → (List Int) → (List Bool) → Option ρ) (t16 : Int → Int → Int → Int → Int → Int → (List (Int × Int × Int × Int × Int)) → Int → Int → (List Int) → Int → (List (Int × Int × Int × Int × Int)) → (List Bool) → Option ρ) (t29 : Int → Int → Int → (List Int) → (List Bool) → Option ρ) (t31 : Int → Int → Int → (List Int) → (List Bool) → Option ρ) (t21 : Int → Int → (List (Int × Int × Int × Int × Int)) → Int → Int → (List Int) → Int → (List (Int × Int × Int × Int × Int)) → (List Bool) → Option ρ) (t35 : Int → Int → Int → (List Int) → (List Bool) → Option ρ) (x0 : Int) (x1 : Int) (x2 : Int) (x3 : List Int) (x4 : List Bool) : Option ρ :=
  t25 x0 x1 (IntKind.wrap IntKind.i64 (x2 + 1)) x3 x4
theorem k53_29 (n : Nat) (x0 : Int) (x1 : Int) (x2 : Int) (x3 : List Int) (x4 : List Bool) : run C53 some (n + 1) i53_29 (l53_29.st (((), ((), (x0, (x1, x2)))), (x3, (x4, ())))) = r53_29 (fun d => some (o53.res d)) (fun x0 x1 x2 x3 x4 x5 => run C53 some n i53_5 (l53_5.st (((), ((), ((), (x0, x1)))), (x2, ((x3, x4), (x5, ())))))) (fun x0 x1 x2 x3 x4 x5 x6 x7 x8 => run C53 some n i53_7 (l53_7.st (((), ((), ((), (x0, (x1, (x2, (x3, x4))))))), (x5, ((x6, x7), (x8, ())))))) (fun x0 x1 x2 x3 x4 => run C53 some n i53_25 (l53_25.st (((), ((), (x0, (x1, x2)))), (x3, (x4, ()))))) (fun x0 x1 x2 x3 x4 x5 x6 x7 x8 x9 x10 x11 x12 => run C53 some n i53_16 (l53_16.st (((), ((), ((), (x0, (x1, (x2, (x3, (x4, (x5, (x6, (x7, x8))))))))))), (x9, ((x10, x11), (x12, ())))))) (fun x0 x1 x2 x3 x4 => run C53 some n i53_29 (l53_29.st (((), ((), (x0, (x1, x2)))), (x3, (x4, ()))))) (fun x0 x1 x2 x3 x4 => run C53 some n i53_31 (l53_31.st (((), ((), (x0, (x1, x2)))), (x3, (x4, ()))))) (fun x0 x1 x2 x3 x4 x5 x6 x7 x8 => run C53 some n i53_21 (l53_21.st (((), ((), ((), (x0, (x1, (x2, (x3, x4))))))), (x5, ((x6, x7), (x8, ())))))) (fun x0 x1 x2 x3 x4 => run C53 some n i53_35 (l53_35.st (((), ((), (x0, (x1, x2)))), (x3, (x4, ()))))) x0 x1 x2 x3 x4 := by kernel_rfl
theorem t53_29_eq (x0 : Int) (x1 : Int) (x2 : Int) (x3 : List Int) (x4 : List Bool) : t53_29 x0 x1 x2 x3 x4 = r53_29 some t53_5 t53_7 t53_25 t53_16 t53_29 t53_31 t53_21 t53_35 x0 x1 x2 x3 x4 := by
  refine (theT_eqn _ fun n => k53_29 n x0 x1 x2 x3 x4).trans ?_
  have hb : ∀ d, o53.back (o53.res d) = some d := Form.back_res fun d => ⟨_, rfl⟩
  unfold r53_29
  simp only [lim_cond, lim_bind, lim_const, bind_cond, Option.bind_assoc, bind_some', bind_none', hb]
  try rfl
noncomputable def r53_31 {ρ : Type} (ret : (Bool) × (List Int) × Unit → Option ρ) (t5 : Int → Int → (List Int) → Int → (List (Int × Int × Int × Int × Int)) → (List Bool) → Option ρ) (t7 : Int → Int → (List (Int × Int × Int × Int × Int)) → Int → Int → (List Int) → Int → (List (Int × Int × Int × Int × Int)) → (List Bool) → Option ρ) (t25 : Int → Int → Int → (List Int) → (List Bool) → Option ρ) (t16 : Int → Int → Int → Int → Int → Int → (List (Int × Int × Int × Int × Int)) → Int → Int → (List Int) → Int → (List (Int × Int × Int × Int × Int)) → (List Bool) → Option ρ) (t29 : Int → Int → Int → (List Int) → (List Bool) → Option ρ) (t31 : Int → Int → Int → (List Int) → (List Bool) → Option ρ) (t21 : Int → Int → (List (Int × Int × Int × Int × Int)) → Int → Int → (List Int) → Int → (List (Int × Int × Int × Int × Int)) → (List Bool) → Option ρ) (t35 : Int → Int → Int → (List Int) → (List Bool) → Option ρ) (x0 : Int) (x1 : Int) (x2 : Int) (x3 : List Int) (x4 : List Bool) : Option ρ :=
  bif decide (x2 < x1) then bif decide (0 ≤ x2) then bif decide (x2 < (↑(List.length x4) : Int)) then bif List.getD x4 (Int.toNat x2) false then bif decide (0 ≤ x2) then bif decide (x2 < (↑(List.length x3) : Int)) then bif decide (x0 ≠ 0) then bif decide (0 ≤ x2) then bif decide (x2 < (↑(List.length x3) : Int)) then t35 x0 x1 x2 (List.set x3 (Int.toNat x2) (IntKind.wrap IntKind.i64 (Int.tdiv (List.getD x3 (Int.toNat x2) 0) x0))) x4 else none else none else none else none else none else t35 x0 x1 x2 x3 x4 else none else none else ret (true, x3, ())
theorem k53_31 (n : Nat) (x0 : Int) (x1 : Int) (x2 : Int) (x3 : List Int) (x4 : List Bool) : run C53 some (n + 1) i53_31 (l53_31.st (((), ((), (x0, (x1, x2)))), (x3, (x4, ())))) = r53_31 (fun d => some (o53.res d)) (fun x0 x1 x2 x3 x4 x5 => run C53 some n i53_5 (l53_5.st (((), ((), ((), (x0, x1)))), (x2, ((x3, x4), (x5, ())))))) (fun x0 x1 x2 x3 x4 x5 x6 x7 x8 => run C53 some n i53_7 (l53_7.st (((), ((), ((), (x0, (x1, (x2, (x3, x4))))))), (x5, ((x6, x7), (x8, ())))))) (fun x0 x1 x2 x3 x4 => run C53 some n i53_25 (l53_25.st (((), ((), (x0, (x1, x2)))), (x3, (x4, ()))))) (fun x0 x1 x2 x3 x4 x5 x6 x7 x8 x9 x10 x11 x12 => run C53 some n i53_16 (l53_16.st (((), ((), ((), (x0, (x1, (x2, (x3, (x4, (x5, (x6, (x7, x8))))))))))), (x9, ((x10, x11), (x12, ())))))) (fun x0 x1 x2 x3 x4 => run C53 some n i53_29 (l53_29.st (((), ((), (x0, (x1, x2)))), (x3, (x4, ()))))) (fun x0 x1 x2 x3 x4 => run C53 some n i53_31 (l53_31.st (((), ((), (x0, (x1, x2)))), (x3, (x4, ()))))) (fun x0 x1 x2 x3 x4 x5 x6 x7 x8 => run C53 some n i53_21 (l53_21.st (((), ((), ((), (x0, (x1, (x2, (x3, x4))))))), (x5, ((x6, x7), (x8, ())))))) (fun x0 x1 x2 x3 x4 => run C53 some n i53_35 (l53_35.st (((), ((), (x0, (x1, x2)))), (x3, (x4, ()))))) x0 x1 x2 x3 x4 := by kernel_rfl
theorem t53_31_eq (x0 : Int) (x1 : Int) (x2 : Int) (x3 : List Int) (x4 : List Bool) : t53_31 x0 x1 x2 x3 x4 = r53_31 some t53_5 t53_7 t53_25 t53_16 t53_29 t53_31 t53_21 t53_35 x0 x1 x2 x3 x4 := by
  refine (theT_eqn _ fun n => k53_31 n x0 x1 x2 x3 x4).trans ?_
  have hb : ∀ d, o53.back (o53.res d) = some d := Form.back_res fun d => ⟨_, rfl⟩
  unfold r53_31
  simp only [lim_cond, lim_bind, lim_const, bind_cond, Option.bind_assoc, bind_some', bind_none', hb]
  try rfl
noncomputable def r53_21 {ρ : Type} (ret : (Bool) × (List Int) × Unit → Option ρ) (t5 : Int → Int → (List Int) → Int → (List (Int × Int × Int × Int × Int)) → (List Bool) → Option ρ) (t7 : Int → Int → (List (Int × Int × Int × Int × Int)) → Int → Int → (List Int) → Int → (List (Int × Int × Int × Int × Int)) → (List Bool) → Option ρ) (t25 : Int → Int → Int → (List Int) → (List Bool) → Option ρ) (t16 : Int → Int → Int → Int → Int → Int → (List (Int × Int × Int × Int × Int)) → Int → Int → (List Int) → Int → (List (Int × Int × Int × Int × Int)) → (List Bool) → Option ρ) (t29 : Int → Int → Int → (List Int) → (List Bool) → Option ρ) (t31 : Int → Int → Int → (List Int) → (List Bool) → Option ρ) (t21 : Int → Int → (List (Int × Int × Int × Int × Int)) → Int → Int → (List Int) → Int → (List (Int × Int × Int × Int × Int)) → (List Bool) → Option ρ) (t35 : Int → Int → Int → (List Int) → (List Bool) → Option ρ) (x0 : Int) (x1 : Int) (x2 : List (Int × Int × Int × Int × Int)) (x3 : Int) (x4 : Int) (x5 : List Int) (x6 : Int) (x7 : List (Int × Int × Int × Int × Int)) (x8 : List Bool) : Option ρ :=
  t7 x0 x1 x2 x3 (IntKind.wrap IntKind.i64 (x4 + 1)) x5 x6 x7 x8
theorem k53_21 (n : Nat) (x0 : Int) (x1 : Int) (x2 : List (Int × Int × Int × Int × Int)) (x3 : Int) (x4 : Int) (x5 : List Int) (x6 : Int) (x7 : List (Int × Int × Int × Int × Int)) (x8 : List Bool) : run C53 some (n + 1) i53_21 (l53_21.st (((), ((), ((), (x0, (x1, (x2, (x3, x4))))))), (x5, ((x6, x7), (x8, ()))))) = r53_21 (fun d => some (o53.res d)) (fun x0 x1 x2 x3 x4 x5 => run C53 some n i53_5 (l53_5.st (((), ((), ((), (x0, x1)))), (x2, ((x3, x4), (x5, ())))))) (fun x0 x1 x2 x3 x4 x5 x6 x7 x8 => run C53 some n i53_7 (l53_7.st (((), ((), ((), (x0, (x1, (x2, (x3, x4))))))), (x5, ((x6, x7), (x8, ())))))) (fun x0 x1 x2 x3 x4 => run C53 some n i53_25 (l53_25.st (((), ((), (x0, (x1, x2)))), (x3, (x4, ()))))) (fun x0 x1 x2 x3 x4 x5 x6 x7 x8 x9 x10 x11 x12 => run C53 some n i53_16 (l53_16.st (((), ((), ((), (x0, (x1, (x2, (x3, (x4, (x5, (x6, (x7, x8))))))))))), (x9, ((x10, x11), (x12, ())))))) (fun x0 x1 x2 x3 x4 => run C53 some n i53_29 (l53_29.st (((), ((), (x0, (x1, x2)))), (x3, (x4, ()))))) (fun x0 x1 x2 x3 x4 => run C53 some n i53_31 (l53_31.st (((), ((), (x0, (x1, x2)))), (x3, (x4, ()))))) (fun x0 x1 x2 x3 x4 x5 x6 x7 x8 => run C53 some n i53_21 (l53_21.st (((), ((), ((), (x0, (x1, (x2, (x3, x4))))))), (x5, ((x6, x7), (x8, ())))))) (fun x0 x1 x2 x3 x4 => run C53 some n i53_35 (l53_35.st (((), ((), (x0, (x1, x2)))), (x3, (x4, ()))))) x0 x1 x2 x3 x4 x5 x6 x7 x8 := by kernel_rfl
theorem t53_21_eq (x0 : Int) (x1 : Int) (x2 : List (Int × Int × Int × Int × Int)) (x3 : Int) (x4 : Int) (x5 : List Int) (x6 : Int) (x7 : List (Int × Int × Int × Int × Int)) (x8 : List Bool) : t53_21 x0 x1 x2 x3 x4 x5 x6 x7 x8 = r53_21 some t53_5 t53_7 t53_25 t53_16 t53_29 t53_31 t53_21 t53_35 x0 x1 x2 x3 x4 x5 x6 x7 x8 := by
  refine (theT_eqn _ fun n => k53_21 n x0 x1 x2 x3 x4 x5 x6 x7 x8).trans ?_
  have hb : ∀ d, o53.back (o53.res d) = some d := Form.back_res fun d => ⟨_, rfl⟩
  unfold r53_21
  simp only [lim_cond, lim_bind, lim_const, bind_cond, Option.bind_assoc, bind_some', bind_none', hb]
  try rfl
noncomputable def r53_35 {ρ : Type} (ret : (Bool) × (List Int) × Unit → Option ρ) (t5 : Int → Int → (List Int) → Int → (List (Int × Int × Int × Int × Int)) → (List Bool) → Option ρ) (t7 : Int → Int → (List (Int × Int × Int × Int × Int)) → Int → Int → (List Int) → Int → (List (Int × Int × Int × Int × Int)) → (List Bool) → Option ρ) (t25 : Int → Int → Int → (List Int) → (List Bool) → Option ρ) (t16 : Int → Int → Int → Int → Int → Int → (List (Int × Int × Int × Int × Int)) → Int → Int → (List Int) → Int → (List (Int × Int × Int × Int × Int)) → (List Bool) → Option ρ) (t29 : Int → Int → Int → (List Int) → (List Bool) → Option ρ) (t31 : Int → Int → Int → (List Int) → (List Bool) → Option ρ) (t21 : Int → Int → (List (Int × Int × Int × Int × Int)) → Int → Int → (List Int) → Int → (List (Int × Int × Int × Int × Int)) → (List Bool) → Option ρ) (t35 : Int → Int → Int → (List Int) → (List Bool) → Option ρ) (x0 : Int) (x1 : Int) (x2 : Int) (x3 : List Int) (x4 : List Bool) : Option ρ :=
  t31 x0 x1 (IntKind.wrap IntKind.i64 (x2 + 1)) x3 x4
theorem k53_35 (n : Nat) (x0 : Int) (x1 : Int) (x2 : Int) (x3 : List Int) (x4 : List Bool) : run C53 some (n + 1) i53_35 (l53_35.st (((), ((), (x0, (x1, x2)))), (x3, (x4, ())))) = r53_35 (fun d => some (o53.res d)) (fun x0 x1 x2 x3 x4 x5 => run C53 some n i53_5 (l53_5.st (((), ((), ((), (x0, x1)))), (x2, ((x3, x4), (x5, ())))))) (fun x0 x1 x2 x3 x4 x5 x6 x7 x8 => run C53 some n i53_7 (l53_7.st (((), ((), ((), (x0, (x1, (x2, (x3, x4))))))), (x5, ((x6, x7), (x8, ())))))) (fun x0 x1 x2 x3 x4 => run C53 some n i53_25 (l53_25.st (((), ((), (x0, (x1, x2)))), (x3, (x4, ()))))) (fun x0 x1 x2 x3 x4 x5 x6 x7 x8 x9 x10 x11 x12 => run C53 some n i53_16 (l53_16.st (((), ((), ((), (x0, (x1, (x2, (x3, (x4, (x5, (x6, (x7, x8))))))))))), (x9, ((x10, x11), (x12, ())))))) (fun x0 x1 x2 x3 x4 => run C53 some n i53_29 (l53_29.st (((), ((), (x0, (x1, x2)))), (x3, (x4, ()))))) (fun x0 x1 x2 x3 x4 => run C53 some n i53_31 (l53_31.st (((), ((), (x0, (x1, x2)))), (x3, (x4, ()))))) (fun x0 x1 x2 x3 x4 x5 x6 x7 x8 => run C53 some n i53_21 (l53_21.st (((), ((), ((), (x0, (x1, (x2, (x3, x4))))))), (x5, ((x6, x7), (x8, ())))))) (fun x0 x1 x2 x3 x4 => run C53 some n i53_35 (l53_35.st (((), ((), (x0, (x1, x2)))), (x3, (x4, ()))))) x0 x1 x2 x3 x4 := by kernel_rfl
theorem t53_35_eq (x0 : Int) (x1 : Int) (x2 : Int) (x3 : List Int) (x4 : List Bool) : t53_35 x0 x1 x2 x3 x4 = r53_35 some t53_5 t53_7 t53_25 t53_16 t53_29 t53_31 t53_21 t53_35 x0 x1 x2 x3 x4 := by
  refine (theT_eqn _ fun n => k53_35 n x0 x1 x2 x3 x4).trans ?_
  have hb : ∀ d, o53.back (o53.res d) = some d := Form.back_res fun d => ⟨_, rfl⟩
  unfold r53_35
  simp only [lim_cond, lim_bind, lim_const, bind_cond, Option.bind_assoc, bind_some', bind_none', hb]
  try rfl
noncomputable def S53 : Sm := modeS a53 o53 (theM Go.Proofs.Try.prog tab53 [(5, l53_5), (7, l53_7), (25, l53_25), (16, l53_16), (29, l53_29), (31, l53_31), (21, l53_21), (35, l53_35)] o53 Go.Proofs.Try.f53 a53) noS
theorem S53_det : Det S53 := modeS_det noS_det
theorem S53_ok : Sound Go.Proofs.Try.prog 53 S53 := sound_mode tab53_ok Go.Proofs.Try.func53 (c := bodyOf Go.Proofs.Try.f53) (by kernel_rfl) (by kernel_rfl) (noS_sound _ _)
/- spec.RepetitionOf -/
def a12 : Form := ⟨(.agg (.dat (.pair I64 (.sl (.pair I64 (.pair I64 (.pair I64 (.pair I64 I64)))))))), []⟩
def o12 : Form := ⟨(.tup (.cons (.ref 0 I64) (.dat .bool))), [.arr I64]⟩
def l12_5 : Lab := ⟨[1, 4, 17, 18], ⟨(.cons (.ptr 0 0) (.cons (.ref 1 I64) (.cons (.dat I64) (.dat I64)))), [.box (.dat (.pair I64 (.sl (.pair I64 (.pair I64 (.pair I64 (.pair I64 I64))))))), .arr I64]⟩⟩
def l12_11 : Lab := ⟨[4, 32, 33, 34], ⟨(.cons (.ref 0 I64) (.cons (.dat (.sl (.pair I64 (.pair I64 (.pair I64 (.pair I64 I64)))))) (.cons (.dat I64) (.dat I64)))), [.arr I64]⟩⟩
def l12_17 : Lab := ⟨[4, 56, 57, 58], ⟨(.cons (.ref 0 I64) (.cons (.ref 0 I64) (.cons (.dat I64) (.dat I64)))), [.arr I64]⟩⟩
noncomputable def tab12 : List Ent := [⟨52, false, S52, S52_det⟩, ⟨53, true, S53, S53_det⟩]
theorem tab12_ok : ∀ e ∈ tab12, Sound Go.Proofs.Try.prog e.f e.S := List.forall_mem_cons.2 ⟨S52_ok, List.forall_mem_cons.2 ⟨S53_ok, fun _ h => nomatch h⟩⟩
noncomputable def C12 : Ctx := ctxOf Go.Proofs.Try.prog tab12 Go.Proofs.Try.f12 0 [(5, l12_5), (11, l12_11), (17, l12_17)] o12
noncomputable def i12_5 : List Item := at_ (bodyOf Go.Proofs.Try.f12) [1, 1, 1, 0, 1, 0, 0] []
noncomputable def t12_5 (x0 : Int) (x1 : Int) (x2 : Int) (x3 : List (Int × Int × Int × Int × Int)) (x4 : List Int) : Option (((Unit) × Bool) × (List Int) × Unit) := theT C12 i12_5 l12_5 (((), ((), (x0, x1))), ((x2, x3), (x4, ())))
noncomputable def i12_11 : List Item := at_ (bodyOf Go.Proofs.Try.f12) [1, 1, 1, 1, 0, 1, 0, 0] []
noncomputable def t12_11 (x0 : List (Int × Int × Int × Int × Int)) (x1 : Int) (x2 : Int) (x3 : List Int) : Option (((Unit) × Bool) × (List Int) × Unit) := theT C12 i12_11 l12_11 (((), (x0, (x1, x2))), (x3, ()))
noncomputable def i12_17 : List Item := at_ (bodyOf Go.Proofs.Try.f12) [1, 1, 1, 1, 1, 0, 1, 0, 0] []
noncomputable def t12_17 (x0 : Int) (x1 : Int) (x2 : List Int) : Option (((Unit) × Bool) × (List Int) × Unit) := theT C12 i12_17 l12_17 (((), ((), (x0, x1))), (x2, ()))
noncomputable def M12 (x0 : Int) (x1 : List (Int × Int × Int × Int × Int)) : Option (((Unit) × Bool) × (List Int) × Unit) := theM Go.Proofs.Try.prog tab12 [(5, l12_5), (11, l12_11), (17, l12_17)] o12 Go.Proofs.Try.f12 a12 ((x0, x1), ())
noncomputable def r12 {ρ : Type} (ret : ((Unit) × Bool) × (List Int) × Unit → Option ρ) (t5 : Int → Int → Int → (List (Int × Int × Int × Int × Int)) → (List Int) → Option ρ) (t11 : (List (Int × Int × Int × Int × Int)) → Int → Int → (List Int) → Option ρ) (t17 : Int → Int → (List Int) → Option ρ) (x0 : Int) (x1 : List (Int × Int × Int × Int × Int)) : Option ρ :=
  Option.bind (M52 x0 x1) fun d29 => bif !Prod.fst d29 then ret (((), false), [], ()) else bif decide (x0 = x0) then bif decide (0 ≤ x0) then bif fitBytes (Int.toNat x0) 8 then t5 (↑(List.length (@List.replicate (Ty.D (Ty.int IntKind.i64)) (Int.toNat x0) 0)) : Int) 0 x0 x1 (@List.replicate (Ty.D (Ty.int IntKind.i64)) (Int.toNat x0) 0) else none else none else none
theorem k12 (n : Nat) (x0 : Int) (x1 : List (Int × Int × Int × Int × Int)) : runF Go.Proofs.Try.prog tab12 [(5, l12_5), (11, l12_11), (17, l12_17)] o12 Go.Proofs.Try.f12 some (n + 1) (a12.vals ((x0, x1), ())) (a12.roots ((x0, x1), ())) = r12 (fun d => some (o12.res d)) (fun x0 x1 x2 x3 x4 => run C12 some n i12_5 (l12_5.st (((), ((), (x0, x1))), ((x2, x3), (x4, ()))))) (fun x0 x1 x2 x3 => run C12 some n i12_11 (l12_11.st (((), (x0, (x1, x2))), (x3, ())))) (fun x0 x1 x2 => run C12 some n i12_17 (l12_17.st (((), ((), (x0, x1))), (x2, ())))) x0 x1 := by kernel_rfl
theorem M12_eq (x0 : Int) (x1 : List (Int × Int × Int × Int × Int)) : M12 x0 x1 = r12 some t12_5 t12_11 t12_17 x0 x1 := by
  refine (theM_eqn 1 _ fun n => k12 n x0 x1).trans ?_
  have hb : ∀ d, o12.back (o12.res d) = some d := Form.back_res fun d => ⟨_, rfl⟩
  unfold r12
  simp only [lim_cond, lim_bind, lim_const, bind_cond, Option.bind_assoc, bind_some', bind_none', hb]
  try rfl
noncomputable def r12_5 {ρ : Type} (ret : ((Unit) × Bool) × (List Int) × Unit → Option ρ) (t5 : Int → Int → Int → (List (Int × Int × Int × Int × Int)) → (List Int) → Option ρ) (t11 : (List (Int × Int × Int × Int × Int)) → Int → Int → (List Int) → Option ρ) (t17 : Int → Int → (List Int) → Option ρ) (x0 : Int) (x1 : Int) (x2 : Int) (x3 : List (Int × Int × Int × Int × Int)) (x4 : List Int) : Option ρ :=
  bif decide (x1 < x0) then bif decide (0 ≤ x1) then bif decide (x1 < (↑(List.length x4) : Int)) then bif List.getD x4 (Int.toNat x1) 0 == 0 then Option.bind (M53 x2 x3 x1 x4) fun d30 => t5 x0 (IntKind.wrap IntKind.i64 (x1 + 1)) x2 x3 (Prod.fst (Prod.snd d30)) else t5 x0 (IntKind.wrap IntKind.i64 (x1 + 1)) x2 x3 x4 else none else none else t11 x3 (↑(List.length x3) : Int) 0 x4
theorem k12_5 (n : Nat) (x0 : Int) (x1 : Int) (x2 : Int) (x3 : List (Int × Int × Int × Int × Int)) (x4 : List Int) : run C12 some (n + 1) i12_5 (l12_5.st (((), ((), (x0, x1))), ((x2, x3), (x4, ())))) = r12_5 (fun d => some (o12.res d)) (fun x0 x1 x2 x3 x4 => run C12 some n i12_5 (l12_5.st (((), ((), (x0, x1))), ((x2, x3), (x4, ()))))) (fun x0 x1 x2 x3 => run C12 some n i12_11 (l12_11.st (((), (x0, (x1, x2))), (x3, ())))) (fun x0 x1 x2 => run C12 some n i12_17 (l12_17.st (((), ((), (x0, x1))), (x2, ())))) x0 x1 x2 x3 x4 := by kernel_rfl
theorem t12_5_eq (x0 : Int) (x1 : Int) (x2 : Int) (x3 : List (Int × Int × Int × Int × Int)) (x4 : List Int) : t12_5 x0 x1 x2 x3 x4 = r12_5 some t12_5 t12_11 t12_17 x0 x1 x2 x3 x4 := by
  refine (theT_eqn _ fun n => k12_5 n x0 x1 x2 x3 x4).trans ?_
  have hb : ∀ d, o12.back (o12.res d) = some d := Form.back_res fun d => ⟨_, rfl⟩
  unfold r12_5
  simp only [lim_cond, lim_bind, lim_const, bind_cond, Option.bind_assoc, bind_some', bind_none', hb]
  try rfl
noncomputable def r12_11 {ρ : Type} (ret : ((Unit) × Bool) × (List Int) × Unit → Option ρ) (t5 : Int → Int → Int → (List (Int × Int × Int × Int × Int)) → (List Int) → Option ρ) (t11 : (List (Int × Int × Int × Int × Int)) → Int → Int → (List Int) → Option ρ) (t17 : Int → Int → (List Int) → Option ρ) (x0 : List (Int × Int × Int × Int × Int)) (x1 : Int) (x2 : Int) (x3 : List Int) : Option ρ :=
  bif decide (x2 < x1) then bif decide (0 ≤ x2) then bif decide (x2 < (↑(List.length x0) : Int)) then bif decide (0 ≤ Prod.fst (List.getD x0 (Int.toNat x2) (0, 0, 0, 0, 0))) then bif decide (Prod.fst (List.getD x0 (Int.toNat x2) (0, 0, 0, 0, 0)) < (↑(List.length x3) : Int)) then bif decide (0 ≤ Prod.fst (Prod.snd (List.getD x0 (Int.toNat x2) (0, 0, 0, 0, 0)))) then bif decide (Prod.fst (Prod.snd (List.getD x0 (Int.toNat x2) (0, 0, 0, 0, 0))) < (↑(List.length x3) : Int)) then bif IntKind.wrap IntKind.i64 (List.getD x3 (Int.toNat (Prod.fst (List.getD x0 (Int.toNat x2) (0, 0, 0, 0, 0)))) 0 * Prod.fst (Prod.snd (Prod.snd (List.getD x0 (Int.toNat x2) (0, 0, 0, 0, 0))))) != IntKind.wrap IntKind.i64 (List.getD x3 (Int.toNat (Prod.fst (Prod.snd (List.getD x0 (Int.toNat x2) (0, 0, 0, 0, 0))))) 0 * Prod.fst (Prod.snd (Prod.snd (Prod.snd (List.getD x0 (Int.toNat x2) (0, 0, 0, 0, 0)))))) then ret (((), false), [], ()) else t11 x0 x1 (IntKind.wrap IntKind.i64 (x2 + 1)) x3 else none else none else none else none else none else none else t17 (↑(List.length x3) : Int) 0 x3
theorem k12_11 (n : Nat) (x0 : List (Int × Int × Int × Int × Int)) (x1 : Int) (x2 : Int) (x3 : List Int) : run C12 some (n + 1) i12_11 (l12_11.st (((), (x0, (x1, x2))), (x3, ()))) = r12_11 (fun d => some (o12.res d)) (fun x0 x1 x2 x3 x4 => run C12 some n i12_5 (l12_5.st (((), ((), (x0, x1))), ((x2, x3), (x4, ()))))) (fun x0 x1 x2 x3 => run C12 some n i12_11 (l12_11.st (((), (x0, (x1, x2))), (x3, ())))) (fun x0 x1 x2 => run C12 some n i12_17 (l12_17.st (((), ((), (x0, x1))), (x2, ())))) x0 x1 x2 x3 := by kernel_rfl
theorem t12_11_eq (x0 : List (Int × Int × Int × Int × Int)) (x1 : Int) (x2 : Int) (x3 : List Int) : t12_11 x0 x1 x2 x3 = r12_11 some t12_5 t12_11 t12_17 x0 x1 x2 x3 := by
  refine (theT_eqn _ fun n => k12_11 n x0 x1 x2 x3).trans ?_
  have hb : ∀ d, o12.back (o12.res d) = some d := Form.back_res fun d => ⟨_, rfl⟩
  unfold r12_11
  simp only [lim_cond, lim_bind, lim_const, bind_cond, Option.bind_assoc, bind_some', bind_none', hb]
  try rfl
noncomputable def r12_17 {ρ : Type} (ret : ((Unit) × Bool) × (List Int) × Unit → Option ρ) (t5 : Int → Int → Int → (List (Int × Int × Int × Int × Int)) → (List Int) → Option ρ) (t11 : (List (Int × Int × Int × Int × Int)) → Int → Int → (List Int) → Option ρ) (t17 : Int → Int → (List Int) → Option ρ) (x0 : Int) (x1 : Int) (x2 : List Int) : Option ρ :=
  bif decide (x1 < x0) then bif decide (0 ≤ x1) then bif decide (x1 < (↑(List.length x2) : Int)) then bif decide (List.getD x2 (Int.toNat x1) 0 > 200) then ret (((), false), [], ()) else t17 x0 (IntKind.wrap IntKind.i64 (x1 + 1)) x2 else none else none else ret (((), true), x2, ())
theorem k12_17 (n : Nat) (x0 : Int) (x1 : Int) (x2 : List Int) : run C12 some (n + 1) i12_17 (l12_17.st (((), ((), (x0, x1))), (x2, ()))) = r12_17 (fun d => some (o12.res d)) (fun x0 x1 x2 x3 x4 => run C12 some n i12_5 (l12_5.st (((), ((), (x0, x1))), ((x2, x3), (x4, ()))))) (fun x0 x1 x2 x3 => run C12 some n i12_11 (l12_11.st (((), (x0, (x1, x2))), (x3, ())))) (fun x0 x1 x2 => run C12 some n i12_17 (l12_17.st (((), ((), (x0, x1))), (x2, ())))) x0 x1 x2 := by kernel_rfl
theorem t12_17_eq (x0 : Int) (x1 : Int) (x2 : List Int) : t12_17 x0 x1 x2 = r12_17 some t12_5 t12_11 t12_17 x0 x1 x2 := by
  refine (theT_eqn _ fun n => k12_17 n x0 x1 x2).trans ?_
  have hb : ∀ d, o12.back (o12.res d) = some d := Form.back_res fun d => ⟨_, rfl⟩
  unfold r12_17
  simp only [lim_cond, lim_bind, lim_const, bind_cond, Option.bind_assoc, bind_some', bind_none', hb]
  try rfl
noncomputable def S12 : Sm := modeS a12 o12 (theM Go.Proofs.Try.prog tab12 [(5, l12_5), (11, l12_11), (17, l12_17)] o12 Go.Proofs.Try.f12 a12) noS
theorem S12_det : Det S12 := modeS_det noS_det
theorem S12_ok : Sound Go.Proofs.Try.prog 12 S12 := sound_mode tab12_ok Go.Proofs.Try.func12 (c := bodyOf Go.Proofs.Try.f12) (by kernel_rfl) (by kernel_rfl) (noS_sound _ _)
/- spec.l7Tokens -/
def a58 : Form := ⟨(.agg (.dat (.pair I64 (.sl (.pair I64 (.pair I64 (.pair I64 (.pair I64 I64)))))))), []⟩
def o58 : Form := ⟨(.ref 0 I64), [.arr I64]⟩
def l58_3 : Lab := ⟨[3, 8, 9, 10], ⟨(.cons (.ref 0 I64) (.cons (.dat (.sl (.pair I64 (.pair I64 (.pair I64 (.pair I64 I64)))))) (.cons (.dat I64) (.dat I64)))), [.arr I64]⟩⟩
noncomputable def tab58 : List Ent := []
theorem tab58_ok : ∀ e ∈ tab58, Sound Go.Proofs.Try.prog e.f e.S := fun _ h => nomatch h
noncomputable def C58 : Ctx := ctxOf Go.Proofs.Try.prog tab58 Go.Proofs.Try.f58 0 [(3, l58_3)] o58
noncomputable def i58_3 : List Item := at_ (bodyOf Go.Proofs.Try.f58) [1, 1, 0, 1, 0, 0] []
noncomputable def t58_3 (x0 : List (Int × Int × Int × Int × Int)) (x1 : Int) (x2 : Int) (x3 : List Int) : Option ((Unit) × (List Int) × Unit) := theT C58 i58_3 l58_3 (((), (x0, (x1, x2))), (x3, ()))
noncomputable def M58 (x0 : Int) (x1 : List (Int × Int × Int × Int × Int)) : Option ((Unit) × (List Int) × Unit) := theM Go.Proofs.Try.prog tab58 [(3, l58_3)] o58 Go.Proofs.Try.f58 a58 ((x0, x1), ())
noncomputable def r58 {ρ : Type} (ret : (Unit) × (List Int) × Unit → Option ρ) (t3 : (List (Int × Int × Int × Int × Int)) → Int → Int → (List Int) → Option ρ) (x0 : Int) (x1 : List (Int × Int × Int × Int × Int)) : Option ρ :=
  t3 x1 (↑(List.length x1) : Int) 0 []
theorem k58 (n : Nat) (x0 : Int) (x1 : List (Int × Int × Int × Int × Int)) : runF Go.Proofs.Try.prog tab58 [(3, l58_3)] o58 Go.Proofs.Try.f58 some (n + 1) (a58.vals ((x0, x1), ())) (a58.roots ((x0, x1), ())) = r58 (fun d => some (o58.res d)) (fun x0 x1 x2 x3 => run C58 some n i58_3 (l58_3.st (((), (x0, (x1, x2))), (x3, ())))) x0 x1 := by kernel_rfl
theorem M58_eq (x0 : Int) (x1 : List (Int × Int × Int × Int × Int)) : M58 x0 x1 = r58 some t58_3 x0 x1 := by
  refine (theM_eqn 1 _ fun n => k58 n x0 x1).trans ?_
  have hb : ∀ d, o58.back (o58.res d) = some d := Form.back_res fun d => ⟨_, rfl⟩
  unfold r58
  simp only [lim_cond, lim_bind, lim_const, bind_cond, Option.bind_assoc, bind_some', bind_none', hb]
  try rfl
noncomputable def r58_3 {ρ : Type} (ret : (Unit) × (List Int) × Unit → Option ρ) (t3 : (List (Int × Int × Int × Int × Int)) → Int → Int → (List Int) → Option ρ) (x0 : List (Int × Int × Int × Int × Int)) (x1 : Int) (x2 : Int) (x3 : List Int) : Option ρ :=
  bif decide (x2 < x1) then bif decide (0 ≤ x2) then bif decide (x2 < (↑(List.length x0) : Int)) then bif fitBytes (List.length x3 + List.length [Prod.snd (Prod.snd (Prod.snd (Prod.snd (List.getD x0 (Int.toNat x2) (0, 0, 0, 0, 0)))))]) 8 then t3 x0 x1 (IntKind.wrap IntKind.i64 (x2 + 1)) (x3 ++ [Prod.snd (Prod.snd (Prod.snd (Prod.snd (List.getD x0 (Int.toNat x2) (0, 0, 0, 0, 0)))))]) else none else none else none else ret ((), x3, ())
theorem k58_3 (n : Nat) (x0 : List (Int × Int × Int × Int × Int)) (x1 : Int) (x2 : Int) (x3 : List Int) : run C58 some (n + 1) i58_3 (l58_3.st (((), (x0, (x1, x2))), (x3, ()))) = r58_3 (fun d => some (o58.res d)) (fun x0 x1 x2 x3 => run C58 some n i58_3 (l58_3.st (((), (x0, (x1, x2))), (x3, ())))) x0 x1 x2 x3 := by kernel_rfl
theorem t58_3_eq (x0 : List (Int × Int × Int × Int × Int)) (x1 : Int) (x2 : Int) (x3 : List Int) : t58_3 x0 x1 x2 x3 = r58_3 some t58_3 x0 x1 x2 x3 := by
  refine (theT_eqn _ fun n => k58_3 n x0 x1 x2 x3).trans ?_
  have hb : ∀ d, o58.back (o58.res d) = some d := Form.back_res fun d => ⟨_, rfl⟩
  unfold r58_3
  simp only [lim_cond, lim_bind, lim_const, bind_cond, Option.bind_assoc, bind_some', bind_none', hb]
  try rfl
noncomputable def S58 : Sm := modeS a58 o58 (theM Go.Proofs.Try.prog tab58 [(3, l58_3)] o58 Go.Proofs.Try.f58 a58) noS
theorem S58_det : Det S58 := modeS_det noS_det
theorem S58_ok : Sound Go.Proofs.Try.prog 58 S58 := sound_mode tab58_ok Go.Proofs.Try.func58 (c := bodyOf Go.Proofs.Try.f58) (by kernel_rfl) (by kernel_rfl) (noS_sound _ _)
/- spec.l1Copy -/
def a122 : Form := ⟨(.dat (.sl I64)), []⟩
def o122 : Form := ⟨(.ref 0 I64), [.arr I64]⟩
noncomputable def tab122 : List Ent := []
theorem tab122_ok : ∀ e ∈ tab122, Sound Go.Proofs.Try.prog e.f e.S := fun _ h => nomatch h
noncomputable def C122 : Ctx := ctxOf Go.Proofs.Try.prog tab122 Go.Proofs.Try.f122 0 [] o122
noncomputable def M122 (x0 : List Int) : Option ((Unit) × (List Int) × Unit) := theM Go.Proofs.Try.prog tab122 [] o122 Go.Proofs.Try.f122 a122 (x0, ())
noncomputable def r122 {ρ : Type} (ret : (Unit) × (List Int) × Unit → Option ρ) (x0 : List Int) : Option ρ :=
  bif fitBytes (0 + List.length x0) 8 then ret ((), [] ++ x0, ()) else none
theorem k122 (n : Nat) (x0 : List Int) : runF Go.Proofs.Try.prog tab122 [] o122 Go.Proofs.Try.f122 some (n + 1) (a122.vals (x0, ())) (a122.roots (x0, ())) = r122 (fun d => some (o122.res d)) x0 := by kernel_rfl
theorem M122_eq (x0 : List Int) : M122 x0 = r122 some x0 := by
  refine (theM_eqn 1 _ fun n => k122 n x0).trans ?_
  have hb : ∀ d, o122.back (o122.res d) = some d := Form.back_res fun d => ⟨_, rfl⟩
  unfold r122
  simp only [lim_cond, lim_bind, lim_const, bind_cond, Option.bind_assoc, bind_some', bind_none', hb]
  try rfl
noncomputable def S122 : Sm := modeS a122 o122 (theM Go.Proofs.Try.prog tab122 [] o122 Go.Proofs.Try.f122 a122) noS
theorem S122_det : Det S122 := modeS_det noS_det
theorem S122_ok : Sound Go.Proofs.Try.prog 122 S122 := sound_mode tab122_ok Go.Proofs.Try.func122 (c := bodyOf Go.Proofs.Try.f122) (by kernel_rfl) (by kernel_rfl) (noS_sound _ _)
/- spec.l7Fire -/
def a59 : Form := ⟨(.cons (.agg (.dat (.pair I64 (.sl (.pair I64 (.pair I64 (.pair I64 (.pair I64 I64)))))))) (.cons (.dat (.sl I64)) (.dat I64))), []⟩
def o59 : Form := ⟨(.tup (.cons (.ref 0 I64) (.dat .bool))), [.arr I64]⟩
def l59_3 : Lab := ⟨[2, 3, 8, 16, 17, 18], ⟨(.cons (.dat I64) (.cons (.ptr 0 0) (.cons (.ref 1 I64) (.cons (.dat (.sl (.pair I64 (.pair I64 (.pair I64 (.pair I64 I64)))))) (.cons (.dat I64) (.dat I64)))))), [.box (.dat (.pair I64 (.sl (.pair I64 (.pair I64 (.pair I64 (.pair I64 I64))))))), .arr I64]⟩⟩
def l59_11 : Lab := ⟨[2, 8, 46, 47, 48], ⟨(.cons (.dat I64) (.cons (.ref 0 I64) (.cons (.dat (.sl (.pair I64 (.pair I64 (.pair I64 (.pair I64 I64)))))) (.cons (.dat I64) (.dat I64))))), [.arr I64]⟩⟩
noncomputable def tab59 : List Ent := [⟨122, false, S122, S122_det⟩]
theorem tab59_ok : ∀ e ∈ tab59, Sound Go.Proofs.Try.prog e.f e.S := List.forall_mem_cons.2 ⟨S122_ok, fun _ h => nomatch h⟩
noncomputable def C59 : Ctx := ctxOf Go.Proofs.Try.prog tab59 Go.Proofs.Try.f59 0 [(3, l59_3), (11, l59_11)] o59
noncomputable def i59_3 : List Item := at_ (bodyOf Go.Proofs.Try.f59) [1, 1, 0, 1, 0, 0] []
noncomputable def t59_3 (x0 : Int) (x1 : List (Int × Int × Int × Int × Int)) (x2 : Int) (x3 : Int) (x4 : Int) (x5 : List (Int × Int × Int × Int × Int)) (x6 : List Int) : Option (((Unit) × Bool) × (List Int) × Unit) := theT C59 i59_3 l59_3 ((x0, ((), ((), (x1, (x2, x3))))), ((x4, x5), (x6, ())))
noncomputable def i59_11 : List Item := at_ (bodyOf Go.Proofs.Try.f59) [1, 1, 1, 0, 1, 0, 0] []
noncomputable def t59_11 (x0 : Int) (x1 : List (Int × Int × Int × Int × Int)) (x2 : Int) (x3 : Int) (x4 : List Int) : Option (((Unit) × Bool) × (List Int) × Unit) := theT C59 i59_11 l59_11 ((x0, ((), (x1, (x2, x3)))), (x4, ()))
noncomputable def M59 (x0 : Int) (x1 : List (Int × Int × Int × Int × Int)) (x2 : List Int) (x3 : Int) : Option (((Unit) × Bool) × (List Int) × Unit) := theM Go.Proofs.Try.prog tab59 [(3, l59_3), (11, l59_11)] o59 Go.Proofs.Try.f59 a59 (((x0, x1), (x2, x3)), ())
noncomputable def r59 {ρ : Type} (ret : ((Unit) × Bool) × (List Int) × Unit → Option ρ) (t3 : Int → (List (Int × Int × Int × Int × Int)) → Int → Int → Int → (List (Int × Int × Int × Int × Int)) → (List Int) → Option ρ) (t11 : Int → (List (Int × Int × Int × Int × Int)) → Int → Int → (List Int) → Option ρ) (x0 : Int) (x1 : List (Int × Int × Int × Int × Int)) (x2 : List Int) (x3 : Int) : Option ρ :=
  Option.bind (M122 x2) fun d41 => t3 x3 x1 (↑(List.length x1) : Int) 0 x0 x1 (Prod.fst (Prod.snd d41))
theorem k59 (n : Nat) (x0 : Int) (x1 : List (Int × Int × Int × Int × Int)) (x2 : List Int) (x3 : Int) : runF Go.Proofs.Try.prog tab59 [(3, l59_3), (11, l59_11)] o59 Go.Proofs.Try.f59 some (n + 1) (a59.vals (((x0, x1), (x2, x3)), ())) (a59.roots (((x0, x1), (x2, x3)), ())) = r59 (fun d => some (o59.res d)) (fun x0 x1 x2 x3 x4 x5 x6 => run C59 some n i59_3 (l59_3.st ((x0, ((), ((), (x1, (x2, x3))))), ((x4, x5), (x6, ()))))) (fun x0 x1 x2 x3 x4 => run C59 some n i59_11 (l59_11.st ((x0, ((), (x1, (x2, x3)))), (x4, ())))) x0 x1 x2 x3 := by kernel_rfl
theorem M59_eq (x0 : Int) (x1 : List (Int × Int × Int × Int × Int)) (x2 : List Int) (x3 : Int) : M59 x0 x1 x2 x3 = r59 some t59_3 t59_11 x0 x1 x2 x3 := by
  refine (theM_eqn 1 _ fun n => k59 n x0 x1 x2 x3).trans ?_
  have hb : ∀ d, o59.back (o59.res d) = some d := Form.back_res fun d => ⟨_, rfl⟩
  unfold r59
  simp only [lim_cond, lim_bind, lim_const, bind_cond, Option.bind_assoc, bind_some', bind_none', hb]
  try rfl
noncomputable def r59_3 {ρ : Type} (ret : ((Unit) × Bool) × (List Int) × Unit → Option ρ) (t3 : Int → (List (Int × Int × Int × Int × Int)) → Int → Int → Int → (List (Int × Int × Int × Int × Int)) → (List Int) → Option ρ) (t11 : Int → (List (Int × Int × Int × Int × Int)) → Int → Int → (List Int) → Option ρ) (x0 : Int) (x1 : List (Int × Int × Int × Int × Int)) (x2 : Int) (x3 : Int) (x4 : Int) (x5 : List (Int × Int × Int × Int × Int)) (x6 : List Int) : Option ρ :=
  bif decide (x3 < x2) then bif decide (0 ≤ x3) then bif decide (x3 < (↑(List.length x1) : Int)) then bif Prod.fst (Prod.snd (List.getD x1 (Int.toNat x3) (0, 0, 0, 0, 0))) == x0 then bif decide (0 ≤ x3) then bif decide (x3 < (↑(List.length x6) : Int)) then bif decide (List.getD x6 (Int.toNat x3) 0 < Prod.fst (Prod.snd (Prod.snd (Prod.snd (List.getD x1 (Int.toNat x3) (0, 0, 0, 0, 0)))))) then ret (((), false), [], ()) else bif decide (0 ≤ x3) then bif decide (x3 < (↑(List.length x6) : Int)) then bif decide (0 ≤ x3) then bif decide (x3 < (↑(List.length x6) : Int)) then t3 x0 x1 x2 (IntKind.wrap IntKind.i64 (x3 + 1)) x4 x5 (List.set x6 (Int.toNat x3) (IntKind.wrap IntKind.i64 (List.getD x6 (Int.toNat x3) 0 - Prod.fst (Prod.snd (Prod.snd (Prod.snd (List.getD x1 (Int.toNat x3) (0, 0, 0, 0, 0)))))))) else none else none else none else none else none else none else t3 x0 x1 x2 (IntKind.wrap IntKind.i64 (x3 + 1)) x4 x5 x6 else none else none else t11 x0 x5 (↑(List.length x5) : Int) 0 x6
theorem k59_3 (n : Nat) (x0 : Int) (x1 : List (Int × Int × Int × Int × Int)) (x2 : Int) (x3 : Int) (x4 : Int) (x5 : List (Int × Int × Int × Int × Int)) (x6 : List Int) : run C59 some (n + 1) i59_3 (l59_3.st ((x0, ((), ((), (x1, (x2, x3))))), ((x4, x5), (x6, ())))) = r59_3 (fun d => some (o59.res d)) (fun x0 x1 x2 x3 x4 x5 x6 => run C59 some n i59_3 (l59_3.st ((x0, ((), ((), (x1, (x2, x3))))), ((x4, x5), (x6, ()))))) (fun x0 x1 x2 x3 x4 => run C59 some n i59_11 (l59_11.st ((x0, ((), (x1, (x2, x3)))), (x4, ())))) x0 x1 x2 x3 x4 x5 x6 := by kernel_rfl
theorem t59_3_eq (x0 : Int) (x1 : List (Int × Int × Int × Int × Int)) (x2 : Int) (x3 : Int) (x4 : Int) (x5 : List (Int × Int × Int × Int × Int)) (x6 : List Int) : t59_3 x0 x1 x2 x3 x4 x5 x6 = r59_3 some t59_3 t59_11 x0 x1 x2 x3 x4 x5 x6 := by
  refine (theT_eqn _ fun n => k59_3 n x0 x1 x2 x3 x4 x5 x6).trans ?_
  have hb : ∀ d, o59.back (o59.res d) = some d := Form.back_res fun d => ⟨_, rfl⟩
  unfold r59_3
  simp only [lim_cond, lim_bind, lim_const, bind_cond, Option.bind_assoc, bind_some', bind_none', hb]
  try rfl
noncomputable def r59_11 {ρ : Type} (ret : ((Unit) × Bool) × (List Int) × Unit → Option ρ) (t3 : Int → (List (Int × Int × Int × Int × Int)) → Int → Int → Int → (List (Int × Int × Int × Int × Int)) → (List Int) → Option ρ) (t11 : Int → (List (Int × Int × Int × Int × Int)) → Int → Int → (List Int) → Option ρ) (x0 : Int) (x1 : List (Int × Int × Int × Int × Int)) (x2 : Int) (x3 : Int) (x4 : List Int) : Option ρ :=
  bif decide (x3 < x2) then bif decide (0 ≤ x3) then bif decide (x3 < (↑(List.length x1) : Int)) then bif Prod.fst (List.getD x1 (Int.toNat x3) (0, 0, 0, 0, 0)) == x0 then bif decide (0 ≤ x3) then bif decide (x3 < (↑(List.length x4) : Int)) then bif decide (0 ≤ x3) then bif decide (x3 < (↑(List.length x4) : Int)) then t11 x0 x1 x2 (IntKind.wrap IntKind.i64 (x3 + 1)) (List.set x4 (Int.toNat x3) (IntKind.wrap IntKind.i64 (List.getD x4 (Int.toNat x3) 0 + Prod.fst (Prod.snd (Prod.snd (List.getD x1 (Int.toNat x3) (0, 0, 0, 0, 0))))))) else none else none else none else none else t11 x0 x1 x2 (IntKind.wrap IntKind.i64 (x3 + 1)) x4 else none else none else ret (((), true), x4, ())
theorem k59_11 (n : Nat) (x0 : Int) (x1 : List (Int × Int × Int × Int × Int)) (x2 : Int) (x3 : Int) (x4 : List Int) : run C59 some (n + 1) i59_11 (l59_11.st ((x0, ((), (x1, (x2, x3)))), (x4, ()))) = r59_11 (fun d => some (o59.res d)) (fun x0 x1 x2 x3 x4 x5 x6 => run C59 some n i59_3 (l59_3.st ((x0, ((), ((), (x1, (x2, x3))))), ((x4, x5), (x6, ()))))) (fun x0 x1 x2 x3 x4 => run C59 some n i59_11 (l59_11.st ((x0, ((), (x1, (x2, x3)))), (x4, ())))) x0 x1 x2 x3 x4 := by kernel_rfl
theorem t59_11_eq (x0 : Int) (x1 : List (Int × Int × Int × Int × Int)) (x2 : Int) (x3 : Int) (x4 : List Int) : t59_11 x0 x1 x2 x3 x4 = r59_11 some t59_3 t59_11 x0 x1 x2 x3 x4 := by
  refine (theT_eqn _ fun n => k59_11 n x0 x1 x2 x3 x4).trans ?_
  have hb : ∀ d, o59.back (o59.res d) = some d := Form.back_res fun d => ⟨_, rfl⟩
  unfold r59_11
  simp only [lim_cond, lim_bind, lim_const, bind_cond, Option.bind_assoc, bind_some', bind_none', hb]
  try rfl
noncomputable def S59 : Sm := modeS a59 o59 (theM Go.Proofs.Try.prog tab59 [(3, l59_3), (11, l59_11)] o59 Go.Proofs.Try.f59 a59) noS
theorem S59_det : Det S59 := modeS_det noS_det
theorem S59_ok : Sound Go.Proofs.Try.prog 59 S59 := sound_mode tab59_ok Go.Proofs.Try.func59 (c := bodyOf Go.Proofs.Try.f59) (by kernel_rfl) (by kernel_rfl) (noS_sound _ _)
/- spec.ScheduleOf -/
def a14 : Form := ⟨(.agg (.dat (.pair I64 (.sl (.pair I64 (.pair I64 (.pair I64 (.pair I64 I64)))))))), []⟩
def o14 : Form := ⟨(.tup (.cons (.ref 0 I64) (.dat .bool))), [.arr I64]⟩
def l14_6 : Lab := ⟨[1, 4, 6, 22, 23, 24], ⟨(.cons (.ptr 0 0) (.cons (.ref 1 I64) (.cons (.dat I64) (.cons (.ref 1 I64) (.cons (.dat I64) (.dat I64)))))), [.box (.dat (.pair I64 (.sl (.pair I64 (.pair I64 (.pair I64 (.pair I64 I64))))))), .arr I64]⟩⟩
def l14_12 : Lab := ⟨[1, 4, 6, 9, 10], ⟨(.cons (.ptr 0 0) (.cons (.ref 1 I64) (.cons (.dat I64) (.cons (.ref 2 I64) (.ref 3 I64))))), [.box (.dat (.pair I64 (.sl (.pair I64 (.pair I64 (.pair I64 (.pair I64 I64))))))), .arr I64, .arr I64, .arr I64]⟩⟩
def l14_16 : Lab := ⟨[1, 4, 6, 9, 10, 11, 12], ⟨(.cons (.ptr 0 0) (.cons (.ref 1 I64) (.cons (.dat I64) (.cons (.ref 2 I64) (.cons (.ref 3 I64) (.cons (.dat .bool) (.dat I64))))))), [.box (.dat (.pair I64 (.sl (.pair I64 (.pair I64 (.pair I64 (.pair I64 I64))))))), .arr I64, .arr I64, .arr I64]⟩⟩
noncomputable def tab14 : List Ent := [⟨12, false, S12, S12_det⟩, ⟨58, false, S58, S58_det⟩, ⟨59, false, S59, S59_det⟩]
theorem tab14_ok : ∀ e ∈ tab14, Sound Go.Proofs.Try.prog e.f e.S := List.forall_mem_cons.2 ⟨S12_ok, List.forall_mem_cons.2 ⟨S58_ok, List.forall_mem_cons.2 ⟨S59_ok, fun _ h => nomatch h⟩⟩⟩
noncomputable def C14 : Ctx := ctxOf Go.Proofs.Try.prog tab14 Go.Proofs.Try.f14 0 [(6, l14_6), (12, l14_12), (16, l14_16)] o14
noncomputable def i14_6 : List Item := at_ (bodyOf Go.Proofs.Try.f14) [1, 1, 1, 1, 0, 1, 0, 0] []
noncomputable def t14_6 (x0 : Int) (x1 : Int) (x2 : Int) (x3 : Int) (x4 : List (Int × Int × Int × Int × Int)) (x5 : List Int) : Option (((Unit) × Bool) × (List Int) × Unit) := theT C14 i14_6 l14_6 (((), ((), (x0, ((), (x1, x2))))), ((x3, x4), (x5, ())))
noncomputable def i14_12 : List Item := at_ (bodyOf Go.Proofs.Try.f14) [1, 1, 1, 1, 1, 1, 1, 0, 0, 0] []
noncomputable def t14_12 (x0 : Int) (x1 : Int) (x2 : List (Int × Int × Int × Int × Int)) (x3 : List Int) (x4 : List Int) (x5 : List Int) : Option (((Unit) × Bool) × (List Int) × Unit) := theT C14 i14_12 l14_12 (((), ((), (x0, ((), ())))), ((x1, x2), (x3, (x4, (x5, ())))))
noncomputable def i14_16 : List Item := at_ (bodyOf Go.Proofs.Try.f14) [1, 1, 1, 1, 1, 1, 1, 0, 0, 0, 1, 0, 0, 1, 0, 1, 0, 0] []
noncomputable def t14_16 (x0 : Int) (x1 : Bool) (x2 : Int) (x3 : Int) (x4 : List (Int × Int × Int × Int × Int)) (x5 : List Int) (x6 : List Int) (x7 : List Int) : Option (((Unit) × Bool) × (List Int) × Unit) := theT C14 i14_16 l14_16 (((), ((), (x0, ((), ((), (x1, x2)))))), ((x3, x4), (x5, (x6, (x7, ())))))
noncomputable def M14 (x0 : Int) (x1 : List (Int × Int × Int × Int × Int)) : Option (((Unit) × Bool) × (List Int) × Unit) := theM Go.Proofs.Try.prog tab14 [(6, l14_6), (12, l14_12), (16, l14_16)] o14 Go.Proofs.Try.f14 a14 ((x0, x1), ())
noncomputable def r14 {ρ : Type} (ret : ((Unit) × Bool) × (List Int) × Unit → Option ρ) (t6 : Int → Int → Int → Int → (List (Int × Int × Int × Int × Int)) → (List Int) → Option ρ) (t12 : Int → Int → (List (Int × Int × Int × Int × Int)) → (List Int) → (List Int) → (List Int) → Option ρ) (t16 : Int → Bool → Int → Int → (List (Int × Int × Int × Int × Int)) → (List Int) → (List Int) → (List Int) → Option ρ) (x0 : Int) (x1 : List (Int × Int × Int × Int × Int)) : Option ρ :=
  Option.bind (M12 x0 x1) fun d36 => bif !Prod.snd (Prod.fst d36) then ret (((), false), [], ()) else t6 0 (↑(List.length (Prod.fst (Prod.snd d36))) : Int) 0 x0 x1 (Prod.fst (Prod.snd d36))
theorem k14 (n : Nat) (x0 : Int) (x1 : List (Int × Int × Int × Int × Int)) : runF Go.Proofs.Try.prog tab14 [(6, l14_6), (12, l14_12), (16, l14_16)] o14 Go.Proofs.Try.f14 some (n + 1) (a14.vals ((x0, x1), ())) (a14.roots ((x0, x1), ())) = r14 (fun d => some (o14.res d)) (fun x0 x1 x2 x3 x4 x5 => run C14 some n i14_6 (l14_6.st (((), ((), (x0, ((), (x1, x2))))), ((x3, x4), (x5, ()))))) (fun x0 x1 x2 x3 x4 x5 => run C14 some n i14_12 (l14_12.st (((), ((), (x0, ((), ())))), ((x1, x2), (x3, (x4, (x5, ()))))))) (fun x0 x1 x2 x3 x4 x5 x6 x7 => run C14 some n i14_16 (l14_16.st (((), ((), (x0, ((), ((), (x1, x2)))))), ((x3, x4), (x5, (x6, (x7, ()))))))) x0 x1 := by kernel_rfl
theorem M14_eq (x0 : Int) (x1 : List (Int × Int × Int × Int × Int)) : M14 x0 x1 = r14 some t14_6 t14_12 t14_16 x0 x1 := by
  refine (theM_eqn 1 _ fun n => k14 n x0 x1).trans ?_
  have hb : ∀ d, o14.back (o14.res d) = some d := Form.back_res fun d => ⟨_, rfl⟩
  unfold r14
  simp only [lim_cond, lim_bind, lim_const, bind_cond, Option.bind_assoc, bind_some', bind_none', hb]
  try rfl
noncomputable def r14_6 {ρ : Type} (ret : ((Unit) × Bool) × (List Int) × Unit → Option ρ) (t6 : Int → Int → Int → Int → (List (Int × Int × Int × Int × Int)) → (List Int) → Option ρ) (t12 : Int → Int → (List (Int × Int × Int × Int × Int)) → (List Int) → (List Int) → (List Int) → Option ρ) (t16 : Int → Bool → Int → Int → (List (Int × Int × Int × Int × Int)) → (List Int) → (List Int) → (List Int) → Option ρ) (x0 : Int) (x1 : Int) (x2 : Int) (x3 : Int) (x4 : List (Int × Int × Int × Int × Int)) (x5 : List Int) : Option ρ :=
  bif decide (x2 < x1) then bif decide (0 ≤ x2) then bif decide (x2 < (↑(List.length x5) : Int)) then t6 (IntKind.wrap IntKind.i64 (x0 + List.getD x5 (Int.toNat x2) 0)) x1 (IntKind.wrap IntKind.i64 (x2 + 1)) x3 x4 x5 else none else none else Option.bind (M58 x3 x4) fun d37 => t12 x0 x3 x4 x5 (Prod.fst (Prod.snd d37)) []
theorem k14_6 (n : Nat) (x0 : Int) (x1 : Int) (x2 : Int) (x3 : Int) (x4 : List (Int × Int × Int × Int × Int)) (x5 : List Int) : run C14 some (n + 1) i14_6 (l14_6.st (((), ((), (x0, ((), (x1, x2))))), ((x3, x4), (x5, ())))) = r14_6 (fun d => some (o14.res d)) (fun x0 x1 x2 x3 x4 x5 => run C14 some n i14_6 (l14_6.st (((), ((), (x0, ((), (x1, x2))))), ((x3, x4), (x5, ()))))) (fun x0 x1 x2 x3 x4 x5 => run C14 some n i14_12 (l14_12.st (((), ((), (x0, ((), ())))), ((x1, x2), (x3, (x4, (x5, ()))))))) (fun x0 x1 x2 x3 x4 x5 x6 x7 => run C14 some n i14_16 (l14_16.st (((), ((), (x0, ((), ((), (x1, x2)))))), ((x3, x4), (x5, (x6, (x7, ()))))))) x0 x1 x2 x3 x4 x5 := by kernel_rfl
theorem t14_6_eq (x0 : Int) (x1 : Int) (x2 : Int) (x3 : Int) (x4 : List (Int × Int × Int × Int × Int)) (x5 : List Int) : t14_6 x0 x1 x2 x3 x4 x5 = r14_6 some t14_6 t14_12 t14_16 x0 x1 x2 x3 x4 x5 := by
  refine (theT_eqn _ fun n => k14_6 n x0 x1 x2 x3 x4 x5).trans ?_
  have hb : ∀ d, o14.back (o14.res d) = some d := Form.back_res fun d => ⟨_, rfl⟩
  unfold r14_6
  simp only [lim_cond, lim_bind, lim_const, bind_cond, Option.bind_assoc, bind_some', bind_none', hb]
  try rfl
noncomputable def r14_12 {ρ : Type} (ret : ((Unit) × Bool) × (List Int) × Unit → Option ρ) (t6 : Int → Int → Int → Int → (List (Int × Int × Int × Int × Int)) → (List Int) → Option ρ) (t12 : Int → Int → (List (Int × Int × Int × Int × Int)) → (List Int) → (List Int) → (List Int) → Option ρ) (t16 : Int → Bool → Int → Int → (List (Int × Int × Int × Int × Int)) → (List Int) → (List Int) → (List Int) → Option ρ) (x0 : Int) (x1 : Int) (x2 : List (Int × Int × Int × Int × Int)) (x3 : List Int) (x4 : List Int) (x5 : List Int) : Option ρ :=
  bif decide (x0 > 0) then t16 x0 false 0 x1 x2 x3 x4 x5 else ret (((), true), x5, ())
theorem k14_12 (n : Nat) (x0 : Int) (x1 : Int) (x2 : List (Int × Int × Int × Int × Int)) (x3 : List Int) (x4 : List Int) (x5 : List Int) : run C14 some (n + 1) i14_12 (l14_12.st (((), ((), (x0, ((), ())))), ((x1, x2), (x3, (x4, (x5, ())))))) = r14_12 (fun d => some (o14.res d)) (fun x0 x1 x2 x3 x4 x5 => run C14 some n i14_6 (l14_6.st (((), ((), (x0, ((), (x1, x2))))), ((x3, x4), (x5, ()))))) (fun x0 x1 x2 x3 x4 x5 => run C14 some n i14_12 (l14_12.st (((), ((), (x0, ((), ())))), ((x1, x2), (x3, (x4, (x5, ()))))))) (fun x0 x1 x2 x3 x4 x5 x6 x7 => run C14 some n i14_16 (l14_16.st (((), ((), (x0, ((), ((), (x1, x2)))))), ((x3, x4), (x5, (x6, (x7, ()))))))) x0 x1 x2 x3 x4 x5 := by kernel_rfl
theorem t14_12_eq (x0 : Int) (x1 : Int) (x2 : List (Int × Int × Int × Int × Int)) (x3 : List Int) (x4 : List Int) (x5 : List Int) : t14_12 x0 x1 x2 x3 x4 x5 = r14_12 some t14_6 t14_12 t14_16 x0 x1 x2 x3 x4 x5 := by
  refine (theT_eqn _ fun n => k14_12 n x0 x1 x2 x3 x4 x5).trans ?_
  have hb : ∀ d, o14.back (o14.res d) = some d := Form.back_res fun d => ⟨_, rfl⟩
  unfold r14_12
  simp only [lim_cond, lim_bind, lim_const, bind_cond, Option.bind_assoc, bind_some', bind_none', hb]
  try rfl
noncomputable def r14_16 {ρ : Type} (ret : ((Unit) × Bool) × (List Int) × Unit → Option ρ) (t6 : Int → Int → Int → Int → (List (Int × Int × Int × Int × Int)) → (List Int) → Option ρ) (t12 : Int → Int → (List (Int × Int × Int × Int × Int)) → (List Int) → (List Int) → (List Int) → Option ρ) (t16 : Int → Bool → Int → Int → (List (Int × Int × Int × Int × Int)) → (List Int) → (List Int) → (List Int) → Option ρ) (x0 : Int) (x1 : Bool) (x2 : Int) (x3 : Int) (x4 : List (Int × Int × Int × Int × Int)) (x5 : List Int) (x6 : List Int) (x7 : List Int) : Option ρ :=
  bif decide (x2 < x3) then bif !x1 then Option.bind (M59 x3 x4 x6 x2) fun d42 => bif Prod.snd (Prod.fst d42) then bif decide (0 ≤ x2) then bif decide (x2 < (↑(List.length x5) : Int)) then bif decide (List.getD x5 (Int.toNat x2) 0 > 0) then bif decide (0 ≤ x2) then bif decide (x2 < (↑(List.length x5) : Int)) then bif decide (0 ≤ x2) then bif decide (x2 < (↑(List.length x5) : Int)) then bif fitBytes (List.length x7 + List.length [x2]) 8 then t16 x0 true (IntKind.wrap IntKind.i64 (x2 + 1)) x3 x4 (List.set x5 (Int.toNat x2) (IntKind.wrap IntKind.i64 (List.getD x5 (Int.toNat x2) 0 - 1))) (Prod.fst (Prod.snd d42)) (x7 ++ [x2]) else none else none else none else none else none else t16 x0 x1 (IntKind.wrap IntKind.i64 (x2 + 1)) x3 x4 x5 x6 x7 else none else none else t16 x0 x1 (IntKind.wrap IntKind.i64 (x2 + 1)) x3 x4 x5 x6 x7 else bif !x1 then ret (((), false), [], ()) else t12 (IntKind.wrap IntKind.i64 (x0 - 1)) x3 x4 x5 x6 x7 else bif !x1 then ret (((), false), [], ()) else t12 (IntKind.wrap IntKind.i64 (x0 - 1)) x3 x4 x5 x6 x7
theorem k14_16 (n : Nat) (x0 : Int) (x1 : Bool) (x2 : Int) (x3 : Int) (x4 : List (Int × Int × Int × Int × Int)) (x5 : List Int) (x6 : List Int) (x7 : List Int) : run C14 some (n + 1) i14_16 (l14_16.st (((), ((), (x0, ((), ((), (x1, x2)))))), ((x3, x4), (x5, (x6, (x7, ())))))) = r14_16 (fun d => some (o14.res d)) (fun x0 x1 x2 x3 x4 x5 => run C14 some n i14_6 (l14_6.st (((), ((), (x0, ((), (x1, x2))))), ((x3, x4), (x5, ()))))) (fun x0 x1 x2 x3 x4 x5 => run C14 some n i14_12 (l14_12.st (((), ((), (x0, ((), ())))), ((x1, x2), (x3, (x4, (x5, ()))))))) (fun x0 x1 x2 x3 x4 x5 x6 x7 => run C14 some n i14_16 (l14_16.st (((), ((), (x0, ((), ((), (x1, x2)))))), ((x3, x4), (x5, (x6, (x7, ()))))))) x0 x1 x2 x3 x4 x5 x6 x7 := by kernel_rfl
theorem t14_16_eq (x0 : Int) (x1 : Bool) (x2 : Int) (x3 : Int) (x4 : List (Int × Int × Int × Int × Int)) (x5 : List Int) (x6 : List Int) (x7 : List Int) : t14_16 x0 x1 x2 x3 x4 x5 x6 x7 = r14_16 some t14_6 t14_12 t14_16 x0 x1 x2 x3 x4 x5 x6 x7 := by
  refine (theT_eqn _ fun n => k14_16 n x0 x1 x2 x3 x4 x5 x6 x7).trans ?_
  have hb : ∀ d, o14.back (o14.res d) = some d := Form.back_res fun d => ⟨_, rfl⟩
  unfold r14_16
  simp only [lim_cond, lim_bind, lim_const, bind_cond, Option.bind_assoc, bind_some', bind_none', hb]
  try rfl
noncomputable def S14 : Sm := modeS a14 o14 (theM Go.Proofs.Try.prog tab14 [(6, l14_6), (12, l14_12), (16, l14_16)] o14 Go.Proofs.Try.f14 a14) noS
theorem S14_det : Det S14 := modeS_det noS_det
theorem S14_ok : Sound Go.Proofs.Try.prog 14 S14 := sound_mode tab14_ok Go.Proofs.Try.func14 (c := bodyOf Go.Proofs.Try.f14) (by kernel_rfl) (by kernel_rfl) (noS_sound _ _)
/- impl.IsGraph$1 -/
def a118 : Form := ⟨(.cons (.agg (.dat (.pair I64 (.pair I64 (.pair I64 (.pair I64 I64)))))) (.cp (.dat (.pair I64 (.sl (.pair I64 (.pair I64 (.pair I64 (.pair I64 I64))))))))), []⟩
def o118 : Form := ⟨(.dat .bool), []⟩
noncomputable def tab118 : List Ent := []
theorem tab118_ok : ∀ e ∈ tab118, Sound Go.Proofs.Try.prog e.f e.S := fun _ h => nomatch h
noncomputable def C118 : Ctx := ctxOf Go.Proofs.Try.prog tab118 Go.Proofs.Try.f118 0 [] o118
noncomputable def M118 (x0 : Int) (x1 : Int) (x2 : Int) (x3 : Int) (x4 : Int) (x5 : Int) (x6 : List (Int × Int × Int × Int × Int)) : Option ((Bool) × Unit) := theM Go.Proofs.Try.prog tab118 [] o118 Go.Proofs.Try.f118 a118 (((x0, (x1, (x2, (x3, x4)))), (x5, x6)), ())
noncomputable def r118 {ρ : Type} (ret : (Bool) × Unit → Option ρ) (x0 : Int) (x1 : Int) (x2 : Int) (x3 : Int) (x4 : Int) (x5 : Int) (x6 : List (Int × Int × Int × Int × Int)) : Option ρ :=
  bif decide (x0 < 0) then ret (true, ()) else bif decide (x0 ≥ x5) then ret (true, ()) else bif decide (x1 < 0) then ret (true, ()) else bif decide (x1 ≥ x5) then ret (true, ()) else bif decide (x2 < 1) then ret (true, ()) else bif decide (x2 > 5) then ret (true, ()) else bif decide (x3 < 1) then ret (true, ()) else bif decide (x3 > 5) then ret (true, ()) else bif decide (x4 < 0) then ret (true, ()) else ret (decide (x4 > 50), ())
theorem k118 (n : Nat) (x0 : Int) (x1 : Int) (x2 : Int) (x3 : Int) (x4 : Int) (x5 : Int) (x6 : List (Int × Int × Int × Int × Int)) : runF Go.Proofs.Try.prog tab118 [] o118 Go.Proofs.Try.f118 some (n + 1) (a118.vals (((x0, (x1, (x2, (x3, x4)))), (x5, x6)), ())) (a118.roots (((x0, (x1, (x2, (x3, x4)))), (x5, x6)), ())) = r118 (fun d => some (o118.res d)) x0 x1 x2 x3 x4 x5 x6 := by kernel_rfl
theorem M118_eq (x0 : Int) (x1 : Int) (x2 : Int) (x3 : Int) (x4 : Int) (x5 : Int) (x6 : List (Int × Int × Int × Int × Int)) : M118 x0 x1 x2 x3 x4 x5 x6 = r118 some x0 x1 x2 x3 x4 x5 x6 := by
  refine (theM_eqn 1 _ fun n => k118 n x0 x1 x2 x3 x4 x5 x6).trans ?_
  have hb : ∀ d, o118.back (o118.res d) = some d := Form.back_res fun d => ⟨_, rfl⟩
  unfold r118
  simp only [lim_cond, lim_bind, lim_const, bind_cond, Option.bind_assoc, bind_some', bind_none', hb]
  try rfl
noncomputable def S118 : Sm := modeS a118 o118 (theM Go.Proofs.Try.prog tab118 [] o118 Go.Proofs.Try.f118 a118) noS
theorem S118_det : Det S118 := modeS_det noS_det
theorem S118_ok : Sound Go.Proofs.Try.prog 118 S118 := sound_mode tab118_ok Go.Proofs.Try.func118 (c := bodyOf Go.Proofs.Try.f118) (by kernel_rfl) (by kernel_rfl) (noS_sound _ _)
/- impl.Edge] -/
def a160 : Form := ⟨(.cons (.dat (.sl (.pair I64 (.pair I64 (.pair I64 (.pair I64 I64)))))) (.fn 118 (.cp (.dat (.pair I64 (.sl (.pair I64 (.pair I64 (.pair I64 (.pair I64 I64)))))))))), []⟩
def o160 : Form := ⟨(.dat I64), []⟩
def l160_2 : Lab := ⟨[0, 1, 7, 8], ⟨(.cons (.dat (.sl (.pair I64 (.pair I64 (.pair I64 (.pair I64 I64)))))) (.cons (.fn 118 (.cp (.dat (.pair I64 (.sl (.pair I64 (.pair I64 (.pair I64 (.pair I64 I64))))))))) (.cons (.dat I64) (.dat I64)))), []⟩⟩
noncomputable def tab160 : List Ent := [⟨118, false, S118, S118_det⟩]
theorem tab160_ok : ∀ e ∈ tab160, Sound Go.Proofs.Try.prog e.f e.S := List.forall_mem_cons.2 ⟨S118_ok, fun _ h => nomatch h⟩
noncomputable def C160 : Ctx := ctxOf Go.Proofs.Try.prog tab160 Go.Proofs.Try.f160 0 [(2, l160_2)] o160
noncomputable def i160_2 : List Item := at_ (bodyOf Go.Proofs.Try.f160) [1, 0, 1, 0, 0] []
noncomputable def t160_2 (x0 : List (Int × Int × Int × Int × Int)) (x1 : Int) (x2 : List (Int × Int × Int × Int × Int)) (x3 : Int) (x4 : Int) : Option ((Int) × Unit) := theT C160 i160_2 l160_2 ((x0, ((x1, x2), (x3, x4))), ())
noncomputable def M160 (x0 : List (Int × Int × Int × Int × Int)) (x1 : Int) (x2 : List (Int × Int × Int × Int × Int)) : Option ((Int) × Unit) := theM Go.Proofs.Try.prog tab160 [(2, l160_2)] o160 Go.Proofs.Try.f160 a160 ((x0, (x1, x2)), ())
noncomputable def r160 {ρ : Type} (ret : (Int) × Unit → Option ρ) (t2 : (List (Int × Int × Int × Int × Int)) → Int → (List (Int × Int × Int × Int × Int)) → Int → Int → Option ρ) (x0 : List (Int × Int × Int × Int × Int)) (x1 : Int) (x2 : List (Int × Int × Int × Int × Int)) : Option ρ :=
  t2 x0 x1 x2 (↑(List.length x0) : Int) 0
theorem k160 (n : Nat) (x0 : List (Int × Int × Int × Int × Int)) (x1 : Int) (x2 : List (Int × Int × Int × Int × Int)) : runF Go.Proofs.Try.prog tab160 [(2, l160_2)] o160 Go.Proofs.Try.f160 some (n + 1) (a160.vals ((x0, (x1, x2)), ())) (a160.roots ((x0, (x1, x2)), ())) = r160 (fun d => some (o160.res d)) (fun x0 x1 x2 x3 x4 => run C160 some n i160_2 (l160_2.st ((x0, ((x1, x2), (x3, x4))), ()))) x0 x1 x2 := by kernel_rfl
theorem M160_eq (x0 : List (Int × Int × Int × Int × Int)) (x1 : Int) (x2 : List (Int × Int × Int × Int × Int)) : M160 x0 x1 x2 = r160 some t160_2 x0 x1 x2 := by
  refine (theM_eqn 1 _ fun n => k160 n x0 x1 x2).trans ?_
  have hb : ∀ d, o160.back (o160.res d) = some d := Form.back_res fun d => ⟨_, rfl⟩
  unfold r160
  simp only [lim_cond, lim_bind, lim_const, bind_cond, Option.bind_assoc, bind_some', bind_none', hb]
  try rfl
noncomputable def r160_2 {ρ : Type} (ret : (Int) × Unit → Option ρ) (t2 : (List (Int × Int × Int × Int × Int)) → Int → (List (Int × Int × Int × Int × Int)) → Int → Int → Option ρ) (x0 : List (Int × Int × Int × Int × Int)) (x1 : Int) (x2 : List (Int × Int × Int × Int × Int)) (x3 : Int) (x4 : Int) : Option ρ :=
  bif decide (x4 < x3) then bif decide (0 ≤ x4) then bif decide (x4 < (↑(List.length x0) : Int)) then Option.bind (M118 (Prod.fst (List.getD x0 (Int.toNat x4) (0, 0, 0, 0, 0))) (Prod.fst (Prod.snd (List.getD x0 (Int.toNat x4) (0, 0, 0, 0, 0)))) (Prod.fst (Prod.snd (Prod.snd (List.getD x0 (Int.toNat x4) (0, 0, 0, 0, 0))))) (Prod.fst (Prod.snd (Prod.snd (Prod.snd (List.getD x0 (Int.toNat x4) (0, 0, 0, 0, 0)))))) (Prod.snd (Prod.snd (Prod.snd (Prod.snd (List.getD x0 (Int.toNat x4) (0, 0, 0, 0, 0)))))) x1 x2) fun d46 => bif Prod.fst d46 then ret (x4, ()) else t2 x0 x1 x2 x3 (IntKind.wrap IntKind.i64 (x4 + 1)) else none else none else ret (-1, ())
theorem k160_2 (n : Nat) (x0 : List (Int × Int × Int × Int × Int)) (x1 : Int) (x2 : List (Int × Int × Int × Int × Int)) (x3 : Int) (x4 : Int) : run C160 some (n + 1) i160_2 (l160_2.st ((x0, ((x1, x2), (x3, x4))), ())) = r160_2 (fun d => some (o160.res d)) (fun x0 x1 x2 x3 x4 => run C160 some n i160_2 (l160_2.st ((x0, ((x1, x2), (x3, x4))), ()))) x0 x1 x2 x3 x4 := by kernel_rfl
theorem t160_2_eq (x0 : List (Int × Int × Int × Int × Int)) (x1 : Int) (x2 : List (Int × Int × Int × Int × Int)) (x3 : Int) (x4 : Int) : t160_2 x0 x1 x2 x3 x4 = r160_2 some t160_2 x0 x1 x2 x3 x4 := by
  refine (theT_eqn _ fun n => k160_2 n x0 x1 x2 x3 x4).trans ?_
  have hb : ∀ d, o160.back (o160.res d) = some d := Form.back_res fun d => ⟨_, rfl⟩
  unfold r160_2
  simp only [lim_cond, lim_bind, lim_const, bind_cond, Option.bind_assoc, bind_some', bind_none', hb]
  try rfl
noncomputable def S160 : Sm := modeS a160 o160 (theM Go.Proofs.Try.prog tab160 [(2, l160_2)] o160 Go.Proofs.Try.f160 a160) noS
theorem S160_det : Det S160 := modeS_det noS_det
theorem S160_ok : Sound Go.Proofs.Try.prog 160 S160 := sound_mode tab160_ok Go.Proofs.Try.func160 (c := bodyOf Go.Proofs.Try.f160) (by kernel_rfl) (by kernel_rfl) (noS_sound _ _)
/- impl.Edge] -/
def a117 : Form := ⟨(.cons (.dat (.sl (.pair I64 (.pair I64 (.pair I64 (.pair I64 I64)))))) (.fn 118 (.cp (.dat (.pair I64 (.sl (.pair I64 (.pair I64 (.pair I64 (.pair I64 I64)))))))))), []⟩
def o117 : Form := ⟨(.dat .bool), []⟩
noncomputable def tab117 : List Ent := [⟨160, false, S160, S160_det⟩]
theorem tab117_ok : ∀ e ∈ tab117, Sound Go.Proofs.Try.prog e.f e.S := List.forall_mem_cons.2 ⟨S160_ok, fun _ h => nomatch h⟩
noncomputable def C117 : Ctx := ctxOf Go.Proofs.Try.prog tab117 Go.Proofs.Try.f117 0 [] o117
noncomputable def M117 (x0 : List (Int × Int × Int × Int × Int)) (x1 : Int) (x2 : List (Int × Int × Int × Int × Int)) : Option ((Bool) × Unit) := theM Go.Proofs.Try.prog tab117 [] o117 Go.Proofs.Try.f117 a117 ((x0, (x1, x2)), ())
noncomputable def r117 {ρ : Type} (ret : (Bool) × Unit → Option ρ) (x0 : List (Int × Int × Int × Int × Int)) (x1 : Int) (x2 : List (Int × Int × Int × Int × Int)) : Option ρ :=
  Option.bind (M160 x0 x1 x2) fun d48 => ret (decide (Prod.fst d48 ≥ 0), ())
theorem k117 (n : Nat) (x0 : List (Int × Int × Int × Int × Int)) (x1 : Int) (x2 : List (Int × Int × Int × Int × Int)) : runF Go.Proofs.Try.prog tab117 [] o117 Go.Proofs.Try.f117 some (n + 1) (a117.vals ((x0, (x1, x2)), ())) (a117.roots ((x0, (x1, x2)), ())) = r117 (fun d => some (o117.res d)) x0 x1 x2 := by kernel_rfl
theorem M117_eq (x0 : List (Int × Int × Int × Int × Int)) (x1 : Int) (x2 : List (Int × Int × Int × Int × Int)) : M117 x0 x1 x2 = r117 some x0 x1 x2 := by
  refine (theM_eqn 1 _ fun n => k117 n x0 x1 x2).trans ?_
  have hb : ∀ d, o117.back (o117.res d) = some d := Form.back_res fun d => ⟨_, rfl⟩
  unfold r117
  simp only [lim_cond, lim_bind, lim_const, bind_cond, Option.bind_assoc, bind_some', bind_none', hb]
  try rfl
noncomputable def S117 : Sm := modeS a117 o117 (theM Go.Proofs.Try.prog tab117 [] o117 Go.Proofs.Try.f117 a117) noS
theorem S117_det : Det S117 := modeS_det noS_det
theorem S117_ok : Sound Go.Proofs.Try.prog 117 S117 := sound_mode tab117_ok Go.Proofs.Try.func117 (c := bodyOf Go.Proofs.Try.f117) (by kernel_rfl) (by kernel_rfl) (noS_sound _ _)
/- impl.IsGraph -/
def a49 : Form := ⟨(.agg (.dat (.pair I64 (.sl (.pair I64 (.pair I64 (.pair I64 (.pair I64 I64)))))))), []⟩
def o49 : Form := ⟨(.dat .bool), []⟩
noncomputable def tab49 : List Ent := [⟨117, false, S117, S117_det⟩]
theorem tab49_ok : ∀ e ∈ tab49, Sound Go.Proofs.Try.prog e.f e.S := List.forall_mem_cons.2 ⟨S117_ok, fun _ h => nomatch h⟩
noncomputable def C49 : Ctx := ctxOf Go.Proofs.Try.prog tab49 Go.Proofs.Try.f49 0 [] o49
noncomputable def M49 (x0 : Int) (x1 : List (Int × Int × Int × Int × Int)) : Option ((Bool) × Unit) := theM Go.Proofs.Try.prog tab49 [] o49 Go.Proofs.Try.f49 a49 ((x0, x1), ())
noncomputable def r49 {ρ : Type} (ret : (Bool) × Unit → Option ρ) (x0 : Int) (x1 : List (Int × Int × Int × Int × Int)) : Option ρ :=
  bif decide (x0 < 0) then ret (false, ()) else bif decide (x0 > 8) then ret (false, ()) else bif decide ((↑(List.length x1) : Int) > 16) then ret (false, ()) else Option.bind (M117 x1 x0 x1) fun d50 => ret (!Prod.fst d50, ())
theorem k49 (n : Nat) (x0 : Int) (x1 : List (Int × Int × Int × Int × Int)) : runF Go.Proofs.Try.prog tab49 [] o49 Go.Proofs.Try.f49 some (n + 1) (a49.vals ((x0, x1), ())) (a49.roots ((x0, x1), ())) = r49 (fun d => some (o49.res d)) x0 x1 := by kernel_rfl
theorem M49_eq (x0 : Int) (x1 : List (Int × Int × Int × Int × Int)) : M49 x0 x1 = r49 some x0 x1 := by
  refine (theM_eqn 1 _ fun n => k49 n x0 x1).trans ?_
  have hb : ∀ d, o49.back (o49.res d) = some d := Form.back_res fun d => ⟨_, rfl⟩
  unfold r49
  simp only [lim_cond, lim_bind, lim_const, bind_cond, Option.bind_assoc, bind_some', bind_none', hb]
  try rfl
noncomputable def S49 : Sm := modeS a49 o49 (theM Go.Proofs.Try.prog tab49 [] o49 Go.Proofs.Try.f49 a49) noS
theorem S49_det : Det S49 := modeS_det noS_det
theorem S49_ok : Sound Go.Proofs.Try.prog 49 S49 := sound_mode tab49_ok Go.Proofs.Try.func49 (c := bodyOf Go.Proofs.Try.f49) (by kernel_rfl) (by kernel_rfl) (noS_sound _ _)
/- impl.gcd -/
def a51 : Form := ⟨(.cons (.dat I64) (.dat I64)), []⟩
def o51 : Form := ⟨(.dat I64), []⟩
def l51_1 : Lab := ⟨[0, 1], ⟨(.cons (.dat I64) (.dat I64)), []⟩⟩
noncomputable def tab51 : List Ent := []
theorem tab51_ok : ∀ e ∈ tab51, Sound Go.Proofs.Try.prog e.f e.S := fun _ h => nomatch h
noncomputable def C51 : Ctx := ctxOf Go.Proofs.Try.prog tab51 Go.Proofs.Try.f51 0 [(1, l51_1)] o51
noncomputable def i51_1 : List Item := at_ (bodyOf Go.Proofs.Try.f51) [1, 0, 0, 0] []
noncomputable def t51_1 (x0 : Int) (x1 : Int) : Option ((Int) × Unit) := theT C51 i51_1 l51_1 ((x0, x1), ())
noncomputable def M51 (x0 : Int) (x1 : Int) : Option ((Int) × Unit) := theM Go.Proofs.Try.prog tab51 [(1, l51_1)] o51 Go.Proofs.Try.f51 a51 ((x0, x1), ())
noncomputable def r51 {ρ : Type} (ret : (Int) × Unit → Option ρ) (t1 : Int → Int → Option ρ) (x0 : Int) (x1 : Int) : Option ρ :=
  t1 x0 x1
theorem k51 (n : Nat) (x0 : Int) (x1 : Int) : runF Go.Proofs.Try.prog tab51 [(1, l51_1)] o51 Go.Proofs.Try.f51 some (n + 1) (a51.vals ((x0, x1), ())) (a51.roots ((x0, x1), ())) = r51 (fun d => some (o51.res d)) (fun x0 x1 => run C51 some n i51_1 (l51_1.st ((x0, x1), ()))) x0 x1 := by kernel_rfl
theorem M51_eq (x0 : Int) (x1 : Int) : M51 x0 x1 = r51 some t51_1 x0 x1 := by
  refine (theM_eqn 1 _ fun n => k51 n x0 x1).trans ?_
  have hb : ∀ d, o51.back (o51.res d) = some d := Form.back_res fun d => ⟨_, rfl⟩
  unfold r51
  simp only [lim_cond, lim_bind, lim_const, bind_cond, Option.bind_assoc, bind_some', bind_none', hb]
  try rfl
noncomputable def r51_1 {ρ : Type} (ret : (Int) × Unit → Option ρ) (t1 : Int → Int → Option ρ) (x0 : Int) (x1 : Int) : Option ρ :=
  bif x1 != 0 then bif decide (x1 ≠ 0) then t1 x1 (Int.tmod x0 x1) else none else ret (x0, ())
theorem k51_1 (n : Nat) (x0 : Int) (x1 : Int) : run C51 some (n + 1) i51_1 (l51_1.st ((x0, x1), ())) = r51_1 (fun d => some (o51.res d)) (fun x0 x1 => run C51 some n i51_1 (l51_1.st ((x0, x1), ()))) x0 x1 := by kernel_rfl
theorem t51_1_eq (x0 : Int) (x1 : Int) : t51_1 x0 x1 = r51_1 some t51_1 x0 x1 := by
  refine (theT_eqn _ fun n => k51_1 n x0 x1).trans ?_
  have hb : ∀ d, o51.back (o51.res d) = some d := Form.back_res fun d => ⟨_, rfl⟩
  unfold r51_1
  simp only [lim_cond, lim_bind, lim_const, bind_cond, Option.bind_assoc, bind_some', bind_none', hb]
  try rfl
noncomputable def S51 : Sm := modeS a51 o51 (theM Go.Proofs.Try.prog tab51 [(1, l51_1)] o51 Go.Proofs.Try.f51 a51) noS
theorem S51_det : Det S51 := modeS_det noS_det
theorem S51_ok : Sound Go.Proofs.Try.prog 51 S51 := sound_mode tab51_ok Go.Proofs.Try.func51 (c := bodyOf Go.Proofs.Try.f51) (by kernel_rfl) (by kernel_rfl) (noS_sound _ _)
/- impl.ratio).times -/
def a119 : Form := ⟨(.cons (.agg (.dat (.pair I64 I64))) (.cons (.dat I64) (.dat I64))), []⟩
def o119 : Form := ⟨(.agg (.dat (.pair I64 I64))), []⟩
noncomputable def tab119 : List Ent := [⟨51, false, S51, S51_det⟩]
theorem tab119_ok : ∀ e ∈ tab119, Sound Go.Proofs.Try.prog e.f e.S := List.forall_mem_cons.2 ⟨S51_ok, fun _ h => nomatch h⟩
noncomputable def C119 : Ctx := ctxOf Go.Proofs.Try.prog tab119 Go.Proofs.Try.f119 0 [] o119
noncomputable def M119 (x0 : Int) (x1 : Int) (x2 : Int) (x3 : Int) : Option ((Int × Int) × Unit) := theM Go.Proofs.Try.prog tab119 [] o119 Go.Proofs.Try.f119 a119 (((x0, x1), (x2, x3)), ())
noncomputable def r119 {ρ : Type} (ret : (Int × Int) × Unit → Option ρ) (x0 : Int) (x1 : Int) (x2 : Int) (x3 : Int) : Option ρ :=
  Option.bind (M51 (IntKind.wrap IntKind.i64 (x0 * x2)) (IntKind.wrap IntKind.i64 (x1 * x3))) fun d54 => bif decide (Prod.fst d54 ≠ 0) then bif decide (Prod.fst d54 ≠ 0) then ret ((IntKind.wrap IntKind.i64 (Int.tdiv (IntKind.wrap IntKind.i64 (x0 * x2)) (Prod.fst d54)), IntKind.wrap IntKind.i64 (Int.tdiv (IntKind.wrap IntKind.i64 (x1 * x3)) (Prod.fst d54))), ()) else none else none
theorem k119 (n : Nat) (x0 : Int) (x1 : Int) (x2 : Int) (x3 : Int) : runF Go.Proofs.Try.prog tab119 [] o119 Go.Proofs.Try.f119 some (n + 1) (a119.vals (((x0, x1), (x2, x3)), ())) (a119.roots (((x0, x1), (x2, x3)), ())) = r119 (fun d => some (o119.res d)) x0 x1 x2 x3 := by kernel_rfl
theorem M119_eq (x0 : Int) (x1 : Int) (x2 : Int) (x3 : Int) : M119 x0 x1 x2 x3 = r119 some x0 x1 x2 x3 := by
  refine (theM_eqn 1 _ fun n => k119 n x0 x1 x2 x3).trans ?_
  have hb : ∀ d, o119.back (o119.res d) = some d := Form.back_res fun d => ⟨_, rfl⟩
  unfold r119
  simp only [lim_cond, lim_bind, lim_const, bind_cond, Option.bind_assoc, bind_some', bind_none', hb]
  try rfl
noncomputable def S119 : Sm := modeS a119 o119 (theM Go.Proofs.Try.prog tab119 [] o119 Go.Proofs.Try.f119 a119) noS
theorem S119_det : Det S119 := modeS_det noS_det
theorem S119_ok : Sound Go.Proofs.Try.prog 119 S119 := sound_mode tab119_ok Go.Proofs.Try.func119 (c := bodyOf Go.Proofs.Try.f119) (by kernel_rfl) (by kernel_rfl) (noS_sound _ _)
/- impl.Graph).spread -/
def a50 : Form := ⟨(.cons (.agg (.dat (.pair I64 (.sl (.pair I64 (.pair I64 (.pair I64 (.pair I64 I64)))))))) (.cons (.ref 0 (.pair I64 I64)) (.dat I64))), [.arr (.pair I64 I64)]⟩
def o50 : Form := ⟨(.ref 1 I64), [.arr (.pair I64 I64), .arr I64]⟩
def l50_4 : Lab := ⟨[1, 3, 7, 8], ⟨(.cons (.ref 0 (.pair I64 I64)) (.cons (.ptr 1 0) (.cons (.ref 2 I64) (.dat I64)))), [.arr (.pair I64 I64), .box (.dat (.pair I64 (.sl (.pair I64 (.pair I64 (.pair I64 (.pair I64 I64))))))), .arr I64]⟩⟩
def l50_7 : Lab := ⟨[1, 3, 7, 8, 26, 27, 28], ⟨(.cons (.ref 0 (.pair I64 I64)) (.cons (.ptr 1 0) (.cons (.ref 2 I64) (.cons (.dat I64) (.cons (.dat (.sl (.pair I64 (.pair I64 (.pair I64 (.pair I64 I64)))))) (.cons (.dat I64) (.dat I64))))))), [.arr (.pair I64 I64), .box (.dat (.pair I64 (.sl (.pair I64 (.pair I64 (.pair I64 (.pair I64 I64))))))), .arr I64]⟩⟩
def l50_14 : Lab := ⟨[1, 3, 7, 8, 11, 12, 26, 27, 28], ⟨(.cons (.ref 0 (.pair I64 I64)) (.cons (.ptr 1 0) (.cons (.ref 2 I64) (.cons (.dat I64) (.cons (.dat I64) (.cons (.ptr 3 0) (.cons (.dat (.sl (.pair I64 (.pair I64 (.pair I64 (.pair I64 I64)))))) (.cons (.dat I64) (.dat I64))))))))), [.arr (.pair I64 I64), .box (.dat (.pair I64 (.sl (.pair I64 (.pair I64 (.pair I64 (.pair I64 I64))))))), .arr I64, .box (.dat (.pair I64 I64))]⟩⟩
def l50_16 : Lab := ⟨[1, 3, 7, 8, 26, 27, 28], ⟨(.cons (.ref 0 (.pair I64 I64)) (.cons (.ptr 1 0) (.cons (.ref 2 I64) (.cons (.dat I64) (.cons (.dat (.sl (.pair I64 (.pair I64 (.pair I64 (.pair I64 I64)))))) (.cons (.dat I64) (.dat I64))))))), [.arr (.pair I64 I64), .box (.dat (.pair I64 (.sl (.pair I64 (.pair I64 (.pair I64 (.pair I64 I64))))))), .arr I64]⟩⟩
noncomputable def tab50 : List Ent := [⟨119, false, S119, S119_det⟩]
theorem tab50_ok : ∀ e ∈ tab50, Sound Go.Proofs.Try.prog e.f e.S := List.forall_mem_cons.2 ⟨S119_ok, fun _ h => nomatch h⟩
noncomputable def C50 : Ctx := ctxOf Go.Proofs.Try.prog tab50 Go.Proofs.Try.f50 1 [(4, l50_4), (7, l50_7), (14, l50_14), (16, l50_16)] o50
noncomputable def i50_4 : List Item := at_ (bodyOf Go.Proofs.Try.f50) [1, 1, 1, 0, 1, 0, 0] []
noncomputable def t50_4 (x0 : Int) (x1 : List (Int × Int)) (x2 : Int) (x3 : List (Int × Int × Int × Int × Int)) (x4 : List Int) : Option ((Unit) × (List (Int × Int)) × (List Int) × Unit) := theT C50 i50_4 l50_4 (((), ((), ((), x0))), (x1, ((x2, x3), (x4, ()))))
noncomputable def i50_7 : List Item := at_ (bodyOf Go.Proofs.Try.f50) [1, 1, 1, 0, 1, 0, 0, 1, 0, 0, 1, 0, 0] []
noncomputable def t50_7 (x0 : Int) (x1 : List (Int × Int × Int × Int × Int)) (x2 : Int) (x3 : Int) (x4 : List (Int × Int)) (x5 : Int) (x6 : List (Int × Int × Int × Int × Int)) (x7 : List Int) : Option ((Unit) × (List (Int × Int)) × (List Int) × Unit) := theT C50 i50_7 l50_7 (((), ((), ((), (x0, (x1, (x2, x3)))))), (x4, ((x5, x6), (x7, ()))))
noncomputable def i50_14 : List Item := at_ (bodyOf Go.Proofs.Try.f50) [1, 1, 1, 0, 1, 0, 0, 1, 0, 0, 1, 0, 0, 1, 1, 0, 0, 1, 1, 1, 0] []
noncomputable def t50_14 (x0 : Int) (x1 : Int) (x2 : List (Int × Int × Int × Int × Int)) (x3 : Int) (x4 : Int) (x5 : List (Int × Int)) (x6 : Int) (x7 : List (Int × Int × Int × Int × Int)) (x8 : List Int) (x9 : Int) (x10 : Int) : Option ((Unit) × (List (Int × Int)) × (List Int) × Unit) := theT C50 i50_14 l50_14 (((), ((), ((), (x0, (x1, ((), (x2, (x3, x4)))))))), (x5, ((x6, x7), (x8, ((x9, x10), ())))))
noncomputable def i50_16 : List Item := at_ (bodyOf Go.Proofs.Try.f50) [1, 1, 1, 0, 1, 0, 0, 1, 0, 0, 1, 0, 0, 1, 1, 1] []
noncomputable def t50_16 (x0 : Int) (x1 : List (Int × Int × Int × Int × Int)) (x2 : Int) (x3 : Int) (x4 : List (Int × Int)) (x5 : Int) (x6 : List (Int × Int × Int × Int × Int)) (x7 : List Int) : Option ((Unit) × (List (Int × Int)) × (List Int) × Unit) := theT C50 i50_16 l50_16 (((), ((), ((), (x0, (x1, (x2, x3)))))), (x4, ((x5, x6), (x7, ()))))
noncomputable def M50 (x0 : Int) (x1 : List (Int × Int × Int × Int × Int)) (x2 : Int) (x3 : List (Int × Int)) : Option ((Unit) × (List (Int × Int)) × (List Int) × Unit) := theM Go.Proofs.Try.prog tab50 [(4, l50_4), (7, l50_7), (14, l50_14), (16, l50_16)] o50 Go.Proofs.Try.f50 a50 (((x0, x1), ((), x2)), (x3, ()))
noncomputable def r50 {ρ : Type} (ret : (Unit) × (List (Int × Int)) × (List Int) × Unit → Option ρ) (t4 : Int → (List (Int × Int)) → Int → (List (Int × Int × Int × Int × Int)) → (List Int) → Option ρ) (t7 : Int → (List (Int × Int × Int × Int × Int)) → Int → Int → (List (Int × Int)) → Int → (List (Int × Int × Int × Int × Int)) → (List Int) → Option ρ) (t14 : Int → Int → (List (Int × Int × Int × Int × Int)) → Int → Int → (List (Int × Int)) → Int → (List (Int × Int × Int × Int × Int)) → (List Int) → Int → Int → Option ρ) (t16 : Int → (List (Int × Int × Int × Int × Int)) → Int → Int → (List (Int × Int)) → Int → (List (Int × Int × Int × Int × Int)) → (List Int) → Option ρ) (x0 : Int) (x1 : List (Int × Int × Int × Int × Int)) (x2 : Int) (x3 : List (Int × Int)) : Option ρ :=
  bif decide (0 ≤ x2) then bif decide (x2 < (↑(List.length x3) : Int)) then t4 0 (List.set x3 (Int.toNat x2) (1, 1)) x0 x1 [x2] else none else none
theorem k50 (n : Nat) (x0 : Int) (x1 : List (Int × Int × Int × Int × Int)) (x2 : Int) (x3 : List (Int × Int)) : runF Go.Proofs.Try.prog tab50 [(4, l50_4), (7, l50_7), (14, l50_14), (16, l50_16)] o50 Go.Proofs.Try.f50 some (n + 1) (a50.vals (((x0, x1), ((), x2)), (x3, ()))) (a50.roots (((x0, x1), ((), x2)), (x3, ()))) = r50 (fun d => some (o50.res d)) (fun x0 x1 x2 x3 x4 => run C50 some n i50_4 (l50_4.st (((), ((), ((), x0))), (x1, ((x2, x3), (x4, ())))))) (fun x0 x1 x2 x3 x4 x5 x6 x7 => run C50 some n i50_7 (l50_7.st (((), ((), ((), (x0, (x1, (x2, x3)))))), (x4, ((x5, x6), (x7, ())))))) (fun x0 x1 x2 x3 x4 x5 x6 x7 x8 x9 x10 => run C50 some n i50_14 (l50_14.st (((), ((), ((), (x0, (x1, ((), (x2, (x3, x4)))))))), (x5, ((x6, x7), (x8, ((x9, x10), ()))))))) (fun x0 x1 x2 x3 x4 x5 x6 x7 => run C50 some n i50_16 (l50_16.st (((), ((), ((), (x0, (x1, (x2, x3)))))), (x4, ((x5, x6), (x7, ())))))) x0 x1 x2 x3 := by kernel_rfl
theorem M50_eq (x0 : Int) (x1 : List (Int × Int × Int × Int × Int)) (x2 : Int) (x3 : List (Int × Int)) : M50 x0 x1 x2 x3 = r50 some t50_4 t50_7 t50_14 t50_16 x0 x1 x2 x3 := by
  refine (theM_eqn 1 _ fun n => k50 n x0 x1 x2 x3).trans ?_
  have hb : ∀ d, o50.back (o50.res d) = some d := Form.back_res fun d => ⟨_, rfl⟩
  unfold r50
  simp only [lim_cond, lim_bind, lim_const, bind_cond, Option.bind_assoc, bind_some', bind_none', hb]
  try rfl
noncomputable def r50_4 {ρ : Type} (ret : (Unit) × (List (Int × Int)) × (List Int) × Unit → Option ρ) (t4 : Int → (List (Int × Int)) → Int → (List (Int × Int × Int × Int × Int)) → (List Int) → Option ρ) (t7 : Int → (List (Int × Int × Int × Int × Int)) → Int → Int → (List (Int × Int)) → Int → (List (Int × Int × Int × Int × Int)) → (List Int) → Option ρ) (t14 : Int → Int → (List (Int × Int × Int × Int × Int)) → Int → Int → (List (Int × Int)) → Int → (List (Int × Int × Int × Int × Int)) → (List Int) → Int → Int → Option ρ) (t16 : Int → (List (Int × Int × Int × Int × Int)) → Int → Int → (List (Int × Int)) → Int → (List (Int × Int × Int × Int × Int)) → (List Int) → Option ρ) (x0 : Int) (x1 : List (Int × Int)) (x2 : Int) (x3 : List (Int × Int × Int × Int × Int)) (x4 : List Int) : Option ρ :=
  bif decide (x0 < (↑(List.length x4) : Int)) then t7 x0 x3 (↑(List.length x3) : Int) 0 x1 x2 x3 x4 else ret ((), x1, x4, ())
theorem k50_4 (n : Nat) (x0 : Int) (x1 : List (Int × Int)) (x2 : Int) (x3 : List (Int × Int × Int × Int × Int)) (x4 : List Int) : run C50 some (n + 1) i50_4 (l50_4.st (((), ((), ((), x0))), (x1, ((x2, x3), (x4, ()))))) = r50_4 (fun d => some (o50.res d)) (fun x0 x1 x2 x3 x4 => run C50 some n i50_4 (l50_4.st (((), ((), ((), x0))), (x1, ((x2, x3), (x4, ())))))) (fun x0 x1 x2 x3 x4 x5 x6 x7 => run C50 some n i50_7 (l50_7.st (((), ((), ((), (x0, (x1, (x2, x3)))))), (x4, ((x5, x6), (x7, ())))))) (fun x0 x1 x2 x3 x4 x5 x6 x7 x8 x9 x10 => run C50 some n i50_14 (l50_14.st (((), ((), ((), (x0, (x1, ((), (x2, (x3, x4)))))))), (x5, ((x6, x7), (x8, ((x9, x10), ()))))))) (fun x0 x1 x2 x3 x4 x5 x6 x7 => run C50 some n i50_16 (l50_16.st (((), ((), ((), (x0, (x1, (x2, x3)))))), (x4, ((x5, x6), (x7, ())))))) x0 x1 x2 x3 x4 := by kernel_rfl
theorem t50_4_eq (x0 : Int) (x1 : List (Int × Int)) (x2 : Int) (x3 : List (Int × Int × Int × Int × Int)) (x4 : List Int) : t50_4 x0 x1 x2 x3 x4 = r50_4 some t50_4 t50_7 t50_14 t50_16 x0 x1 x2 x3 x4 := by
  refine (theT_eqn _ fun n => k50_4 n x0 x1 x2 x3 x4).trans ?_
  have hb : ∀ d, o50.back (o50.res d) = some d := Form.back_res fun d => ⟨_, rfl⟩
  unfold r50_4
  simp only [lim_cond, lim_bind, lim_const, bind_cond, Option.bind_assoc, bind_some', bind_none', hb]
  try rfl
noncomputable def r50_7 {ρ : Type} (ret : (Unit) × (List (Int × Int)) × (List Int) × Unit → Option ρ) (t4 : Int → (List (Int × Int)) → Int → (List (Int × Int × Int × Int × Int)) → (List Int) → Option ρ) (t7 : Int → (List (Int × Int × Int × Int × Int)) → Int → Int → (List (Int × Int)) → Int → (List (Int × Int × Int × Int × Int)) → (List Int) → Option ρ) (t14 : Int → Int → (List (Int × Int × Int × Int × Int)) → Int → Int → (List (Int × Int)) → Int → (List (Int × Int × Int × Int × Int)) → (List Int) → Int → Int → Option ρ) (t16 : Int → (List (Int × Int × Int × Int × Int)) → Int → Int → (List (Int × Int)) → Int → (List (Int × Int × Int × Int × Int)) → (List Int) → Option ρ) (x0 : Int) (x1 : List (Int × Int × Int × Int × Int)) (x2 : Int) (x3 : Int) (x4 : List (Int × Int)) (x5 : Int) (x6 : List (Int × Int × Int × Int × Int)) (x7 : List Int) : Option ρ :=
  bif decide (x3 < x2) then bif decide (0 ≤ x3) then bif decide (x3 < (↑(List.length x1) : Int)) then bif decide (0 ≤ x0) then bif decide (x0 < (↑(List.length x7) : Int)) then bif Prod.fst (List.getD x1 (Int.toNat x3) (0, 0, 0, 0, 0)) == List.getD x7 (Int.toNat x0) 0 then bif decide (0 ≤ Prod.fst (Prod.snd (List.getD x1 (Int.toNat x3) (0, 0, 0, 0, 0)))) then bif decide (Prod.fst (Prod.snd (List.getD x1 (Int.toNat x3) (0, 0, 0, 0, 0))) < (↑(List.length x4) : Int)) then bif Prod.fst (List.getD x4 (Int.toNat (Prod.fst (Prod.snd (List.getD x1 (Int.toNat x3) (0, 0, 0, 0, 0))))) (0, 0)) == 0 && (Prod.snd (List.getD x4 (Int.toNat (Prod.fst (Prod.snd (List.getD x1 (Int.toNat x3) (0, 0, 0, 0, 0))))) (0, 0)) == 0 && true) then bif decide (0 ≤ List.getD x7 (Int.toNat x0) 0) then bif decide (List.getD x7 (Int.toNat x0) 0 < (↑(List.length x4) : Int)) then Option.bind (M119 (Prod.fst (List.getD x4 (Int.toNat (List.getD x7 (Int.toNat x0) 0)) (0, 0))) (Prod.snd (List.getD x4 (Int.toNat (List.getD x7 (Int.toNat x0) 0)) (0, 0))) (Prod.fst (Prod.snd (Prod.snd (List.getD x1 (Int.toNat x3) (0, 0, 0, 0, 0))))) (Prod.fst (Prod.snd (Prod.snd (Prod.snd (List.getD x1 (Int.toNat x3) (0, 0, 0, 0, 0))))))) fun d58 => t14 x0 (Prod.fst (Prod.snd (List.getD x1 (Int.toNat x3) (0, 0, 0, 0, 0)))) x1 x2 x3 x4 x5 x6 x7 (Prod.fst (Prod.fst d58)) (Prod.snd (Prod.fst d58)) else none else none else bif Prod.fst (Prod.snd (List.getD x1 (Int.toNat x3) (0, 0, 0, 0, 0))) == List.getD x7 (Int.toNat x0) 0 then bif decide (0 ≤ Prod.fst (List.getD x1 (Int.toNat x3) (0, 0, 0, 0, 0))) then bif decide (Prod.fst (List.getD x1 (Int.toNat x3) (0, 0, 0, 0, 0)) < (↑(List.length x4) : Int)) then bif Prod.fst (List.getD x4 (Int.toNat (Prod.fst (List.getD x1 (Int.toNat x3) (0, 0, 0, 0, 0)))) (0, 0)) == 0 && (Prod.snd (List.getD x4 (Int.toNat (Prod.fst (List.getD x1 (Int.toNat x3) (0, 0, 0, 0, 0)))) (0, 0)) == 0 && true) then bif decide (0 ≤ List.getD x7 (Int.toNat x0) 0) then bif decide (List.getD x7 (Int.toNat x0) 0 < (↑(List.length x4) : Int)) then Option.bind (M119 (Prod.fst (List.getD x4 (Int.toNat (List.getD x7 (Int.toNat x0) 0)) (0, 0))) (Prod.snd (List.getD x4 (Int.toNat (List.getD x7 (Int.toNat x0) 0)) (0, 0))) (Prod.fst (Prod.snd (Prod.snd (Prod.snd (List.getD x1 (Int.toNat x3) (0, 0, 0, 0, 0)))))) (Prod.fst (Prod.snd (Prod.snd (List.getD x1 (Int.toNat x3) (0, 0, 0, 0, 0)))))) fun d59 => t14 x0 (Prod.fst (List.getD x1 (Int.toNat x3) (0, 0, 0, 0, 0))) x1 x2 x3 x4 x5 x6 x7 (Prod.fst (Prod.fst d59)) (Prod.snd (Prod.fst d59)) else none else none else t16 x0 x1 x2 x3 x4 x5 x6 x7 else none else none else t16 x0 x1 x2 x3 x4 x5 x6 x7 else none else none else bif Prod.fst (Prod.snd (List.getD x1 (Int.toNat x3) (0, 0, 0, 0, 0))) == List.getD x7 (Int.toNat x0) 0 then bif decide (0 ≤ Prod.fst (List.getD x1 (Int.toNat x3) (0, 0, 0, 0, 0))) then bif decide (Prod.fst (List.getD x1 (Int.toNat x3) (0, 0, 0, 0, 0)) < (↑(List.length x4) : Int)) then bif Prod.fst (List.getD x4 (Int.toNat (Prod.fst (List.getD x1 (Int.toNat x3) (0, 0, 0, 0, 0)))) (0, 0)) == 0 && (Prod.snd (List.getD x4 (Int.toNat (Prod.fst (List.getD x1 (Int.toNat x3) (0, 0, 0, 0, 0)))) (0, 0)) == 0 && true) then bif decide (0 ≤ List.getD x7 (Int.toNat x0) 0) then bif decide (List.getD x7 (Int.toNat x0) 0 < (↑(List.length x4) : Int)) then Option.bind (M119 (Prod.fst (List.getD x4 (Int.toNat (List.getD x7 (Int.toNat x0) 0)) (0, 0))) (Prod.snd (List.getD x4 (Int.toNat (List.getD x7 (Int.toNat x0) 0)) (0, 0))) (Prod.fst (Prod.snd (Prod.snd (Prod.snd (List.getD x1 (Int.toNat x3) (0, 0, 0, 0, 0)))))) (Prod.fst (Prod.snd (Prod.snd (List.getD x1 (Int.toNat x3) (0, 0, 0, 0, 0)))))) fun d60 => t14 x0 (Prod.fst (List.getD x1 (Int.toNat x3) (0, 0, 0, 0, 0))) x1 x2 x3 x4 x5 x6 x7 (Prod.fst (Prod.fst d60)) (Prod.snd (Prod.fst d60)) else none else none else t16 x0 x1 x2 x3 x4 x5 x6 x7 else none else none else t16 x0 x1 x2 x3 x4 x5 x6 x7 else none else none else none else none else t4 (IntKind.wrap IntKind.i64 (x0 + 1)) x4 x5 x6 x7
theorem k50_7 (n : Nat) (x0 : Int) (x1 : List (Int × Int × Int × Int × Int)) (x2 : Int) (x3 : Int) (x4 : List (Int × Int)) (x5 : Int) (x6 : List (Int × Int × Int × Int × Int)) (x7 : List Int) : run C50 some (n + 1) i50_7 (l50_7.st (((), ((), ((), (x0, (x1, (x2, x3)))))), (x4, ((x5, x6), (x7, ()))))) = r50_7 (fun d => some (o50.res d)) (fun x0 x1 x2 x3 x4 => run C50 some n i50_4 (l50_4.st (((), ((), ((), x0))), (x1, ((x2, x3), (x4, ())))))) (fun x0 x1 x2 x3 x4 x5 x6 x7 => run C50 some n i50_7 (l50_7.st (((), ((), ((), (x0, (x1, (x2, x3)))))), (x4, ((x5, x6), (x7, ())))))) (fun x0 x1 x2 x3 x4 x5 x6 x7 x8 x9 x10 => run C50 some n i50_14 (l50_14.st (((), ((), ((), (x0, (x1, ((), (x2, (x3, x4)))))))), (x5, ((x6, x7), (x8, ((x9, x10), ()))))))) (fun x0 x1 x2 x3 x4 x5 x6 x7 => run C50 some n i50_16 (l50_16.st (((), ((), ((), (x0, (x1, (x2, x3)))))), (x4, ((x5, x6), (x7, ())))))) x0 x1 x2 x3 x4 x5 x6 x7 := by kernel_rfl
theorem t50_7_eq (x0 : Int) (x1 : List (Int × Int × Int × Int × Int)) (x2 : Int) (x3 : Int) (x4 : List (Int × Int)) (x5 : Int) (x6 : List (Int × Int × Int × Int × Int)) (x7 : List Int) : t50_7 x0 x1 x2 x3 x4 x5 x6 x7 = r50_7 some t50_4 t50_7 t50_14 t50_16 x0 x1 x2 x3 x4 x5 x6 x7 := by
  refine (theT_eqn _ fun n => k50_7 n x0 x1 x2 x3 x4 x5 x6 x7).trans ?_
  have hb : ∀ d, o50.back (o50.res d) = some d := Form.back_res fun d => ⟨_, rfl⟩
  unfold r50_7
  simp only [lim_cond, lim_bind, lim_const, bind_cond, Option.bind_assoc, bind_some', bind_none', hb]
  try rfl
noncomputable def r50_14 {ρ : Type} (ret : (Unit) × (List (Int × Int)) × (List Int) × Unit → Option ρ) (t4 : Int → (List (Int × Int)) → Int → (List (Int × Int × Int × Int × Int)) → (List Int) → Option ρ) (t7 : Int → (List (Int × Int × Int × Int × Int)) → Int → Int → (List (Int × Int)) → Int → (List (Int × Int × Int × Int × Int)) → (List Int) → Option ρ) (t14 : Int → Int → (List (Int × Int × Int × Int × Int)) → Int → Int → (List (Int × Int)) → Int → (List (Int × Int × Int × Int × Int)) → (List Int) → Int → Int → Option ρ) (t16 : Int → (List (Int × Int × Int × Int × Int)) → Int → Int → (List (Int × Int)) → Int → (List (Int × Int × Int × Int × Int)) → (List Int) → Option ρ) (x0 : Int) (x1 : Int) (x2 : List (Int × Int × Int × Int × Int)) (x3 : Int) (x4 : Int) (x5 : List (Int × Int)) (x6 : Int) (x7 : List (Int × Int × Int × Int × Int)) (x8 : List Int) (x9 : Int) (x10 : Int) : Option ρ :=
  bif decide (0 ≤ x1) then bif decide (x1 < (↑(List.length x5) : Int)) then bif fitBytes (List.length x8 + List.length [x1]) 8 then t16 x0 x2 x3 x4 (List.set x5 (Int.toNat x1) (x9, x10)) x6 x7 (x8 ++ [x1]) else none else none else none
theorem k50_14 (n : Nat) (x0 : Int) (x1 : Int) (x2 : List (Int × Int × Int × Int × Int)) (x3 : Int) (x4 : Int) (x5 : List (Int × Int)) (x6 : Int) (x7 : List (Int × Int × Int × Int × Int)) (x8 : List Int) (x9 : Int) (x10 : Int) : run C50 some (n + 1) i50_14 (l50_14.st (((), ((), ((), (x0, (x1, ((), (x2, (x3, x4)))))))), (x5, ((x6, x7), (x8, ((x9, x10), ())))))) = r50_14 (fun d => some (o50.res d)) (fun x0 x1 x2 x3 x4 => run C50 some n i50_4 (l50_4.st (((), ((), ((), x0))), (x1, ((x2, x3), (x4, ())))))) (fun x0 x1 x2 x3 x4 x5 x6 x7 => run C50 some n i50_7 (l50_7.st (((), ((), ((), (x0, (x1, (x2, x3)))))), (x4, ((x5, x6), (x7, ())))))) (fun x0 x1 x2 x3 x4 x5 x6 x7 x8 x9 x10 => run C50 some n i50_14 (l50_14.st (((), ((), ((), (x0, (x1, ((), (x2, (x3, x4)))))))), (x5, ((x6, x7), (x8, ((x9, x10), ()))))))) (fun x0 x1 x2 x3 x4 x5 x6 x7 => run C50 some n i50_16 (l50_16.st (((), ((), ((), (x0, (x1, (x2, x3)))))), (x4, ((x5, x6), (x7, ())))))) x0 x1 x2 x3 x4 x5 x6 x7 x8 x9 x10 := by kernel_rfl
theorem t50_14_eq (x0 : Int) (x1 : Int) (x2 : List (Int × Int × Int × Int × Int)) (x3 : Int) (x4 : Int) (x5 : List (Int × Int)) (x6 : Int) (x7 : List (Int × Int × Int × Int × Int)) (x8 : List Int) (x9 : Int) (x10 : Int) : t50_14 x0 x1 x2 x3 x4 x5 x6 x7 x8 x9 x10 = r50_14 some t50_4 t50_7 t50_14 t50_16 x0 x1 x2 x3 x4 x5 x6 x7 x8 x9 x10 := by
  refine (theT_eqn _ fun n => k50_14 n x0 x1 x2 x3 x4 x5 x6 x7 x8 x9 x10).trans ?_
  have hb : ∀ d, o50.back (o50.res d) = some d := Form.back_res fun d => ⟨_, rfl⟩
  unfold r50_14
  simp only [lim_cond, lim_bind, lim_const, bind_cond, Option.bind_assoc, bind_some', bind_none', hb]
  try rfl
noncomputable def r50_16 {ρ : Type} (ret : (Unit) × (List (Int × Int)) × (List Int) × Unit → Option ρ) (t4 : Int → (List (Int × Int)) → Int → (List (Int × Int × Int × Int × Int)) → (List Int) → Option ρ) (t7 : Int → (List (Int × Int × Int × Int × Int)) → Int → Int → (List (Int × Int)) → Int → (List (Int × Int × Int × Int × Int)) → (List Int) → Option ρ) (t14 : Int → Int → (List (Int × Int × Int × Int × Int)) → Int → Int → (List (Int × Int)) → Int → (List (Int × Int × Int × Int × Int)) → (List Int) → Int → Int → Option ρ) (t16 : Int → (List (Int × Int × Int × Int × Int)) → Int → Int → (List (Int × Int)) → Int → (List (Int × Int × Int × Int × Int)) → (List Int) → Option ρ) (x0 : Int) (x1 : List (Int × Int × Int × Int × Int)) (x2 : Int) (x3 : Int) (x4 : List (Int × Int)) (x5 : Int) (x6 : List (Int × Int × Int × Int × Int)) (x7 : List Int) : Option ρ :=
  t7 x0 x1 x2 (IntKind.wrap IntKind.i64 (x3 + 1)) x4 x5 x6 x7
theorem k50_16 (n : Nat) (x0 : Int) (x1 : List (Int × Int × Int × Int × Int)) (x2 : Int) (x3 : Int) (x4 : List (Int × Int)) (x5 : Int) (x6 : List (Int × Int × Int × Int × Int)) (x7 : List Int) : run C50 some (n + 1) i50_16 (l50_16.st (((), ((), ((), (x0, (x1, (x2, x3)))))), (x4, ((x5, x6), (x7, ()))))) = r50_16 (fun d => some (o50.res d)) (fun x0 x1 x2 x3 x4 => run C50 some n i50_4 (l50_4.st (((), ((), ((), x0))), (x1, ((x2, x3), (x4, ())))))) (fun x0 x1 x2 x3 x4 x5 x6 x7 => run C50 some n i50_7 (l50_7.st (((), ((), ((), (x0, (x1, (x2, x3)))))), (x4, ((x5, x6), (x7, ())))))) (fun x0 x1 x2 x3 x4 x5 x6 x7 x8 x9 x10 => run C50 some n i50_14 (l50_14.st (((), ((), ((), (x0, (x1, ((), (x2, (x3, x4)))))))), (x5, ((x6, x7), (x8, ((x9, x10), ()))))))) (fun x0 x1 x2 x3 x4 x5 x6 x7 => run C50 some n i50_16 (l50_16.st (((), ((), ((), (x0, (x1, (x2, x3)))))), (x4, ((x5, x6), (x7, ())))))) x0 x1 x2 x3 x4 x5 x6 x7 := by kernel_rfl
theorem t50_16_eq (x0 : Int) (x1 : List (Int × Int × Int × Int × Int)) (x2 : Int) (x3 : Int) (x4 : List (Int × Int)) (x5 : Int) (x6 : List (Int × Int × Int × Int × Int)) (x7 : List Int) : t50_16 x0 x1 x2 x3 x4 x5 x6 x7 = r50_16 some t50_4 t50_7 t50_14 t50_16 x0 x1 x2 x3 x4 x5 x6 x7 := by
  refine (theT_eqn _ fun n => k50_16 n x0 x1 x2 x3 x4 x5 x6 x7).trans ?_
  have hb : ∀ d, o50.back (o50.res d) = some d := Form.back_res fun d => ⟨_, rfl⟩
  unfold r50_16
  simp only [lim_cond, lim_bind, lim_const, bind_cond, Option.bind_assoc, bind_some', bind_none', hb]
  try rfl
noncomputable def S50 : Sm := modeS a50 o50 (theM Go.Proofs.Try.prog tab50 [(4, l50_4), (7, l50_7), (14, l50_14), (16, l50_16)] o50 Go.Proofs.Try.f50 a50) noS
theorem S50_det : Det S50 := modeS_det noS_det
theorem S50_ok : Sound Go.Proofs.Try.prog 50 S50 := sound_mode tab50_ok Go.Proofs.Try.func50 (c := bodyOf Go.Proofs.Try.f50) (by kernel_rfl) (by kernel_rfl) (noS_sound _ _)
/- impl.RepetitionOf -/
def a11 : Form := ⟨(.agg (.dat (.pair I64 (.sl (.pair I64 (.pair I64 (.pair I64 (.pair I64 I64)))))))), []⟩
def o11 : Form := ⟨(.tup (.cons (.ref 0 I64) (.dat .bool))), [.arr I64]⟩
def l11_5 : Lab := ⟨[1, 4, 5, 28, 29], ⟨(.cons (.ptr 0 0) (.cons (.ref 1 (.pair I64 I64)) (.cons (.ref 2 I64) (.cons (.dat I64) (.dat I64))))), [.box (.dat (.pair I64 (.sl (.pair I64 (.pair I64 (.pair I64 (.pair I64 I64))))))), .arr (.pair I64 I64), .arr I64]⟩⟩
def l11_11 : Lab := ⟨[1, 4, 5, 7, 8, 28, 29, 42, 43, 44], ⟨(.cons (.ptr 0 0) (.cons (.ref 1 (.pair I64 I64)) (.cons (.ref 2 I64) (.cons (.ref 3 I64) (.cons (.dat I64) (.cons (.dat I64) (.cons (.dat I64) (.cons (.ref 3 I64) (.cons (.dat I64) (.dat I64)))))))))), [.box (.dat (.pair I64 (.sl (.pair I64 (.pair I64 (.pair I64 (.pair I64 I64))))))), .arr (.pair I64 I64), .arr I64, .arr I64]⟩⟩
def l11_31 : Lab := ⟨[5, 114, 115, 116], ⟨(.cons (.ref 0 I64) (.cons (.dat (.sl (.pair I64 (.pair I64 (.pair I64 (.pair I64 I64)))))) (.cons (.dat I64) (.dat I64)))), [.arr I64]⟩⟩
def l11_17 : Lab := ⟨[1, 4, 5, 7, 8, 11, 28, 29, 64, 65, 66], ⟨(.cons (.ptr 0 0) (.cons (.ref 1 (.pair I64 I64)) (.cons (.ref 2 I64) (.cons (.ref 3 I64) (.cons (.dat I64) (.cons (.dat I64) (.cons (.dat I64) (.cons (.dat I64) (.cons (.ref 3 I64) (.cons (.dat I64) (.dat I64))))))))))), [.box (.dat (.pair I64 (.sl (.pair I64 (.pair I64 (.pair I64 (.pair I64 I64))))))), .arr (.pair I64 I64), .arr I64, .arr I64]⟩⟩
def l11_23 : Lab := ⟨[1, 4, 5, 11, 28, 29, 93, 94, 95], ⟨(.cons (.ptr 0 0) (.cons (.ref 1 (.pair I64 I64)) (.cons (.ref 2 I64) (.cons (.dat I64) (.cons (.dat I64) (.cons (.dat I64) (.cons (.ref 3 I64) (.cons (.dat I64) (.dat I64))))))))), [.box (.dat (.pair I64 (.sl (.pair I64 (.pair I64 (.pair I64 (.pair I64 I64))))))), .arr (.pair I64 I64), .arr I64, .arr I64]⟩⟩
noncomputable def tab11 : List Ent := [⟨49, false, S49, S49_det⟩, ⟨50, true, S50, S50_det⟩, ⟨51, false, S51, S51_det⟩]
theorem tab11_ok : ∀ e ∈ tab11, Sound Go.Proofs.Try.prog e.f e.S := List.forall_mem_cons.2 ⟨S49_ok, List.forall_mem_cons.2 ⟨S50_ok, List.forall_mem_cons.2 ⟨S51_ok, fun _ h => nomatch h⟩⟩⟩
noncomputable def C11 : Ctx := ctxOf Go.Proofs.Try.prog tab11 Go.Proofs.Try.f11 0 [(5, l11_5), (11, l11_11), (31, l11_31), (17, l11_17), (23, l11_23)] o11
noncomputable def i11_5 : List Item := at_ (bodyOf Go.Proofs.Try.f11) [1, 1, 1, 0, 1, 0, 0] []
noncomputable def t11_5 (x0 : Int) (x1 : Int) (x2 : Int) (x3 : List (Int × Int × Int × Int × Int)) (x4 : List (Int × Int)) (x5 : List Int) : Option (((Unit) × Bool) × (List Int) × Unit) := theT C11 i11_5 l11_5 (((), ((), ((), (x0, x1)))), ((x2, x3), (x4, (x5, ()))))
noncomputable def i11_11 : List Item := at_ (bodyOf Go.Proofs.Try.f11) [1, 1, 1, 0, 1, 0, 0, 1, 1, 0, 0, 1, 1, 1, 1, 0, 1, 0, 0] []
noncomputable def t11_11 (x0 : Int) (x1 : Int) (x2 : Int) (x3 : Int) (x4 : Int) (x5 : Int) (x6 : List (Int × Int × Int × Int × Int)) (x7 : List (Int × Int)) (x8 : List Int) (x9 : List Int) : Option (((Unit) × Bool) × (List Int) × Unit) := theT C11 i11_11 l11_11 (((), ((), ((), ((), (x0, (x1, (x2, ((), (x3, x4))))))))), ((x5, x6), (x7, (x8, (x9, ())))))
noncomputable def i11_31 : List Item := at_ (bodyOf Go.Proofs.Try.f11) [1, 1, 1, 1, 0, 1, 0, 0] []
noncomputable def t11_31 (x0 : List (Int × Int × Int × Int × Int)) (x1 : Int) (x2 : Int) (x3 : List Int) : Option (((Unit) × Bool) × (List Int) × Unit) := theT C11 i11_31 l11_31 (((), (x0, (x1, x2))), (x3, ()))
noncomputable def i11_17 : List Item := at_ (bodyOf Go.Proofs.Try.f11) [1, 1, 1, 0, 1, 0, 0, 1, 1, 0, 0, 1, 1, 1, 1, 1, 1, 0, 1, 0, 0] []
noncomputable def t11_17 (x0 : Int) (x1 : Int) (x2 : Int) (x3 : Int) (x4 : Int) (x5 : Int) (x6 : Int) (x7 : List (Int × Int × Int × Int × Int)) (x8 : List (Int × Int)) (x9 : List Int) (x10 : List Int) : Option (((Unit) × Bool) × (List Int) × Unit) := theT C11 i11_17 l11_17 (((), ((), ((), ((), (x0, (x1, (x2, (x3, ((), (x4, x5)))))))))), ((x6, x7), (x8, (x9, (x10, ())))))
noncomputable def i11_23 : List Item := at_ (bodyOf Go.Proofs.Try.f11) [1, 1, 1, 0, 1, 0, 0, 1, 1, 0, 0, 1, 1, 1, 1, 1, 1, 1, 1, 0, 0] []
noncomputable def t11_23 (x0 : Int) (x1 : Int) (x2 : Int) (x3 : Int) (x4 : Int) (x5 : Int) (x6 : List (Int × Int × Int × Int × Int)) (x7 : List (Int × Int)) (x8 : List Int) (x9 : List Int) : Option (((Unit) × Bool) × (List Int) × Unit) := theT C11 i11_23 l11_23 (((), ((), ((), (x0, (x1, (x2, ((), (x3, x4)))))))), ((x5, x6), (x7, (x8, (x9, ())))))
noncomputable def M11 (x0 : Int) (x1 : List (Int × Int × Int × Int × Int)) : Option (((Unit) × Bool) × (List Int) × Unit) := theM Go.Proofs.Try.prog tab11 [(5, l11_5), (11, l11_11), (31, l11_31), (17, l11_17), (23, l11_23)] o11 Go.Proofs.Try.f11 a11 ((x0, x1), ())
noncomputable def r11 {ρ : Type} (ret : ((Unit) × Bool) × (List Int) × Unit → Option ρ) (t5 : Int → Int → Int → (List (Int × Int × Int × Int × Int)) → (List (Int × Int)) → (List Int) → Option ρ) (t11 : Int → Int → Int → Int → Int → Int → (List (Int × Int × Int × Int × Int)) → (List (Int × Int)) → (List Int) → (List Int) → Option ρ) (t31 : (List (Int × Int × Int × Int × Int)) → Int → Int → (List Int) → Option ρ) (t17 : Int → Int → Int → Int → Int → Int → Int → (List (Int × Int × Int × Int × Int)) → (List (Int × Int)) → (List Int) → (List Int) → Option ρ) (t23 : Int → Int → Int → Int → Int → Int → (List (Int × Int × Int × Int × Int)) → (List (Int × Int)) → (List Int) → (List Int) → Option ρ) (x0 : Int) (x1 : List (Int × Int × Int × Int × Int)) : Option ρ :=
  Option.bind (M49 x0 x1) fun d69 => bif !Prod.fst d69 then ret (((), false), [], ()) else bif decide (x0 = x0) then bif decide (0 ≤ x0) then bif fitBytes (Int.toNat x0) 16 then bif decide (x0 = x0) then bif decide (0 ≤ x0) then bif fitBytes (Int.toNat x0) 8 then t5 x0 0 x0 x1 (@List.replicate (Ty.D (Ty.pair (Ty.int IntKind.i64) (Ty.int IntKind.i64))) (Int.toNat x0) (0, 0)) (@List.replicate (Ty.D (Ty.int IntKind.i64)) (Int.toNat x0) 0) else none else none else none else none else none else none
theorem k11 (n : Nat) (x0 : Int) (x1 : List (Int × Int × Int × Int × Int)) : runF Go.Proofs.Try.prog tab11 [(5, l11_5), (11, l11_11), (31, l11_31), (17, l11_17), (23, l11_23)] o11 Go.Proofs.Try.f11 some (n + 1) (a11.vals ((x0, x1), ())) (a11.roots ((x0, x1), ())) = r11 (fun d => some (o11.res d)) (fun x0 x1 x2 x3 x4 x5 => run C11 some n i11_5 (l11_5.st (((), ((), ((), (x0, x1)))), ((x2, x3), (x4, (x5, ())))))) (fun x0 x1 x2 x3 x4 x5 x6 x7 x8 x9 => run C11 some n i11_11 (l11_11.st (((), ((), ((), ((), (x0, (x1, (x2, ((), (x3, x4))))))))), ((x5, x6), (x7, (x8, (x9, ()))))))) (fun x0 x1 x2 x3 => run C11 some n i11_31 (l11_31.st (((), (x0, (x1, x2))), (x3, ())))) (fun x0 x1 x2 x3 x4 x5 x6 x7 x8 x9 x10 => run C11 some n i11_17 (l11_17.st (((), ((), ((), ((), (x0, (x1, (x2, (x3, ((), (x4, x5)))))))))), ((x6, x7), (x8, (x9, (x10, ()))))))) (fun x0 x1 x2 x3 x4 x5 x6 x7 x8 x9 => run C11 some n i11_23 (l11_23.st (((), ((), ((), (x0, (x1, (x2, ((), (x3, x4)))))))), ((x5, x6), (x7, (x8, (x9, ()))))))) x0 x1 := by kernel_rfl
theorem M11_eq (x0 : Int) (x1 : List (Int × Int × Int × Int × Int)) : M11 x0 x1 = r11 some t11_5 t11_11 t11_31 t11_17 t11_23 x0 x1 := by
  refine (theM_eqn 1 _ fun n => k11 n x0 x1).trans ?_
  have hb : ∀ d, o11.back (o11.res d) = some d := Form.back_res fun d => ⟨_, rfl⟩
  unfold r11
  simp only [lim_cond, lim_bind, lim_const, bind_cond, Option.bind_assoc, bind_some', bind_none', hb]
  try rfl
noncomputable def r11_5 {ρ : Type} (ret : ((Unit) × Bool) × (List Int) × Unit → Option ρ) (t5 : Int → Int → Int → (List (Int × Int × Int × Int × Int)) → (List (Int × Int)) → (List Int) → Option ρ) (t11 : Int → Int → Int → Int → Int → Int → (List (Int × Int × Int × Int × Int)) → (List (Int × Int)) → (List Int) → (List Int) → Option ρ) (t31 : (List (Int × Int × Int × Int × Int)) → Int → Int → (List Int) → Option ρ) (t17 : Int → Int → Int → Int → Int → Int → Int → (List (Int × Int × Int × Int × Int)) → (List (Int × Int)) → (List Int) → (List Int) → Option ρ) (t23 : Int → Int → Int → Int → Int → Int → (List (Int × Int × Int × Int × Int)) → (List (Int × Int)) → (List Int) → (List Int) → Option ρ) (x0 : Int) (x1 : Int) (x2 : Int) (x3 : List (Int × Int × Int × Int × Int)) (x4 : List (Int × Int)) (x5 : List Int) : Option ρ :=
  bif decide (x1 < x0) then bif decide (0 ≤ x1) then bif decide (x1 < (↑(List.length x4) : Int)) then bif !(Prod.fst (List.getD x4 (Int.toNat x1) (0, 0)) == 0 && (Prod.snd (List.getD x4 (Int.toNat x1) (0, 0)) == 0 && true)) then t5 x0 (IntKind.wrap IntKind.i64 (x1 + 1)) x2 x3 x4 x5 else Option.bind (M50 x2 x3 x1 x4) fun d70 => t11 1 x0 x1 (↑(List.length (Prod.fst (Prod.snd (Prod.snd d70)))) : Int) 0 x2 x3 (Prod.fst (Prod.snd d70)) x5 (Prod.fst (Prod.snd (Prod.snd d70))) else none else none else t31 x3 (↑(List.length x3) : Int) 0 x5
theorem k11_5 (n : Nat) (x0 : Int) (x1 : Int) (x2 : Int) (x3 : List (Int × Int × Int × Int × Int)) (x4 : List (Int × Int)) (x5 : List Int) : run C11 some (n + 1) i11_5 (l11_5.st (((), ((), ((), (x0, x1)))), ((x2, x3), (x4, (x5, ()))))) = r11_5 (fun d => some (o11.res d)) (fun x0 x1 x2 x3 x4 x5 => run C11 some n i11_5 (l11_5.st (((), ((), ((), (x0, x1)))), ((x2, x3), (x4, (x5, ())))))) (fun x0 x1 x2 x3 x4 x5 x6 x7 x8 x9 => run C11 some n i11_11 (l11_11.st (((), ((), ((), ((), (x0, (x1, (x2, ((), (x3, x4))))))))), ((x5, x6), (x7, (x8, (x9, ()))))))) (fun x0 x1 x2 x3 => run C11 some n i11_31 (l11_31.st (((), (x0, (x1, x2))), (x3, ())))) (fun x0 x1 x2 x3 x4 x5 x6 x7 x8 x9 x10 => run C11 some n i11_17 (l11_17.st (((), ((), ((), ((), (x0, (x1, (x2, (x3, ((), (x4, x5)))))))))), ((x6, x7), (x8, (x9, (x10, ()))))))) (fun x0 x1 x2 x3 x4 x5 x6 x7 x8 x9 => run C11 some n i11_23 (l11_23.st (((), ((), ((), (x0, (x1, (x2, ((), (x3, x4)))))))), ((x5, x6), (x7, (x8, (x9, ()))))))) x0 x1 x2 x3 x4 x5 := by kernel_rfl
theorem t11_5_eq (x0 : Int) (x1 : Int) (x2 : Int) (x3 : List (Int × Int × Int × Int × Int)) (x4 : List (Int × Int)) (x5 : List Int) : t11_5 x0 x1 x2 x3 x4 x5 = r11_5 some t11_5 t11_11 t11_31 t11_17 t11_23 x0 x1 x2 x3 x4 x5 := by
  refine (theT_eqn _ fun n => k11_5 n x0 x1 x2 x3 x4 x5).trans ?_
  have hb : ∀ d, o11.back (o11.res d) = some d := Form.back_res fun d => ⟨_, rfl⟩
  unfold r11_5
  simp only [lim_cond, lim_bind, lim_const, bind_cond, Option.bind_assoc, bind_some', bind_none', hb]
  try rfl
noncomputable def r11_11 {ρ : Type} (ret : ((Unit) × Bool) × (List Int) × Unit → Option ρ) (t5 : Int → Int → Int → (List (Int × Int × Int × Int × Int)) → (List (Int × Int)) → (List Int) → Option ρ) (t11 : Int → Int → Int → Int → Int → Int → (List (Int × Int × Int × Int × Int)) → (List (Int × Int)) → (List Int) → (List Int) → Option ρ) (t31 : (List (Int × Int × Int × Int × Int)) → Int → Int → (List Int) → Option ρ) (t17 : Int → Int → Int → Int → Int → Int → Int → (List (Int × Int × Int × Int × Int)) → (List (Int × Int)) → (List Int) → (List Int) → Option ρ) (t23 : Int → Int → Int → Int → Int → Int → (List (Int × Int × Int × Int × Int)) → (List (Int × Int)) → (List Int) → (List Int) → Option ρ) (x0 : Int) (x1 : Int) (x2 : Int) (x3 : Int) (x4 : Int) (x5 : Int) (x6 : List (Int × Int × Int × Int × Int)) (x7 : List (Int × Int)) (x8 : List Int) (x9 : List Int) : Option ρ :=
  bif decide (x4 < x3) then bif decide (0 ≤ x4) then bif decide (x4 < (↑(List.length x9) : Int)) then bif decide (0 ≤ List.getD x9 (Int.toNat x4) 0) then bif decide (List.getD x9 (Int.toNat x4) 0 < (↑(List.length x7) : Int)) then Option.bind (M51 x0 (Prod.snd (List.getD x7 (Int.toNat (List.getD x9 (Int.toNat x4) 0)) (0, 0)))) fun d71 => bif decide (Prod.fst d71 ≠ 0) then bif decide (0 ≤ List.getD x9 (Int.toNat x4) 0) then bif decide (List.getD x9 (Int.toNat x4) 0 < (↑(List.length x7) : Int)) then t11 (IntKind.wrap IntKind.i64 (IntKind.wrap IntKind.i64 (Int.tdiv x0 (Prod.fst d71)) * Prod.snd (List.getD x7 (Int.toNat (List.getD x9 (Int.toNat x4) 0)) (0, 0)))) x1 x2 x3 (IntKind.wrap IntKind.i64 (x4 + 1)) x5 x6 x7 x8 x9 else none else none else none else none else none else none else none else t17 x0 0 x1 x2 (↑(List.length x9) : Int) 0 x5 x6 x7 x8 x9
theorem k11_11 (n : Nat) (x0 : Int) (x1 : Int) (x2 : Int) (x3 : Int) (x4 : Int) (x5 : Int) (x6 : List (Int × Int × Int × Int × Int)) (x7 : List (Int × Int)) (x8 : List Int) (x9 : List Int) : run C11 some (n + 1) i11_11 (l11_11.st (((), ((), ((), ((), (x0, (x1, (x2, ((), (x3, x4))))))))), ((x5, x6), (x7, (x8, (x9, ())))))) = r11_11 (fun d => some (o11.res d)) (fun x0 x1 x2 x3 x4 x5 => run C11 some n i11_5 (l11_5.st (((), ((), ((), (x0, x1)))), ((x2, x3), (x4, (x5, ())))))) (fun x0 x1 x2 x3 x4 x5 x6 x7 x8 x9 => run C11 some n i11_11 (l11_11.st (((), ((), ((), ((), (x0, (x1, (x2, ((), (x3, x4))))))))), ((x5, x6), (x7, (x8, (x9, ()))))))) (fun x0 x1 x2 x3 => run C11 some n i11_31 (l11_31.st (((), (x0, (x1, x2))), (x3, ())))) (fun x0 x1 x2 x3 x4 x5 x6 x7 x8 x9 x10 => run C11 some n i11_17 (l11_17.st (((), ((), ((), ((), (x0, (x1, (x2, (x3, ((), (x4, x5)))))))))), ((x6, x7), (x8, (x9, (x10, ()))))))) (fun x0 x1 x2 x3 x4 x5 x6 x7 x8 x9 => run C11 some n i11_23 (l11_23.st (((), ((), ((), (x0, (x1, (x2, ((), (x3, x4)))))))), ((x5, x6), (x7, (x8, (x9, ()))))))) x0 x1 x2 x3 x4 x5 x6 x7 x8 x9 := by kernel_rfl
theorem t11_11_eq (x0 : Int) (x1 : Int) (x2 : Int) (x3 : Int) (x4 : Int) (x5 : Int) (x6 : List (Int × Int × Int × Int × Int)) (x7 : List (Int × Int)) (x8 : List Int) (x9 : List Int) : t11_11 x0 x1 x2 x3 x4 x5 x6 x7 x8 x9 = r11_11 some t11_5 t11_11 t11_31 t11_17 t11_23 x0 x1 x2 x3 x4 x5 x6 x7 x8 x9 := by
  refine (theT_eqn _ fun n => k11_11 n x0 x1 x2 x3 x4 x5 x6 x7 x8 x9).trans ?_
  have hb : ∀ d, o11.back (o11.res d) = some d := Form.back_res fun d => ⟨_, rfl⟩
  unfold r11_11
  simp only [lim_cond, lim_bind, lim_const, bind_cond, Option.bind_assoc, bind_some', bind_none', hb]
  try rfl
noncomputable def r11_31 {ρ : Type} (ret : ((Unit) × Bool) × (List Int) × Unit → Option ρ) (t5 : Int → Int → Int → (List (Int × Int × Int × Int × Int)) → (List (Int × Int)) → (List Int) → Option ρ) (t11 : Int → Int → Int → Int → Int → Int → (List (Int × Int × Int × Int × Int)) → (List (Int × Int)) → (List Int) → (List Int) → Option ρ) (t31 : (List (Int × Int × Int × Int × Int)) → Int → Int → (List Int) → Option ρ) (t17 : Int → Int → Int → Int → Int → Int → Int → (List (Int × Int × Int × Int × Int)) → (List (Int × Int)) → (List Int) → (List Int) → Option ρ) (t23 : Int → Int → Int → Int → Int → Int → (List (Int × Int × Int × Int × Int)) → (List (Int × Int)) → (List Int) → (List Int) → Option ρ) (x0 : List (Int × Int × Int × Int × Int)) (x1 : Int) (x2 : Int) (x3 : List Int) : Option ρ :=
  bif decide (x2 < x1) then bif decide (0 ≤ x2) then bif decide (x2 < (↑(List.length x0) : Int)) then bif decide (0 ≤ Prod.fst (List.getD x0 (Int.toNat x2) (0, 0, 0, 0, 0))) then bif decide (Prod.fst (List.getD x0 (Int.toNat x2) (0, 0, 0, 0, 0)) < (↑(List.length x3) : Int)) then bif decide (0 ≤ Prod.fst (Prod.snd (List.getD x0 (Int.toNat x2) (0, 0, 0, 0, 0)))) then bif decide (Prod.fst (Prod.snd (List.getD x0 (Int.toNat x2) (0, 0, 0, 0, 0))) < (↑(List.length x3) : Int)) then bif IntKind.wrap IntKind.i64 (List.getD x3 (Int.toNat (Prod.fst (List.getD x0 (Int.toNat x2) (0, 0, 0, 0, 0)))) 0 * Prod.fst (Prod.snd (Prod.snd (List.getD x0 (Int.toNat x2) (0, 0, 0, 0, 0))))) != IntKind.wrap IntKind.i64 (List.getD x3 (Int.toNat (Prod.fst (Prod.snd (List.getD x0 (Int.toNat x2) (0, 0, 0, 0, 0))))) 0 * Prod.fst (Prod.snd (Prod.snd (Prod.snd (List.getD x0 (Int.toNat x2) (0, 0, 0, 0, 0)))))) then ret (((), false), [], ()) else t31 x0 x1 (IntKind.wrap IntKind.i64 (x2 + 1)) x3 else none else none else none else none else none else none else ret (((), true), x3, ())
theorem k11_31 (n : Nat) (x0 : List (Int × Int × Int × Int × Int)) (x1 : Int) (x2 : Int) (x3 : List Int) : run C11 some (n + 1) i11_31 (l11_31.st (((), (x0, (x1, x2))), (x3, ()))) = r11_31 (fun d => some (o11.res d)) (fun x0 x1 x2 x3 x4 x5 => run C11 some n i11_5 (l11_5.st (((), ((), ((), (x0, x1)))), ((x2, x3), (x4, (x5, ())))))) (fun x0 x1 x2 x3 x4 x5 x6 x7 x8 x9 => run C11 some n i11_11 (l11_11.st (((), ((), ((), ((), (x0, (x1, (x2, ((), (x3, x4))))))))), ((x5, x6), (x7, (x8, (x9, ()))))))) (fun x0 x1 x2 x3 => run C11 some n i11_31 (l11_31.st (((), (x0, (x1, x2))), (x3, ())))) (fun x0 x1 x2 x3 x4 x5 x6 x7 x8 x9 x10 => run C11 some n i11_17 (l11_17.st (((), ((), ((), ((), (x0, (x1, (x2, (x3, ((), (x4, x5)))))))))), ((x6, x7), (x8, (x9, (x10, ()))))))) (fun x0 x1 x2 x3 x4 x5 x6 x7 x8 x9 => run C11 some n i11_23 (l11_23.st (((), ((), ((), (x0, (x1, (x2, ((), (x3, x4)))))))), ((x5, x6), (x7, (x8, (x9, ()))))))) x0 x1 x2 x3 := by kernel_rfl
theorem t11_31_eq (x0 : List (Int × Int × Int × Int × Int)) (x1 : Int) (x2 : Int) (x3 : List Int) : t11_31 x0 x1 x2 x3 = r11_31 some t11_5 t11_11 t11_31 t11_17 t11_23 x0 x1 x2 x3 := by
  refine (theT_eqn _ fun n => k11_31 n x0 x1 x2 x3).trans ?_
  have hb : ∀ d, o11.back (o11.res d) = some d := Form.back_res fun d => ⟨_, rfl⟩
  unfold r11_31
  simp only [lim_cond, lim_bind, lim_const, bind_cond, Option.bind_assoc, bind_some', bind_none', hb]
  try rfl
noncomputable def r11_17 {ρ : Type} (ret : ((Unit) × Bool) × (List Int) × Unit → Option ρ) (t5 : Int → Int → Int → (List (Int × Int × Int × Int × Int)) → (List (Int × Int)) → (List Int) → Option ρ) (t11 : Int → Int → Int → Int → Int → Int → (List (Int × Int × Int × Int × Int)) → (List (Int × Int)) → (List Int) → (List Int) → Option ρ) (t31 : (List (Int × Int × Int × Int × Int)) → Int → Int → (List Int) → Option ρ) (t17 : Int → Int → Int → Int → Int → Int → Int → (List (Int × Int × Int × Int × Int)) → (List (Int × Int)) → (List Int) → (List Int) → Option ρ) (t23 : Int → Int → Int → Int → Int → Int → (List (Int × Int × Int × Int × Int)) → (List (Int × Int)) → (List Int) → (List Int) → Option ρ) (x0 : Int) (x1 : Int) (x2 : Int) (x3 : Int) (x4 : Int) (x5 : Int) (x6 : Int) (x7 : List (Int × Int × Int × Int × Int)) (x8 : List (Int × Int)) (x9 : List Int) (x10 : List Int) : Option ρ :=
  bif decide (x5 < x4) then bif decide (0 ≤ x5) then bif decide (x5 < (↑(List.length x10) : Int)) then bif decide (0 ≤ List.getD x10 (Int.toNat x5) 0) then bif decide (List.getD x10 (Int.toNat x5) 0 < (↑(List.length x8) : Int)) then bif decide (0 ≤ List.getD x10 (Int.toNat x5) 0) then bif decide (List.getD x10 (Int.toNat x5) 0 < (↑(List.length x8) : Int)) then bif decide (Prod.snd (List.getD x8 (Int.toNat (List.getD x10 (Int.toNat x5) 0)) (0, 0)) ≠ 0) then bif decide (0 ≤ List.getD x10 (Int.toNat x5) 0) then bif decide (List.getD x10 (Int.toNat x5) 0 < (↑(List.length x9) : Int)) then bif decide (0 ≤ List.getD x10 (Int.toNat x5) 0) then bif decide (List.getD x10 (Int.toNat x5) 0 < (↑(List.length (List.set x9 (Int.toNat (List.getD x10 (Int.toNat x5) 0)) (IntKind.wrap IntKind.i64 (Prod.fst (List.getD x8 (Int.toNat (List.getD x10 (Int.toNat x5) 0)) (0, 0)) * IntKind.wrap IntKind.i64 (Int.tdiv x0 (Prod.snd (List.getD x8 (Int.toNat (List.getD x10 (Int.toNat x5) 0)) (0, 0)))))))) : Int)) then Option.bind (M51 x1 (List.getD (List.set x9 (Int.toNat (List.getD x10 (Int.toNat x5) 0)) (IntKind.wrap IntKind.i64 (Prod.fst (List.getD x8 (Int.toNat (List.getD x10 (Int.toNat x5) 0)) (0, 0)) * IntKind.wrap IntKind.i64 (Int.tdiv x0 (Prod.snd (List.getD x8 (Int.toNat (List.getD x10 (Int.toNat x5) 0)) (0, 0))))))) (Int.toNat (List.getD x10 (Int.toNat x5) 0)) 0)) fun d72 => t17 x0 (Prod.fst d72) x2 x3 x4 (IntKind.wrap IntKind.i64 (x5 + 1)) x6 x7 x8 (List.set x9 (Int.toNat (List.getD x10 (Int.toNat x5) 0)) (IntKind.wrap IntKind.i64 (Prod.fst (List.getD x8 (Int.toNat (List.getD x10 (Int.toNat x5) 0)) (0, 0)) * IntKind.wrap IntKind.i64 (Int.tdiv x0 (Prod.snd (List.getD x8 (Int.toNat (List.getD x10 (Int.toNat x5) 0)) (0, 0))))))) x10 else none else none else none else none else none else none else none else none else none else none else none else t23 x1 x2 x3 (↑(List.length x10) : Int) 0 x6 x7 x8 x9 x10
theorem k11_17 (n : Nat) (x0 : Int) (x1 : Int) (x2 : Int) (x3 : Int) (x4 : Int) (x5 : Int) (x6 : Int) (x7 : List (Int × Int × Int × Int × Int)) (x8 : List (Int × Int)) (x9 : List Int) (x10 : List Int) : run C11 some (n + 1) i11_17 (l11_17.st (((), ((), ((), ((), (x0, (x1, (x2, (x3, ((), (x4, x5)))))))))), ((x6, x7), (x8, (x9, (x10, ())))))) = r11_17 (fun d => some (o11.res d)) (fun x0 x1 x2 x3 x4 x5 => run C11 some n i11_5 (l11_5.st (((), ((), ((), (x0, x1)))), ((x2, x3), (x4, (x5, ())))))) (fun x0 x1 x2 x3 x4 x5 x6 x7 x8 x9 => run C11 some n i11_11 (l11_11.st (((), ((), ((), ((), (x0, (x1, (x2, ((), (x3, x4))))))))), ((x5, x6), (x7, (x8, (x9, ()))))))) (fun x0 x1 x2 x3 => run C11 some n i11_31 (l11_31.st (((), (x0, (x1, x2))), (x3, ())))) (fun x0 x1 x2 x3 x4 x5 x6 x7 x8 x9 x10 => run C11 some n i11_17 (l11_17.st (((), ((), ((), ((), (x0, (x1, (x2, (x3, ((), (x4, x5)))))))))), ((x6, x7), (x8, (x9, (x10, ()))))))) (fun x0 x1 x2 x3 x4 x5 x6 x7 x8 x9 => run C11 some n i11_23 (l11_23.st (((), ((), ((), (x0, (x1, (x2, ((), (x3, x4)))))))), ((x5, x6), (x7, (x8, (x9, ()))))))) x0 x1 x2 x3 x4 x5 x6 x7 x8 x9 x10 := by kernel_rfl
theorem t11_17_eq (x0 : Int) (x1 : Int) (x2 : Int) (x3 : Int) (x4 : Int) (x5 : Int) (x6 : Int) (x7 : List (Int × Int × Int × Int × Int)) (x8 : List (Int × Int)) (x9 : List Int) (x10 : List Int) : t11_17 x0 x1 x2 x3 x4 x5 x6 x7 x8 x9 x10 = r11_17 some t11_5 t11_11 t11_31 t11_17 t11_23 x0 x1 x2 x3 x4 x5 x6 x7 x8 x9 x10 := by
  refine (theT_eqn _ fun n => k11_17 n x0 x1 x2 x3 x4 x5 x6 x7 x8 x9 x10).trans ?_
  have hb : ∀ d, o11.back (o11.res d) = some d := Form.back_res fun d => ⟨_, rfl⟩
  unfold r11_17
  simp only [lim_cond, lim_bind, lim_const, bind_cond, Option.bind_assoc, bind_some', bind_none', hb]
  try rfl
noncomputable def r11_23 {ρ : Type} (ret : ((Unit) × Bool) × (List Int) × Unit → Option ρ) (t5 : Int → Int → Int → (List (Int × Int × Int × Int × Int)) → (List (Int × Int)) → (List Int) → Option ρ) (t11 : Int → Int → Int → Int → Int → Int → (List (Int × Int × Int × Int × Int)) → (List (Int × Int)) → (List Int) → (List Int) → Option ρ) (t31 : (List (Int × Int × Int × Int × Int)) → Int → Int → (List Int) → Option ρ) (t17 : Int → Int → Int → Int → Int → Int → Int → (List (Int × Int × Int × Int × Int)) → (List (Int × Int)) → (List Int) → (List Int) → Option ρ) (t23 : Int → Int → Int → Int → Int → Int → (List (Int × Int × Int × Int × Int)) → (List (Int × Int)) → (List Int) → (List Int) → Option ρ) (x0 : Int) (x1 : Int) (x2 : Int) (x3 : Int) (x4 : Int) (x5 : Int) (x6 : List (Int × Int × Int × Int × Int)) (x7 : List (Int × Int)) (x8 : List Int) (x9 : List Int) : Option ρ :=
  bif decide (x4 < x3) then bif decide (0 ≤ x4) then bif decide (x4 < (↑(List.length x9) : Int)) then bif decide (0 ≤ List.getD x9 (Int.toNat x4) 0) then bif decide (List.getD x9 (Int.toNat x4) 0 < (↑(List.length x8) : Int)) then bif decide (x0 ≠ 0) then bif decide (0 ≤ List.getD x9 (Int.toNat x4) 0) then bif decide (List.getD x9 (Int.toNat x4) 0 < (↑(List.length x8) : Int)) then bif decide (0 ≤ List.getD x9 (Int.toNat x4) 0) then bif decide (List.getD x9 (Int.toNat x4) 0 < (↑(List.length (List.set x8 (Int.toNat (List.getD x9 (Int.toNat x4) 0)) (IntKind.wrap IntKind.i64 (Int.tdiv (List.getD x8 (Int.toNat (List.getD x9 (Int.toNat x4) 0)) 0) x0)))) : Int)) then bif decide (List.getD (List.set x8 (Int.toNat (List.getD x9 (Int.toNat x4) 0)) (IntKind.wrap IntKind.i64 (Int.tdiv (List.getD x8 (Int.toNat (List.getD x9 (Int.toNat x4) 0)) 0) x0))) (Int.toNat (List.getD x9 (Int.toNat x4) 0)) 0 > 200) then ret (((), false), [], ()) else t23 x0 x1 x2 x3 (IntKind.wrap IntKind.i64 (x4 + 1)) x5 x6 x7 (List.set x8 (Int.toNat (List.getD x9 (Int.toNat x4) 0)) (IntKind.wrap IntKind.i64 (Int.tdiv (List.getD x8 (Int.toNat (List.getD x9 (Int.toNat x4) 0)) 0) x0))) x9 else none else none else none else none else none else none else none else none else none else t5 x1 (IntKind.wrap IntKind.i64 (x2 + 1)) x5 x6 x7 x8
theorem k11_23 (n : Nat) (x0 : Int) (x1 : Int) (x2 : Int) (x3 : Int) (x4 : Int) (x5 : Int) (x6 : List (Int × Int × Int × Int × Int)) (x7 : List (Int × Int)) (x8 : List Int) (x9 : List Int) : run C11 some (n + 1) i11_23 (l11_23.st (((), ((), ((), (x0, (x1, (x2, ((), (x3, x4)))))))), ((x5, x6), (x7, (x8, (x9, ())))))) = r11_23 (fun d => some (o11.res d)) (fun x0 x1 x2 x3 x4 x5 => run C11 some n i11_5 (l11_5.st (((), ((), ((), (x0, x1)))), ((x2, x3), (x4, (x5, ())))))) (fun x0 x1 x2 x3 x4 x5 x6 x7 x8 x9 => run C11 some n i11_11 (l11_11.st (((), ((), ((), ((), (x0, (x1, (x2, ((), (x3, x4))))))))), ((x5, x6), (x7, (x8, (x9, ()))))))) (fun x0 x1 x2 x3 => run C11 some n i11_31 (l11_31.st (((), (x0, (x1, x2))), (x3, ())))) (fun x0 x1 x2 x3 x4 x5 x6 x7 x8 x9 x10 => run C11 some n i11_17 (l11_17.st (((), ((), ((), ((), (x0, (x1, (x2, (x3, ((), (x4, x5)))))))))), ((x6, x7), (x8, (x9, (x10, ()))))))) (fun x0 x1 x2 x3 x4 x5 x6 x7 x8 x9 => run C11 some n i11_23 (l11_23.st (((), ((), ((), (x0, (x1, (x2, ((), (x3, x4)))))))), ((x5, x6), (x7, (x8, (x9, ()))))))) x0 x1 x2 x3 x4 x5 x6 x7 x8 x9 := by kernel_rfl
theorem t11_23_eq (x0 : Int) (x1 : Int) (x2 : Int) (x3 : Int) (x4 : Int) (x5 : Int) (x6 : List (Int × Int × Int × Int × Int)) (x7 : List (Int × Int)) (x8 : List Int) (x9 : List Int) : t11_23 x0 x1 x2 x3 x4 x5 x6 x7 x8 x9 = r11_23 some t11_5 t11_11 t11_31 t11_17 t11_23 x0 x1 x2 x3 x4 x5 x6 x7 x8 x9 := by
  refine (theT_eqn _ fun n => k11_23 n x0 x1 x2 x3 x4 x5 x6 x7 x8 x9).trans ?_
  have hb : ∀ d, o11.back (o11.res d) = some d := Form.back_res fun d => ⟨_, rfl⟩
  unfold r11_23
  simp only [lim_cond, lim_bind, lim_const, bind_cond, Option.bind_assoc, bind_some', bind_none', hb]
  try rfl
noncomputable def S11 : Sm := modeS a11 o11 (theM Go.Proofs.Try.prog tab11 [(5, l11_5), (11, l11_11), (31, l11_31), (17, l11_17), (23, l11_23)] o11 Go.Proofs.Try.f11 a11) noS
theorem S11_det : Det S11 := modeS_det noS_det
theorem S11_ok : Sound Go.Proofs.Try.prog 11 S11 := sound_mode tab11_ok Go.Proofs.Try.func11 (c := bodyOf Go.Proofs.Try.f11) (by kernel_rfl) (by kernel_rfl) (noS_sound _ _)
/- impl.Graph).first -/
def a54 : Form := ⟨(.agg (.dat (.pair I64 (.sl (.pair I64 (.pair I64 (.pair I64 (.pair I64 I64)))))))), []⟩
def o54 : Form := ⟨(.ref 0 I64), [.arr I64]⟩
def l54_3 : Lab := ⟨[3, 8, 9, 10], ⟨(.cons (.ref 0 I64) (.cons (.dat (.sl (.pair I64 (.pair I64 (.pair I64 (.pair I64 I64)))))) (.cons (.dat I64) (.dat I64)))), [.arr I64]⟩⟩
noncomputable def tab54 : List Ent := []
theorem tab54_ok : ∀ e ∈ tab54, Sound Go.Proofs.Try.prog e.f e.S := fun _ h => nomatch h
noncomputable def C54 : Ctx := ctxOf Go.Proofs.Try.prog tab54 Go.Proofs.Try.f54 0 [(3, l54_3)] o54
noncomputable def i54_3 : List Item := at_ (bodyOf Go.Proofs.Try.f54) [1, 1, 0, 1, 0, 0] []
noncomputable def t54_3 (x0 : List (Int × Int × Int × Int × Int)) (x1 : Int) (x2 : Int) (x3 : List Int) : Option ((Unit) × (List Int) × Unit) := theT C54 i54_3 l54_3 (((), (x0, (x1, x2))), (x3, ()))
noncomputable def M54 (x0 : Int) (x1 : List (Int × Int × Int × Int × Int)) : Option ((Unit) × (List Int) × Unit) := theM Go.Proofs.Try.prog tab54 [(3, l54_3)] o54 Go.Proofs.Try.f54 a54 ((x0, x1), ())
noncomputable def r54 {ρ : Type} (ret : (Unit) × (List Int) × Unit → Option ρ) (t3 : (List (Int × Int × Int × Int × Int)) → Int → Int → (List Int) → Option ρ) (x0 : Int) (x1 : List (Int × Int × Int × Int × Int)) : Option ρ :=
  t3 x1 (↑(List.length x1) : Int) 0 []
theorem k54 (n : Nat) (x0 : Int) (x1 : List (Int × Int × Int × Int × Int)) : runF Go.Proofs.Try.prog tab54 [(3, l54_3)] o54 Go.Proofs.Try.f54 some (n + 1) (a54.vals ((x0, x1), ())) (a54.roots ((x0, x1), ())) = r54 (fun d => some (o54.res d)) (fun x0 x1 x2 x3 => run C54 some n i54_3 (l54_3.st (((), (x0, (x1, x2))), (x3, ())))) x0 x1 := by kernel_rfl
theorem M54_eq (x0 : Int) (x1 : List (Int × Int × Int × Int × Int)) : M54 x0 x1 = r54 some t54_3 x0 x1 := by
  refine (theM_eqn 1 _ fun n => k54 n x0 x1).trans ?_
  have hb : ∀ d, o54.back (o54.res d) = some d := Form.back_res fun d => ⟨_, rfl⟩
  unfold r54
  simp only [lim_cond, lim_bind, lim_const, bind_cond, Option.bind_assoc, bind_some', bind_none', hb]
  try rfl
noncomputable def r54_3 {ρ : Type} (ret : (Unit) × (List Int) × Unit → Option ρ) (t3 : (List (Int × Int × Int × Int × Int)) → Int → Int → (List Int) → Option ρ) (x0 : List (Int × Int × Int × Int × Int)) (x1 : Int) (x2 : Int) (x3 : List Int) : Option ρ :=
  bif decide (x2 < x1) then bif decide (0 ≤ x2) then bif decide (x2 < (↑(List.length x0) : Int)) then bif fitBytes (List.length x3 + List.length [Prod.snd (Prod.snd (Prod.snd (Prod.snd (List.getD x0 (Int.toNat x2) (0, 0, 0, 0, 0)))))]) 8 then t3 x0 x1 (IntKind.wrap IntKind.i64 (x2 + 1)) (x3 ++ [Prod.snd (Prod.snd (Prod.snd (Prod.snd (List.getD x0 (Int.toNat x2) (0, 0, 0, 0, 0)))))]) else none else none else none else ret ((), x3, ())
theorem k54_3 (n : Nat) (x0 : List (Int × Int × Int × Int × Int)) (x1 : Int) (x2 : Int) (x3 : List Int) : run C54 some (n + 1) i54_3 (l54_3.st (((), (x0, (x1, x2))), (x3, ()))) = r54_3 (fun d => some (o54.res d)) (fun x0 x1 x2 x3 => run C54 some n i54_3 (l54_3.st (((), (x0, (x1, x2))), (x3, ())))) x0 x1 x2 x3 := by kernel_rfl
theorem t54_3_eq (x0 : List (Int × Int × Int × Int × Int)) (x1 : Int) (x2 : Int) (x3 : List Int) : t54_3 x0 x1 x2 x3 = r54_3 some t54_3 x0 x1 x2 x3 := by
  refine (theT_eqn _ fun n => k54_3 n x0 x1 x2 x3).trans ?_
  have hb : ∀ d, o54.back (o54.res d) = some d := Form.back_res fun d => ⟨_, rfl⟩
  unfold r54_3
  simp only [lim_cond, lim_bind, lim_const, bind_cond, Option.bind_assoc, bind_some', bind_none', hb]
  try rfl
noncomputable def S54 : Sm := modeS a54 o54 (theM Go.Proofs.Try.prog tab54 [(3, l54_3)] o54 Go.Proofs.Try.f54 a54) noS
theorem S54_det : Det S54 := modeS_det noS_det
theorem S54_ok : Sound Go.Proofs.Try.prog 54 S54 := sound_mode tab54_ok Go.Proofs.Try.func54 (c := bodyOf Go.Proofs.Try.f54) (by kernel_rfl) (by kernel_rfl) (noS_sound _ _)
/- impl.Graph).fire -/
def a55 : Form := ⟨(.cons (.agg (.dat (.pair I64 (.sl (.pair I64 (.pair I64 (.pair I64 (.pair I64 I64)))))))) (.cons (.ref 0 I64) (.dat I64))), [.arr I64]⟩
def o55 : Form := ⟨(.dat .bool), [.arr I64]⟩
def l55_4 : Lab := ⟨[1, 2, 3, 20, 21, 22], ⟨(.cons (.ref 0 I64) (.cons (.dat I64) (.cons (.ptr 1 0) (.cons (.dat (.sl (.pair I64 (.pair I64 (.pair I64 (.pair I64 I64)))))) (.cons (.dat I64) (.dat I64)))))), [.arr I64, .box (.dat (.pair I64 (.sl (.pair I64 (.pair I64 (.pair I64 (.pair I64 I64)))))))]⟩⟩
def l55_10 : Lab := ⟨[1, 2, 42, 43, 44], ⟨(.cons (.ref 0 I64) (.cons (.dat I64) (.cons (.dat (.sl (.pair I64 (.pair I64 (.pair I64 (.pair I64 I64)))))) (.cons (.dat I64) (.dat I64))))), [.arr I64]⟩⟩
noncomputable def tab55 : List Ent := []
theorem tab55_ok : ∀ e ∈ tab55, Sound Go.Proofs.Try.prog e.f e.S := fun _ h => nomatch h
noncomputable def C55 : Ctx := ctxOf Go.Proofs.Try.prog tab55 Go.Proofs.Try.f55 1 [(4, l55_4), (10, l55_10)] o55
noncomputable def i55_4 : List Item := at_ (bodyOf Go.Proofs.Try.f55) [1, 1, 0, 1, 0, 0] []
noncomputable def t55_4 (x0 : Int) (x1 : List (Int × Int × Int × Int × Int)) (x2 : Int) (x3 : Int) (x4 : List Int) (x5 : Int) (x6 : List (Int × Int × Int × Int × Int)) : Option ((Bool) × (List Int) × Unit) := theT C55 i55_4 l55_4 (((), (x0, ((), (x1, (x2, x3))))), (x4, ((x5, x6), ())))
noncomputable def i55_10 : List Item := at_ (bodyOf Go.Proofs.Try.f55) [1, 1, 1, 0, 1, 0, 0] []
noncomputable def t55_10 (x0 : Int) (x1 : List (Int × Int × Int × Int × Int)) (x2 : Int) (x3 : Int) (x4 : List Int) : Option ((Bool) × (List Int) × Unit) := theT C55 i55_10 l55_10 (((), (x0, (x1, (x2, x3)))), (x4, ()))
noncomputable def M55 (x0 : Int) (x1 : List (Int × Int × Int × Int × Int)) (x2 : Int) (x3 : List Int) : Option ((Bool) × (List Int) × Unit) := theM Go.Proofs.Try.prog tab55 [(4, l55_4), (10, l55_10)] o55 Go.Proofs.Try.f55 a55 (((x0, x1), ((), x2)), (x3, ()))
noncomputable def r55 {ρ : Type} (ret : (Bool) × (List Int) × Unit → Option ρ) (t4 : Int → (List (Int × Int × Int × Int × Int)) → Int → Int → (List Int) → Int → (List (Int × Int × Int × Int × Int)) → Option ρ) (t10 : Int → (List (Int × Int × Int × Int × Int)) → Int → Int → (List Int) → Option ρ) (x0 : Int) (x1 : List (Int × Int × Int × Int × Int)) (x2 : Int) (x3 : List Int) : Option ρ :=
  bif decide (x2 < 0) then ret (false, x3, ()) else bif decide (x2 ≥ x0) then ret (false, x3, ()) else t4 x2 x1 (↑(List.length x1) : Int) 0 x3 x0 x1
theorem k55 (n : Nat) (x0 : Int) (x1 : List (Int × Int × Int × Int × Int)) (x2 : Int) (x3 : List Int) : runF Go.Proofs.Try.prog tab55 [(4, l55_4), (10, l55_10)] o55 Go.Proofs.Try.f55 some (n + 1) (a55.vals (((x0, x1), ((), x2)), (x3, ()))) (a55.roots (((x0, x1), ((), x2)), (x3, ()))) = r55 (fun d => some (o55.res d)) (fun x0 x1 x2 x3 x4 x5 x6 => run C55 some n i55_4 (l55_4.st (((), (x0, ((), (x1, (x2, x3))))), (x4, ((x5, x6), ()))))) (fun x0 x1 x2 x3 x4 => run C55 some n i55_10 (l55_10.st (((), (x0, (x1, (x2, x3)))), (x4, ())))) x0 x1 x2 x3 := by kernel_rfl
theorem M55_eq (x0 : Int) (x1 : List (Int × Int × Int × Int × Int)) (x2 : Int) (x3 : List Int) : M55 x0 x1 x2 x3 = r55 some t55_4 t55_10 x0 x1 x2 x3 := by
  refine (theM_eqn 1 _ fun n => k55 n x0 x1 x2 x3).trans ?_
  have hb : ∀ d, o55.back (o55.res d) = some d := Form.back_res fun d => ⟨_, rfl⟩
  unfold r55
  simp only [lim_cond, lim_bind, lim_const, bind_cond, Option.bind_assoc, bind_some', bind_none', hb]
  try rfl
noncomputable def r55_4 {ρ : Type} (ret : (Bool) × (List Int) × Unit → Option ρ) (t4 : Int → (List (Int × Int × Int × Int × Int)) → Int → Int → (List Int) → Int → (List (Int × Int × Int × Int × Int)) → Option ρ) (t10 : Int → (List (Int × Int × Int × Int × Int)) → Int → Int → (List Int) → Option ρ) (x0 : Int) (x1 : List (Int × Int × Int × Int × Int)) (x2 : Int) (x3 : Int) (x4 : List Int) (x5 : Int) (x6 : List (Int × Int × Int × Int × Int)) : Option ρ :=
  bif decide (x3 < x2) then bif decide (0 ≤ x3) then bif decide (x3 < (↑(List.length x1) : Int)) then bif Prod.fst (Prod.snd (List.getD x1 (Int.toNat x3) (0, 0, 0, 0, 0))) == x0 then bif decide (0 ≤ x3) then bif decide (x3 < (↑(List.length x4) : Int)) then bif decide (List.getD x4 (Int.toNat x3) 0 < Prod.fst (Prod.snd (Prod.snd (Prod.snd (List.getD x1 (Int.toNat x3) (0, 0, 0, 0, 0)))))) then ret (false, x4, ()) else t4 x0 x1 x2 (IntKind.wrap IntKind.i64 (x3 + 1)) x4 x5 x6 else none else none else t4 x0 x1 x2 (IntKind.wrap IntKind.i64 (x3 + 1)) x4 x5 x6 else none else none else t10 x0 x6 (↑(List.length x6) : Int) 0 x4
theorem k55_4 (n : Nat) (x0 : Int) (x1 : List (Int × Int × Int × Int × Int)) (x2 : Int) (x3 : Int) (x4 : List Int) (x5 : Int) (x6 : List (Int × Int × Int × Int × Int)) : run C55 some (n + 1) i55_4 (l55_4.st (((), (x0, ((), (x1, (x2, x3))))), (x4, ((x5, x6), ())))) = r55_4 (fun d => some (o55.res d)) (fun x0 x1 x2 x3 x4 x5 x6 => run C55 some n i55_4 (l55_4.st (((), (x0, ((), (x1, (x2, x3))))), (x4, ((x5, x6), ()))))) (fun x0 x1 x2 x3 x4 => run C55 some n i55_10 (l55_10.st (((), (x0, (x1, (x2, x3)))), (x4, ())))) x0 x1 x2 x3 x4 x5 x6 := by kernel_rfl
theorem t55_4_eq (x0 : Int) (x1 : List (Int × Int × Int × Int × Int)) (x2 : Int) (x3 : Int) (x4 : List Int) (x5 : Int) (x6 : List (Int × Int × Int × Int × Int)) : t55_4 x0 x1 x2 x3 x4 x5 x6 = r55_4 some t55_4 t55_10 x0 x1 x2 x3 x4 x5 x6 := by
  refine (theT_eqn _ fun n => k55_4 n x0 x1 x2 x3 x4 x5 x6).trans ?_
  have hb : ∀ d, o55.back (o55.res d) = some d := Form.back_res fun d => ⟨_, rfl⟩
  unfold r55_4
  simp only [lim_cond, lim_bind, lim_const, bind_cond, Option.bind_assoc, bind_some', bind_none', hb]
  try rfl
noncomputable def r55_10 {ρ : Type} (ret : (Bool) × (List Int) × Unit → Option ρ) (t4 : Int → (List (Int × Int × Int × Int × Int)) → Int → Int → (List Int) → Int → (List (Int × Int × Int × Int × Int)) → Option ρ) (t10 : Int → (List (Int × Int × Int × Int × Int)) → Int → Int → (List Int) → Option ρ) (x0 : Int) (x1 : List (Int × Int × Int × Int × Int)) (x2 : Int) (x3 : Int) (x4 : List Int) : Option ρ :=
  bif decide (x3 < x2) then bif decide (0 ≤ x3) then bif decide (x3 < (↑(List.length x1) : Int)) then bif Prod.fst (Prod.snd (List.getD x1 (Int.toNat x3) (0, 0, 0, 0, 0))) == x0 then bif decide (0 ≤ x3) then bif decide (x3 < (↑(List.length x4) : Int)) then bif decide (0 ≤ x3) then bif decide (x3 < (↑(List.length x4) : Int)) then bif Prod.fst (List.getD x1 (Int.toNat x3) (0, 0, 0, 0, 0)) == x0 then bif decide (0 ≤ x3) then bif decide (x3 < (↑(List.length (List.set x4 (Int.toNat x3) (IntKind.wrap IntKind.i64 (List.getD x4 (Int.toNat x3) 0 - Prod.fst (Prod.snd (Prod.snd (Prod.snd (List.getD x1 (Int.toNat x3) (0, 0, 0, 0, 0))))))))) : Int)) then bif decide (0 ≤ x3) then bif decide (x3 < (↑(List.length (List.set x4 (Int.toNat x3) (IntKind.wrap IntKind.i64 (List.getD x4 (Int.toNat x3) 0 - Prod.fst (Prod.snd (Prod.snd (Prod.snd (List.getD x1 (Int.toNat x3) (0, 0, 0, 0, 0))))))))) : Int)) then t10 x0 x1 x2 (IntKind.wrap IntKind.i64 (x3 + 1)) (List.set (List.set x4 (Int.toNat x3) (IntKind.wrap IntKind.i64 (List.getD x4 (Int.toNat x3) 0 - Prod.fst (Prod.snd (Prod.snd (Prod.snd (List.getD x1 (Int.toNat x3) (0, 0, 0, 0, 0)))))))) (Int.toNat x3) (IntKind.wrap IntKind.i64 (List.getD (List.set x4 (Int.toNat x3) (IntKind.wrap IntKind.i64 (List.getD x4 (Int.toNat x3) 0 - Prod.fst (Prod.snd (Prod.snd (Prod.snd (List.getD x1 (Int.toNat x3) (0, 0, 0, 0, 0)))))))) (Int.toNat x3) 0 + Prod.fst (Prod.snd (Prod.snd (List.getD x1 (Int.toNat x3) (0, 0, 0, 0, 0))))))) else none else none else none else none else t10 x0 x1 x2 (IntKind.wrap IntKind.i64 (x3 + 1)) (List.set x4 (Int.toNat x3) (IntKind.wrap IntKind.i64 (List.getD x4 (Int.toNat x3) 0 - Prod.fst (Prod.snd (Prod.snd (Prod.snd (List.getD x1 (Int.toNat x3) (0, 0, 0, 0, 0)))))))) else none else none else none else none else bif Prod.fst (List.getD x1 (Int.toNat x3) (0, 0, 0, 0, 0)) == x0 then bif decide (0 ≤ x3) then bif decide (x3 < (↑(List.length x4) : Int)) then bif decide (0 ≤ x3) then bif decide (x3 < (↑(List.length x4) : Int)) then t10 x0 x1 x2 (IntKind.wrap IntKind.i64 (x3 + 1)) (List.set x4 (Int.toNat x3) (IntKind.wrap IntKind.i64 (List.getD x4 (Int.toNat x3) 0 + Prod.fst (Prod.snd (Prod.snd (List.getD x1 (Int.toNat x3) (0, 0, 0, 0, 0))))))) else none else none else none else none else t10 x0 x1 x2 (IntKind.wrap IntKind.i64 (x3 + 1)) x4 else none else none else ret (true, x4, ())
theorem k55_10 (n : Nat) (x0 : Int) (x1 : List (Int × Int × Int × Int × Int)) (x2 : Int) (x3 : Int) (x4 : List Int) : run C55 some (n + 1) i55_10 (l55_10.st (((), (x0, (x1, (x2, x3)))), (x4, ()))) = r55_10 (fun d => some (o55.res d)) (fun x0 x1 x2 x3 x4 x5 x6 => run C55 some n i55_4 (l55_4.st (((), (x0, ((), (x1, (x2, x3))))), (x4, ((x5, x6), ()))))) (fun x0 x1 x2 x3 x4 => run C55 some n i55_10 (l55_10.st (((), (x0, (x1, (x2, x3)))), (x4, ())))) x0 x1 x2 x3 x4 := by kernel_rfl
theorem t55_10_eq (x0 : Int) (x1 : List (Int × Int × Int × Int × Int)) (x2 : Int) (x3 : Int) (x4 : List Int) : t55_10 x0 x1 x2 x3 x4 = r55_10 some t55_4 t55_10 x0 x1 x2 x3 x4 := by
  refine (theT_eqn _ fun n => k55_10 n x0 x1 x2 x3 x4).trans ?_
  have hb : ∀ d, o55.back (o55.res d) = some d := Form.back_res fun d => ⟨_, rfl⟩
  unfold r55_10
  simp only [lim_cond, lim_bind, lim_const, bind_cond, Option.bind_assoc, bind_some', bind_none', hb]
  try rfl
noncomputable def S55 : Sm := modeS a55 o55 (theM Go.Proofs.Try.prog tab55 [(4, l55_4), (10, l55_10)] o55 Go.Proofs.Try.f55 a55) noS
theorem S55_det : Det S55 := modeS_det noS_det
theorem S55_ok : Sound Go.Proofs.Try.prog 55 S55 := sound_mode tab55_ok Go.Proofs.Try.func55 (c := bodyOf Go.Proofs.Try.f55) (by kernel_rfl) (by kernel_rfl) (noS_sound _ _)
/- impl.ScheduleOf$1 -/
def a57 : Form := ⟨(.dat I64), []⟩
def o57 : Form := ⟨(.dat .bool), []⟩
noncomputable def tab57 : List Ent := []
theorem tab57_ok : ∀ e ∈ tab57, Sound Go.Proofs.Try.prog e.f e.S := fun _ h => nomatch h
noncomputable def C57 : Ctx := ctxOf Go.Proofs.Try.prog tab57 Go.Proofs.Try.f57 0 [] o57
noncomputable def M57 (x0 : Int) : Option ((Bool) × Unit) := theM Go.Proofs.Try.prog tab57 [] o57 Go.Proofs.Try.f57 a57 (x0, ())
noncomputable def r57 {ρ : Type} (ret : (Bool) × Unit → Option ρ) (x0 : Int) : Option ρ :=
  ret (decide (x0 > 0), ())
theorem k57 (n : Nat) (x0 : Int) : runF Go.Proofs.Try.prog tab57 [] o57 Go.Proofs.Try.f57 some (n + 1) (a57.vals (x0, ())) (a57.roots (x0, ())) = r57 (fun d => some (o57.res d)) x0 := by kernel_rfl
theorem M57_eq (x0 : Int) : M57 x0 = r57 some x0 := by
  refine (theM_eqn 1 _ fun n => k57 n x0).trans ?_
  have hb : ∀ d, o57.back (o57.res d) = some d := Form.back_res fun d => ⟨_, rfl⟩
  unfold r57
  simp only [lim_cond, lim_bind, lim_const, bind_cond, Option.bind_assoc, bind_some', bind_none', hb]
  try rfl
noncomputable def S57 : Sm := modeS a57 o57 (theM Go.Proofs.Try.prog tab57 [] o57 Go.Proofs.Try.f57 a57) noS
theorem S57_det : Det S57 := modeS_det noS_det
theorem S57_ok : Sound Go.Proofs.Try.prog 57 S57 := sound_mode tab57_ok Go.Proofs.Try.func57 (c := bodyOf Go.Proofs.Try.f57) (by kernel_rfl) (by kernel_rfl) (noS_sound _ _)
/-! slices.IndexFunc[[]int,int] -/
def a121 : Form := ⟨(.cons (.dat (.sl I64)) (.fn 57 .nil)), []⟩
def o121 : Form := ⟨(.dat I64), []⟩
def l121_2 : Lab := ⟨[0, 1, 7, 8], ⟨(.cons (.dat (.sl I64)) (.cons (.fn 57 .nil) (.cons (.dat I64) (.dat I64)))), []⟩⟩
noncomputable def tab121 : List Ent := [⟨57, false, S57, S57_det⟩]
theorem tab121_ok : ∀ e ∈ tab121, Sound Go.Proofs.Try.prog e.f e.S := List.forall_mem_cons.2 ⟨S57_ok, fun _ h => nomatch h⟩
noncomputable def C121 : Ctx := ctxOf Go.Proofs.Try.prog tab121 Go.Proofs.Try.f121 0 [(2, l121_2)] o121
noncomputable def i121_2 : List Item := at_ (bodyOf Go.Proofs.Try.f121) [1, 0, 1, 0, 0] []
noncomputable def t121_2 (x0 : List Int) (x1 : Int) (x2 : Int) : Option ((Int) × Unit) := theT C121 i121_2 l121_2 ((x0, ((), (x1, x2))), ())
noncomputable def M121 (x0 : List Int) : Option ((Int) × Unit) := theM Go.Proofs.Try.prog tab121 [(2, l121_2)] o121 Go.Proofs.Try.f121 a121 ((x0, ()), ())
noncomputable def r121 {ρ : Type} (ret : (Int) × Unit → Option ρ) (t2 : (List Int) → Int → Int → Option ρ) (x0 : List Int) : Option ρ :=
  t2 x0 (↑(List.length x0) : Int) 0
theorem k121 (n : Nat) (x0 : List Int) : runF Go.Proofs.Try.prog tab121 [(2, l121_2)] o121 Go.Proofs.Try.f121 some (n + 1) (a121.vals ((x0, ()), ())) (a121.roots ((x0, ()), ())) = r121 (fun d => some (o121.res d)) (fun x0 x1 x2 => run C121 some n i121_2 (l121_2.st ((x0, ((), (x1, x2))), ()))) x0 := by kernel_rfl
theorem M121_eq (x0 : List Int) : M121 x0 = r121 some t121_2 x0 := by
  refine (theM_eqn 1 _ fun n => k121 n x0).trans ?_
  have hb : ∀ d, o121.back (o121.res d) = some d := Form.back_res fun d => ⟨_, rfl⟩
  unfold r121
  simp only [lim_cond, lim_bind, lim_const, bind_cond, Option.bind_assoc, bind_some', bind_none', hb]
  try rfl
noncomputable def r121_2 {ρ : Type} (ret : (Int) × Unit → Option ρ) (t2 : (List Int) → Int → Int → Option ρ) (x0 : List Int) (x1 : Int) (x2 : Int) : Option ρ :=
  bif decide (x2 < x1) then bif decide (0 ≤ x2) then bif decide (x2 < (↑(List.length x0) : Int)) then Option.bind (M57 (List.getD x0 (Int.toNat x2) 0)) fun d81 => bif Prod.fst d81 then ret (x2, ()) else t2 x0 x1 (IntKind.wrap IntKind.i64 (x2 + 1)) else none else none else ret (-1, ())
theorem k121_2 (n : Nat) (x0 : List Int) (x1 : Int) (x2 : Int) : run C121 some (n + 1) i121_2 (l121_2.st ((x0, ((), (x1, x2))), ())) = r121_2 (fun d => some (o121.res d)) (fun x0 x1 x2 => run C121 some n i121_2 (l121_2.st ((x0, ((), (x1, x2))), ()))) x0 x1 x2 := by kernel_rfl
theorem t121_2_eq (x0 : List Int) (x1 : Int) (x2 : Int) : t121_2 x0 x1 x2 = r121_2 some t121_2 x0 x1 x2 := by
  refine (theT_eqn _ fun n => k121_2 n x0 x1 x2).trans ?_
  have hb : ∀ d, o121.back (o121.res d) = some d := Form.back_res fun d => ⟨_, rfl⟩
  unfold r121_2
  simp only [lim_cond, lim_bind, lim_const, bind_cond, Option.bind_assoc, bind_some', bind_none', hb]
  try rfl
noncomputable def S121 : Sm := modeS a121 o121 (theM Go.Proofs.Try.prog tab121 [(2, l121_2)] o121 Go.Proofs.Try.f121 a121) noS
theorem S121_det : Det S121 := modeS_det noS_det
theorem S121_ok : Sound Go.Proofs.Try.prog 121 S121 := sound_mode tab121_ok Go.Proofs.Try.func121 (c := bodyOf Go.Proofs.Try.f121) (by kernel_rfl) (by kernel_rfl) (noS_sound _ _)
/-! slices.ContainsFunc[[]int,int] -/
def a56 : Form := ⟨(.cons (.dat (.sl I64)) (.fn 57 .nil)), []⟩
def o56 : Form := ⟨(.dat .bool), []⟩
noncomputable def tab56 : List Ent := [⟨121, false, S121, S121_det⟩]
theorem tab56_ok : ∀ e ∈ tab56, Sound Go.Proofs.Try.prog e.f e.S := List.forall_mem_cons.2 ⟨S121_ok, fun _ h => nomatch h⟩
noncomputable def C56 : Ctx := ctxOf Go.Proofs.Try.prog tab56 Go.Proofs.Try.f56 0 [] o56
noncomputable def M56 (x0 : List Int) : Option ((Bool) × Unit) := theM Go.Proofs.Try.prog tab56 [] o56 Go.Proofs.Try.f56 a56 ((x0, ()), ())
noncomputable def r56 {ρ : Type} (ret : (Bool) × Unit → Option ρ) (x0 : List Int) : Option ρ :=
  Option.bind (M121 x0) fun d83 => ret (decide (Prod.fst d83 ≥ 0), ())
theorem k56 (n : Nat) (x0 : List Int) : runF Go.Proofs.Try.prog tab56 [] o56 Go.Proofs.Try.f56 some (n + 1) (a56.vals ((x0, ()), ())) (a56.roots ((x0, ()), ())) = r56 (fun d => some (o56.res d)) x0 := by kernel_rfl
theorem M56_eq (x0 : List Int) : M56 x0 = r56 some x0 := by
  refine (theM_eqn 1 _ fun n => k56 n x0).trans ?_
  have hb : ∀ d, o56.back (o56.res d) = some d := Form.back_res fun d => ⟨_, rfl⟩
  unfold r56
  simp only [lim_cond, lim_bind, lim_const, bind_cond, Option.bind_assoc, bind_some', bind_none', hb]
  try rfl
noncomputable def S56 : Sm := modeS a56 o56 (theM Go.Proofs.Try.prog tab56 [] o56 Go.Proofs.Try.f56 a56) noS
theorem S56_det : Det S56 := modeS_det noS_det
theorem S56_ok : Sound Go.Proofs.Try.prog 56 S56 := sound_mode tab56_ok Go.Proofs.Try.func56 (c := bodyOf Go.Proofs.Try.f56) (by kernel_rfl) (by kernel_rfl) (noS_sound _ _)
/- impl.ScheduleOf -/
def a13 : Form := ⟨(.agg (.dat (.pair I64 (.sl (.pair I64 (.pair I64 (.pair I64 (.pair I64 I64)))))))), []⟩
def o13 : Form := ⟨(.tup (.cons (.ref 0 I64) (.dat .bool))), [.arr I64]⟩
def l13_5 : Lab := ⟨[1, 4, 6, 7], ⟨(.cons (.ptr 0 0) (.cons (.ref 1 I64) (.cons (.ref 2 I64) (.ref 3 I64)))), [.box (.dat (.pair I64 (.sl (.pair I64 (.pair I64 (.pair I64 (.pair I64 I64))))))), .arr I64, .arr I64, .arr I64]⟩⟩
def l13_6 : Lab := ⟨[1, 4, 6, 7, 8], ⟨(.cons (.ptr 0 0) (.cons (.ref 1 I64) (.cons (.ref 2 I64) (.cons (.ref 3 I64) (.dat I64))))), [.box (.dat (.pair I64 (.sl (.pair I64 (.pair I64 (.pair I64 (.pair I64 I64))))))), .arr I64, .arr I64, .arr I64]⟩⟩
noncomputable def tab13 : List Ent := [⟨11, false, S11, S11_det⟩, ⟨54, false, S54, S54_det⟩, ⟨55, true, S55, S55_det⟩, ⟨56, false, S56, S56_det⟩]
theorem tab13_ok : ∀ e ∈ tab13, Sound Go.Proofs.Try.prog e.f e.S := List.forall_mem_cons.2 ⟨S11_ok, List.forall_mem_cons.2 ⟨S54_ok, List.forall_mem_cons.2 ⟨S55_ok, List.forall_mem_cons.2 ⟨S56_ok, fun _ h => nomatch h⟩⟩⟩⟩
noncomputable def C13 : Ctx := ctxOf Go.Proofs.Try.prog tab13 Go.Proofs.Try.f13 0 [(5, l13_5), (6, l13_6)] o13
noncomputable def i13_5 : List Item := at_ (bodyOf Go.Proofs.Try.f13) [1, 1, 1, 1, 0, 0, 0] []
noncomputable def t13_5 (x0 : Int) (x1 : List (Int × Int × Int × Int × Int)) (x2 : List Int) (x3 : List Int) (x4 : List Int) : Option (((Unit) × Bool) × (List Int) × Unit) := theT C13 i13_5 l13_5 (((), ((), ((), ()))), ((x0, x1), (x2, (x3, (x4, ())))))
noncomputable def i13_6 : List Item := at_ (bodyOf Go.Proofs.Try.f13) [1, 1, 1, 1, 0, 0, 0, 0, 1, 0, 0, 0] []
noncomputable def t13_6 (x0 : Int) (x1 : Int) (x2 : List (Int × Int × Int × Int × Int)) (x3 : List Int) (x4 : List Int) (x5 : List Int) : Option (((Unit) × Bool) × (List Int) × Unit) := theT C13 i13_6 l13_6 (((), ((), ((), ((), x0)))), ((x1, x2), (x3, (x4, (x5, ())))))
noncomputable def M13 (x0 : Int) (x1 : List (Int × Int × Int × Int × Int)) : Option (((Unit) × Bool) × (List Int) × Unit) := theM Go.Proofs.Try.prog tab13 [(5, l13_5), (6, l13_6)] o13 Go.Proofs.Try.f13 a13 ((x0, x1), ())
noncomputable def r13 {ρ : Type} (ret : ((Unit) × Bool) × (List Int) × Unit → Option ρ) (t5 : Int → (List (Int × Int × Int × Int × Int)) → (List Int) → (List Int) → (List Int) → Option ρ) (t6 : Int → Int → (List (Int × Int × Int × Int × Int)) → (List Int) → (List Int) → (List Int) → Option ρ) (x0 : Int) (x1 : List (Int × Int × Int × Int × Int)) : Option ρ :=
  Option.bind (M11 x0 x1) fun d86 => bif !Prod.snd (Prod.fst d86) then ret (((), false), [], ()) else Option.bind (M54 x0 x1) fun d87 => t5 x0 x1 (Prod.fst (Prod.snd d86)) (Prod.fst (Prod.snd d87)) []
theorem k13 (n : Nat) (x0 : Int) (x1 : List (Int × Int × Int × Int × Int)) : runF Go.Proofs.Try.prog tab13 [(5, l13_5), (6, l13_6)] o13 Go.Proofs.Try.f13 some (n + 1) (a13.vals ((x0, x1), ())) (a13.roots ((x0, x1), ())) = r13 (fun d => some (o13.res d)) (fun x0 x1 x2 x3 x4 => run C13 some n i13_5 (l13_5.st (((), ((), ((), ()))), ((x0, x1), (x2, (x3, (x4, ()))))))) (fun x0 x1 x2 x3 x4 x5 => run C13 some n i13_6 (l13_6.st (((), ((), ((), ((), x0)))), ((x1, x2), (x3, (x4, (x5, ()))))))) x0 x1 := by kernel_rfl
theorem M13_eq (x0 : Int) (x1 : List (Int × Int × Int × Int × Int)) : M13 x0 x1 = r13 some t13_5 t13_6 x0 x1 := by
  refine (theM_eqn 1 _ fun n => k13 n x0 x1).trans ?_
  have hb : ∀ d, o13.back (o13.res d) = some d := Form.back_res fun d => ⟨_, rfl⟩
  unfold r13
  simp only [lim_cond, lim_bind, lim_const, bind_cond, Option.bind_assoc, bind_some', bind_none', hb]
  try rfl
noncomputable def r13_5 {ρ : Type} (ret : ((Unit) × Bool) × (List Int) × Unit → Option ρ) (t5 : Int → (List (Int × Int × Int × Int × Int)) → (List Int) → (List Int) → (List Int) → Option ρ) (t6 : Int → Int → (List (Int × Int × Int × Int × Int)) → (List Int) → (List Int) → (List Int) → Option ρ) (x0 : Int) (x1 : List (Int × Int × Int × Int × Int)) (x2 : List Int) (x3 : List Int) (x4 : List Int) : Option ρ :=
  t6 0 x0 x1 x2 x3 x4
theorem k13_5 (n : Nat) (x0 : Int) (x1 : List (Int × Int × Int × Int × Int)) (x2 : List Int) (x3 : List Int) (x4 : List Int) : run C13 some (n + 1) i13_5 (l13_5.st (((), ((), ((), ()))), ((x0, x1), (x2, (x3, (x4, ())))))) = r13_5 (fun d => some (o13.res d)) (fun x0 x1 x2 x3 x4 => run C13 some n i13_5 (l13_5.st (((), ((), ((), ()))), ((x0, x1), (x2, (x3, (x4, ()))))))) (fun x0 x1 x2 x3 x4 x5 => run C13 some n i13_6 (l13_6.st (((), ((), ((), ((), x0)))), ((x1, x2), (x3, (x4, (x5, ()))))))) x0 x1 x2 x3 x4 := by kernel_rfl
theorem t13_5_eq (x0 : Int) (x1 : List (Int × Int × Int × Int × Int)) (x2 : List Int) (x3 : List Int) (x4 : List Int) : t13_5 x0 x1 x2 x3 x4 = r13_5 some t13_5 t13_6 x0 x1 x2 x3 x4 := by
  refine (theT_eqn _ fun n => k13_5 n x0 x1 x2 x3 x4).trans ?_
  have hb : ∀ d, o13.back (o13.res d) = some d := Form.back_res fun d => ⟨_, rfl⟩
  unfold r13_5
  simp only [lim_cond, lim_bind, lim_const, bind_cond, Option.bind_assoc, bind_some', bind_none', hb]
  try rfl
noncomputable def r13_6 {ρ : Type} (ret : ((Unit) × Bool) × (List Int) × Unit → Option ρ) (t5 : Int → (List (Int × Int × Int × Int × Int)) → (List Int) → (List Int) → (List Int) → Option ρ) (t6 : Int → Int → (List (Int × Int × Int × Int × Int)) → (List Int) → (List Int) → (List Int) → Option ρ) (x0 : Int) (x1 : Int) (x2 : List (Int × Int × Int × Int × Int)) (x3 : List Int) (x4 : List Int) (x5 : List Int) : Option ρ :=
  bif decide (x0 < x1) then bif decide (0 ≤ x0) then bif decide (x0 < (↑(List.length x3) : Int)) then bif List.getD x3 (Int.toNat x0) 0 == 0 then t6 (IntKind.wrap IntKind.i64 (x0 + 1)) x1 x2 x3 x4 x5 else Option.bind (M55 x1 x2 x0 x4) fun d88 => bif !Prod.fst d88 then t6 (IntKind.wrap IntKind.i64 (x0 + 1)) x1 x2 x3 (Prod.fst (Prod.snd d88)) x5 else bif x0 == x1 then Option.bind (M56 x3) fun d89 => bif Prod.fst d89 then ret (((), false), [], ()) else ret (((), true), x5, ()) else bif decide (0 ≤ x0) then bif decide (x0 < (↑(List.length x3) : Int)) then bif decide (0 ≤ x0) then bif decide (x0 < (↑(List.length x3) : Int)) then bif fitBytes (List.length x5 + List.length [x0]) 8 then t5 x1 x2 (List.set x3 (Int.toNat x0) (IntKind.wrap IntKind.i64 (List.getD x3 (Int.toNat x0) 0 - 1))) (Prod.fst (Prod.snd d88)) (x5 ++ [x0]) else none else none else none else none else none else none else none else bif x0 == x1 then Option.bind (M56 x3) fun d90 => bif Prod.fst d90 then ret (((), false), [], ()) else ret (((), true), x5, ()) else bif decide (0 ≤ x0) then bif decide (x0 < (↑(List.length x3) : Int)) then bif decide (0 ≤ x0) then bif decide (x0 < (↑(List.length x3) : Int)) then bif fitBytes (List.length x5 + List.length [x0]) 8 then t5 x1 x2 (List.set x3 (Int.toNat x0) (IntKind.wrap IntKind.i64 (List.getD x3 (Int.toNat x0) 0 - 1))) x4 (x5 ++ [x0]) else none else none else none else none else none
theorem k13_6 (n : Nat) (x0 : Int) (x1 : Int) (x2 : List (Int × Int × Int × Int × Int)) (x3 : List Int) (x4 : List Int) (x5 : List Int) : run C13 some (n + 1) i13_6 (l13_6.st (((), ((), ((), ((), x0)))), ((x1, x2), (x3, (x4, (x5, ())))))) = r13_6 (fun d => some (o13.res d)) (fun x0 x1 x2 x3 x4 => run C13 some n i13_5 (l13_5.st (((), ((), ((), ()))), ((x0, x1), (x2, (x3, (x4, ()))))))) (fun x0 x1 x2 x3 x4 x5 => run C13 some n i13_6 (l13_6.st (((), ((), ((), ((), x0)))), ((x1, x2), (x3, (x4, (x5, ()))))))) x0 x1 x2 x3 x4 x5 := by kernel_rfl
theorem t13_6_eq (x0 : Int) (x1 : Int) (x2 : List (Int × Int × Int × Int × Int)) (x3 : List Int) (x4 : List Int) (x5 : List Int) : t13_6 x0 x1 x2 x3 x4 x5 = r13_6 some t13_5 t13_6 x0 x1 x2 x3 x4 x5 := by
  refine (theT_eqn _ fun n => k13_6 n x0 x1 x2 x3 x4 x5).trans ?_
  have hb : ∀ d, o13.back (o13.res d) = some d := Form.back_res fun d => ⟨_, rfl⟩
  unfold r13_6
  simp only [lim_cond, lim_bind, lim_const, bind_cond, Option.bind_assoc, bind_some', bind_none', hb]
  try rfl
noncomputable def S13 : Sm := modeS a13 o13 (theM Go.Proofs.Try.prog tab13 [(5, l13_5), (6, l13_6)] o13 Go.Proofs.Try.f13 a13) noS
theorem S13_det : Det S13 := modeS_det noS_det
theorem S13_ok : Sound Go.Proofs.Try.prog 13 S13 := sound_mode tab13_ok Go.Proofs.Try.func13 (c := bodyOf Go.Proofs.Try.f13) (by kernel_rfl) (by kernel_rfl) (noS_sound _ _)
/- laws.eqIntS -/
def a19 : Form := ⟨(.cons (.dat (.sl I64)) (.dat (.sl I64))), []⟩
def o19 : Form := ⟨(.dat .bool), []⟩
def l19_4 : Lab := ⟨[0, 1, 5], ⟨(.cons (.dat (.sl I64)) (.cons (.dat (.sl I64)) (.dat I64))), []⟩⟩
noncomputable def tab19 : List Ent := []
theorem tab19_ok : ∀ e ∈ tab19, Sound Go.Proofs.Try.prog e.f e.S := fun _ h => nomatch h
noncomputable def C19 : Ctx := ctxOf Go.Proofs.Try.prog tab19 Go.Proofs.Try.f19 0 [(4, l19_4)] o19
noncomputable def i19_4 : List Item := at_ (bodyOf Go.Proofs.Try.f19) [1, 1, 0, 1, 0, 0] []
noncomputable def t19_4 (x0 : List Int) (x1 : List Int) (x2 : Int) : Option ((Bool) × Unit) := theT C19 i19_4 l19_4 ((x0, (x1, x2)), ())
noncomputable def M19 (x0 : List Int) (x1 : List Int) : Option ((Bool) × Unit) := theM Go.Proofs.Try.prog tab19 [(4, l19_4)] o19 Go.Proofs.Try.f19 a19 ((x0, x1), ())
noncomputable def r19 {ρ : Type} (ret : (Bool) × Unit → Option ρ) (t4 : (List Int) → (List Int) → Int → Option ρ) (x0 : List Int) (x1 : List Int) : Option ρ :=
  bif (↑(List.length x0) : Int) != (↑(List.length x1) : Int) then ret (false, ()) else t4 x0 x1 0
theorem k19 (n : Nat) (x0 : List Int) (x1 : List Int) : runF Go.Proofs.Try.prog tab19 [(4, l19_4)] o19 Go.Proofs.Try.f19 some (n + 1) (a19.vals ((x0, x1), ())) (a19.roots ((x0, x1), ())) = r19 (fun d => some (o19.res d)) (fun x0 x1 x2 => run C19 some n i19_4 (l19_4.st ((x0, (x1, x2)), ()))) x0 x1 := by kernel_rfl
theorem M19_eq (x0 : List Int) (x1 : List Int) : M19 x0 x1 = r19 some t19_4 x0 x1 := by
  refine (theM_eqn 1 _ fun n => k19 n x0 x1).trans ?_
  have hb : ∀ d, o19.back (o19.res d) = some d := Form.back_res fun d => ⟨_, rfl⟩
  unfold r19
  simp only [lim_cond, lim_bind, lim_const, bind_cond, Option.bind_assoc, bind_some', bind_none', hb]
  try rfl
noncomputable def r19_4 {ρ : Type} (ret : (Bool) × Unit → Option ρ) (t4 : (List Int) → (List Int) → Int → Option ρ) (x0 : List Int) (x1 : List Int) (x2 : Int) : Option ρ :=
  bif decide (x2 < (↑(List.length x0) : Int)) then bif decide (0 ≤ x2) then bif decide (x2 < (↑(List.length x0) : Int)) then bif decide (0 ≤ x2) then bif decide (x2 < (↑(List.length x1) : Int)) then bif List.getD x0 (Int.toNat x2) 0 != List.getD x1 (Int.toNat x2) 0 then ret (false, ()) else t4 x0 x1 (IntKind.wrap IntKind.i64 (x2 + 1)) else none else none else none else none else ret (true, ())
theorem k19_4 (n : Nat) (x0 : List Int) (x1 : List Int) (x2 : Int) : run C19 some (n + 1) i19_4 (l19_4.st ((x0, (x1, x2)), ())) = r19_4 (fun d => some (o19.res d)) (fun x0 x1 x2 => run C19 some n i19_4 (l19_4.st ((x0, (x1, x2)), ()))) x0 x1 x2 := by kernel_rfl
theorem t19_4_eq (x0 : List Int) (x1 : List Int) (x2 : Int) : t19_4 x0 x1 x2 = r19_4 some t19_4 x0 x1 x2 := by
  refine (theT_eqn _ fun n => k19_4 n x0 x1 x2).trans ?_
  have hb : ∀ d, o19.back (o19.res d) = some d := Form.back_res fun d => ⟨_, rfl⟩
  unfold r19_4
  simp only [lim_cond, lim_bind, lim_const, bind_cond, Option.bind_assoc, bind_some', bind_none', hb]
  try rfl
noncomputable def S19 : Sm := modeS a19 o19 (theM Go.Proofs.Try.prog tab19 [(4, l19_4)] o19 Go.Proofs.Try.f19 a19) noS
theorem S19_det : Det S19 := modeS_det noS_det
theorem S19_ok : Sound Go.Proofs.Try.prog 19 S19 := sound_mode tab19_ok Go.Proofs.Try.func19 (c := bodyOf Go.Proofs.Try.f19) (by kernel_rfl) (by kernel_rfl) (noS_sound _ _)
/- laws.eqEdge -/
def a124 : Form := ⟨(.cons (.agg (.dat (.pair I64 (.pair I64 (.pair I64 (.pair I64 I64)))))) (.agg (.dat (.pair I64 (.pair I64 (.pair I64 (.pair I64 I64))))))), []⟩
def o124 : Form := ⟨(.dat .bool), []⟩
noncomputable def tab124 : List Ent := []
theorem tab124_ok : ∀ e ∈ tab124, Sound Go.Proofs.Try.prog e.f e.S := fun _ h => nomatch h
noncomputable def C124 : Ctx := ctxOf Go.Proofs.Try.prog tab124 Go.Proofs.Try.f124 0 [] o124
noncomputable def M124 (x0 : Int) (x1 : Int) (x2 : Int) (x3 : Int) (x4 : Int) (x5 : Int) (x6 : Int) (x7 : Int) (x8 : Int) (x9 : Int) : Option ((Bool) × Unit) := theM Go.Proofs.Try.prog tab124 [] o124 Go.Proofs.Try.f124 a124 (((x0, (x1, (x2, (x3, x4)))), (x5, (x6, (x7, (x8, x9))))), ())
noncomputable def r124 {ρ : Type} (ret : (Bool) × Unit → Option ρ) (x0 : Int) (x1 : Int) (x2 : Int) (x3 : Int) (x4 : Int) (x5 : Int) (x6 : Int) (x7 : Int) (x8 : Int) (x9 : Int) : Option ρ :=
  bif x0 != x5 then ret (false, ()) else bif x1 != x6 then ret (false, ()) else bif x2 != x7 then ret (false, ()) else bif x3 != x8 then ret (false, ()) else bif x4 != x9 then ret (false, ()) else ret (true, ())
theorem k124 (n : Nat) (x0 : Int) (x1 : Int) (x2 : Int) (x3 : Int) (x4 : Int) (x5 : Int) (x6 : Int) (x7 : Int) (x8 : Int) (x9 : Int) : runF Go.Proofs.Try.prog tab124 [] o124 Go.Proofs.Try.f124 some (n + 1) (a124.vals (((x0, (x1, (x2, (x3, x4)))), (x5, (x6, (x7, (x8, x9))))), ())) (a124.roots (((x0, (x1, (x2, (x3, x4)))), (x5, (x6, (x7, (x8, x9))))), ())) = r124 (fun d => some (o124.res d)) x0 x1 x2 x3 x4 x5 x6 x7 x8 x9 := by kernel_rfl
theorem M124_eq (x0 : Int) (x1 : Int) (x2 : Int) (x3 : Int) (x4 : Int) (x5 : Int) (x6 : Int) (x7 : Int) (x8 : Int) (x9 : Int) : M124 x0 x1 x2 x3 x4 x5 x6 x7 x8 x9 = r124 some x0 x1 x2 x3 x4 x5 x6 x7 x8 x9 := by
  refine (theM_eqn 1 _ fun n => k124 n x0 x1 x2 x3 x4 x5 x6 x7 x8 x9).trans ?_
  have hb : ∀ d, o124.back (o124.res d) = some d := Form.back_res fun d => ⟨_, rfl⟩
  unfold r124
  simp only [lim_cond, lim_bind, lim_const, bind_cond, Option.bind_assoc, bind_some', bind_none', hb]
  try rfl
noncomputable def S124 : Sm := modeS a124 o124 (theM Go.Proofs.Try.prog tab124 [] o124 Go.Proofs.Try.f124 a124) noS
theorem S124_det : Det S124 := modeS_det noS_det
theorem S124_ok : Sound Go.Proofs.Try.prog 124 S124 := sound_mode tab124_ok Go.Proofs.Try.func124 (c := bodyOf Go.Proofs.Try.f124) (by kernel_rfl) (by kernel_rfl) (noS_sound _ _)
/- laws.eqEdgeS -/
def a63 : Form := ⟨(.cons (.dat (.sl (.pair I64 (.pair I64 (.pair I64 (.pair I64 I64)))))) (.dat (.sl (.pair I64 (.pair I64 (.pair I64 (.pair I64 I64))))))), []⟩
def o63 : Form := ⟨(.dat .bool), []⟩
def l63_4 : Lab := ⟨[0, 1, 5], ⟨(.cons (.dat (.sl (.pair I64 (.pair I64 (.pair I64 (.pair I64 I64)))))) (.cons (.dat (.sl (.pair I64 (.pair I64 (.pair I64 (.pair I64 I64)))))) (.dat I64))), []⟩⟩
noncomputable def tab63 : List Ent := [⟨124, false, S124, S124_det⟩]
theorem tab63_ok : ∀ e ∈ tab63, Sound Go.Proofs.Try.prog e.f e.S := List.forall_mem_cons.2 ⟨S124_ok, fun _ h => nomatch h⟩
noncomputable def C63 : Ctx := ctxOf Go.Proofs.Try.prog tab63 Go.Proofs.Try.f63 0 [(4, l63_4)] o63
noncomputable def i63_4 : List Item := at_ (bodyOf Go.Proofs.Try.f63) [1, 1, 0, 1, 0, 0] []
noncomputable def t63_4 (x0 : List (Int × Int × Int × Int × Int)) (x1 : List (Int × Int × Int × Int × Int)) (x2 : Int) : Option ((Bool) × Unit) := theT C63 i63_4 l63_4 ((x0, (x1, x2)), ())
noncomputable def M63 (x0 : List (Int × Int × Int × Int × Int)) (x1 : List (Int × Int × Int × Int × Int)) : Option ((Bool) × Unit) := theM Go.Proofs.Try.prog tab63 [(4, l63_4)] o63 Go.Proofs.Try.f63 a63 ((x0, x1), ())
noncomputable def r63 {ρ : Type} (ret : (Bool) × Unit → Option ρ) (t4 : (List (Int × Int × Int × Int × Int)) → (List (Int × Int × Int × Int × Int)) → Int → Option ρ) (x0 : List (Int × Int × Int × Int × Int)) (x1 : List (Int × Int × Int × Int × Int)) : Option ρ :=
  bif (↑(List.length x0) : Int) != (↑(List.length x1) : Int) then ret (false, ()) else t4 x0 x1 0
theorem k63 (n : Nat) (x0 : List (Int × Int × Int × Int × Int)) (x1 : List (Int × Int × Int × Int × Int)) : runF Go.Proofs.Try.prog tab63 [(4, l63_4)] o63 Go.Proofs.Try.f63 some (n + 1) (a63.vals ((x0, x1), ())) (a63.roots ((x0, x1), ())) = r63 (fun d => some (o63.res d)) (fun x0 x1 x2 => run C63 some n i63_4 (l63_4.st ((x0, (x1, x2)), ()))) x0 x1 := by kernel_rfl
theorem M63_eq (x0 : List (Int × Int × Int × Int × Int)) (x1 : List (Int × Int × Int × Int × Int)) : M63 x0 x1 = r63 some t63_4 x0 x1 := by
  refine (theM_eqn 1 _ fun n => k63 n x0 x1).trans ?_
  have hb : ∀ d, o63.back (o63.res d) = some d := Form.back_res fun d => ⟨_, rfl⟩
  unfold r63
  simp only [lim_cond, lim_bind, lim_const, bind_cond, Option.bind_assoc, bind_some', bind_none', hb]
  try rfl
noncomputable def r63_4 {ρ : Type} (ret : (Bool) × Unit → Option ρ) (t4 : (List (Int × Int × Int × Int × Int)) → (List (Int × Int × Int × Int × Int)) → Int → Option ρ) (x0 : List (Int × Int × Int × Int × Int)) (x1 : List (Int × Int × Int × Int × Int)) (x2 : Int) : Option ρ :=
  bif decide (x2 < (↑(List.length x0) : Int)) then bif decide (0 ≤ x2) then bif decide (x2 < (↑(List.length x0) : Int)) then bif decide (0 ≤ x2) then bif decide (x2 < (↑(List.length x1) : Int)) then Option.bind (M124 (Prod.fst (List.getD x0 (Int.toNat x2) (0, 0, 0, 0, 0))) (Prod.fst (Prod.snd (List.getD x0 (Int.toNat x2) (0, 0, 0, 0, 0)))) (Prod.fst (Prod.snd (Prod.snd (List.getD x0 (Int.toNat x2) (0, 0, 0, 0, 0))))) (Prod.fst (Prod.snd (Prod.snd (Prod.snd (List.getD x0 (Int.toNat x2) (0, 0, 0, 0, 0)))))) (Prod.snd (Prod.snd (Prod.snd (Prod.snd (List.getD x0 (Int.toNat x2) (0, 0, 0, 0, 0)))))) (Prod.fst (List.getD x1 (Int.toNat x2) (0, 0, 0, 0, 0))) (Prod.fst (Prod.snd (List.getD x1 (Int.toNat x2) (0, 0, 0, 0, 0)))) (Prod.fst (Prod.snd (Prod.snd (List.getD x1 (Int.toNat x2) (0, 0, 0, 0, 0))))) (Prod.fst (Prod.snd (Prod.snd (Prod.snd (List.getD x1 (Int.toNat x2) (0, 0, 0, 0, 0)))))) (Prod.snd (Prod.snd (Prod.snd (Prod.snd (List.getD x1 (Int.toNat x2) (0, 0, 0, 0, 0))))))) fun d94 => bif !Prod.fst d94 then ret (false, ()) else t4 x0 x1 (IntKind.wrap IntKind.i64 (x2 + 1)) else none else none else none else none else ret (true, ())
theorem k63_4 (n : Nat) (x0 : List (Int × Int × Int × Int × Int)) (x1 : List (Int × Int × Int × Int × Int)) (x2 : Int) : run C63 some (n + 1) i63_4 (l63_4.st ((x0, (x1, x2)), ())) = r63_4 (fun d => some (o63.res d)) (fun x0 x1 x2 => run C63 some n i63_4 (l63_4.st ((x0, (x1, x2)), ()))) x0 x1 x2 := by kernel_rfl
theorem t63_4_eq (x0 : List (Int × Int × Int × Int × Int)) (x1 : List (Int × Int × Int × Int × Int)) (x2 : Int) : t63_4 x0 x1 x2 = r63_4 some t63_4 x0 x1 x2 := by
  refine (theT_eqn _ fun n => k63_4 n x0 x1 x2).trans ?_
  have hb : ∀ d, o63.back (o63.res d) = some d := Form.back_res fun d => ⟨_, rfl⟩
  unfold r63_4
  simp only [lim_cond, lim_bind, lim_const, bind_cond, Option.bind_assoc, bind_some', bind_none', hb]
  try rfl
noncomputable def S63 : Sm := modeS a63 o63 (theM Go.Proofs.Try.prog tab63 [(4, l63_4)] o63 Go.Proofs.Try.f63 a63) noS
theorem S63_det : Det S63 := modeS_det noS_det
theorem S63_ok : Sound Go.Proofs.Try.prog 63 S63 := sound_mode tab63_ok Go.Proofs.Try.func63 (c := bodyOf Go.Proofs.Try.f63) (by kernel_rfl) (by kernel_rfl) (noS_sound _ _)
/- laws.eqGraph -/
def a20 : Form := ⟨(.cons (.agg (.dat (.pair I64 (.sl (.pair I64 (.pair I64 (.pair I64 (.pair I64 I64)))))))) (.agg (.dat (.pair I64 (.sl (.pair I64 (.pair I64 (.pair I64 (.pair I64 I64))))))))), []⟩
def o20 : Form := ⟨(.dat .bool), []⟩
noncomputable def tab20 : List Ent := [⟨63, false, S63, S63_det⟩]
theorem tab20_ok : ∀ e ∈ tab20, Sound Go.Proofs.Try.prog e.f e.S := List.forall_mem_cons.2 ⟨S63_ok, fun _ h => nomatch h⟩
noncomputable def C20 : Ctx := ctxOf Go.Proofs.Try.prog tab20 Go.Proofs.Try.f20 0 [] o20
noncomputable def M20 (x0 : Int) (x1 : List (Int × Int × Int × Int × Int)) (x2 : Int) (x3 : List (Int × Int × Int × Int × Int)) : Option ((Bool) × Unit) := theM Go.Proofs.Try.prog tab20 [] o20 Go.Proofs.Try.f20 a20 (((x0, x1), (x2, x3)), ())
noncomputable def r20 {ρ : Type} (ret : (Bool) × Unit → Option ρ) (x0 : Int) (x1 : List (Int × Int × Int × Int × Int)) (x2 : Int) (x3 : List (Int × Int × Int × Int × Int)) : Option ρ :=
  bif x0 != x2 then ret (false, ()) else Option.bind (M63 x1 x3) fun d96 => bif !Prod.fst d96 then ret (false, ()) else ret (true, ())
theorem k20 (n : Nat) (x0 : Int) (x1 : List (Int × Int × Int × Int × Int)) (x2 : Int) (x3 : List (Int × Int × Int × Int × Int)) : runF Go.Proofs.Try.prog tab20 [] o20 Go.Proofs.Try.f20 some (n + 1) (a20.vals (((x0, x1), (x2, x3)), ())) (a20.roots (((x0, x1), (x2, x3)), ())) = r20 (fun d => some (o20.res d)) x0 x1 x2 x3 := by kernel_rfl
theorem M20_eq (x0 : Int) (x1 : List (Int × Int × Int × Int × Int)) (x2 : Int) (x3 : List (Int × Int × Int × Int × Int)) : M20 x0 x1 x2 x3 = r20 some x0 x1 x2 x3 := by
  refine (theM_eqn 1 _ fun n => k20 n x0 x1 x2 x3).trans ?_
  have hb : ∀ d, o20.back (o20.res d) = some d := Form.back_res fun d => ⟨_, rfl⟩
  unfold r20
  simp only [lim_cond, lim_bind, lim_const, bind_cond, Option.bind_assoc, bind_some', bind_none', hb]
  try rfl
noncomputable def S20 : Sm := modeS a20 o20 (theM Go.Proofs.Try.prog tab20 [] o20 Go.Proofs.Try.f20 a20) noS
theorem S20_det : Det S20 := modeS_det noS_det
theorem S20_ok : Sound Go.Proofs.Try.prog 20 S20 := sound_mode tab20_ok Go.Proofs.Try.func20 (c := bodyOf Go.Proofs.Try.f20) (by kernel_rfl) (by kernel_rfl) (noS_sound _ _)
/- laws.markEdgeS -/
def a64 : Form := ⟨(.cons (.ref 0 (.pair I64 (.pair I64 (.pair I64 (.pair I64 I64))))) (.dat I64)), [.arr (.pair I64 (.pair I64 (.pair I64 (.pair I64 I64))))]⟩
def o64 : Form := ⟨(.dat I64), [.arr (.pair I64 (.pair I64 (.pair I64 (.pair I64 I64))))]⟩
def l64_1 : Lab := ⟨[0, 1], ⟨(.cons (.ref 0 (.pair I64 (.pair I64 (.pair I64 (.pair I64 I64))))) (.dat I64)), [.arr (.pair I64 (.pair I64 (.pair I64 (.pair I64 I64))))]⟩⟩
def l64_2 : Lab := ⟨[0, 1, 5], ⟨(.cons (.ref 0 (.pair I64 (.pair I64 (.pair I64 (.pair I64 I64))))) (.cons (.dat I64) (.dat I64))), [.arr (.pair I64 (.pair I64 (.pair I64 (.pair I64 I64))))]⟩⟩
def l64_4 : Lab := ⟨[0, 1, 5], ⟨(.cons (.ref 0 (.pair I64 (.pair I64 (.pair I64 (.pair I64 I64))))) (.cons (.dat I64) (.dat I64))), [.arr (.pair I64 (.pair I64 (.pair I64 (.pair I64 I64))))]⟩⟩
def l64_14 : Lab := ⟨[1], ⟨(.dat I64), [.arr (.pair I64 (.pair I64 (.pair I64 (.pair I64 I64))))]⟩⟩
def l64_5 : Lab := ⟨[0, 1, 5], ⟨(.cons (.ref 0 (.pair I64 (.pair I64 (.pair I64 (.pair I64 I64))))) (.cons (.dat I64) (.dat I64))), [.arr (.pair I64 (.pair I64 (.pair I64 (.pair I64 I64))))]⟩⟩
def l64_6 : Lab := ⟨[0, 1, 5], ⟨(.cons (.ref 0 (.pair I64 (.pair I64 (.pair I64 (.pair I64 I64))))) (.cons (.dat I64) (.dat I64))), [.arr (.pair I64 (.pair I64 (.pair I64 (.pair I64 I64))))]⟩⟩
def l64_7 : Lab := ⟨[0, 1, 5], ⟨(.cons (.ref 0 (.pair I64 (.pair I64 (.pair I64 (.pair I64 I64))))) (.cons (.dat I64) (.dat I64))), [.arr (.pair I64 (.pair I64 (.pair I64 (.pair I64 I64))))]⟩⟩
def l64_8 : Lab := ⟨[0, 1, 5], ⟨(.cons (.ref 0 (.pair I64 (.pair I64 (.pair I64 (.pair I64 I64))))) (.cons (.dat I64) (.dat I64))), [.arr (.pair I64 (.pair I64 (.pair I64 (.pair I64 I64))))]⟩⟩
def l64_9 : Lab := ⟨[0, 1, 5], ⟨(.cons (.ref 0 (.pair I64 (.pair I64 (.pair I64 (.pair I64 I64))))) (.cons (.dat I64) (.dat I64))), [.arr (.pair I64 (.pair I64 (.pair I64 (.pair I64 I64))))]⟩⟩
def l64_10 : Lab := ⟨[0, 1, 5], ⟨(.cons (.ref 0 (.pair I64 (.pair I64 (.pair I64 (.pair I64 I64))))) (.cons (.dat I64) (.dat I64))), [.arr (.pair I64 (.pair I64 (.pair I64 (.pair I64 I64))))]⟩⟩
def l64_11 : Lab := ⟨[0, 1, 5], ⟨(.cons (.ref 0 (.pair I64 (.pair I64 (.pair I64 (.pair I64 I64))))) (.cons (.dat I64) (.dat I64))), [.arr (.pair I64 (.pair I64 (.pair I64 (.pair I64 I64))))]⟩⟩
def l64_12 : Lab := ⟨[0, 1, 5], ⟨(.cons (.ref 0 (.pair I64 (.pair I64 (.pair I64 (.pair I64 I64))))) (.cons (.dat I64) (.dat I64))), [.arr (.pair I64 (.pair I64 (.pair I64 (.pair I64 I64))))]⟩⟩
def l64_13 : Lab := ⟨[0, 1, 5], ⟨(.cons (.ref 0 (.pair I64 (.pair I64 (.pair I64 (.pair I64 I64))))) (.cons (.dat I64) (.dat I64))), [.arr (.pair I64 (.pair I64 (.pair I64 (.pair I64 I64))))]⟩⟩
def l64_3 : Lab := ⟨[0, 1, 5], ⟨(.cons (.ref 0 (.pair I64 (.pair I64 (.pair I64 (.pair I64 I64))))) (.cons (.dat I64) (.dat I64))), [.arr (.pair I64 (.pair I64 (.pair I64 (.pair I64 I64))))]⟩⟩
noncomputable def tab64 : List Ent := []
theorem tab64_ok : ∀ e ∈ tab64, Sound Go.Proofs.Try.prog e.f e.S := fun _ h => nomatch h
noncomputable def C64 : Ctx := ctxOf Go.Proofs.Try.prog tab64 Go.Proofs.Try.f64 1 [(1, l64_1), (2, l64_2), (4, l64_4), (14, l64_14), (5, l64_5), (6, l64_6), (7, l64_7), (8, l64_8), (9, l64_9), (10, l64_10), (11, l64_11), (12, l64_12), (13, l64_13), (3, l64_3)] o64
noncomputable def i64_1 : List Item := at_ (bodyOf Go.Proofs.Try.f64) [1, 0, 0] []
noncomputable def t64_1 (x0 : Int) (x1 : List (Int × Int × Int × Int × Int)) : Option ((Int) × (List (Int × Int × Int × Int × Int)) × Unit) := theT C64 i64_1 l64_1 (((), x0), (x1, ()))
noncomputable def i64_2 : List Item := at_ (bodyOf Go.Proofs.Try.f64) [1, 0, 1, 0, 0] []
noncomputable def t64_2 (x0 : Int) (x1 : Int) (x2 : List (Int × Int × Int × Int × Int)) : Option ((Int) × (List (Int × Int × Int × Int × Int)) × Unit) := theT C64 i64_2 l64_2 (((), (x0, x1)), (x2, ()))
noncomputable def i64_4 : List Item := at_ (bodyOf Go.Proofs.Try.f64) [1, 0, 1, 0, 0, 1, 0, 0, 0] []
noncomputable def t64_4 (x0 : Int) (x1 : Int) (x2 : List (Int × Int × Int × Int × Int)) : Option ((Int) × (List (Int × Int × Int × Int × Int)) × Unit) := theT C64 i64_4 l64_4 (((), (x0, x1)), (x2, ()))
noncomputable def i64_14 : List Item := at_ (bodyOf Go.Proofs.Try.f64) [1, 1, 0] []
noncomputable def t64_14 (x0 : Int) (x1 : List (Int × Int × Int × Int × Int)) : Option ((Int) × (List (Int × Int × Int × Int × Int)) × Unit) := theT C64 i64_14 l64_14 (x0, (x1, ()))
noncomputable def i64_5 : List Item := at_ (bodyOf Go.Proofs.Try.f64) [1, 0, 1, 0, 0, 1, 0, 0, 1, 0] []
noncomputable def t64_5 (x0 : Int) (x1 : Int) (x2 : List (Int × Int × Int × Int × Int)) : Option ((Int) × (List (Int × Int × Int × Int × Int)) × Unit) := theT C64 i64_5 l64_5 (((), (x0, x1)), (x2, ()))
noncomputable def i64_6 : List Item := at_ (bodyOf Go.Proofs.Try.f64) [1, 0, 1, 0, 0, 1, 0, 0, 1, 1, 0] []
noncomputable def t64_6 (x0 : Int) (x1 : Int) (x2 : List (Int × Int × Int × Int × Int)) : Option ((Int) × (List (Int × Int × Int × Int × Int)) × Unit) := theT C64 i64_6 l64_6 (((), (x0, x1)), (x2, ()))
noncomputable def i64_7 : List Item := at_ (bodyOf Go.Proofs.Try.f64) [1, 0, 1, 0, 0, 1, 0, 0, 1, 1, 1, 0] []
noncomputable def t64_7 (x0 : Int) (x1 : Int) (x2 : List (Int × Int × Int × Int × Int)) : Option ((Int) × (List (Int × Int × Int × Int × Int)) × Unit) := theT C64 i64_7 l64_7 (((), (x0, x1)), (x2, ()))
noncomputable def i64_8 : List Item := at_ (bodyOf Go.Proofs.Try.f64) [1, 0, 1, 0, 0, 1, 0, 0, 1, 1, 1, 1, 0] []
noncomputable def t64_8 (x0 : Int) (x1 : Int) (x2 : List (Int × Int × Int × Int × Int)) : Option ((Int) × (List (Int × Int × Int × Int × Int)) × Unit) := theT C64 i64_8 l64_8 (((), (x0, x1)), (x2, ()))
noncomputable def i64_9 : List Item := at_ (bodyOf Go.Proofs.Try.f64) [1, 0, 1, 0, 0, 1, 0, 0, 1, 1, 1, 1, 1, 0] []
noncomputable def t64_9 (x0 : Int) (x1 : Int) (x2 : List (Int × Int × Int × Int × Int)) : Option ((Int) × (List (Int × Int × Int × Int × Int)) × Unit) := theT C64 i64_9 l64_9 (((), (x0, x1)), (x2, ()))
noncomputable def i64_10 : List Item := at_ (bodyOf Go.Proofs.Try.f64) [1, 0, 1, 0, 0, 1, 0, 0, 1, 1, 1, 1, 1, 1, 0] []
noncomputable def t64_10 (x0 : Int) (x1 : Int) (x2 : List (Int × Int × Int × Int × Int)) : Option ((Int) × (List (Int × Int × Int × Int × Int)) × Unit) := theT C64 i64_10 l64_10 (((), (x0, x1)), (x2, ()))
noncomputable def i64_11 : List Item := at_ (bodyOf Go.Proofs.Try.f64) [1, 0, 1, 0, 0, 1, 0, 0, 1, 1, 1, 1, 1, 1, 1, 0] []
noncomputable def t64_11 (x0 : Int) (x1 : Int) (x2 : List (Int × Int × Int × Int × Int)) : Option ((Int) × (List (Int × Int × Int × Int × Int)) × Unit) := theT C64 i64_11 l64_11 (((), (x0, x1)), (x2, ()))
noncomputable def i64_12 : List Item := at_ (bodyOf Go.Proofs.Try.f64) [1, 0, 1, 0, 0, 1, 0, 0, 1, 1, 1, 1, 1, 1, 1, 1, 0] []
noncomputable def t64_12 (x0 : Int) (x1 : Int) (x2 : List (Int × Int × Int × Int × Int)) : Option ((Int) × (List (Int × Int × Int × Int × Int)) × Unit) := theT C64 i64_12 l64_12 (((), (x0, x1)), (x2, ()))
noncomputable def i64_13 : List Item := at_ (bodyOf Go.Proofs.Try.f64) [1, 0, 1, 0, 0, 1, 0, 0, 1, 1, 1, 1, 1, 1, 1, 1, 1] []
noncomputable def t64_13 (x0 : Int) (x1 : Int) (x2 : List (Int × Int × Int × Int × Int)) : Option ((Int) × (List (Int × Int × Int × Int × Int)) × Unit) := theT C64 i64_13 l64_13 (((), (x0, x1)), (x2, ()))
noncomputable def i64_3 : List Item := at_ (bodyOf Go.Proofs.Try.f64) [1, 0, 1, 0, 0, 1, 1] []
noncomputable def t64_3 (x0 : Int) (x1 : Int) (x2 : List (Int × Int × Int × Int × Int)) : Option ((Int) × (List (Int × Int × Int × Int × Int)) × Unit) := theT C64 i64_3 l64_3 (((), (x0, x1)), (x2, ()))
noncomputable def M64 (x0 : Int) (x1 : List (Int × Int × Int × Int × Int)) : Option ((Int) × (List (Int × Int × Int × Int × Int)) × Unit) := theM Go.Proofs.Try.prog tab64 [(1, l64_1), (2, l64_2), (4, l64_4), (14, l64_14), (5, l64_5), (6, l64_6), (7, l64_7), (8, l64_8), (9, l64_9), (10, l64_10), (11, l64_11), (12, l64_12), (13, l64_13), (3, l64_3)] o64 Go.Proofs.Try.f64 a64 (((), x0), (x1, ()))
noncomputable def r64 {ρ : Type} (ret : (Int) × (List (Int × Int × Int × Int × Int)) × Unit → Option ρ) (t1 : Int → (List (Int × Int × Int × Int × Int)) → Option ρ) (t2 : Int → Int → (List (Int × Int × Int × Int × Int)) → Option ρ) (t4 : Int → Int → (List (Int × Int × Int × Int × Int)) → Option ρ) (t14 : Int → (List (Int × Int × Int × Int × Int)) → Option ρ) (t5 : Int → Int → (List (Int × Int × Int × Int × Int)) → Option ρ) (t6 : Int → Int → (List (Int × Int × Int × Int × Int)) → Option ρ) (t7 : Int → Int → (List (Int × Int × Int × Int × Int)) → Option ρ) (t8 : Int → Int → (List (Int × Int × Int × Int × Int)) → Option ρ) (t9 : Int → Int → (List (Int × Int × Int × Int × Int)) → Option ρ) (t10 : Int → Int → (List (Int × Int × Int × Int × Int)) → Option ρ) (t11 : Int → Int → (List (Int × Int × Int × Int × Int)) → Option ρ) (t12 : Int → Int → (List (Int × Int × Int × Int × Int)) → Option ρ) (t13 : Int → Int → (List (Int × Int × Int × Int × Int)) → Option ρ) (t3 : Int → Int → (List (Int × Int × Int × Int × Int)) → Option ρ) (x0 : Int) (x1 : List (Int × Int × Int × Int × Int)) : Option ρ :=
  t1 x0 x1
theorem k64 (n : Nat) (x0 : Int) (x1 : List (Int × Int × Int × Int × Int)) : runF Go.Proofs.Try.prog tab64 [(1, l64_1), (2, l64_2), (4, l64_4), (14, l64_14), (5, l64_5), (6, l64_6), (7, l64_7), (8, l64_8), (9, l64_9), (10, l64_10), (11, l64_11), (12, l64_12), (13, l64_13), (3, l64_3)] o64 Go.Proofs.Try.f64 some (n + 1) (a64.vals (((), x0), (x1, ()))) (a64.roots (((), x0), (x1, ()))) = r64 (fun d => some (o64.res d)) (fun x0 x1 => run C64 some n i64_1 (l64_1.st (((), x0), (x1, ())))) (fun x0 x1 x2 => run C64 some n i64_2 (l64_2.st (((), (x0, x1)), (x2, ())))) (fun x0 x1 x2 => run C64 some n i64_4 (l64_4.st (((), (x0, x1)), (x2, ())))) (fun x0 x1 => run C64 some n i64_14 (l64_14.st (x0, (x1, ())))) (fun x0 x1 x2 => run C64 some n i64_5 (l64_5.st (((), (x0, x1)), (x2, ())))) (fun x0 x1 x2 => run C64 some n i64_6 (l64_6.st (((), (x0, x1)), (x2, ())))) (fun x0 x1 x2 => run C64 some n i64_7 (l64_7.st (((), (x0, x1)), (x2, ())))) (fun x0 x1 x2 => run C64 some n i64_8 (l64_8.st (((), (x0, x1)), (x2, ())))) (fun x0 x1 x2 => run C64 some n i64_9 (l64_9.st (((), (x0, x1)), (x2, ())))) (fun x0 x1 x2 => run C64 some n i64_10 (l64_10.st (((), (x0, x1)), (x2, ())))) (fun x0 x1 x2 => run C64 some n i64_11 (l64_11.st (((), (x0, x1)), (x2, ())))) (fun x0 x1 x2 => run C64 some n i64_12 (l64_12.st (((), (x0, x1)), (x2, ())))) (fun x0 x1 x2 => run C64 some n i64_13 (l64_13.st (((), (x0, x1)), (x2, ())))) (fun x0 x1 x2 => run C64 some n i64_3 (l64_3.st (((), (x0, x1)), (x2, ())))) x0 x1 := by kernel_rfl
theorem M64_eq (x0 : Int) (x1 : List (Int × Int × Int × Int × Int)) : M64 x0 x1 = r64 some t64_1 t64_2 t64_4 t64_14 t64_5 t64_6 t64_7 t64_8 t64_9 t64_10 t64_11 t64_12 t64_13 t64_3 x0 x1 := by
  refine (theM_eqn 1 _ fun n => k64 n x0 x1).trans ?_
  have hb : ∀ d, o64.back (o64.res d) = some d := Form.back_res fun d => ⟨_, rfl⟩
  unfold r64
  simp only [lim_cond, lim_bind, lim_const, bind_cond, Option.bind_assoc, bind_some', bind_none', hb]
  try rfl
noncomputable def r64_1 {ρ : Type} (ret : (Int) × (List (Int × Int × Int × Int × Int)) × Unit → Option ρ) (t1 : Int → (List (Int × Int × Int × Int × Int)) → Option ρ) (t2 : Int → Int → (List (Int × Int × Int × Int × Int)) → Option ρ) (t4 : Int → Int → (List (Int × Int × Int × Int × Int)) → Option ρ) (t14 : Int → (List (Int × Int × Int × Int × Int)) → Option ρ) (t5 : Int → Int → (List (Int × Int × Int × Int × Int)) → Option ρ) (t6 : Int → Int → (List (Int × Int × Int × Int × Int)) → Option ρ) (t7 : Int → Int → (List (Int × Int × Int × Int × Int)) → Option ρ) (t8 : Int → Int → (List (Int × Int × Int × Int × Int)) → Option ρ) (t9 : Int → Int → (List (Int × Int × Int × Int × Int)) → Option ρ) (t10 : Int → Int → (List (Int × Int × Int × Int × Int)) → Option ρ) (t11 : Int → Int → (List (Int × Int × Int × Int × Int)) → Option ρ) (t12 : Int → Int → (List (Int × Int × Int × Int × Int)) → Option ρ) (t13 : Int → Int → (List (Int × Int × Int × Int × Int)) → Option ρ) (t3 : Int → Int → (List (Int × Int × Int × Int × Int)) → Option ρ) (x0 : Int) (x1 : List (Int × Int × Int × Int × Int)) : Option ρ :=
  t2 x0 0 x1
theorem k64_1 (n : Nat) (x0 : Int) (x1 : List (Int × Int × Int × Int × Int)) : run C64 some (n + 1) i64_1 (l64_1.st (((), x0), (x1, ()))) = r64_1 (fun d => some (o64.res d)) (fun x0 x1 => run C64 some n i64_1 (l64_1.st (((), x0), (x1, ())))) (fun x0 x1 x2 => run C64 some n i64_2 (l64_2.st (((), (x0, x1)), (x2, ())))) (fun x0 x1 x2 => run C64 some n i64_4 (l64_4.st (((), (x0, x1)), (x2, ())))) (fun x0 x1 => run C64 some n i64_14 (l64_14.st (x0, (x1, ())))) (fun x0 x1 x2 => run C64 some n i64_5 (l64_5.st (((), (x0, x1)), (x2, ())))) (fun x0 x1 x2 => run C64 some n i64_6 (l64_6.st (((), (x0, x1)), (x2, ())))) (fun x0 x1 x2 => run C64 some n i64_7 (l64_7.st (((), (x0, x1)), (x2, ())))) (fun x0 x1 x2 => run C64 some n i64_8 (l64_8.st (((), (x0, x1)), (x2, ())))) (fun x0 x1 x2 => run C64 some n i64_9 (l64_9.st (((), (x0, x1)), (x2, ())))) (fun x0 x1 x2 => run C64 some n i64_10 (l64_10.st (((), (x0, x1)), (x2, ())))) (fun x0 x1 x2 => run C64 some n i64_11 (l64_11.st (((), (x0, x1)), (x2, ())))) (fun x0 x1 x2 => run C64 some n i64_12 (l64_12.st (((), (x0, x1)), (x2, ())))) (fun x0 x1 x2 => run C64 some n i64_13 (l64_13.st (((), (x0, x1)), (x2, ())))) (fun x0 x1 x2 => run C64 some n i64_3 (l64_3.st (((), (x0, x1)), (x2, ())))) x0 x1 := by kernel_rfl
theorem t64_1_eq (x0 : Int) (x1 : List (Int × Int × Int × Int × Int)) : t64_1 x0 x1 = r64_1 some t64_1 t64_2 t64_4 t64_14 t64_5 t64_6 t64_7 t64_8 t64_9 t64_10 t64_11 t64_12 t64_13 t64_3 x0 x1 := by
  refine (theT_eqn _ fun n => k64_1 n x0 x1).trans ?_
  have hb : ∀ d, o64.back (o64.res d) = some d := Form.back_res fun d => ⟨_, rfl⟩
  unfold r64_1
  simp only [lim_cond, lim_bind, lim_const, bind_cond, Option.bind_assoc, bind_some', bind_none', hb]
  try rfl
noncomputable def r64_2 {ρ : Type} (ret : (Int) × (List (Int × Int × Int × Int × Int)) × Unit → Option ρ) (t1 : Int → (List (Int × Int × Int × Int × Int)) → Option ρ) (t2 : Int → Int → (List (Int × Int × Int × Int × Int)) → Option ρ) (t4 : Int → Int → (List (Int × Int × Int × Int × Int)) → Option ρ) (t14 : Int → (List (Int × Int × Int × Int × Int)) → Option ρ) (t5 : Int → Int → (List (Int × Int × Int × Int × Int)) → Option ρ) (t6 : Int → Int → (List (Int × Int × Int × Int × Int)) → Option ρ) (t7 : Int → Int → (List (Int × Int × Int × Int × Int)) → Option ρ) (t8 : Int → Int → (List (Int × Int × Int × Int × Int)) → Option ρ) (t9 : Int → Int → (List (Int × Int × Int × Int × Int)) → Option ρ) (t10 : Int → Int → (List (Int × Int × Int × Int × Int)) → Option ρ) (t11 : Int → Int → (List (Int × Int × Int × Int × Int)) → Option ρ) (t12 : Int → Int → (List (Int × Int × Int × Int × Int)) → Option ρ) (t13 : Int → Int → (List (Int × Int × Int × Int × Int)) → Option ρ) (t3 : Int → Int → (List (Int × Int × Int × Int × Int)) → Option ρ) (x0 : Int) (x1 : Int) (x2 : List (Int × Int × Int × Int × Int)) : Option ρ :=
  bif decide (x1 < (↑(List.length x2) : Int)) then t4 x0 x1 x2 else t14 x0 x2
theorem k64_2 (n : Nat) (x0 : Int) (x1 : Int) (x2 : List (Int × Int × Int × Int × Int)) : run C64 some (n + 1) i64_2 (l64_2.st (((), (x0, x1)), (x2, ()))) = r64_2 (fun d => some (o64.res d)) (fun x0 x1 => run C64 some n i64_1 (l64_1.st (((), x0), (x1, ())))) (fun x0 x1 x2 => run C64 some n i64_2 (l64_2.st (((), (x0, x1)), (x2, ())))) (fun x0 x1 x2 => run C64 some n i64_4 (l64_4.st (((), (x0, x1)), (x2, ())))) (fun x0 x1 => run C64 some n i64_14 (l64_14.st (x0, (x1, ())))) (fun x0 x1 x2 => run C64 some n i64_5 (l64_5.st (((), (x0, x1)), (x2, ())))) (fun x0 x1 x2 => run C64 some n i64_6 (l64_6.st (((), (x0, x1)), (x2, ())))) (fun x0 x1 x2 => run C64 some n i64_7 (l64_7.st (((), (x0, x1)), (x2, ())))) (fun x0 x1 x2 => run C64 some n i64_8 (l64_8.st (((), (x0, x1)), (x2, ())))) (fun x0 x1 x2 => run C64 some n i64_9 (l64_9.st (((), (x0, x1)), (x2, ())))) (fun x0 x1 x2 => run C64 some n i64_10 (l64_10.st (((), (x0, x1)), (x2, ())))) (fun x0 x1 x2 => run C64 some n i64_11 (l64_11.st (((), (x0, x1)), (x2, ())))) (fun x0 x1 x2 => run C64 some n i64_12 (l64_12.st (((), (x0, x1)), (x2, ())))) (fun x0 x1 x2 => run C64 some n i64_13 (l64_13.st (((), (x0, x1)), (x2, ())))) (fun x0 x1 x2 => run C64 some n i64_3 (l64_3.st (((), (x0, x1)), (x2, ())))) x0 x1 x2 := by kernel_rfl
theorem t64_2_eq (x0 : Int) (x1 : Int) (x2 : List (Int × Int × Int × Int × Int)) : t64_2 x0 x1 x2 = r64_2 some t64_1 t64_2 t64_4 t64_14 t64_5 t64_6 t64_7 t64_8 t64_9 t64_10 t64_11 t64_12 t64_13 t64_3 x0 x1 x2 := by
  refine (theT_eqn _ fun n => k64_2 n x0 x1 x2).trans ?_
  have hb : ∀ d, o64.back (o64.res d) = some d := Form.back_res fun d => ⟨_, rfl⟩
  unfold r64_2
  simp only [lim_cond, lim_bind, lim_const, bind_cond, Option.bind_assoc, bind_some', bind_none', hb]
  try rfl
noncomputable def r64_4 {ρ : Type} (ret : (Int) × (List (Int × Int × Int × Int × Int)) × Unit → Option ρ) (t1 : Int → (List (Int × Int × Int × Int × Int)) → Option ρ) (t2 : Int → Int → (List (Int × Int × Int × Int × Int)) → Option ρ) (t4 : Int → Int → (List (Int × Int × Int × Int × Int)) → Option ρ) (t14 : Int → (List (Int × Int × Int × Int × Int)) → Option ρ) (t5 : Int → Int → (List (Int × Int × Int × Int × Int)) → Option ρ) (t6 : Int → Int → (List (Int × Int × Int × Int × Int)) → Option ρ) (t7 : Int → Int → (List (Int × Int × Int × Int × Int)) → Option ρ) (t8 : Int → Int → (List (Int × Int × Int × Int × Int)) → Option ρ) (t9 : Int → Int → (List (Int × Int × Int × Int × Int)) → Option ρ) (t10 : Int → Int → (List (Int × Int × Int × Int × Int)) → Option ρ) (t11 : Int → Int → (List (Int × Int × Int × Int × Int)) → Option ρ) (t12 : Int → Int → (List (Int × Int × Int × Int × Int)) → Option ρ) (t13 : Int → Int → (List (Int × Int × Int × Int × Int)) → Option ρ) (t3 : Int → Int → (List (Int × Int × Int × Int × Int)) → Option ρ) (x0 : Int) (x1 : Int) (x2 : List (Int × Int × Int × Int × Int)) : Option ρ :=
  bif decide (0 ≤ x1) then bif decide (x1 < (↑(List.length x2) : Int)) then t5 x0 x1 (List.set x2 (Int.toNat x1) (x0, Prod.snd (List.getD x2 (Int.toNat x1) (0, 0, 0, 0, 0)))) else none else none
theorem k64_4 (n : Nat) (x0 : Int) (x1 : Int) (x2 : List (Int × Int × Int × Int × Int)) : run C64 some (n + 1) i64_4 (l64_4.st (((), (x0, x1)), (x2, ()))) = r64_4 (fun d => some (o64.res d)) (fun x0 x1 => run C64 some n i64_1 (l64_1.st (((), x0), (x1, ())))) (fun x0 x1 x2 => run C64 some n i64_2 (l64_2.st (((), (x0, x1)), (x2, ())))) (fun x0 x1 x2 => run C64 some n i64_4 (l64_4.st (((), (x0, x1)), (x2, ())))) (fun x0 x1 => run C64 some n i64_14 (l64_14.st (x0, (x1, ())))) (fun x0 x1 x2 => run C64 some n i64_5 (l64_5.st (((), (x0, x1)), (x2, ())))) (fun x0 x1 x2 => run C64 some n i64_6 (l64_6.st (((), (x0, x1)), (x2, ())))) (fun x0 x1 x2 => run C64 some n i64_7 (l64_7.st (((), (x0, x1)), (x2, ())))) (fun x0 x1 x2 => run C64 some n i64_8 (l64_8.st (((), (x0, x1)), (x2, ())))) (fun x0 x1 x2 => run C64 some n i64_9 (l64_9.st (((), (x0, x1)), (x2, ())))) (fun x0 x1 x2 => run C64 some n i64_10 (l64_10.st (((), (x0, x1)), (x2, ())))) (fun x0 x1 x2 => run C64 some n i64_11 (l64_11.st (((), (x0, x1)), (x2, ())))) (fun x0 x1 x2 => run C64 some n i64_12 (l64_12.st (((), (x0, x1)), (x2, ())))) (fun x0 x1 x2 => run C64 some n i64_13 (l64_13.st (((), (x0, x1)), (x2, ())))) (fun x0 x1 x2 => run C64 some n i64_3 (l64_3.st (((), (x0, x1)), (x2, ())))) x0 x1 x2 := by kernel_rfl
theorem t64_4_eq (x0 : Int) (x1 : Int) (x2 : List (Int × Int × Int × Int × Int)) : t64_4 x0 x1 x2 = r64_4 some t64_1 t64_2 t64_4 t64_14 t64_5 t64_6 t64_7 t64_8 t64_9 t64_10 t64_11 t64_12 t64_13 t64_3 x0 x1 x2 := by
  refine (theT_eqn _ fun n => k64_4 n x0 x1 x2).trans ?_
  have hb : ∀ d, o64.back (o64.res d) = some d := Form.back_res fun d => ⟨_, rfl⟩
  unfold r64_4
  simp only [lim_cond, lim_bind, lim_const, bind_cond, Option.bind_assoc, bind_some', bind_none', hb]
  try rfl
noncomputable def r64_14 {ρ : Type} (ret : (Int) × (List (Int × Int × Int × Int × Int)) × Unit → Option ρ) (t1 : Int → (List (Int × Int × Int × Int × Int)) → Option ρ) (t2 : Int → Int → (List (Int × Int × Int × Int × Int)) → Option ρ) (t4 : Int → Int → (List (Int × Int × Int × Int × Int)) → Option ρ) (t14 : Int → (List (Int × Int × Int × Int × Int)) → Option ρ) (t5 : Int → Int → (List (Int × Int × Int × Int × Int)) → Option ρ) (t6 : Int → Int → (List (Int × Int × Int × Int × Int)) → Option ρ) (t7 : Int → Int → (List (Int × Int × Int × Int × Int)) → Option ρ) (t8 : Int → Int → (List (Int × Int × Int × Int × Int)) → Option ρ) (t9 : Int → Int → (List (Int × Int × Int × Int × Int)) → Option ρ) (t10 : Int → Int → (List (Int × Int × Int × Int × Int)) → Option ρ) (t11 : Int → Int → (List (Int × Int × Int × Int × Int)) → Option ρ) (t12 : Int → Int → (List (Int × Int × Int × Int × Int)) → Option ρ) (t13 : Int → Int → (List (Int × Int × Int × Int × Int)) → Option ρ) (t3 : Int → Int → (List (Int × Int × Int × Int × Int)) → Option ρ) (x0 : Int) (x1 : List (Int × Int × Int × Int × Int)) : Option ρ :=
  ret (x0, x1, ())
theorem k64_14 (n : Nat) (x0 : Int) (x1 : List (Int × Int × Int × Int × Int)) : run C64 some (n + 1) i64_14 (l64_14.st (x0, (x1, ()))) = r64_14 (fun d => some (o64.res d)) (fun x0 x1 => run C64 some n i64_1 (l64_1.st (((), x0), (x1, ())))) (fun x0 x1 x2 => run C64 some n i64_2 (l64_2.st (((), (x0, x1)), (x2, ())))) (fun x0 x1 x2 => run C64 some n i64_4 (l64_4.st (((), (x0, x1)), (x2, ())))) (fun x0 x1 => run C64 some n i64_14 (l64_14.st (x0, (x1, ())))) (fun x0 x1 x2 => run C64 some n i64_5 (l64_5.st (((), (x0, x1)), (x2, ())))) (fun x0 x1 x2 => run C64 some n i64_6 (l64_6.st (((), (x0, x1)), (x2, ())))) (fun x0 x1 x2 => run C64 some n i64_7 (l64_7.st (((), (x0, x1)), (x2, ())))) (fun x0 x1 x2 => run C64 some n i64_8 (l64_8.st (((), (x0, x1)), (x2, ())))) (fun x0 x1 x2 => run C64 some n i64_9 (l64_9.st (((), (x0, x1)), (x2, ())))) (fun x0 x1 x2 => run C64 some n i64_10 (l64_10.st (((), (x0, x1)), (x2, ())))) (fun x0 x1 x2 => run C64 some n i64_11 (l64_11.st (((), (x0, x1)), (x2, ())))) (fun x0 x1 x2 => run C64 some n i64_12 (l64_12.st (((), (x0, x1)), (x2, ())))) (fun x0 x1 x2 => run C64 some n i64_13 (l64_13.st (((), (x0, x1)), (x2, ())))) (fun x0 x1 x2 => run C64 some n i64_3 (l64_3.st (((), (x0, x1)), (x2, ())))) x0 x1 := by kernel_rfl
theorem t64_14_eq (x0 : Int) (x1 : List (Int × Int × Int × Int × Int)) : t64_14 x0 x1 = r64_14 some t64_1 t64_2 t64_4 t64_14 t64_5 t64_6 t64_7 t64_8 t64_9 t64_10 t64_11 t64_12 t64_13 t64_3 x0 x1 := by
  refine (theT_eqn _ fun n => k64_14 n x0 x1).trans ?_
  have hb : ∀ d, o64.back (o64.res d) = some d := Form.back_res fun d => ⟨_, rfl⟩
  unfold r64_14
  simp only [lim_cond, lim_bind, lim_const, bind_cond, Option.bind_assoc, bind_some', bind_none', hb]
  try rfl
noncomputable def r64_5 {ρ : Type} (ret : (Int) × (List (Int × Int × Int × Int × Int)) × Unit → Option ρ) (t1 : Int → (List (Int × Int × Int × Int × Int)) → Option ρ) (t2 : Int → Int → (List (Int × Int × Int × Int × Int)) → Option ρ) (t4 : Int → Int → (List (Int × Int × Int × Int × Int)) → Option ρ) (t14 : Int → (List (Int × Int × Int × Int × Int)) → Option ρ) (t5 : Int → Int → (List (Int × Int × Int × Int × Int)) → Option ρ) (t6 : Int → Int → (List (Int × Int × Int × Int × Int)) → Option ρ) (t7 : Int → Int → (List (Int × Int × Int × Int × Int)) → Option ρ) (t8 : Int → Int → (List (Int × Int × Int × Int × Int)) → Option ρ) (t9 : Int → Int → (List (Int × Int × Int × Int × Int)) → Option ρ) (t10 : Int → Int → (List (Int × Int × Int × Int × Int)) → Option ρ) (t11 : Int → Int → (List (Int × Int × Int × Int × Int)) → Option ρ) (t12 : Int → Int → (List (Int × Int × Int × Int × Int)) → Option ρ) (t13 : Int → Int → (List (Int × Int × Int × Int × Int)) → Option ρ) (t3 : Int → Int → (List (Int × Int × Int × Int × Int)) → Option ρ) (x0 : Int) (x1 : Int) (x2 : List (Int × Int × Int × Int × Int)) : Option ρ :=
  t6 (IntKind.wrap IntKind.i64 (x0 + 1)) x1 x2
theorem k64_5 (n : Nat) (x0 : Int) (x1 : Int) (x2 : List (Int × Int × Int × Int × Int)) : run C64 some (n + 1) i64_5 (l64_5.st (((), (x0, x1)), (x2, ()))) = r64_5 (fun d => some (o64.res d)) (fun x0 x1 => run C64 some n i64_1 (l64_1.st (((), x0), (x1, ())))) (fun x0 x1 x2 => run C64 some n i64_2 (l64_2.st (((), (x0, x1)), (x2, ())))) (fun x0 x1 x2 => run C64 some n i64_4 (l64_4.st (((), (x0, x1)), (x2, ())))) (fun x0 x1 => run C64 some n i64_14 (l64_14.st (x0, (x1, ())))) (fun x0 x1 x2 => run C64 some n i64_5 (l64_5.st (((), (x0, x1)), (x2, ())))) (fun x0 x1 x2 => run C64 some n i64_6 (l64_6.st (((), (x0, x1)), (x2, ())))) (fun x0 x1 x2 => run C64 some n i64_7 (l64_7.st (((), (x0, x1)), (x2, ())))) (fun x0 x1 x2 => run C64 some n i64_8 (l64_8.st (((), (x0, x1)), (x2, ())))) (fun x0 x1 x2 => run C64 some n i64_9 (l64_9.st (((), (x0, x1)), (x2, ())))) (fun x0 x1 x2 => run C64 some n i64_10 (l64_10.st (((), (x0, x1)), (x2, ())))) (fun x0 x1 x2 => run C64 some n i64_11 (l64_11.st (((), (x0, x1)), (x2, ())))) (fun x0 x1 x2 => run C64 some n i64_12 (l64_12.st (((), (x0, x1)), (x2, ())))) (fun x0 x1 x2 => run C64 some n i64_13 (l64_13.st (((), (x0, x1)), (x2, ())))) (fun x0 x1 x2 => run C64 some n i64_3 (l64_3.st (((), (x0, x1)), (x2, ())))) x0 x1 x2 := by kernel_rfl
theorem t64_5_eq (x0 : Int) (x1 : Int) (x2 : List (Int × Int × Int × Int × Int)) : t64_5 x0 x1 x2 = r64_5 some t64_1 t64_2 t64_4 t64_14 t64_5 t64_6 t64_7 t64_8 t64_9 t64_10 t64_11 t64_12 t64_13 t64_3 x0 x1 x2 := by
  refine (theT_eqn _ fun n => k64_5 n x0 x1 x2).trans ?_
  have hb : ∀ d, o64.back (o64.res d) = some d := Form.back_res fun d => ⟨_, rfl⟩
  unfold r64_5
  simp only [lim_cond, lim_bind, lim_const, bind_cond, Option.bind_assoc, bind_some', bind_none', hb]
  try rfl
noncomputable def r64_6 {ρ : Type} (ret : (Int) × (List (Int × Int × Int × Int × Int)) × Unit → Option ρ) (t1 : Int → (List (Int × Int × Int × Int × Int)) → Option ρ) (t2 : Int → Int → (List (Int × Int × Int × Int × Int)) → Option ρ) (t4 : Int → Int → (List (Int × Int × Int × Int × Int)) → Option ρ) (t14 : Int → (List (Int × Int × Int × Int × Int)) → Option ρ) (t5 : Int → Int → (List (Int × Int × Int × Int × Int)) → Option ρ) (t6 : Int → Int → (List (Int × Int × Int × Int × Int)) → Option ρ) (t7 : Int → Int → (List (Int × Int × Int × Int × Int)) → Option ρ) (t8 : Int → Int → (List (Int × Int × Int × Int × Int)) → Option ρ) (t9 : Int → Int → (List (Int × Int × Int × Int × Int)) → Option ρ) (t10 : Int → Int → (List (Int × Int × Int × Int × Int)) → Option ρ) (t11 : Int → Int → (List (Int × Int × Int × Int × Int)) → Option ρ) (t12 : Int → Int → (List (Int × Int × Int × Int × Int)) → Option ρ) (t13 : Int → Int → (List (Int × Int × Int × Int × Int)) → Option ρ) (t3 : Int → Int → (List (Int × Int × Int × Int × Int)) → Option ρ) (x0 : Int) (x1 : Int) (x2 : List (Int × Int × Int × Int × Int)) : Option ρ :=
  bif decide (0 ≤ x1) then bif decide (x1 < (↑(List.length x2) : Int)) then t7 x0 x1 (List.set x2 (Int.toNat x1) (Prod.fst (List.getD x2 (Int.toNat x1) (0, 0, 0, 0, 0)), x0, Prod.snd (Prod.snd (List.getD x2 (Int.toNat x1) (0, 0, 0, 0, 0))))) else none else none
theorem k64_6 (n : Nat) (x0 : Int) (x1 : Int) (x2 : List (Int × Int × Int × Int × Int)) : run C64 some (n + 1) i64_6 (l64_6.st (((), (x0, x1)), (x2, ()))) = r64_6 (fun d => some (o64.res d)) (fun x0 x1 => run C64 some n i64_1 (l64_1.st (((), x0), (x1, ())))) (fun x0 x1 x2 => run C64 some n i64_2 (l64_2.st (((), (x0, x1)), (x2, ())))) (fun x0 x1 x2 => run C64 some n i64_4 (l64_4.st (((), (x0, x1)), (x2, ())))) (fun x0 x1 => run C64 some n i64_14 (l64_14.st (x0, (x1, ())))) (fun x0 x1 x2 => run C64 some n i64_5 (l64_5.st (((), (x0, x1)), (x2, ())))) (fun x0 x1 x2 => run C64 some n i64_6 (l64_6.st (((), (x0, x1)), (x2, ())))) (fun x0 x1 x2 => run C64 some n i64_7 (l64_7.st (((), (x0, x1)), (x2, ())))) (fun x0 x1 x2 => run C64 some n i64_8 (l64_8.st (((), (x0, x1)), (x2, ())))) (fun x0 x1 x2 => run C64 some n i64_9 (l64_9.st (((), (x0, x1)), (x2, ())))) (fun x0 x1 x2 => run C64 some n i64_10 (l64_10.st (((), (x0, x1)), (x2, ())))) (fun x0 x1 x2 => run C64 some n i64_11 (l64_11.st (((), (x0, x1)), (x2, ())))) (fun x0 x1 x2 => run C64 some n i64_12 (l64_12.st (((), (x0, x1)), (x2, ())))) (fun x0 x1 x2 => run C64 some n i64_13 (l64_13.st (((), (x0, x1)), (x2, ())))) (fun x0 x1 x2 => run C64 some n i64_3 (l64_3.st (((), (x0, x1)), (x2, ())))) x0 x1 x2 := by kernel_rfl
theorem t64_6_eq (x0 : Int) (x1 : Int) (x2 : List (Int × Int × Int × Int × Int)) : t64_6 x0 x1 x2 = r64_6 some t64_1 t64_2 t64_4 t64_14 t64_5 t64_6 t64_7 t64_8 t64_9 t64_10 t64_11 t64_12 t64_13 t64_3 x0 x1 x2 := by
  refine (theT_eqn _ fun n => k64_6 n x0 x1 x2).trans ?_
  have hb : ∀ d, o64.back (o64.res d) = some d := Form.back_res fun d => ⟨_, rfl⟩
  unfold r64_6
  simp only [lim_cond, lim_bind, lim_const, bind_cond, Option.bind_assoc, bind_some', bind_none', hb]
  try rfl
noncomputable def r64_7 {ρ : Type} (ret : (Int) × (List (Int × Int × Int × Int × Int)) × Unit → Option ρ) (t1 : Int → (List (Int × Int × Int × Int × Int)) → Option ρ) (t2 : Int → Int → (List (Int × Int × Int × Int × Int)) → Option ρ) (t4 : Int → Int → (List (Int × Int × Int × Int × Int)) → Option ρ) (t14 : Int → (List (Int × Int × Int × Int × Int)) → Option ρ) (t5 : Int → Int → (List (Int × Int × Int × Int × Int)) → Option ρ) (t6 : Int → Int → (List (Int × Int × Int × Int × Int)) → Option ρ) (t7 : Int → Int → (List (Int × Int × Int × Int × Int)) → Option ρ) (t8 : Int → Int → (List (Int × Int × Int × Int × Int)) → Option ρ) (t9 : Int → Int → (List (Int × Int × Int × Int × Int)) → Option ρ) (t10 : Int → Int → (List (Int × Int × Int × Int × Int)) → Option ρ) (t11 : Int → Int → (List (Int × Int × Int × Int × Int)) → Option ρ) (t12 : Int → Int → (List (Int × Int × Int × Int × Int)) → Option ρ) (t13 : Int → Int → (List (Int × Int × Int × Int × Int)) → Option ρ) (t3 : Int → Int → (List (Int × Int × Int × Int × Int)) → Option ρ) (x0 : Int) (x1 : Int) (x2 : List (Int × Int × Int × Int × Int)) : Option ρ :=
  t8 (IntKind.wrap IntKind.i64 (x0 + 1)) x1 x2
theorem k64_7 (n : Nat) (x0 : Int) (x1 : Int) (x2 : List (Int × Int × Int × Int × Int)) : run C64 some (n + 1) i64_7 (l64_7.st (((), (x0, x1)), (x2, ()))) = r64_7 (fun d => some (o64.res d)) (fun x0 x1 => run C64 some n i64_1 (l64_1.st (((), x0), (x1, ())))) (fun x0 x1 x2 => run C64 some n i64_2 (l64_2.st (((), (x0, x1)), (x2, ())))) (fun x0 x1 x2 => run C64 some n i64_4 (l64_4.st (((), (x0, x1)), (x2, ())))) (fun x0 x1 => run C64 some n i64_14 (l64_14.st (x0, (x1, ())))) (fun x0 x1 x2 => run C64 some n i64_5 (l64_5.st (((), (x0, x1)), (x2, ())))) (fun x0 x1 x2 => run C64 some n i64_6 (l64_6.st (((), (x0, x1)), (x2, ())))) (fun x0 x1 x2 => run C64 some n i64_7 (l64_7.st (((), (x0, x1)), (x2, ())))) (fun x0 x1 x2 => run C64 some n i64_8 (l64_8.st (((), (x0, x1)), (x2, ())))) (fun x0 x1 x2 => run C64 some n i64_9 (l64_9.st (((), (x0, x1)), (x2, ())))) (fun x0 x1 x2 => run C64 some n i64_10 (l64_10.st (((), (x0, x1)), (x2, ())))) (fun x0 x1 x2 => run C64 some n i64_11 (l64_11.st (((), (x0, x1)), (x2, ())))) (fun x0 x1 x2 => run C64 some n i64_12 (l64_12.st (((), (x0, x1)), (x2, ())))) (fun x0 x1 x2 => run C64 some n i64_13 (l64_13.st (((), (x0, x1)), (x2, ())))) (fun x0 x1 x2 => run C64 some n i64_3 (l64_3.st (((), (x0, x1)), (x2, ())))) x0 x1 x2 := by kernel_rfl
theorem t64_7_eq (x0 : Int) (x1 : Int) (x2 : List (Int × Int × Int × Int × Int)) : t64_7 x0 x1 x2 = r64_7 some t64_1 t64_2 t64_4 t64_14 t64_5 t64_6 t64_7 t64_8 t64_9 t64_10 t64_11 t64_12 t64_13 t64_3 x0 x1 x2 := by
  refine (theT_eqn _ fun n => k64_7 n x0 x1 x2).trans ?_
  have hb : ∀ d, o64.back (o64.res d) = some d := Form.back_res fun d => ⟨_, rfl⟩
  unfold r64_7
  simp only [lim_cond, lim_bind, lim_const, bind_cond, Option.bind_assoc, bind_some', bind_none', hb]
  try rfl
noncomputable def r64_8 {ρ : Type} (ret : (Int) × (List (Int × Int × Int × Int × Int)) × Unit → Option ρ) (t1 : Int → (List (Int × Int × Int × Int × Int)) → Option ρ) (t2 : Int → Int → (List (Int × Int × Int × Int × Int)) → Option ρ) (t4 : Int → Int → (List (Int × Int × Int × Int × Int)) → Option ρ) (t14 : Int → (List (Int × Int × Int × Int × Int)) → Option ρ) (t5 : Int → Int → (List (Int × Int × Int × Int × Int)) → Option ρ) (t6 : Int → Int → (List (Int × Int × Int × Int × Int)) → Option ρ) (t7 : Int → Int → (List (Int × Int × Int × Int × Int)) → Option ρ) (t8 : Int → Int → (List (Int × Int × Int × Int × Int)) → Option ρ) (t9 : Int → Int → (List (Int × Int × Int × Int × Int)) → Option ρ) (t10 : Int → Int → (List (Int × Int × Int × Int × Int)) → Option ρ) (t11 : Int → Int → (List (Int × Int × Int × Int × Int)) → Option ρ) (t12 : Int → Int → (List (Int × Int × Int × Int × Int)) → Option ρ) (t13 : Int → Int → (List (Int × Int × Int × Int × Int)) → Option ρ) (t3 : Int → Int → (List (Int × Int × Int × Int × Int)) → Option ρ) (x0 : Int) (x1 : Int) (x2 : List (Int × Int × Int × Int × Int)) : Option ρ :=
  bif decide (0 ≤ x1) then bif decide (x1 < (↑(List.length x2) : Int)) then t9 x0 x1 (List.set x2 (Int.toNat x1) (Prod.fst (List.getD x2 (Int.toNat x1) (0, 0, 0, 0, 0)), Prod.fst (Prod.snd (List.getD x2 (Int.toNat x1) (0, 0, 0, 0, 0))), x0, Prod.snd (Prod.snd (Prod.snd (List.getD x2 (Int.toNat x1) (0, 0, 0, 0, 0)))))) else none else none
theorem k64_8 (n : Nat) (x0 : Int) (x1 : Int) (x2 : List (Int × Int × Int × Int × Int)) : run C64 some (n + 1) i64_8 (l64_8.st (((), (x0, x1)), (x2, ()))) = r64_8 (fun d => some (o64.res d)) (fun x0 x1 => run C64 some n i64_1 (l64_1.st (((), x0), (x1, ())))) (fun x0 x1 x2 => run C64 some n i64_2 (l64_2.st (((), (x0, x1)), (x2, ())))) (fun x0 x1 x2 => run C64 some n i64_4 (l64_4.st (((), (x0, x1)), (x2, ())))) (fun x0 x1 => run C64 some n i64_14 (l64_14.st (x0, (x1, ())))) (fun x0 x1 x2 => run C64 some n i64_5 (l64_5.st (((), (x0, x1)), (x2, ())))) (fun x0 x1 x2 => run C64 some n i64_6 (l64_6.st (((), (x0, x1)), (x2, ())))) (fun x0 x1 x2 => run C64 some n i64_7 (l64_7.st (((), (x0, x1)), (x2, ())))) (fun x0 x1 x2 => run C64 some n i64_8 (l64_8.st (((), (x0, x1)), (x2, ())))) (fun x0 x1 x2 => run C64 some n i64_9 (l64_9.st (((), (x0, x1)), (x2, ())))) (fun x0 x1 x2 => run C64 some n i64_10 (l64_10.st (((), (x0, x1)), (x2, ())))) (fun x0 x1 x2 => run C64 some n i64_11 (l64_11.st (((), (x0, x1)), (x2, ())))) (fun x0 x1 x2 => run C64 some n i64_12 (l64_12.st (((), (x0, x1)), (x2, ())))) (fun x0 x1 x2 => run C64 some n i64_13 (l64_13.st (((), (x0, x1)), (x2, ())))) (fun x0 x1 x2 => run C64 some n i64_3 (l64_3.st (((), (x0, x1)), (x2, ())))) x0 x1 x2 := by kernel_rfl
theorem t64_8_eq (x0 : Int) (x1 : Int) (x2 : List (Int × Int × Int × Int × Int)) : t64_8 x0 x1 x2 = r64_8 some t64_1 t64_2 t64_4 t64_14 t64_5 t64_6 t64_7 t64_8 t64_9 t64_10 t64_11 t64_12 t64_13 t64_3 x0 x1 x2 := by
  refine (theT_eqn _ fun n => k64_8 n x0 x1 x2).trans ?_
  have hb : ∀ d, o64.back (o64.res d) = some d := Form.back_res fun d => ⟨_, rfl⟩
  unfold r64_8
  simp only [lim_cond, lim_bind, lim_const, bind_cond, Option.bind_assoc, bind_some', bind_none', hb]
  try rfl
noncomputable def r64_9 {ρ : Type} (ret : (Int) × (List (Int × Int × Int × Int × Int)) × Unit → Option ρ) (t1 : Int → (List (Int × Int × Int × Int × Int)) → Option ρ) (t2 : Int → Int → (List (Int × Int × Int × Int × Int)) → Option ρ) (t4 : Int → Int → (List (Int × Int × Int × Int × Int)) → Option ρ) (t14 : Int → (List (Int × Int × Int × Int × Int)) → Option ρ) (t5 : Int → Int → (List (Int × Int × Int × Int × Int)) → Option ρ) (t6 : Int → Int → (List (Int × Int × Int × Int × Int)) → Option ρ) (t7 : Int → Int → (List (Int × Int × Int × Int × Int)) → Option ρ) (t8 : Int → Int → (List (Int × Int × Int × Int × Int)) → Option ρ) (t9 : Int → Int → (List (Int × Int × Int × Int × Int)) → Option ρ) (t10 : Int → Int → (List (Int × Int × Int × Int × Int)) → Option ρ) (t11 : Int → Int → (List (Int × Int × Int × Int × Int)) → Option ρ) (t12 : Int → Int → (List (Int × Int × Int × Int × Int)) → Option ρ) (t13 : Int → Int → (List (Int × Int × Int × Int × Int)) → Option ρ) (t3 : Int → Int → (List (Int × Int × Int × Int × Int)) → Option ρ) (x0 : Int) (x1 : Int) (x2 : List (Int × Int × Int × Int × Int)) : Option ρ :=
  t10 (IntKind.wrap IntKind.i64 (x0 + 1)) x1 x2
theorem k64_9 (n : Nat) (x0 : Int) (x1 : Int) (x2 : List (Int × Int × Int × Int × Int)) : run C64 some (n + 1) i64_9 (l64_9.st (((), (x0, x1)), (x2, ()))) = r64_9 (fun d => some (o64.res d)) (fun x0 x1 => run C64 some n i64_1 (l64_1.st (((), x0), (x1, ())))) (fun x0 x1 x2 => run C64 some n i64_2 (l64_2.st (((), (x0, x1)), (x2, ())))) (fun x0 x1 x2 => run C64 some n i64_4 (l64_4.st (((), (x0, x1)), (x2, ())))) (fun x0 x1 => run C64 some n i64_14 (l64_14.st (x0, (x1, ())))) (fun x0 x1 x2 => run C64 some n i64_5 (l64_5.st (((), (x0, x1)), (x2, ())))) (fun x0 x1 x2 => run C64 some n i64_6 (l64_6.st (((), (x0, x1)), (x2, ())))) (fun x0 x1 x2 => run C64 some n i64_7 (l64_7.st (((), (x0, x1)), (x2, ())))) (fun x0 x1 x2 => run C64 some n i64_8 (l64_8.st (((), (x0, x1)), (x2, ())))) (fun x0 x1 x2 => run C64 some n i64_9 (l64_9.st (((), (x0, x1)), (x2, ())))) (fun x0 x1 x2 => run C64 some n i64_10 (l64_10.st (((), (x0, x1)), (x2, ())))) (fun x0 x1 x2 => run C64 some n i64_11 (l64_11.st (((), (x0, x1)), (x2, ())))) (fun x0 x1 x2 => run C64 some n i64_12 (l64_12.st (((), (x0, x1)), (x2, ())))) (fun x0 x1 x2 => run C64 some n i64_13 (l64_13.st (((), (x0, x1)), (x2, ())))) (fun x0 x1 x2 => run C64 some n i64_3 (l64_3.st (((), (x0, x1)), (x2, ())))) x0 x1 x2 := by kernel_rfl
theorem t64_9_eq (x0 : Int) (x1 : Int) (x2 : List (Int × Int × Int × Int × Int)) : t64_9 x0 x1 x2 = r64_9 some t64_1 t64_2 t64_4 t64_14 t64_5 t64_6 t64_7 t64_8 t64_9 t64_10 t64_11 t64_12 t64_13 t64_3 x0 x1 x2 := by
  refine (theT_eqn _ fun n => k64_9 n x0 x1 x2).trans ?_
  have hb : ∀ d, o64.back (o64.res d) = some d := Form.back_res fun d => ⟨_, rfl⟩
  unfold r64_9
  simp only [lim_cond, lim_bind, lim_const, bind_cond, Option.bind_assoc, bind_some', bind_none', hb]
  try rfl
noncomputable def r64_10 {ρ : Type} (ret : (Int) × (List (Int × Int × Int × Int × Int)) × Unit → Option ρ) (t1 : Int → (List (Int × Int × Int × Int × Int)) → Option ρ) (t2 : Int → Int → (List (Int × Int × Int × Int × Int)) → Option ρ) (t4 : Int → Int → (List (Int × Int × Int × Int × Int)) → Option ρ) (t14 : Int → (List (Int × Int × Int × Int × Int)) → Option ρ) (t5 : Int → Int → (List (Int × Int × Int × Int × Int)) → Option ρ) (t6 : Int → Int → (List (Int × Int × Int × Int × Int)) → Option ρ) (t7 : Int → Int → (List (Int × Int × Int × Int × Int)) → Option ρ) (t8 : Int → Int → (List (Int × Int × Int × Int × Int)) → Option ρ) (t9 : Int → Int → (List (Int × Int × Int × Int × Int)) → Option ρ) (t10 : Int → Int → (List (Int × Int × Int × Int × Int)) → Option ρ) (t11 : Int → Int → (List (Int × Int × Int × Int × Int)) → Option ρ) (t12 : Int → Int → (List (Int × Int × Int × Int × Int)) → Option ρ) (t13 : Int → Int → (List (Int × Int × Int × Int × Int)) → Option ρ) (t3 : Int → Int → (List (Int × Int × Int × Int × Int)) → Option ρ) (x0 : Int) (x1 : Int) (x2 : List (Int × Int × Int × Int × Int)) : Option ρ :=
  bif decide (0 ≤ x1) then bif decide (x1 < (↑(List.length x2) : Int)) then t11 x0 x1 (List.set x2 (Int.toNat x1) (Prod.fst (List.getD x2 (Int.toNat x1) (0, 0, 0, 0, 0)), Prod.fst (Prod.snd (List.getD x2 (Int.toNat x1) (0, 0, 0, 0, 0))), Prod.fst (Prod.snd (Prod.snd (List.getD x2 (Int.toNat x1) (0, 0, 0, 0, 0)))), x0, Prod.snd (Prod.snd (Prod.snd (Prod.snd (List.getD x2 (Int.toNat x1) (0, 0, 0, 0, 0))))))) else none else none
theorem k64_10 (n : Nat) (x0 : Int) (x1 : Int) (x2 : List (Int × Int × Int × Int × Int)) : run C64 some (n + 1) i64_10 (l64_10.st (((), (x0, x1)), (x2, ()))) = r64_10 (fun d => some (o64.res d)) (fun x0 x1 => run C64 some n i64_1 (l64_1.st (((), x0), (x1, ())))) (fun x0 x1 x2 => run C64 some n i64_2 (l64_2.st (((), (x0, x1)), (x2, ())))) (fun x0 x1 x2 => run C64 some n i64_4 (l64_4.st (((), (x0, x1)), (x2, ())))) (fun x0 x1 => run C64 some n i64_14 (l64_14.st (x0, (x1, ())))) (fun x0 x1 x2 => run C64 some n i64_5 (l64_5.st (((), (x0, x1)), (x2, ())))) (fun x0 x1 x2 => run C64 some n i64_6 (l64_6.st (((), (x0, x1)), (x2, ())))) (fun x0 x1 x2 => run C64 some n i64_7 (l64_7.st (((), (x0, x1)), (x2, ())))) (fun x0 x1 x2 => run C64 some n i64_8 (l64_8.st (((), (x0, x1)), (x2, ())))) (fun x0 x1 x2 => run C64 some n i64_9 (l64_9.st (((), (x0, x1)), (x2, ())))) (fun x0 x1 x2 => run C64 some n i64_10 (l64_10.st (((), (x0, x1)), (x2, ())))) (fun x0 x1 x2 => run C64 some n i64_11 (l64_11.st (((), (x0, x1)), (x2, ())))) (fun x0 x1 x2 => run C64 some n i64_12 (l64_12.st (((), (x0, x1)), (x2, ())))) (fun x0 x1 x2 => run C64 some n i64_13 (l64_13.st (((), (x0, x1)), (x2, ())))) (fun x0 x1 x2 => run C64 some n i64_3 (l64_3.st (((), (x0, x1)), (x2, ())))) x0 x1 x2 := by kernel_rfl
theorem t64_10_eq (x0 : Int) (x1 : Int) (x2 : List (Int × Int × Int × Int × Int)) : t64_10 x0 x1 x2 = r64_10 some t64_1 t64_2 t64_4 t64_14 t64_5 t64_6 t64_7 t64_8 t64_9 t64_10 t64_11 t64_12 t64_13 t64_3 x0 x1 x2 := by
  refine (theT_eqn _ fun n => k64_10 n x0 x1 x2).trans ?_
  have hb : ∀ d, o64.back (o64.res d) = some d := Form.back_res fun d => ⟨_, rfl⟩
  unfold r64_10
  simp only [lim_cond, lim_bind, lim_const, bind_cond, Option.bind_assoc, bind_some', bind_none', hb]
  try rfl
noncomputable def r64_11 {ρ : Type} (ret : (Int) × (List (Int × Int × Int × Int × Int)) × Unit → Option ρ) (t1 : Int → (List (Int × Int × Int × Int × Int)) → Option ρ) (t2 : Int → Int → (List (Int × Int × Int × Int × Int)) → Option ρ) (t4 : Int → Int → (List (Int × Int × Int × Int × Int)) → Option ρ) (t14 : Int → (List (Int × Int × Int × Int × Int)) → Option ρ) (t5 : Int → Int → (List (Int × Int × Int × Int × Int)) → Option ρ) (t6 : Int → Int → (List (Int × Int × Int × Int × Int)) → Option ρ) (t7 : Int → Int → (List (Int × Int × Int × Int × Int)) → Option ρ) (t8 : Int → Int → (List (Int × Int × Int × Int × Int)) → Option ρ) (t9 : Int → Int → (List (Int × Int × Int × Int × Int)) → Option ρ) (t10 : Int → Int → (List (Int × Int × Int × Int × Int)) → Option ρ) (t11 : Int → Int → (List (Int × Int × Int × Int × Int)) → Option ρ) (t12 : Int → Int → (List (Int × Int × Int × Int × Int)) → Option ρ) (t13 : Int → Int → (List (Int × Int × Int × Int × Int)) → Option ρ) (t3 : Int → Int → (List (Int × Int × Int × Int × Int)) → Option ρ) (x0 : Int) (x1 : Int) (x2 : List (Int × Int × Int × Int × Int)) : Option ρ :=
  t12 (IntKind.wrap IntKind.i64 (x0 + 1)) x1 x2
theorem k64_11 (n : Nat) (x0 : Int) (x1 : Int) (x2 : List (Int × Int × Int × Int × Int)) : run C64 some (n + 1) i64_11 (l64_11.st (((), (x0, x1)), (x2, ()))) = r64_11 (fun d => some (o64.res d)) (fun x0 x1 => run C64 some n i64_1 (l64_1.st (((), x0), (x1, ())))) (fun x0 x1 x2 => run C64 some n i64_2 (l64_2.st (((), (x0, x1)), (x2, ())))) (fun x0 x1 x2 => run C64 some n i64_4 (l64_4.st (((), (x0, x1)), (x2, ())))) (fun x0 x1 => run C64 some n i64_14 (l64_14.st (x0, (x1, ())))) (fun x0 x1 x2 => run C64 some n i64_5 (l64_5.st (((), (x0, x1)), (x2, ())))) (fun x0 x1 x2 => run C64 some n i64_6 (l64_6.st (((), (x0, x1)), (x2, ())))) (fun x0 x1 x2 => run C64 some n i64_7 (l64_7.st (((), (x0, x1)), (x2, ())))) (fun x0 x1 x2 => run C64 some n i64_8 (l64_8.st (((), (x0, x1)), (x2, ())))) (fun x0 x1 x2 => run C64 some n i64_9 (l64_9.st (((), (x0, x1)), (x2, ())))) (fun x0 x1 x2 => run C64 some n i64_10 (l64_10.st (((), (x0, x1)), (x2, ())))) (fun x0 x1 x2 => run C64 some n i64_11 (l64_11.st (((), (x0, x1)), (x2, ())))) (fun x0 x1 x2 => run C64 some n i64_12 (l64_12.st (((), (x0, x1)), (x2, ())))) (fun x0 x1 x2 => run C64 some n i64_13 (l64_13.st (((), (x0, x1)), (x2, ())))) (fun x0 x1 x2 => run C64 some n i64_3 (l64_3.st (((), (x0, x1)), (x2, ())))) x0 x1 x2 := by kernel_rfl
theorem t64_11_eq (x0 : Int) (x1 : Int) (x2 : List (Int × Int × Int × Int × Int)) : t64_11 x0 x1 x2 = r64_11 some t64_1 t64_2 t64_4 t64_14 t64_5 t64_6 t64_7 t64_8 t64_9 t64_10 t64_11 t64_12 t64_13 t64_3 x0 x1 x2 := by
  refine (theT_eqn _ fun n => k64_11 n x0 x1 x2).trans ?_
  have hb : ∀ d, o64.back (o64.res d) = some d := Form.back_res fun d => ⟨_, rfl⟩
  unfold r64_11
  simp only [lim_cond, lim_bind, lim_const, bind_cond, Option.bind_assoc, bind_some', bind_none', hb]
  try rfl
noncomputable def r64_12 {ρ : Type} (ret : (Int) × (List (Int × Int × Int × Int × Int)) × Unit → Option ρ) (t1 : Int → (List (Int × Int × Int × Int × Int)) → Option ρ) (t2 : Int → Int → (List (Int × Int × Int × Int × Int)) → Option ρ) (t4 : Int → Int → (List (Int × Int × Int × Int × Int)) → Option ρ) (t14 : Int → (List (Int × Int × Int × Int × Int)) → Option ρ) (t5 : Int → Int → (List (Int × Int × Int × Int × Int)) → Option ρ) (t6 : Int → Int → (List (Int × Int × Int × Int × Int)) → Option ρ) (t7 : Int → Int → (List (Int × Int × Int × Int × Int)) → Option ρ) (t8 : Int → Int → (List (Int × Int × Int × Int × Int)) → Option ρ) (t9 : Int → Int → (List (Int × Int × Int × Int × Int)) → Option ρ) (t10 : Int → Int → (List (Int × Int × Int × Int × Int)) → Option ρ) (t11 : Int → Int → (List (Int × Int × Int × Int × Int)) → Option ρ) (t12 : Int → Int → (List (Int × Int × Int × Int × Int)) → Option ρ) (t13 : Int → Int → (List (Int × Int × Int × Int × Int)) → Option ρ) (t3 : Int → Int → (List (Int × Int × Int × Int × Int)) → Option ρ) (x0 : Int) (x1 : Int) (x2 : List (Int × Int × Int × Int × Int)) : Option ρ :=
  bif decide (0 ≤ x1) then bif decide (x1 < (↑(List.length x2) : Int)) then t13 x0 x1 (List.set x2 (Int.toNat x1) (Prod.fst (List.getD x2 (Int.toNat x1) (0, 0, 0, 0, 0)), Prod.fst (Prod.snd (List.getD x2 (Int.toNat x1) (0, 0, 0, 0, 0))), Prod.fst (Prod.snd (Prod.snd (List.getD x2 (Int.toNat x1) (0, 0, 0, 0, 0)))), Prod.fst (Prod.snd (Prod.snd (Prod.snd (List.getD x2 (Int.toNat x1) (0, 0, 0, 0, 0))))), x0)) else none else none
theorem k64_12 (n : Nat) (x0 : Int) (x1 : Int) (x2 : List (Int × Int × Int × Int × Int)) : run C64 some (n + 1) i64_12 (l64_12.st (((), (x0, x1)), (x2, ()))) = r64_12 (fun d => some (o64.res d)) (fun x0 x1 => run C64 some n i64_1 (l64_1.st (((), x0), (x1, ())))) (fun x0 x1 x2 => run C64 some n i64_2 (l64_2.st (((), (x0, x1)), (x2, ())))) (fun x0 x1 x2 => run C64 some n i64_4 (l64_4.st (((), (x0, x1)), (x2, ())))) (fun x0 x1 => run C64 some n i64_14 (l64_14.st (x0, (x1, ())))) (fun x0 x1 x2 => run C64 some n i64_5 (l64_5.st (((), (x0, x1)), (x2, ())))) (fun x0 x1 x2 => run C64 some n i64_6 (l64_6.st (((), (x0, x1)), (x2, ())))) (fun x0 x1 x2 => run C64 some n i64_7 (l64_7.st (((), (x0, x1)), (x2, ())))) (fun x0 x1 x2 => run C64 some n i64_8 (l64_8.st (((), (x0, x1)), (x2, ())))) (fun x0 x1 x2 => run C64 some n i64_9 (l64_9.st (((), (x0, x1)), (x2, ())))) (fun x0 x1 x2 => run C64 some n i64_10 (l64_10.st (((), (x0, x1)), (x2, ())))) (fun x0 x1 x2 => run C64 some n i64_11 (l64_11.st (((), (x0, x1)), (x2, ())))) (fun x0 x1 x2 => run C64 some n i64_12 (l64_12.st (((), (x0, x1)), (x2, ())))) (fun x0 x1 x2 => run C64 some n i64_13 (l64_13.st (((), (x0, x1)), (x2, ())))) (fun x0 x1 x2 => run C64 some n i64_3 (l64_3.st (((), (x0, x1)), (x2, ())))) x0 x1 x2 := by kernel_rfl
theorem t64_12_eq (x0 : Int) (x1 : Int) (x2 : List (Int × Int × Int × Int × Int)) : t64_12 x0 x1 x2 = r64_12 some t64_1 t64_2 t64_4 t64_14 t64_5 t64_6 t64_7 t64_8 t64_9 t64_10 t64_11 t64_12 t64_13 t64_3 x0 x1 x2 := by
  refine (theT_eqn _ fun n => k64_12 n x0 x1 x2).trans ?_
  have hb : ∀ d, o64.back (o64.res d) = some d := Form.back_res fun d => ⟨_, rfl⟩
  unfold r64_12
  simp only [lim_cond, lim_bind, lim_const, bind_cond, Option.bind_assoc, bind_some', bind_none', hb]
  try rfl
noncomputable def r64_13 {ρ : Type} (ret : (Int) × (List (Int × Int × Int × Int × Int)) × Unit → Option ρ) (t1 : Int → (List (Int × Int × Int × Int × Int)) → Option ρ) (t2 : Int → Int → (List (Int × Int × Int × Int × Int)) → Option ρ) (t4 : Int → Int → (List (Int × Int × Int × Int × Int)) → Option ρ) (t14 : Int → (List (Int × Int × Int × Int × Int)) → Option ρ) (t5 : Int → Int → (List (Int × Int × Int × Int × Int)) → Option ρ) (t6 : Int → Int → (List (Int × Int × Int × Int × Int)) → Option ρ) (t7 : Int → Int → (List (Int × Int × Int × Int × Int)) → Option ρ) (t8 : Int → Int → (List (Int × Int × Int × Int × Int)) → Option ρ) (t9 : Int → Int → (List (Int × Int × Int × Int × Int)) → Option ρ) (t10 : Int → Int → (List (Int × Int × Int × Int × Int)) → Option ρ) (t11 : Int → Int → (List (Int × Int × Int × Int × Int)) → Option ρ) (t12 : Int → Int → (List (Int × Int × Int × Int × Int)) → Option ρ) (t13 : Int → Int → (List (Int × Int × Int × Int × Int)) → Option ρ) (t3 : Int → Int → (List (Int × Int × Int × Int × Int)) → Option ρ) (x0 : Int) (x1 : Int) (x2 : List (Int × Int × Int × Int × Int)) : Option ρ :=
  t3 (IntKind.wrap IntKind.i64 (x0 + 1)) x1 x2
theorem k64_13 (n : Nat) (x0 : Int) (x1 : Int) (x2 : List (Int × Int × Int × Int × Int)) : run C64 some (n + 1) i64_13 (l64_13.st (((), (x0, x1)), (x2, ()))) = r64_13 (fun d => some (o64.res d)) (fun x0 x1 => run C64 some n i64_1 (l64_1.st (((), x0), (x1, ())))) (fun x0 x1 x2 => run C64 some n i64_2 (l64_2.st (((), (x0, x1)), (x2, ())))) (fun x0 x1 x2 => run C64 some n i64_4 (l64_4.st (((), (x0, x1)), (x2, ())))) (fun x0 x1 => run C64 some n i64_14 (l64_14.st (x0, (x1, ())))) (fun x0 x1 x2 => run C64 some n i64_5 (l64_5.st (((), (x0, x1)), (x2, ())))) (fun x0 x1 x2 => run C64 some n i64_6 (l64_6.st (((), (x0, x1)), (x2, ())))) (fun x0 x1 x2 => run C64 some n i64_7 (l64_7.st (((), (x0, x1)), (x2, ())))) (fun x0 x1 x2 => run C64 some n i64_8 (l64_8.st (((), (x0, x1)), (x2, ())))) (fun x0 x1 x2 => run C64 some n i64_9 (l64_9.st (((), (x0, x1)), (x2, ())))) (fun x0 x1 x2 => run C64 some n i64_10 (l64_10.st (((), (x0, x1)), (x2, ())))) (fun x0 x1 x2 => run C64 some n i64_11 (l64_11.st (((), (x0, x1)), (x2, ())))) (fun x0 x1 x2 => run C64 some n i64_12 (l64_12.st (((), (x0, x1)), (x2, ())))) (fun x0 x1 x2 => run C64 some n i64_13 (l64_13.st (((), (x0, x1)), (x2, ())))) (fun x0 x1 x2 => run C64 some n i64_3 (l64_3.st (((), (x0, x1)), (x2, ())))) x0 x1 x2 := by kernel_rfl
theorem t64_13_eq (x0 : Int) (x1 : Int) (x2 : List (Int × Int × Int × Int × Int)) : t64_13 x0 x1 x2 = r64_13 some t64_1 t64_2 t64_4 t64_14 t64_5 t64_6 t64_7 t64_8 t64_9 t64_10 t64_11 t64_12 t64_13 t64_3 x0 x1 x2 := by
  refine (theT_eqn _ fun n => k64_13 n x0 x1 x2).trans ?_
  have hb : ∀ d, o64.back (o64.res d) = some d := Form.back_res fun d => ⟨_, rfl⟩
  unfold r64_13
  simp only [lim_cond, lim_bind, lim_const, bind_cond, Option.bind_assoc, bind_some', bind_none', hb]
  try rfl
noncomputable def r64_3 {ρ : Type} (ret : (Int) × (List (Int × Int × Int × Int × Int)) × Unit → Option ρ) (t1 : Int → (List (Int × Int × Int × Int × Int)) → Option ρ) (t2 : Int → Int → (List (Int × Int × Int × Int × Int)) → Option ρ) (t4 : Int → Int → (List (Int × Int × Int × Int × Int)) → Option ρ) (t14 : Int → (List (Int × Int × Int × Int × Int)) → Option ρ) (t5 : Int → Int → (List (Int × Int × Int × Int × Int)) → Option ρ) (t6 : Int → Int → (List (Int × Int × Int × Int × Int)) → Option ρ) (t7 : Int → Int → (List (Int × Int × Int × Int × Int)) → Option ρ) (t8 : Int → Int → (List (Int × Int × Int × Int × Int)) → Option ρ) (t9 : Int → Int → (List (Int × Int × Int × Int × Int)) → Option ρ) (t10 : Int → Int → (List (Int × Int × Int × Int × Int)) → Option ρ) (t11 : Int → Int → (List (Int × Int × Int × Int × Int)) → Option ρ) (t12 : Int → Int → (List (Int × Int × Int × Int × Int)) → Option ρ) (t13 : Int → Int → (List (Int × Int × Int × Int × Int)) → Option ρ) (t3 : Int → Int → (List (Int × Int × Int × Int × Int)) → Option ρ) (x0 : Int) (x1 : Int) (x2 : List (Int × Int × Int × Int × Int)) : Option ρ :=
  t2 x0 (IntKind.wrap IntKind.i64 (x1 + 1)) x2
theorem k64_3 (n : Nat) (x0 : Int) (x1 : Int) (x2 : List (Int × Int × Int × Int × Int)) : run C64 some (n + 1) i64_3 (l64_3.st (((), (x0, x1)), (x2, ()))) = r64_3 (fun d => some (o64.res d)) (fun x0 x1 => run C64 some n i64_1 (l64_1.st (((), x0), (x1, ())))) (fun x0 x1 x2 => run C64 some n i64_2 (l64_2.st (((), (x0, x1)), (x2, ())))) (fun x0 x1 x2 => run C64 some n i64_4 (l64_4.st (((), (x0, x1)), (x2, ())))) (fun x0 x1 => run C64 some n i64_14 (l64_14.st (x0, (x1, ())))) (fun x0 x1 x2 => run C64 some n i64_5 (l64_5.st (((), (x0, x1)), (x2, ())))) (fun x0 x1 x2 => run C64 some n i64_6 (l64_6.st (((), (x0, x1)), (x2, ())))) (fun x0 x1 x2 => run C64 some n i64_7 (l64_7.st (((), (x0, x1)), (x2, ())))) (fun x0 x1 x2 => run C64 some n i64_8 (l64_8.st (((), (x0, x1)), (x2, ())))) (fun x0 x1 x2 => run C64 some n i64_9 (l64_9.st (((), (x0, x1)), (x2, ())))) (fun x0 x1 x2 => run C64 some n i64_10 (l64_10.st (((), (x0, x1)), (x2, ())))) (fun x0 x1 x2 => run C64 some n i64_11 (l64_11.st (((), (x0, x1)), (x2, ())))) (fun x0 x1 x2 => run C64 some n i64_12 (l64_12.st (((), (x0, x1)), (x2, ())))) (fun x0 x1 x2 => run C64 some n i64_13 (l64_13.st (((), (x0, x1)), (x2, ())))) (fun x0 x1 x2 => run C64 some n i64_3 (l64_3.st (((), (x0, x1)), (x2, ())))) x0 x1 x2 := by kernel_rfl
theorem t64_3_eq (x0 : Int) (x1 : Int) (x2 : List (Int × Int × Int × Int × Int)) : t64_3 x0 x1 x2 = r64_3 some t64_1 t64_2 t64_4 t64_14 t64_5 t64_6 t64_7 t64_8 t64_9 t64_10 t64_11 t64_12 t64_13 t64_3 x0 x1 x2 := by
  refine (theT_eqn _ fun n => k64_3 n x0 x1 x2).trans ?_
  have hb : ∀ d, o64.back (o64.res d) = some d := Form.back_res fun d => ⟨_, rfl⟩
  unfold r64_3
  simp only [lim_cond, lim_bind, lim_const, bind_cond, Option.bind_assoc, bind_some', bind_none', hb]
  try rfl
noncomputable def S64 : Sm := modeS a64 o64 (theM Go.Proofs.Try.prog tab64 [(1, l64_1), (2, l64_2), (4, l64_4), (14, l64_14), (5, l64_5), (6, l64_6), (7, l64_7), (8, l64_8), (9, l64_9), (10, l64_10), (11, l64_11), (12, l64_12), (13, l64_13), (3, l64_3)] o64 Go.Proofs.Try.f64 a64) noS
theorem S64_det : Det S64 := modeS_det noS_det
theorem S64_ok : Sound Go.Proofs.Try.prog 64 S64 := sound_mode tab64_ok Go.Proofs.Try.func64 (c := bodyOf Go.Proofs.Try.f64) (by kernel_rfl) (by kernel_rfl) (noS_sound _ _)
/- laws.markGraph -/
def a21 : Form := ⟨(.cons (.agg (.cons (.dat I64) (.ref 0 (.pair I64 (.pair I64 (.pair I64 (.pair I64 I64))))))) (.dat I64)), [.arr (.pair I64 (.pair I64 (.pair I64 (.pair I64 I64))))]⟩
def o21 : Form := ⟨(.dat I64), [.arr (.pair I64 (.pair I64 (.pair I64 (.pair I64 I64))))]⟩
noncomputable def tab21 : List Ent := [⟨64, true, S64, S64_det⟩]
theorem tab21_ok : ∀ e ∈ tab21, Sound Go.Proofs.Try.prog e.f e.S := List.forall_mem_cons.2 ⟨S64_ok, fun _ h => nomatch h⟩
noncomputable def C21 : Ctx := ctxOf Go.Proofs.Try.prog tab21 Go.Proofs.Try.f21 1 [] o21
noncomputable def M21 (x0 : Int) (x1 : Int) (x2 : List (Int × Int × Int × Int × Int)) : Option ((Int) × (List (Int × Int × Int × Int × Int)) × Unit) := theM Go.Proofs.Try.prog tab21 [] o21 Go.Proofs.Try.f21 a21 (((x0, ()), x1), (x2, ()))
noncomputable def r21 {ρ : Type} (ret : (Int) × (List (Int × Int × Int × Int × Int)) × Unit → Option ρ) (x0 : Int) (x1 : Int) (x2 : List (Int × Int × Int × Int × Int)) : Option ρ :=
  Option.bind (M64 x1 x2) fun d99 => ret (Prod.fst d99, Prod.fst (Prod.snd d99), ())
theorem k21 (n : Nat) (x0 : Int) (x1 : Int) (x2 : List (Int × Int × Int × Int × Int)) : runF Go.Proofs.Try.prog tab21 [] o21 Go.Proofs.Try.f21 some (n + 1) (a21.vals (((x0, ()), x1), (x2, ()))) (a21.roots (((x0, ()), x1), (x2, ()))) = r21 (fun d => some (o21.res d)) x0 x1 x2 := by kernel_rfl
theorem M21_eq (x0 : Int) (x1 : Int) (x2 : List (Int × Int × Int × Int × Int)) : M21 x0 x1 x2 = r21 some x0 x1 x2 := by
  refine (theM_eqn 1 _ fun n => k21 n x0 x1 x2).trans ?_
  have hb : ∀ d, o21.back (o21.res d) = some d := Form.back_res fun d => ⟨_, rfl⟩
  unfold r21
  simp only [lim_cond, lim_bind, lim_const, bind_cond, Option.bind_assoc, bind_some', bind_none', hb]
  try rfl
noncomputable def S21 : Sm := modeS a21 o21 (theM Go.Proofs.Try.prog tab21 [] o21 Go.Proofs.Try.f21 a21) noS
theorem S21_det : Det S21 := modeS_det noS_det
theorem S21_ok : Sound Go.Proofs.Try.prog 21 S21 := sound_mode tab21_ok Go.Proofs.Try.func21 (c := bodyOf Go.Proofs.Try.f21) (by kernel_rfl) (by kernel_rfl) (noS_sound _ _)
/- laws.markIntS -/
def a22 : Form := ⟨(.cons (.ref 0 I64) (.dat I64)), [.arr I64]⟩
def o22 : Form := ⟨(.dat I64), [.arr I64]⟩
def l22_2 : Lab := ⟨[0, 1, 5], ⟨(.cons (.ref 0 I64) (.cons (.dat I64) (.dat I64))), [.arr I64]⟩⟩
noncomputable def tab22 : List Ent := []
theorem tab22_ok : ∀ e ∈ tab22, Sound Go.Proofs.Try.prog e.f e.S := fun _ h => nomatch h
noncomputable def C22 : Ctx := ctxOf Go.Proofs.Try.prog tab22 Go.Proofs.Try.f22 1 [(2, l22_2)] o22
noncomputable def i22_2 : List Item := at_ (bodyOf Go.Proofs.Try.f22) [1, 0, 1, 0, 0] []
noncomputable def t22_2 (x0 : Int) (x1 : Int) (x2 : List Int) : Option ((Int) × (List Int) × Unit) := theT C22 i22_2 l22_2 (((), (x0, x1)), (x2, ()))
noncomputable def M22 (x0 : Int) (x1 : List Int) : Option ((Int) × (List Int) × Unit) := theM Go.Proofs.Try.prog tab22 [(2, l22_2)] o22 Go.Proofs.Try.f22 a22 (((), x0), (x1, ()))
noncomputable def r22 {ρ : Type} (ret : (Int) × (List Int) × Unit → Option ρ) (t2 : Int → Int → (List Int) → Option ρ) (x0 : Int) (x1 : List Int) : Option ρ :=
  t2 x0 0 x1
theorem k22 (n : Nat) (x0 : Int) (x1 : List Int) : runF Go.Proofs.Try.prog tab22 [(2, l22_2)] o22 Go.Proofs.Try.f22 some (n + 1) (a22.vals (((), x0), (x1, ()))) (a22.roots (((), x0), (x1, ()))) = r22 (fun d => some (o22.res d)) (fun x0 x1 x2 => run C22 some n i22_2 (l22_2.st (((), (x0, x1)), (x2, ())))) x0 x1 := by kernel_rfl
theorem M22_eq (x0 : Int) (x1 : List Int) : M22 x0 x1 = r22 some t22_2 x0 x1 := by
  refine (theM_eqn 1 _ fun n => k22 n x0 x1).trans ?_
  have hb : ∀ d, o22.back (o22.res d) = some d := Form.back_res fun d => ⟨_, rfl⟩
  unfold r22
  simp only [lim_cond, lim_bind, lim_const, bind_cond, Option.bind_assoc, bind_some', bind_none', hb]
  try rfl
noncomputable def r22_2 {ρ : Type} (ret : (Int) × (List Int) × Unit → Option ρ) (t2 : Int → Int → (List Int) → Option ρ) (x0 : Int) (x1 : Int) (x2 : List Int) : Option ρ :=
  bif decide (x1 < (↑(List.length x2) : Int)) then bif decide (0 ≤ x1) then bif decide (x1 < (↑(List.length x2) : Int)) then t2 (IntKind.wrap IntKind.i64 (x0 + 1)) (IntKind.wrap IntKind.i64 (x1 + 1)) (List.set x2 (Int.toNat x1) x0) else none else none else ret (x0, x2, ())
theorem k22_2 (n : Nat) (x0 : Int) (x1 : Int) (x2 : List Int) : run C22 some (n + 1) i22_2 (l22_2.st (((), (x0, x1)), (x2, ()))) = r22_2 (fun d => some (o22.res d)) (fun x0 x1 x2 => run C22 some n i22_2 (l22_2.st (((), (x0, x1)), (x2, ())))) x0 x1 x2 := by kernel_rfl
theorem t22_2_eq (x0 : Int) (x1 : Int) (x2 : List Int) : t22_2 x0 x1 x2 = r22_2 some t22_2 x0 x1 x2 := by
  refine (theT_eqn _ fun n => k22_2 n x0 x1 x2).trans ?_
  have hb : ∀ d, o22.back (o22.res d) = some d := Form.back_res fun d => ⟨_, rfl⟩
  unfold r22_2
  simp only [lim_cond, lim_bind, lim_const, bind_cond, Option.bind_assoc, bind_some', bind_none', hb]
  try rfl
noncomputable def S22 : Sm := modeS a22 o22 (theM Go.Proofs.Try.prog tab22 [(2, l22_2)] o22 Go.Proofs.Try.f22 a22) noS
theorem S22_det : Det S22 := modeS_det noS_det
theorem S22_ok : Sound Go.Proofs.Try.prog 22 S22 := sound_mode tab22_ok Go.Proofs.Try.func22 (c := bodyOf Go.Proofs.Try.f22) (by kernel_rfl) (by kernel_rfl) (noS_sound _ _)
/- laws.heldIntS -/
def a23 : Form := ⟨(.cons (.dat (.sl I64)) (.dat I64)), []⟩
def o23 : Form := ⟨(.dat I64), []⟩
def l23_2 : Lab := ⟨[0, 1, 5], ⟨(.cons (.dat (.sl I64)) (.cons (.dat I64) (.dat I64))), []⟩⟩
noncomputable def tab23 : List Ent := []
theorem tab23_ok : ∀ e ∈ tab23, Sound Go.Proofs.Try.prog e.f e.S := fun _ h => nomatch h
noncomputable def C23 : Ctx := ctxOf Go.Proofs.Try.prog tab23 Go.Proofs.Try.f23 0 [(2, l23_2)] o23
noncomputable def i23_2 : List Item := at_ (bodyOf Go.Proofs.Try.f23) [1, 0, 1, 0, 0] []
noncomputable def t23_2 (x0 : List Int) (x1 : Int) (x2 : Int) : Option ((Int) × Unit) := theT C23 i23_2 l23_2 ((x0, (x1, x2)), ())
noncomputable def M23 (x0 : List Int) (x1 : Int) : Option ((Int) × Unit) := theM Go.Proofs.Try.prog tab23 [(2, l23_2)] o23 Go.Proofs.Try.f23 a23 ((x0, x1), ())
noncomputable def r23 {ρ : Type} (ret : (Int) × Unit → Option ρ) (t2 : (List Int) → Int → Int → Option ρ) (x0 : List Int) (x1 : Int) : Option ρ :=
  t2 x0 x1 0
theorem k23 (n : Nat) (x0 : List Int) (x1 : Int) : runF Go.Proofs.Try.prog tab23 [(2, l23_2)] o23 Go.Proofs.Try.f23 some (n + 1) (a23.vals ((x0, x1), ())) (a23.roots ((x0, x1), ())) = r23 (fun d => some (o23.res d)) (fun x0 x1 x2 => run C23 some n i23_2 (l23_2.st ((x0, (x1, x2)), ()))) x0 x1 := by kernel_rfl
theorem M23_eq (x0 : List Int) (x1 : Int) : M23 x0 x1 = r23 some t23_2 x0 x1 := by
  refine (theM_eqn 1 _ fun n => k23 n x0 x1).trans ?_
  have hb : ∀ d, o23.back (o23.res d) = some d := Form.back_res fun d => ⟨_, rfl⟩
  unfold r23
  simp only [lim_cond, lim_bind, lim_const, bind_cond, Option.bind_assoc, bind_some', bind_none', hb]
  try rfl
noncomputable def r23_2 {ρ : Type} (ret : (Int) × Unit → Option ρ) (t2 : (List Int) → Int → Int → Option ρ) (x0 : List Int) (x1 : Int) (x2 : Int) : Option ρ :=
  bif decide (x2 < (↑(List.length x0) : Int)) then bif decide (0 ≤ x2) then bif decide (x2 < (↑(List.length x0) : Int)) then bif List.getD x0 (Int.toNat x2) 0 != x1 then ret (-1, ()) else t2 x0 (IntKind.wrap IntKind.i64 (x1 + 1)) (IntKind.wrap IntKind.i64 (x2 + 1)) else none else none else ret (x1, ())
theorem k23_2 (n : Nat) (x0 : List Int) (x1 : Int) (x2 : Int) : run C23 some (n + 1) i23_2 (l23_2.st ((x0, (x1, x2)), ())) = r23_2 (fun d => some (o23.res d)) (fun x0 x1 x2 => run C23 some n i23_2 (l23_2.st ((x0, (x1, x2)), ()))) x0 x1 x2 := by kernel_rfl
theorem t23_2_eq (x0 : List Int) (x1 : Int) (x2 : Int) : t23_2 x0 x1 x2 = r23_2 some t23_2 x0 x1 x2 := by
  refine (theT_eqn _ fun n => k23_2 n x0 x1 x2).trans ?_
  have hb : ∀ d, o23.back (o23.res d) = some d := Form.back_res fun d => ⟨_, rfl⟩
  unfold r23_2
  simp only [lim_cond, lim_bind, lim_const, bind_cond, Option.bind_assoc, bind_some', bind_none', hb]
  try rfl
noncomputable def S23 : Sm := modeS a23 o23 (theM Go.Proofs.Try.prog tab23 [(2, l23_2)] o23 Go.Proofs.Try.f23 a23) noS
theorem S23_det : Det S23 := modeS_det noS_det
theorem S23_ok : Sound Go.Proofs.Try.prog 23 S23 := sound_mode tab23_ok Go.Proofs.Try.func23 (c := bodyOf Go.Proofs.Try.f23) (by kernel_rfl) (by kernel_rfl) (noS_sound _ _)
/- laws.FnExactScheduleOf -/
def a4 : Form := ⟨(.agg (.dat (.pair I64 (.sl (.pair I64 (.pair I64 (.pair I64 (.pair I64 I64)))))))), []⟩
def o4 : Form := ⟨(.dat .bool), []⟩
noncomputable def tab4 : List Ent := [⟨17, false, S17, S17_det⟩, ⟨18, false, S18, S18_det⟩, ⟨14, false, S14, S14_det⟩, ⟨13, false, S13, S13_det⟩, ⟨19, false, S19, S19_det⟩, ⟨20, false, S20, S20_det⟩, ⟨21, true, S21, S21_det⟩, ⟨22, true, S22, S22_det⟩, ⟨23, false, S23, S23_det⟩]
theorem tab4_ok : ∀ e ∈ tab4, Sound Go.Proofs.Try.prog e.f e.S := List.forall_mem_cons.2 ⟨S17_ok, List.forall_mem_cons.2 ⟨S18_ok, List.forall_mem_cons.2 ⟨S14_ok, List.forall_mem_cons.2 ⟨S13_ok, List.forall_mem_cons.2 ⟨S19_ok, List.forall_mem_cons.2 ⟨S20_ok, List.forall_mem_cons.2 ⟨S21_ok, List.forall_mem_cons.2 ⟨S22_ok, List.forall_mem_cons.2 ⟨S23_ok, fun _ h => nomatch h⟩⟩⟩⟩⟩⟩⟩⟩⟩
noncomputable def C4 : Ctx := ctxOf Go.Proofs.Try.prog tab4 Go.Proofs.Try.f4 0 [] o4
noncomputable def M4 (x0 : Int) (x1 : List (Int × Int × Int × Int × Int)) : Option ((Bool) × Unit) := theM Go.Proofs.Try.prog tab4 [] o4 Go.Proofs.Try.f4 a4 ((x0, x1), ())
noncomputable def r4 {ρ : Type} (ret : (Bool) × Unit → Option ρ) (x0 : Int) (x1 : List (Int × Int × Int × Int × Int)) : Option ρ :=
  Option.bind (M17 x0 x1 1048576) fun d108 => bif decide (Prod.fst d108 < 0) then ret (true, ()) else Option.bind (M18 x0 x1) fun d109 => Option.bind (M14 (Prod.fst (Prod.fst d109)) (Prod.fst (Prod.snd d109))) fun d110 => Option.bind (M18 x0 x1) fun d111 => Option.bind (M13 (Prod.fst (Prod.fst d111)) (Prod.fst (Prod.snd d111))) fun d112 => Option.bind (M19 (Prod.fst (Prod.snd d112)) (Prod.fst (Prod.snd d110))) fun d113 => bif !Prod.fst d113 then ret (false, ()) else bif !Prod.snd (Prod.fst d112) == Prod.snd (Prod.fst d110) then ret (false, ()) else Option.bind (M18 x0 x1) fun d114 => Option.bind (M20 (Prod.fst (Prod.fst d111)) (Prod.fst (Prod.snd d111)) (Prod.fst (Prod.fst d114)) (Prod.fst (Prod.snd d114))) fun d115 => bif !Prod.fst d115 then ret (false, ()) else Option.bind (M21 (Prod.fst (Prod.fst d111)) 1 (Prod.fst (Prod.snd d111))) fun d116 => bif decide (Prod.fst d116 < 0) then ret (false, ()) else Option.bind (M19 (Prod.fst (Prod.snd d112)) (Prod.fst (Prod.snd d110))) fun d117 => bif !Prod.fst d117 then ret (false, ()) else bif !Prod.snd (Prod.fst d112) == Prod.snd (Prod.fst d110) then ret (false, ()) else Option.bind (M22 1 (Prod.fst (Prod.snd d112))) fun d118 => Option.bind (M23 (Prod.fst (Prod.snd d118)) 1) fun d119 => bif decide (Prod.fst d119 < 0) then ret (false, ()) else bif Prod.fst d119 != Prod.fst d118 then ret (false, ()) else Option.bind (M18 x0 x1) fun d120 => Option.bind (M13 (Prod.fst (Prod.fst d120)) (Prod.fst (Prod.snd d120))) fun d121 => Option.bind (M19 (Prod.fst (Prod.snd d121)) (Prod.fst (Prod.snd d110))) fun d122 => bif !Prod.fst d122 then ret (false, ()) else bif !Prod.snd (Prod.fst d121) == Prod.snd (Prod.fst d110) then ret (false, ()) else Option.bind (M23 (Prod.fst (Prod.snd d118)) 1) fun d123 => bif decide (Prod.fst d123 < 0) then ret (false, ()) else bif Prod.fst d123 != Prod.fst d118 then ret (false, ()) else ret (true, ())
theorem k4 (n : Nat) (x0 : Int) (x1 : List (Int × Int × Int × Int × Int)) : runF Go.Proofs.Try.prog tab4 [] o4 Go.Proofs.Try.f4 some (n + 1) (a4.vals ((x0, x1), ())) (a4.roots ((x0, x1), ())) = r4 (fun d => some (o4.res d)) x0 x1 := by kernel_rfl
theorem M4_eq (x0 : Int) (x1 : List (Int × Int × Int × Int × Int)) : M4 x0 x1 = r4 some x0 x1 := by
  refine (theM_eqn 1 _ fun n => k4 n x0 x1).trans ?_
  have hb : ∀ d, o4.back (o4.res d) = some d := Form.back_res fun d => ⟨_, rfl⟩
  unfold r4
  simp only [lim_cond, lim_bind, lim_const, bind_cond, Option.bind_assoc, bind_some', bind_none', hb]
  try rfl
noncomputable def S4 : Sm := modeS a4 o4 (theM Go.Proofs.Try.prog tab4 [] o4 Go.Proofs.Try.f4 a4) noS
theorem S4_det : Det S4 := modeS_det noS_det
theorem S4_ok : Sound Go.Proofs.Try.prog 4 S4 := sound_mode tab4_ok Go.Proofs.Try.func4 (c := bodyOf Go.Proofs.Try.f4) (by kernel_rfl) (by kernel_rfl) (noS_sound _ _)
end Go.AI
end
