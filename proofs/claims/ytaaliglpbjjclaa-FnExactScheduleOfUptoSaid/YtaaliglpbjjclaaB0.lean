/- THE BRIDGE, first part: what an argument reads as, as a datum of the small universe. -/
import Derived.Test.YtaaliglpbjjclaaS20
import Derived.Test.YtaaliglpbjjclaaRows
import Derived.Deep.Slices
import Derived.ChangeBears
namespace Go.AI
open Go.Proofs.Ytaaliglpbjjclaa
set_option linter.unusedVariables false
set_option linter.unusedSimpArgs false

/-- whole numbers in their range -/
def okD : (t : Ty) → t.D → Prop
  | .unit, _ => True
  | .int k, n => k.min ≤ n ∧ n ≤ k.max
  | .bool, _ => True
  | .str, _ => True
  | .sl e, l => ∀ x ∈ l, okD e x
  | .pair a b, x => okD a x.1 ∧ okD b x.2

/-- how many values and letters -/
def bulkD : (t : Ty) → t.D → Nat
  | .unit, _ => 0
  | .int _, _ => 1
  | .bool, _ => 1
  | .str, s => s.size + 1
  | .sl e, l => (l.map (bulkD e)).sum + 1
  | .pair a b, x => bulkD a x.1 + bulkD b x.2

section
variable {H : Type} {enc : TypeId × Value → H} {P : Program} {w : World} {T : TypeId → Prop}

/-- cells read as a datum -/
def Reads (w : World) (ty : Ty) (cs : List Value) (d : DataW H) : Prop :=
  ∃ v : ty.D, repT w (fun b => b < w.heap.size) ty v cs ∧ okD ty v ∧ bulkD ty v ≤ Rows.uptoBulk d

theorem cells_at {a : Addr} : ∀ {n : Nat} {cs : List Value}, w.cells? 0 a n = some cs → cs.length = n ∧ ∀ i, i < n → w.cell? (a.add i) = some (cs.getD i undef) := by
  intro n cs h
  unfold World.cells? at h
  rw [if_pos (Nat.zero_le _)] at h
  have : ∀ (l : List Nat) (cs : List Value), (l.mapM fun i => w.cell? (a.add i)) = some cs → cs.length = l.length ∧ ∀ i, i < l.length → w.cell? (a.add (l.getD i 0)) = some (cs.getD i undef) := by
    intro l
    induction l with
    | nil => intro cs h; simp at h; subst h; simp
    | cons x l ih =>
      intro cs h
      rw [List.mapM_cons] at h
      simp only [Option.bind_eq_bind, Option.bind_eq_some_iff, Option.pure_def, Option.some.injEq] at h
      obtain ⟨v, h1, cs', h2, rfl⟩ := h
      obtain ⟨q1, q2⟩ := ih cs' h2
      refine ⟨by simp [q1], fun i hi => ?_⟩
      cases i with
      | zero => simpa using h1
      | succ i => simpa using q2 i (by simpa using hi)
  obtain ⟨h1, h2⟩ := this _ _ h
  simp at h1
  refine ⟨h1, fun i hi => ?_⟩
  have := h2 i (by simpa using hi)
  rwa [show (List.range n).getD i 0 = i by simp [List.getD_eq_getElem?_getD, hi]] at this

/-- cells that stand one behind the other in a block -/
theorem at_of_cells {b o : Nat} {cs : List Value} (hne : cs ≠ []) (h : ∀ i, i < cs.length → w.cell? ⟨b, o + i, none⟩ = some (cs.getD i undef)) : At w b o cs := by
  have h0 := h 0 (by cases cs <;> simp_all)
  unfold World.cell? at h0
  split at h0
  · rename_i c T fz hb
    refine ⟨c, T, fz, hb, c.toList.take o, c.toList.drop (o + cs.length), ?_, ?_⟩
    · have key : ∀ i, i < cs.length → c.toList[o + i]? = some (cs.getD i undef) := by
        intro i hi
        have := h i hi
        unfold World.cell? at this
        simp only at hb
        simp only [hb] at this
        simpa using this
      have e : (c.toList.drop o).take cs.length = cs := by
        refine List.ext_getElem? fun i => ?_
        by_cases hi : i < cs.length
        · rw [List.getElem?_take, if_pos hi, List.getElem?_drop, key i hi]
          simp [List.getD_eq_getElem?_getD, hi]
        · rw [List.getElem?_take, if_neg hi, List.getElem?_eq_none (by omega)]
      have e2 : c.toList.drop o = cs ++ c.toList.drop (o + cs.length) := by
        rw [← e]
        conv => lhs; rw [← List.take_append_drop cs.length (c.toList.drop o)]
        rw [List.drop_drop]
        congr 2
        simp only [List.length_take]
        have : cs.length ≤ (c.toList.drop o).length := by
          have := congrArg List.length e
          simp only [List.length_take] at this
          omega
        omega
      rw [List.append_assoc, ← e2, List.take_append_drop]
    · rw [List.length_take]
      have := h0
      simp at this
      have hlt := (Array.getElem?_eq_some_iff.1 (by simpa using this)).1
      simp; omega
  · cases h0

theorem bulk_all {l : List (DataW H)} : Rows.uptoBulkAll l = (l.map Rows.uptoBulk).sum := by
  induction l with
  | nil => simp [Rows.uptoBulkAll]
  | cons d l ih => simp [Rows.uptoBulkAll, ih]

end
end Go.AI
