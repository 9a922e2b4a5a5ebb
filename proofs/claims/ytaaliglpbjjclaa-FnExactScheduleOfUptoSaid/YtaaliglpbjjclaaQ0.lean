/- PLAIN WORDS for the printed equations: sums that fit, ranges. -/
import Derived.Test.YtaaliglpbjjclaaZ0
import Derived.IntWalk
namespace Go.AI

theorem wrap_ok {n : Int} (h0 : -9223372036854775808 ≤ n) (h1 : n ≤ 9223372036854775807) : IntKind.wrap .i64 n = n := by
  rw [IntKind.wrap_i64]; omega

theorem fit_ok {n b : Nat} (h : n * b ≤ 140737488355328) : fitBytes n b = true := by simp [fitBytes, h]

theorem getD_lt {α : Type} {l : List α} {d : α} {i : Nat} (h : i < l.length) : l.getD i d = l[i] := by simp [List.getD_eq_getElem?_getD, h]

/-- a loop over a list, from an index on, that may end early -/
def rng {α σ ρ : Type} (step : Int → α → σ → (σ → Option ρ) → Option ρ) (done : σ → Option ρ) : List α → Int → σ → Option ρ
  | [], _, s => done s
  | x :: l, i, s => step i x s fun s' => rng step done l (i + 1) s'

theorem rng_loop {α σ ρ : Type} {l : List α} {d : α} {T : Int → σ → Option ρ} {step : Int → α → σ → (σ → Option ρ) → Option ρ} {done : σ → Option ρ} (hl : l.length ≤ 4611686018427387904)
    (h : ∀ i s, T i s = bif decide (i < (l.length : Int)) then bif decide (0 ≤ i) then bif decide (i < (l.length : Int)) then step i (l.getD i.toNat d) s (fun s' => T (IntKind.wrap .i64 (i + 1)) s') else none else none else done s) :
    ∀ (m i : Nat), i + m = l.length → ∀ s, T i s = rng step done (l.drop i) i s
  | 0, i, e, s => by
    rw [h, List.drop_eq_nil_of_le (by omega)]
    have h1 : ¬ ((i : Int) < (l.length : Int)) := by omega
    simp only [decide_eq_false h1, cond_false, rng]
  | m + 1, i, e, s => by
    rw [h]
    have h1 : (i : Int) < (l.length : Int) := by omega
    have h2 : (0 : Int) ≤ i := by omega
    have hlt : i < l.length := by omega
    rw [List.drop_eq_getElem_cons hlt]
    simp only [decide_eq_true h1, decide_eq_true h2, cond_true, rng, Int.toNat_natCast, getD_lt hlt]
    congr 1
    funext s'
    rw [wrap_ok (by omega) (by omega)]
    exact rng_loop hl h m (i + 1) (by omega) s'

theorem rng0 {α σ ρ : Type} {l : List α} {d : α} {T : Int → σ → Option ρ} {step : Int → α → σ → (σ → Option ρ) → Option ρ} {done : σ → Option ρ} (hl : l.length ≤ 4611686018427387904)
    (h : ∀ i s, T i s = bif decide (i < (l.length : Int)) then bif decide (0 ≤ i) then bif decide (i < (l.length : Int)) then step i (l.getD i.toNat d) s (fun s' => T (IntKind.wrap .i64 (i + 1)) s') else none else none else done s) (s : σ) :
    T 0 s = rng step done l 0 s := by
  have := rng_loop hl h l.length 0 (by omega) s
  simpa using this

end Go.AI
