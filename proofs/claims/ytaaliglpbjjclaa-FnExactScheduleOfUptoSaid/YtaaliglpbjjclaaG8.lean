/- PLAIN: a part of a graph, as the program finds it: all of it. -/
import Derived.Test.YtaaliglpbjjclaaG7
namespace Go.AI
set_option linter.unusedVariables false
set_option linter.unusedSimpArgs false

theorem zero2 (x : Int × Int) : (x.1 == 0 && (x.2 == 0 && true)) = decide (x = (0, 0)) := by
  obtain ⟨a, b⟩ := x
  by_cases h : a = 0 <;> by_cases h' : b = 0 <;> simp [h, h']

/-- from a state to a later one -/
structure Later (m : Int) (of : List (Int × Int)) (part : List Int) (of' : List (Int × Int)) (part' : List Int) : Prop where
  pre : ∃ s, part' = part ++ s
  nz : ∀ j, 0 ≤ j → j < m → at2 of j ≠ (0, 0) → at2 of' j ≠ (0, 0)
theorem Later.refl {m : Int} {of : List (Int × Int)} {part : List Int} : Later m of part of part := ⟨⟨[], by simp⟩, fun _ _ _ h => h⟩
theorem Later.trans {m : Int} {a b c : List (Int × Int)} {x y z : List Int} (h : Later m a x b y) (h' : Later m b y c z) : Later m a x c z := by
  obtain ⟨⟨s, rfl⟩, h2⟩ := h
  obtain ⟨⟨s', rfl⟩, h4⟩ := h'
  exact ⟨⟨s ++ s', by simp⟩, fun j a b c => h4 j a b (h2 j a b c)⟩

/-- what an edge asks of a state, as seen from a node -/
def done (of : List (Int × Int)) (k : Int) (e : E5) : Prop := (e.1 = k → at2 of e.2.1 ≠ (0, 0)) ∧ (e.2.1 = k → at2 of e.1 ≠ (0, 0))

theorem edge50 {m : Int} {es : List E5} {node : Int} {of0 of : List (Int × Int)} {part : List Int} (hm : m ≤ 8) (hof0 : (of0.length : Int) = m) (hG : ∀ e ∈ es, okE m e = true) (hl : es.length ≤ 16) (h : SInv m es node of0 of part) (i : Nat) (hi : i < part.length) (j : Nat) (hj : j < es.length) :
    ∃ of' part', t50_7 i es es.length j of m es part = t50_7 i es es.length ((j + 1 : Nat) : Int) of' m es part' ∧ SInv m es node of0 of' part' ∧ Later m of part of' part' ∧ done of' part[i] es[j] := by
  have hmem : es[j] ∈ es := List.getElem_mem hj
  have hok := okE_iff.1 (hG _ hmem)
  have hBP : ∀ p, BP m es p → p es[j].1 * es[j].2.2.1 = p es[j].2.1 * es[j].2.2.2.1 := fun p hp => hp.2 _ hmem
  have hk : part[i] ∈ part := List.getElem_mem hi
  rw [t50_7_eq, r50_7]
  have h1 : ((j : Int) < (es.length : Int)) := by omega
  have h2 : (0 : Int) ≤ j := by omega
  have h3 : ((i : Int) < (part.length : Int)) := by omega
  have h4 : (0 : Int) ≤ i := by omega
  have next : ∀ of' part', t50_16 i es es.length j of' m es part' = t50_7 i es es.length ((j + 1 : Nat) : Int) of' m es part' := by
    intro of' part'
    rw [t50_16_eq, r50_16, wrap_ok (n := (j : Int) + 1) (by omega) (by omega)]
    rfl
  simp only [h1, h2, h3, h4, decide_true, cond_true, Int.toNat_natCast, getD_lt hj, getD_lt hi]
  generalize es[j] = e at *
  generalize part[i] = k at *
  obtain ⟨a, b, one, two, tok⟩ := e
  simp only at hok hBP ⊢
  obtain ⟨ha, hb, ho, ht, _⟩ := hok
  have hkr := (h.pd k hk).1
  have hol := h.ol
  have hknz : at2 of k ≠ (0, 0) := by have := h.inn k hk; intro hc; rw [hc] at this; simp at this
  have e1 : a < (of.length : Int) := by omega
  have e2 : b < (of.length : Int) := by omega
  have e3 : k < (of.length : Int) := by omega
  simp only [ha.1, hb.1, hkr.1, e1, e2, e3, decide_true, cond_true]
  have z1 := zero2 (at2 of b)
  have z2 := zero2 (at2 of a)
  unfold at2 at z1 z2
  simp only [z1, z2]
  have stay : ∃ of' part', t50_16 i es es.length j of m es part = t50_7 i es es.length ((j + 1 : Nat) : Int) of' m es part' ∧ SInv m es node of0 of' part' ∧ Later m of part of' part' ∧ of' = of :=
    ⟨of, part, next of part, h, Later.refl, rfl⟩
  by_cases hak : a = k
  · have hb1 : (a == k) = true := by simpa using hak
    simp only [hb1, cond_true]
    by_cases hzb : List.getD of b.toNat (0, 0) = (0, 0)
    · simp only [hzb, decide_true, cond_true]
      obtain ⟨of', k1, k2, k3, k4⟩ := add50 hm hof0 h hk ⟨hb.1, by omega⟩ ho ht (fun p hp => by rw [← hak]; exact hBP p hp) hzb i es es.length j m es
      have k1 := k1
      unfold at2 at k1
      refine ⟨of', part ++ [b], k1.trans (next _ _), k2, ⟨⟨[b], rfl⟩, k3⟩, fun _ => k4, fun hbk => ?_⟩
      have hc : at2 of b ≠ (0, 0) := by rw [show b = k from hbk]; exact hknz
      exact absurd hzb hc
    · have hd : decide (List.getD of b.toNat (0, 0) = (0, 0)) = false := by simpa using hzb
      have hza : decide (List.getD of a.toNat (0, 0) = (0, 0)) = false := by
        have : at2 of a ≠ (0, 0) := by rw [hak]; exact hknz
        simpa [at2] using this
      simp only [hd, hza, cond_false]
      obtain ⟨of', part', k1, k2, k3, k4⟩ := stay
      refine ⟨of', part', ?_, k2, k3, fun _ => ?_, fun _ => ?_⟩
      · cases (b == k) <;> exact k1
      · rw [k4]; exact hzb
      · rw [k4]; show at2 of a ≠ (0, 0); rw [hak]; exact hknz
  · have hb1 : (a == k) = false := by simpa using hak
    simp only [hb1, cond_false]
    by_cases hbk : b = k
    · have hb2 : (b == k) = true := by simpa using hbk
      simp only [hb2, cond_true]
      by_cases hza : List.getD of a.toNat (0, 0) = (0, 0)
      · simp only [hza, decide_true, cond_true]
        obtain ⟨of', k1, k2, k3, k4⟩ := add50 hm hof0 h hk ⟨ha.1, by omega⟩ ht ho (fun p hp => by rw [← hbk]; exact (hBP p hp).symm) hza i es es.length j m es
        have k1 := k1
        unfold at2 at k1
        exact ⟨of', part ++ [a], k1.trans (next _ _), k2, ⟨⟨[a], rfl⟩, k3⟩, fun hc => absurd hc hak, fun _ => k4⟩
      · have hd : decide (List.getD of a.toNat (0, 0) = (0, 0)) = false := by simpa using hza
        simp only [hd, cond_false]
        obtain ⟨of', part', k1, k2, k3, k4⟩ := stay
        exact ⟨of', part', k1, k2, k3, fun hc => absurd hc hak, fun _ => by rw [k4]; exact hza⟩
    · have hb2 : (b == k) = false := by simpa using hbk
      simp only [hb2, cond_false]
      obtain ⟨of', part', k1, k2, k3, k4⟩ := stay
      exact ⟨of', part', k1, k2, k3, fun hc => absurd hc hak, fun hc => absurd hc hbk⟩

theorem done.later {m : Int} {of of' : List (Int × Int)} {part part' : List Int} {k : Int} {e : E5} (hok : okE m e = true) (h : done of k e) (hl : Later m of part of' part') : done of' k e := by
  obtain ⟨ha, hb, _⟩ := okE_iff.1 hok
  exact ⟨fun hc => hl.nz _ hb.1 (by omega) (h.1 hc), fun hc => hl.nz _ ha.1 (by omega) (h.2 hc)⟩

/-- all edges from one node on -/
theorem node50 {m : Int} {es : List E5} {node : Int} {of0 : List (Int × Int)} (hm : m ≤ 8) (hof0 : (of0.length : Int) = m) (hG : ∀ e ∈ es, okE m e = true) (hl : es.length ≤ 16) (i : Nat) (k : Int) :
    ∀ (d j : Nat) (of : List (Int × Int)) (part : List Int), j + d = es.length → SInv m es node of0 of part → part[i]? = some k → (∀ e ∈ es.take j, done of k e) →
    ∃ of' part', t50_7 i es es.length j of m es part = t50_4 ((i + 1 : Nat) : Int) of' m es part' ∧ SInv m es node of0 of' part' ∧ Later m of part of' part' ∧ ∀ e ∈ es, done of' k e
  | 0, j, of, part, hj, h, hk, hd => by
    rw [t50_7_eq, r50_7]
    have h1 : ¬ ((j : Int) < (es.length : Int)) := by omega
    simp only [h1, decide_false, cond_false]
    have hc := h.cnt
    have hc2 := count0_le (l := of0)
    have hi : i < part.length := (List.getElem?_eq_some_iff.1 hk).1
    rw [wrap_ok (n := (i : Int) + 1) (by omega) (by omega)]
    refine ⟨of, part, rfl, h, Later.refl, fun e he => hd e ?_⟩
    rw [List.take_of_length_le (by omega)]; exact he
  | d + 1, j, of, part, hj, h, hk, hd => by
    obtain ⟨hi, hk'⟩ := List.getElem?_eq_some_iff.1 hk
    obtain ⟨of1, part1, k1, k2, k3, k4⟩ := edge50 hm hof0 hG hl h i hi j (by omega)
    have hk1 : part1[i]? = some k := by
      obtain ⟨s, hs⟩ := k3.pre
      rw [hs, List.getElem?_append_left hi]; exact hk
    obtain ⟨of2, part2, j1, j2, j3, j4⟩ := node50 hm hof0 hG hl i k d (j + 1) of1 part1 (by omega) k2 hk1 (by
      intro e he
      rw [List.take_succ_eq_append_getElem (by omega)] at he
      rcases List.mem_append.1 he with he | he
      · exact (hd e he).later (hG e (List.mem_of_mem_take he)) k3
      · simp at he; subst he; rw [← hk']; exact k4)
    exact ⟨of2, part2, k1.trans j1, j2, k3.trans j3, j4⟩

/-- all nodes of the part -/
theorem nodes50 {m : Int} {es : List E5} {node : Int} {of0 : List (Int × Int)} (hm : m ≤ 8) (hof0 : (of0.length : Int) = m) (hG : ∀ e ∈ es, okE m e = true) (hl : es.length ≤ 16) :
    ∀ (d i : Nat) (of : List (Int × Int)) (part : List Int), i + d = of0.count (0, 0) → i ≤ part.length → SInv m es node of0 of part → (∀ k ∈ part.take i, ∀ e ∈ es, done of k e) →
    ∃ of' part', t50_4 i of m es part = some ((), of', part', ()) ∧ SInv m es node of0 of' part' ∧ ∀ k ∈ part', ∀ e ∈ es, done of' k e
  | d, i, of, part, hd, hi, h, hdn => by
    rw [t50_4_eq, r50_4]
    have hc := h.cnt
    by_cases hlt : i < part.length
    · have h1 : ((i : Int) < (part.length : Int)) := by omega
      simp only [h1, decide_true, cond_true]
      cases d with
      | zero => omega
      | succ d =>
        obtain ⟨of1, part1, k1, k2, k3, k4⟩ := node50 hm hof0 hG hl i part[i] es.length 0 of part (by omega) h (by simp [hlt]) (by simp)
        have k1 : t50_7 i es es.length 0 of m es part = t50_4 ((i + 1 : Nat) : Int) of1 m es part1 := k1
        rw [k1]
        obtain ⟨s, hs⟩ := k3.pre
        refine nodes50 hm hof0 hG hl d (i + 1) of1 part1 (by omega) (by rw [hs]; simp; omega) k2 ?_
        intro k hk e he
        have : part1.take (i + 1) = part.take i ++ [part[i]] := by
          rw [hs, List.take_append_of_le_length (by omega), List.take_succ_eq_append_getElem hlt]
        rw [this] at hk
        rcases List.mem_append.1 hk with hk | hk
        · exact (hdn k hk e he).later (hG e he) k3
        · simp at hk; subst hk; exact k4 e he
    · have h1 : ¬ ((i : Int) < (part.length : Int)) := by omega
      simp only [h1, decide_false, cond_false]
      refine ⟨of, part, rfl, h, fun k hk => hdn k ?_⟩
      rw [List.take_of_length_le (by omega)]; exact hk

theorem M50_is {m : Int} {es : List E5} {node : Int} {of0 : List (Int × Int)} (hm : m ≤ 8) (hof0 : (of0.length : Int) = m) (hG : ∀ e ∈ es, okE m e = true) (hl : es.length ≤ 16) (hn : 0 ≤ node ∧ node < m) (hz : at2 of0 node = (0, 0)) :
    ∃ of part, M50 m es node of0 = some ((), of, part, ()) ∧ SInv m es node of0 of part ∧ ∀ k ∈ part, ∀ e ∈ es, done of k e := by
  rw [M50_eq, r50]
  have e1 : node < (of0.length : Int) := by omega
  simp only [hn.1, e1, decide_true, cond_true]
  have hset : ∀ j, 0 ≤ j → j < m → at2 (of0.set node.toNat (1, 1)) j = if node = j then (1, 1) else at2 of0 j := fun j a _ => at2_set hn.1 a e1
  have hs := hset node hn.1 hn.2
  rw [if_pos rfl] at hs
  have h : SInv m es node of0 (of0.set node.toNat (1, 1)) [node] := by
    refine ⟨by simp; omega, ?_, ?_, ?_, ?_, ?_, ?_, ?_, by simp⟩
    · intro k hk; simp at hk; subst hk; exact ⟨hn, hz⟩
    · have := count0_set (v := (1, 1)) hn.1 e1 hz (by decide)
      simp only [List.length_cons, List.length_nil]; omega
    · intro k hk; simp at hk; subst hk; rw [hs]; simp [f5]
    · refine ⟨1, by omega, by simp [f5], ?_⟩
      intro k hk; simp at hk; subst hk; rw [hs]; exact Int.dvd_refl _
    · intro k a b hk
      rw [hset k a b, if_neg]
      rintro rfl; exact hk (by simp)
    · intro p hp k hk; simp at hk; subst hk; rw [hs]
    · simp
  have hpos : 0 < of0.count (0, 0) := by
    have := h.cnt
    simp only [List.length_cons, List.length_nil] at this
    omega
  obtain ⟨of, part, k1, k2, k3⟩ := nodes50 hm hof0 hG hl (of0.count (0, 0)) 0 _ _ (by omega) (by simp) h (by simp)
  exact ⟨of, part, k1, k2, k3⟩

end Go.AI
