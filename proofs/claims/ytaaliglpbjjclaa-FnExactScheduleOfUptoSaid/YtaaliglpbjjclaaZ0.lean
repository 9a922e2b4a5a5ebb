/- MEANINGS: a function means what its runs come to; this is sound. -/
import Derived.Test.YtaaliglpbjjclaaD0
import Derived.KernelRfl
namespace Go.AI
set_option linter.unusedVariables false
set_option linter.unusedSimpArgs false

abbrev I64 : Ty := .int .i64
abbrev U8 : Ty := .int .u8
def iv (n : Int) : AV := .val (.int .i64 n)
def bv (b : Bool) : AV := .val (.bool b)
def sv (s : ByteArray) : AV := .val (.string s)

theorem castL_self {a : Ty} (l : List a.D) : castL a a l = some l := by simp [castL]

theorem rdC_cellsI : ∀ (t : Ty) (x : t.D) (r : List AV), rdC t (cellsI t x ++ r) = some (x, r)
  | .unit, _, _ => rfl
  | .int k, n, r => by simp [cellsI, rdC]
  | .bool, _, _ => rfl
  | .str, _, _ => rfl
  | .sl e, l, r => by simp [cellsI, rdC, castL_self]
  | .pair a b, x, r => by
    simp only [cellsI, rdC, List.append_assoc]
    rw [rdC_cellsI a x.1]
    simp only
    rw [rdC_cellsI b x.2]

theorem Pat.read_build : ∀ (p : Pat) (x : p.D) (r : List AV), p.read (p.build x ++ r) = some (x, r)
  | .nil, _, _ => rfl
  | .cons a b, x, r => by
    simp only [Pat.build, Pat.read, List.append_assoc]
    rw [Pat.read_build a x.1]
    simp only
    rw [Pat.read_build b x.2]
  | .dat t, x, r => rdC_cellsI t x r
  | .agg p, x, r => by have := Pat.read_build p x []; rw [List.append_nil] at this; simp [Pat.build, Pat.read, this]
  | .tup p, x, r => by have := Pat.read_build p x []; rw [List.append_nil] at this; simp [Pat.build, Pat.read, this]
  | .fn f p, x, r => by have := Pat.read_build p x []; rw [List.append_nil] at this; simp [Pat.build, Pat.read, this, Nat.beq_refl]
  | .cp p, x, r => by have := Pat.read_build p x []; rw [List.append_nil] at this; simp [Pat.build, Pat.read, this]
  | .ref h e, x, r => by simp [Pat.build, Pat.read, Nat.beq_refl]
  | .ptr h f, x, r => by simp [Pat.build, Pat.read, Nat.beq_refl]
  | .ptrI h f, x, r => by simp [Pat.build, Pat.read, Nat.beq_refl]
  | .nilS, _, _ => rfl
  | .nilP, _, _ => rfl
  | .ifc, _, _ => rfl
  | .any, _, _ => rfl
  | .slT e, l, r => by simp [Pat.build, Pat.read, castL_self]

theorem RPat.read_build (p : RPat) (x : p.D) : p.read (p.build x) = some x := by
  cases p with
  | gone => rfl
  | box p => have := Pat.read_build p x []; rw [List.append_nil] at this; simp [RPat.build, RPat.read, this]
  | arr e => simp [RPat.build, RPat.read, castL_self]
  | imm e => simp [RPat.build, RPat.read, castL_self]

theorem readRs_build : ∀ (ps : List RPat) (x : RsD ps), readRs ps (buildRs ps x) = some x
  | [], _ => rfl
  | p :: ps, x => by simp only [buildRs, readRs, RPat.read_build, readRs_build ps x.2]

theorem Form.read_build (F : Form) (d : F.D) : F.read (F.vals d) (F.roots d) = some d := by
  have := Pat.read_build F.p d.1 []
  rw [List.append_nil] at this
  simp [Form.read, Form.vals, Form.roots, this, readRs_build]

/-- a result read back -/
def Form.back (F : Form) (x : Res) : Option F.D := F.read [x.1] x.2

theorem Form.back_res {F : Form} (h : ∀ d : F.D, ∃ v, F.vals d = [v]) (d : F.D) : F.back (F.res d) = some d := by
  obtain ⟨v, hv⟩ := h d
  have := Form.read_build F d
  unfold Form.back Form.res
  rw [hv] at this ⊢
  exact this

/-! ### what a function comes to -/

noncomputable def theM (P : Program) (tab : List Ent) (ann : List (Nat × Lab)) (out : Form) (fn : Func) (ain : Form) (d : ain.D) : Option out.D :=
  (lim fun n => runF P tab ann out fn some n (ain.vals d) (ain.roots d)).bind out.back

noncomputable def theT (C : Ctx) (items : List Item) (B : Lab) (d : B.F.D) : Option C.out.D :=
  (lim fun n => run C some n items (B.st d)).bind C.out.back

theorem theT_eqnk {C : Ctx} {items : List Item} {B : Lab} {d : B.F.D} (k : Nat) (G : Nat → R) (h : ∀ n, run C some (n + k) items (B.st d) = G n) : theT C items B d = (lim G).bind C.out.back := by
  unfold theT
  rw [lim_shiftk (run_mono C some items (B.st d)) k]
  congr 2
  funext n; exact h n

theorem theT_eqn {C : Ctx} {items : List Item} {B : Lab} {d : B.F.D} (G : Nat → R) (h : ∀ n, run C some (n + 1) items (B.st d) = G n) : theT C items B d = (lim G).bind C.out.back := theT_eqnk 1 G h

theorem theM_eqn {P : Program} {tab : List Ent} {ann : List (Nat × Lab)} {out : Form} {fn : Func} {ain : Form} {d : ain.D} (k : Nat) (G : Nat → R) (h : ∀ n, runF P tab ann out fn some (n + k) (ain.vals d) (ain.roots d) = G n) :
    theM P tab ann out fn ain d = (lim G).bind out.back := by
  unfold theM
  have hm : Mono fun n => runF P tab ann out fn some n (ain.vals d) (ain.roots d) := run_mono _ some _ _
  rw [lim_shiftk hm k]
  congr 2
  funext n; exact h n

/-- no meaning -/
def noS : Sm := fun _ _ _ => none
theorem noS_det : Det noS := by intro _ _ _ _ h; cases h
theorem noS_sound (P : Program) (f : FuncId) : Sound P f noS := by intro _ _ _ _ _ _ _ _ _ h; cases h

/-- a meaning at arguments of one shape; at others another -/
def modeS (ain out : Form) (M : ain.D → Option out.D) (S : Sm) : Sm := fun args roots K => match ain.read args roots with
  | some d => (M d).bind fun d' => K (out.res d')
  | none => S args roots K

theorem modeS_det {ain out : Form} {M : ain.D → Option out.D} {S : Sm} (hS : Det S) : Det (modeS ain out M S) := by
  intro args roots K r h
  unfold modeS at h ⊢
  split at h
  · rename_i d hd
    cases hM : M d with
    | none => rw [hM] at h; cases h
    | some d' => rw [hM] at h; exact ⟨_, h, fun K' => rfl⟩
  · exact hS args roots K r h

theorem Hist.from {A A' E : Env} {keep : Nat} (hw : A'.w = A.w) (hm : A'.m = A.m) (hI : A'.I = A.I) (key : ∀ k, fits (getH A.hp k) (getH A'.hp k) ∧ (owned (getH A'.hp k) = true → owned (getH A.hp k) = true)) (a : Hist A' keep E) : Hist A keep E := by
  have hown : ∀ b, Own A' b → Own A b := by
    rintro b ⟨k, o, h1, h2⟩
    exact ⟨k, o, (key k).2 h1, by rw [← hm]; exact h2⟩
  refine ⟨?_, ?_, ?_, ?_, ?_, ?_, ?_, a.has, ?_, ?_, ?_, ?_⟩
  · intro b h1 h2; rw [← hw] at h1 ⊢; exact a.old b h1 fun h => h2 (hown b h)
  · rw [← hw]; exact a.sz
  · intro b hb; rw [← hw]; exact (a.own b hb).imp (hown b) id
  · intro b hb; rw [← hw, ← hI]; exact (a.imm b hb).imp id (Or.imp (hown b) id)
  · intro b hb; rw [← hI] at hb; exact a.sub b hb
  · intro k hk; exact fits_trans (key k).1 (a.fit k hk)
  · intro k hk hne; rw [← hm]; exact a.map k hk hne
  · rw [← hw]; exact a.os
  · rw [← hw]; exact a.tape
  · rw [← hw]; exact a.output
  · intro b; rw [← hw]; exact a.bsz b

section
variable {P : Program} {f : FuncId} {fn : Func}

theorem mode_calls {tab : List Ent} (ht : ∀ e ∈ tab, Sound P e.f e.S) (hf : P.funcs[f]? = some fn) {c : Code} (hb : fn.body = some c) {ann : List (Nat × Lab)} {out ain : Form}
    {A : Env} {args : List AV} {vals : Array Value} {roots : List Root} (hhp : A.hp = numbered 0 roots) (H : HeapRel A) (hv : relL A args vals.toList) {d : ain.D} (hd : ain.read args roots = some d) {d' : out.D}
    (hM : theM P tab ann out fn ain d = some d') : Calls P f vals A.w fun e w' => ∃ x, e = .returned x ∧ Left A roots.length (out.res d') x w' := by
  obtain ⟨aw, am, ahp, aI⟩ := A
  simp only at hhp; subst hhp
  obtain ⟨hl, key⟩ := Form.read_key H hd
  obtain ⟨q1, q2, _⟩ := Form.read_ok H hv hd
  unfold theM at hM
  simp only [Option.bind_eq_some_iff] at hM
  obtain ⟨x, hx, hback⟩ := hM
  obtain ⟨n, hn⟩ := lim_some hx
  have := runF_ok (A := ⟨aw, am, numbered 0 (ain.roots d), aI⟩) ht hf hb hn rfl q1 q2
  refine this.mono ?_
  rintro e w' ⟨v, rfl, m', I', e1, e2, e3⟩
  refine ⟨v, rfl, ?_⟩
  rw [hl] at e2
  obtain ⟨k1, k2, k3⟩ := Form.read_ok (xs := [v]) e1 (by simp only [relL]; exact ⟨e3, trivial⟩) hback
  refine ⟨m', I', k1, Hist.from (A' := ⟨aw, am, numbered 0 (ain.roots d), aI⟩) rfl rfl rfl (fun k => ⟨(key k).1, (key k).2.2⟩) (k3 e2), ?_⟩
  show relV _ (hd1 (out.vals d')) v
  have k2' : relL ⟨w', m', numbered 0 (out.res d').2, I'⟩ (out.vals d') [v] := k2
  generalize out.vals d' = us at k2'
  cases us with
  | nil => simp [relL] at k2'
  | cons u us => cases us with
    | nil => simp only [relL] at k2'; exact k2'.1
    | cons _ _ => simp [relL] at k2'

theorem sound_mode {tab : List Ent} (ht : ∀ e ∈ tab, Sound P e.f e.S) (hf : P.funcs[f]? = some fn) {c : Code} (hb : fn.body = some c) (hname : (fn.name == "runtime.NumGoroutine") = false) {ann : List (Nat × Lab)} {out ain : Form}
    {S : Sm} (hS : Sound P f S) : Sound P f (modeS ain out (theM P tab ann out fn ain) S) := by
  intro A args vals roots r roots' hhp H hv h
  unfold modeS at h
  split at h
  · rename_i d hd
    simp only [Option.bind_eq_some_iff] at h
    obtain ⟨d', hM, he⟩ := h
    have := mode_calls ht hf hb hhp H hv hd hM
    have he : out.res d' = (r, roots') := Option.some.inj he
    rw [he] at this
    exact calls_ok hf hb hname this
  · exact hS A args vals roots r roots' hhp H hv h

/-- one meaning at arguments of a shape, another at others -/
def orS (F : Form) (S1 S2 : Sm) : Sm := fun args roots K => match F.read args roots with
  | some _ => S1 args roots K
  | none => S2 args roots K
theorem orS_det {F : Form} {S1 S2 : Sm} (h1 : Det S1) (h2 : Det S2) : Det (orS F S1 S2) := by
  intro args roots K r h
  unfold orS at h ⊢
  split at h
  · exact h1 args roots K r h
  · exact h2 args roots K r h
theorem orS_sound {F : Form} {S1 S2 : Sm} (h1 : Sound P f S1) (h2 : Sound P f S2) : Sound P f (orS F S1 S2) := by
  intro A args vals roots r roots' hhp H hv h
  unfold orS at h
  split at h
  · exact h1 A args vals roots r roots' hhp H hv h
  · exact h2 A args vals roots r roots' hhp H hv h

/-- a meaning at a slice of which it is not known whether it is nil -/
theorem nil_sound {e : Ty} {out : Form} {MT : List e.D × Unit → Option out.D} {MF : Unit × Unit → Option out.D} (hT : Sound P f (modeS ⟨.slT e, []⟩ out MT noS)) (hF : Sound P f (modeS ⟨.nilS, []⟩ out MF noS)) (h : MT ([], ()) = MF ((), ())) {S : Sm} (hS : Sound P f S) :
    Sound P f (modeS ⟨.dat (.sl e), []⟩ out MT S) := by
  intro A args vals roots r roots' hhp H hv hr
  unfold modeS at hr
  split at hr
  · rename_i d hd
    simp only [Option.bind_eq_some_iff] at hr
    obtain ⟨d', hM, he⟩ := hr
    obtain ⟨aw, am, ahp, aI⟩ := A
    simp only at hhp; subst hhp
    obtain ⟨q1, q2, _⟩ := Form.read_ok H hv hd
    have hroots : roots = [] := by
      unfold Form.read at hd
      split at hd
      · split at hd
        · rename_i h2
          cases roots with
          | nil => rfl
          | cons _ _ => simp [readRs] at h2
        · cases hd
      · cases hd
    subst hroots
    obtain ⟨l, u⟩ := d
    cases hvl : vals.toList with
    | nil => rw [hvl] at q2; simp [Form.vals, Pat.build, cellsI, relL] at q2
    | cons v vs =>
      rw [hvl] at q2
      simp only [Form.vals, Pat.build, cellsI, relL] at q2
      obtain ⟨q2, q3⟩ := q2
      cases vs with
      | cons _ _ => simp [relL] at q3
      | nil =>
        simp only [relV] at q2
        obtain ⟨ad, n, c, rfl, hrep, _⟩ := q2
        cases ad with
        | none =>
          obtain ⟨h1, h2, h3⟩ := hrep
          obtain ⟨rfl, rfl⟩ := h3
          simp at h1; subst h1
          refine hF ⟨aw, am, numbered 0 [], aI⟩ [.val (.slice none 0 0)] vals [] r roots' rfl q1 (by rw [hvl]; simp [relL, relV]) ?_
          show (MF ((), ())).bind _ = _
          rw [← h]
          rw [show MT ([], ()) = some d' from hM]
          exact he
        | some ad =>
          refine hT ⟨aw, am, numbered 0 [], aI⟩ [.sl e l (some true)] vals [] r roots' rfl q1 (by rw [hvl]; simp only [relL, relV]; exact ⟨⟨some ad, n, c, rfl, hrep, fun _ => rfl, by simp⟩, trivial⟩) ?_
          have hrd : Form.read ⟨.slT e, []⟩ [.sl e l (some true)] [] = some (l, ()) := by simp [Form.read, Pat.read, castL_self, readRs]
          unfold modeS
          rw [hrd]
          show (MT (l, ())).bind _ = _
          rw [show MT (l, ()) = some d' from hM]
          exact he
  · exact hS A args vals roots r roots' hhp H hv hr

/-- a function that is entered in place: n rounds of its loops at most -/
def inS (P : Program) (tab : List Ent) (ann : List (Nat × Lab)) (out : Form) (fn : Func) (n : Nat) : Sm := fun args roots K => runF P tab ann out fn K n args roots

end
end Go.AI
