import Derived.Test.YtpfdldcejeilnaaFwL
set_option linter.unusedVariables false
set_option linter.unusedSimpArgs false
namespace Go.Fw
open Go

theorem RelA.eval {g : Gh} {env : List PV} {a : Act} (h : RelA g env a) (x : Operand) : Rep g (a.eval x) (ev env x) := by
  cases x with
  | tmp t =>
    simp only [ev, Act.eval]
    cases ht : env[t]? with
    | none => exact .dead _
    | some p => exact h.rep t p ht
  | const v =>
    simp only [ev, Act.eval, ofOpd]
    cases hp : plainConst v with
    | true => exact rep_ofConst g v hp
    | false => exact .dead _
  | global n => exact .dead _
  | func f => exact .fn f [] [] [] [] rfl (by simp) rfl (by simp)

theorem wanted_none {ops : Array Oper} {o : Oper} {tmps : Array Value} (h : guardSlot ops o.guard = some none) : Region.wanted o (yielded ops tmps) = true := by
  unfold guardSlot at h
  split at h
  · rename_i hg; simp [Region.wanted, hg]
  · split at h <;> cases h

theorem wanted_slot {ops : Array Oper} {o : Oper} {g : Gh} {p : PV} {a : Act} {t : Nat} {want : Bool} (h : guardSlot ops o.guard = some (some (t, want))) (hlt : t < a.tmps.size) (hr : Rep g (a.tmps.getD t undef) p) :
    (∀ b, p = .d (.bool b) → Region.wanted o (yielded ops a.tmps) = (b == want)) ∧ (p = .und → Region.wanted o (yielded ops a.tmps) = false) := by
  unfold guardSlot at h
  split at h
  · cases h
  · rename_i j want' hg
    split at h
    · rename_i d hd
      simp only [Option.some.injEq, Prod.mk.injEq] at h
      obtain ⟨rfl, rfl⟩ := h
      have get : a.tmps[d]? = some (a.tmps.getD d undef) := by simp [Array.getD, hlt]
      refine ⟨fun b hb => ?_, fun hb => ?_⟩
      · subst hb
        have hrep := rep_bool hr
        rw [hrep] at get
        simp [Region.wanted, hg, yielded, hd, get]
      · subst hb
        have hv : a.tmps.getD d undef = undef := by
          generalize a.tmps.getD d undef = v at hr; cases hr; rfl
        rw [hv] at get
        simp [Region.wanted, hg, yielded, hd, get, undef]
    · cases h

theorem wanted_some {ops : Array Oper} {o : Oper} {g : Gh} {env : List PV} {a : Act} {t : Nat} {want : Bool} (h : guardSlot ops o.guard = some (some (t, want))) (hr : RelA g env a) :
    (∀ b, ev env (.tmp t) = .d (.bool b) → Region.wanted o (yielded ops a.tmps) = (b == want)) ∧ (ev env (.tmp t) = .und → Region.wanted o (yielded ops a.tmps) = false) := by
  have key : ∀ p, ev env (.tmp t) = p → p ≠ .dead → t < a.tmps.size ∧ Rep g (a.tmps.getD t undef) p := by
    intro p hp hne
    simp only [ev] at hp
    cases he : env[t]? with
    | none => rw [he] at hp; exact absurd hp.symm hne
    | some q =>
      rw [he] at hp; simp at hp; subst hp
      exact ⟨by rw [hr.size]; exact (List.getElem?_eq_some_iff.1 he).1, hr.rep t _ he⟩
  refine ⟨fun b hb => ?_, fun hb => ?_⟩
  · obtain ⟨h1, h2⟩ := key _ hb (by simp)
    exact (wanted_slot h h1 h2).1 b rfl
  · obtain ⟨h1, h2⟩ := key _ hb (by simp)
    exact (wanted_slot h h1 h2).2 rfl

theorem resolveOp_spec {P : Program} {ops : Array Oper} {o : Oper} {po : POper} (h : resolveOp P ops o = some po) : po.dst = o.dst ∧ guardSlot ops o.guard = some po.guard := by
  unfold resolveOp at h
  split at h
  · rename_i p g hp hg
    split at h
    · cases h; exact ⟨rfl, hg⟩
    · cases h
  · cases h

/-! ### Regions whose order is drawn -/

abbrev Nms := List Nat × List Nat
def Out.nms (out : Out) : Nms := (out.upd.map (·.1), out.rd)
def Out.skip : Out := { pv := .und }

def dregK (P : Program) : List POper → List PV → List PObj → (List Nms → List PV → List PObj → Prop) → Prop
  | [], env, L, k => k [] env L
  | o :: r, env, L, k =>
    match o.guard with
    | none => opO P o env L (fun out => dregK P r (putE env o.dst out.pv) (upL L out.upd) (fun ns => k (out.nms :: ns)))
    | some (t, want) =>
      match ev env (.tmp t) with
      | .d (.bool b) => if b = want then opO P o env L (fun out => dregK P r (putE env o.dst out.pv) (upL L out.upd) (fun ns => k (out.nms :: ns))) else dregK P r (putE env o.dst .und) L (fun ns => k (([], []) :: ns))
      | .und => dregK P r (putE env o.dst .und) L (fun ns => k (([], []) :: ns))
      | _ => False

/-- What one operation does in the text's order. -/
def Good (P : Program) (ops : Array Oper) (o : Oper) (env : List PV) (L : List PObj) (out : Out) : Prop :=
  (OpDo P o env L out ∧ (guardSlot ops o.guard = some none ∨ ∃ t want, guardSlot ops o.guard = some (some (t, want)) ∧ ev env (.tmp t) = .d (.bool want))) ∨
  (out = Out.skip ∧ ∃ t want, guardSlot ops o.guard = some (some (t, want)) ∧ ((∃ b, ev env (.tmp t) = .d (.bool b) ∧ b ≠ want) ∨ ev env (.tmp t) = .und))

structure Trc (P : Program) (ops : Array Oper) (l : List Oper) (env : List PV) (L : List PObj) (envs : Nat → List PV) (Ls : Nat → List PObj) (outs : Nat → Out) : Prop where
  e0 : envs 0 = env
  l0 : Ls 0 = L
  good : ∀ j o, l[j]? = some o → Good P ops o (envs j) (Ls j) (outs j)
  ok : ∀ j, j < l.length → OkUpd (Ls j) (outs j).upd
  es : ∀ j o, l[j]? = some o → envs (j + 1) = putE (envs j) o.dst (outs j).pv
  ls : ∀ j, j < l.length → Ls (j + 1) = upL (Ls j) (outs j).upd

theorem dregK_trc {P : Program} {ops : Array Oper} : ∀ {l : List Oper} {pl : List POper} {env : List PV} {L : List PObj} {k : List Nms → List PV → List PObj → Prop},
    resolveOps P ops l = some pl → dregK P pl env L k → ∃ envs Ls outs, Trc P ops l env L envs Ls outs ∧ k ((List.range l.length).map fun j => (outs j).nms) (envs l.length) (Ls l.length)
  | [], pl, env, L, k, hr, h => by
    simp only [resolveOps, Option.some.injEq] at hr
    subst hr
    exact ⟨fun _ => env, fun _ => L, fun _ => Out.skip, ⟨rfl, rfl, fun j o h => (by simp at h), fun j h => (by simp at h), fun j o h => (by simp at h), fun j h => (by simp at h)⟩, h⟩
  | o :: l, pl, env, L, k, hr, h => by
    simp only [resolveOps] at hr
    split at hr
    · rename_i po ps hro hrs
      simp only [Option.some.injEq] at hr
      subst hr
      obtain ⟨hd, hgs⟩ := resolveOp_spec hro
      have glue : ∀ out : Out, Good P ops o env L out → OkUpd L out.upd → dregK P ps (putE env o.dst out.pv) (upL L out.upd) (fun ns => k (out.nms :: ns)) →
          ∃ envs Ls outs, Trc P ops (o :: l) env L envs Ls outs ∧ k ((List.range (o :: l).length).map fun j => (outs j).nms) (envs (o :: l).length) (Ls (o :: l).length) := by
        intro out hg hu hk
        obtain ⟨envs, Ls, outs, T, hk⟩ := dregK_trc hrs hk
        refine ⟨fun j => match j with | 0 => env | j + 1 => envs j, fun j => match j with | 0 => L | j + 1 => Ls j, fun j => match j with | 0 => out | j + 1 => outs j,
          ⟨rfl, rfl, fun j o' hj => ?_, fun j hj => ?_, fun j o' hj => ?_, fun j hj => ?_⟩, ?_⟩
        · cases j with
          | zero => simp at hj; subst hj; exact hg
          | succ j => exact T.good j o' (by simpa using hj)
        · cases j with
          | zero => exact hu
          | succ j => exact T.ok j (by simpa using hj)
        · cases j with
          | zero => simp at hj; subst hj; exact T.e0
          | succ j => exact T.es j o' (by simpa using hj)
        · cases j with
          | zero => exact T.l0
          | succ j => exact T.ls j (by simpa using hj)
        · rw [List.length_cons, List.range_succ_eq_map, List.map_cons, List.map_map]
          exact hk
      have exec : opO P po env L (fun out => dregK P ps (putE env po.dst out.pv) (upL L out.upd) (fun ns => k (out.nms :: ns))) →
          (guardSlot ops o.guard = some none ∨ ∃ t want, guardSlot ops o.guard = some (some (t, want)) ∧ ev env (.tmp t) = .d (.bool want)) →
          ∃ envs Ls outs, Trc P ops (o :: l) env L envs Ls outs ∧ k ((List.range (o :: l).length).map fun j => (outs j).nms) (envs (o :: l).length) (Ls (o :: l).length) := by
        intro h hg
        obtain ⟨out, hu, hk, hdo⟩ := opO_ok hro h
        rw [hd] at hk
        exact glue out (.inl ⟨hdo, hg⟩) hu hk
      have skip : dregK P ps (putE env po.dst .und) L (fun ns => k (([], []) :: ns)) →
          (∃ t want, guardSlot ops o.guard = some (some (t, want)) ∧ ((∃ b, ev env (.tmp t) = .d (.bool b) ∧ b ≠ want) ∨ ev env (.tmp t) = .und)) →
          ∃ envs Ls outs, Trc P ops (o :: l) env L envs Ls outs ∧ k ((List.range (o :: l).length).map fun j => (outs j).nms) (envs (o :: l).length) (Ls (o :: l).length) := by
        intro h hg
        rw [hd] at h
        exact glue Out.skip (.inr ⟨rfl, hg⟩) trivial h
      simp only [dregK] at h
      split at h
      · rename_i hg
        rw [hg] at hgs
        exact exec h (.inl hgs)
      · rename_i t want hg
        rw [hg] at hgs
        split at h
        · rename_i b hb
          split at h
          · rename_i hbw
            subst hbw
            exact exec h (.inr ⟨t, b, hgs, hb⟩)
          · rename_i hbw
            exact skip h ⟨t, want, hgs, .inl ⟨b, hb, hbw⟩⟩
        · rename_i hb
          exact skip h ⟨t, want, hgs, .inr hb⟩
        · exact h.elim
    · cases hr

/-! #### States told by functions -/

structure StF (L0 : List PObj) (g0 : Gh) (w0 : World) (g : Gh) (n : Nat) (E : Nat → Option PV) (O : Objs) (N : Nat → Prop) (a : Act) (w : World) : Prop where
  asz : a.tmps.size = n
  rep : ∀ t p, E t = some p → Rep g (a.tmps.getD t undef) p
  defers : a.defers = []
  rh : RelH g O w
  new : ∀ m, N m → g.at_ m = none ∧ L0.length ≤ m
  os : w.os = w0.os
  tape : w.tape = w0.tape
  output : w.output = w0.output
  size : w0.heap.size ≤ w.heap.size
  block : ∀ b, b < w0.heap.size → (∀ n, Live (Lf L0 n) = true → g0.at_ n ≠ some b) → w.heap[b]? = w0.heap[b]?
  frle : ∀ b i v, g0.fr b i = some v → g.fr b i = some v
  at0 : ∀ n, n < L0.length → g.at_ n = g0.at_ n ∧ ∀ b, g.at_ n = some b → g.sz n = g0.sz n
  frn : ∀ b i v, g.fr b i = some v → g0.fr b i = some v ∨ w0.heap.size ≤ b ∨ ∃ n, Live (Lf L0 n) = true ∧ g0.at_ n = some b
  own : ∀ n, Live (O n) = true → ∀ b, g.at_ n = some b → w0.heap.size ≤ b ∨ ∃ m, Live (Lf L0 m) = true ∧ g0.at_ m = some b

theorem Stp.congr {L L' : Objs} {upd : List (Nat × PObj)} {g g' : Gh} {w w' : World} (h : ∀ n ob, (n, ob) ∈ upd → L n = L' n) (s : Stp L upd g g' w w') : Stp L' upd g g' w w' where
  os := s.os
  tape := s.tape
  output := s.output
  size := s.size
  block := fun b hb hx => s.block b hb (fun n ob hn hl => hx n ob hn (by rw [← h n ob hn]; exact hl))
  le := s.le
  at_ := s.at_
  keep := fun n hl => by
    by_cases hm : ∃ ob, (n, ob) ∈ upd
    · obtain ⟨ob, hm⟩ := hm
      exact s.keep n (by rw [h n ob hm]; exact hl)
    · exact s.at_ n (fun ob ho => hm ⟨ob, ho⟩)
  frn := fun b i v hv => by
    rcases s.frn b i v hv with h0 | h0 | ⟨n, ob, hn, hl, hb⟩
    · exact .inl h0
    · exact .inr (.inl h0)
    · exact .inr (.inr ⟨n, ob, hn, by rw [← h n ob hn]; exact hl, hb⟩)
  frok := s.frok
  obj := s.obj
  own := fun n ob hn hl b hb => by
    rcases s.own n ob hn hl b hb with h0 | ⟨m, om, hm, hlm, hmb⟩
    · exact .inl h0
    · exact .inr ⟨m, om, hm, by rw [← h m om hm]; exact hlm, hmb⟩
  inj := s.inj

theorem StF.step {L0 : List PObj} {g0 : Gh} {w0 : World} {g g' : Gh} {n : Nat} {E E' : Nat → Option PV} {O O' : Objs} {N N' : Nat → Prop} {a a' : Act} {w w' : World} {upd : List (Nat × PObj)} (h : StF L0 g0 w0 g n E O N a w)
    (hs : Stp O upd g g' w w') (hu : ∀ m ob, (m, ob) ∈ upd → Live (O m) = true ∨ N m) (u1 : ∀ m ob, (m, ob) ∈ upd → O' m = ob) (u2 : ∀ m, (∀ ob, (m, ob) ∉ upd) → O' m = O m)
    (hN : ∀ m, N' m → N m ∧ ∀ ob, (m, ob) ∉ upd) (hsz : a'.tmps.size = n) (hrep : ∀ t p, E' t = some p → Rep g' (a'.tmps.getD t undef) p) (hdef : a'.defers = []) : StF L0 g0 w0 g' n E' O' N' a' w' where
  asz := hsz
  rep := hrep
  defers := hdef
  rh := h.rh.step hs u1 u2
  new := fun m hm => by
    obtain ⟨h1, h2⟩ := hN m hm
    rw [hs.at_ m h2]; exact h.new m h1
  os := hs.os.trans h.os
  tape := hs.tape.trans h.tape
  output := hs.output.trans h.output
  size := Nat.le_trans h.size hs.size
  block := fun b hb hx => by
    rw [← h.block b hb hx]
    refine hs.block b (Nat.lt_of_lt_of_le hb h.size) (fun n ob hn hl e => ?_)
    rcases h.own n hl b e with h0 | ⟨m, hm, hmb⟩
    · omega
    · exact hx m hm hmb
  frle := fun b i v hv => hs.le.1 _ _ _ (h.frle b i v hv)
  at0 := fun n hn => by
    obtain ⟨e1, e2⟩ := h.at0 n hn
    have e3 : g'.at_ n = g.at_ n := by
      by_cases hm : ∃ ob, (n, ob) ∈ upd
      · obtain ⟨ob, hm⟩ := hm
        rcases hu n ob hm with hl | hl
        · exact hs.keep n hl
        · have := (h.new n hl).2; omega
      · exact hs.at_ n (fun ob ho => hm ⟨ob, ho⟩)
    exact ⟨e3.trans e1, fun b hb => by rw [e3] at hb; exact ((hs.le.2 n b hb).2).trans (e2 b hb)⟩
  frn := fun b i v hv => by
    rcases hs.frn b i v hv with h0 | h0 | ⟨n, ob, hno, hl, hb⟩
    · exact h.frn b i v h0
    · right; left; exact Nat.le_trans h.size h0
    · right; exact h.own n hl b hb
  own := fun n hl b hb => by
    by_cases hm : ∃ ob, (n, ob) ∈ upd
    · obtain ⟨ob, hm⟩ := hm
      rw [u1 n ob hm] at hl
      rcases hs.own n ob hm hl b hb with h0 | ⟨m, om, hmo, hlm, hmb⟩
      · left; exact Nat.le_trans h.size h0
      · exact h.own m hlm b hmb
    · have hm' : ∀ ob, (n, ob) ∉ upd := fun ob ho => hm ⟨ob, ho⟩
      rw [u2 n hm'] at hl; rw [hs.at_ n hm'] at hb
      exact h.own n hl b hb

/-! #### Folds over the operations that are done -/

def fd {A B : Type} (s0 : A → B) (u : Nat → A → Option B) (D : Nat → Bool) : Nat → A → B
  | 0, x => s0 x
  | k + 1, x => bif D k then (u k x).getD (fd s0 u D k x) else fd s0 u D k x

theorem fd_agree {A B : Type} {s0 : A → B} {u : Nat → A → Option B} {D : Nat → Bool} {S : Nat → A → B} {n : Nat} (h0 : ∀ x, S 0 x = s0 x) (hs : ∀ k x, k < n → S (k + 1) x = (u k x).getD (S k x)) {x : A} :
    ∀ m, m ≤ n → ∀ j, j ≤ m → (∀ k, k < m → (u k x).isSome = true → D k = decide (k < j)) → fd s0 u D m x = S j x := by
  intro m
  induction m with
  | zero => intro _ j hj _; have : j = 0 := by omega
            subst this; exact (h0 x).symm
  | succ m ih =>
    intro hm j hj hD
    simp only [fd]
    have hDm := hD m (by omega)
    by_cases hjm : j = m + 1
    · subst hjm
      rw [hs m x (by omega), ih (by omega) m (Nat.le_refl _) (fun k hk hs => by rw [hD k (by omega) hs]; simp; omega)]
      cases hu : u m x with
      | none => cases D m <;> rfl
      | some b => rw [hDm (by rw [hu]; rfl)]; simp
    · rw [ih (by omega) j (by omega) (fun k hk hs => hD k (by omega) hs)]
      cases hu : u m x with
      | none => cases D m <;> rfl
      | some b =>
        have hmj : decide (m < j) = false := by simp; omega
        rw [hDm (by rw [hu]; rfl), hmj]; rfl

theorem fd_congr {A B : Type} {s0 : A → B} {u : Nat → A → Option B} {D D' : Nat → Bool} {x : A} : ∀ m, (∀ k, k < m → (u k x).isSome = true → D k = D' k) → fd s0 u D m x = fd s0 u D' m x := by
  intro m
  induction m with
  | zero => intro _; rfl
  | succ m ih =>
    intro hD
    simp only [fd]
    rw [ih (fun k hk => hD k (by omega))]
    cases hu : u m x with
    | none => cases D m <;> cases D' m <;> rfl
    | some b => rw [hD m (by omega) (by rw [hu]; rfl)]

/-- One more is done, and none behind it that is done matters here. -/
theorem fd_add {A B : Type} {s0 : A → B} {u : Nat → A → Option B} {D' : Nat → Bool} {x : A} {i : Nat} {b : B} (hu : u i x = some b) (hi : D' i = true) : ∀ m, i < m → (∀ k, i < k → k < m → (u k x).isSome = true → D' k = false) → fd s0 u D' m x = b := by
  intro m
  induction m with
  | zero => intro h; omega
  | succ m ih =>
    intro him hD
    simp only [fd]
    by_cases e : i = m
    · subst e; rw [hi, hu]; rfl
    · rw [ih (by omega) (fun k h1 h2 => hD k h1 (by omega))]
      cases hum : u m x with
      | none => cases D' m <;> rfl
      | some c => rw [hD m (by omega) (by omega) (by rw [hum]; rfl)]; rfl

/-! #### The check -/

/-- Which operations come before each, by the edges that bind. -/
def mkOrds (l : List Oper) : List (List Nat) :=
  l.foldl (fun acc o => acc ++ [((o.after.toList.filter (Region.binds .any)).flatMap fun e => e.on :: (acc[e.on]?).getD []).eraseDups]) []

def okEdges (ops : Array Oper) : Bool :=
  (List.range ops.size).all fun j => ((ops[j]?).map fun o => o.after.toList.all fun e => !Region.binds .any e || decide (e.on < j)).getD true

def okOrds (ops : Array Oper) (ords : List (List Nat)) : Bool :=
  (List.range ops.size).all fun j => ((ords[j]?).getD []).all fun i =>
    ((ops[j]?).map fun o => o.after.toList.any fun e => Region.binds .any e && decide (e.on < j) && (e.on == i || ((ords[e.on]?).getD []).contains i)).getD false

def okSlots (ops : Array Oper) (ords : List (List Nat)) : Bool :=
  (List.range ops.size).all fun j => (List.range j).all fun i => ((ords[j]?).getD []).contains i ||
    match ops[i]?, ops[j]? with
    | some x, some y => x.apart ops y
    | _, _ => true

def clashN (x y : Nms) : Bool := x.1.any (fun n => y.1.contains n || y.2.contains n) || x.2.any (fun n => y.1.contains n)

def okNms (ords : List (List Nat)) (ns : List Nms) : Bool :=
  (List.range ns.length).all fun j => (List.range j).all fun i => ((ords[j]?).getD []).contains i ||
    match ns[i]?, ns[j]? with
    | some x, some y => !clashN x y
    | _, _ => true

theorem okEdges_spec {ops : Array Oper} (h : okEdges ops = true) {j : Nat} {o : Oper} (ho : ops[j]? = some o) {e : Edge} (he : e ∈ o.after) (hb : Region.binds .any e = true) : e.on < j := by
  simp only [okEdges, List.all_eq_true, List.mem_range] at h
  have := h j (Array.getElem?_eq_some_iff.1 ho).1
  simp only [ho, Option.map_some, Option.getD_some, List.all_eq_true, Bool.or_eq_true, decide_eq_true_eq] at this
  rcases this e (by simpa using he) with h1 | h1
  · rw [hb] at h1; cases h1
  · exact h1

/-- What is before, is done. -/
theorem okOrds_done {ops : Array Oper} {ords : List (List Nat)} (h : okOrds ops ords = true) {D : Nat → Bool} (hD : ∀ j o, D j = true → ops[j]? = some o → ∀ e ∈ o.after, Region.binds .any e = true → D e.on = true) :
    ∀ j, (∀ o, ops[j]? = some o → ∀ e ∈ o.after, Region.binds .any e = true → D e.on = true) → j < ops.size → ∀ i, i ∈ (ords[j]?).getD [] → D i = true := by
  intro j
  induction j using Nat.strongRecOn with
  | _ j ih =>
    intro hj hlt i hi
    have h' := h
    simp only [okOrds, List.all_eq_true, List.mem_range] at h'
    have := h' j hlt i hi
    cases ho : ops[j]? with
    | none => rw [ho] at this; simp at this
    | some o =>
      rw [ho] at this
      simp only [Option.map_some, Option.getD_some, List.any_eq_true, Bool.and_eq_true, decide_eq_true_eq, Bool.or_eq_true, beq_iff_eq, List.contains_eq_mem] at this
      obtain ⟨e, he, ⟨hb, hlt'⟩, hi'⟩ := this
      have hDe := hj o ho e (by simpa using he) hb
      rcases hi' with rfl | hi'
      · exact hDe
      · exact ih e.on hlt' (fun o' ho' e' he' hb' => hD e.on o' hDe ho' e' he' hb') (by omega) i hi'

theorem okSlots_spec {ops : Array Oper} {ords : List (List Nat)} (h : okSlots ops ords = true) {i j : Nat} (hij : i < j) {x y : Oper} (hx : ops[i]? = some x) (hy : ops[j]? = some y) : i ∈ (ords[j]?).getD [] ∨ x.apart ops y = true := by
  simp only [okSlots, List.all_eq_true, List.mem_range] at h
  have := h j (Array.getElem?_eq_some_iff.1 hy).1 i hij
  simp only [hx, hy, Bool.or_eq_true, List.contains_eq_mem, decide_eq_true_eq] at this
  exact this

theorem okNms_spec {ords : List (List Nat)} {ns : List Nms} (h : okNms ords ns = true) {i j : Nat} (hij : i < j) {x y : Nms} (hx : ns[i]? = some x) (hy : ns[j]? = some y) : i ∈ (ords[j]?).getD [] ∨ clashN x y = false := by
  simp only [okNms, List.all_eq_true, List.mem_range] at h
  have := h j (List.getElem?_eq_some_iff.1 hy).1 i hij
  simp only [hx, hy, Bool.or_eq_true, List.contains_eq_mem, decide_eq_true_eq, Bool.not_eq_true'] at this
  exact this

theorem clashN_false {x y : Nms} (h : clashN x y = false) : (∀ n, n ∈ x.1 → n ∉ y.1 ∧ n ∉ y.2) ∧ ∀ n, n ∈ x.2 → n ∉ y.1 := by
  simp only [clashN, Bool.or_eq_false_iff, List.any_eq_false, Bool.or_eq_true, List.contains_eq_mem, decide_eq_true_eq, not_or] at h
  exact h

end Go.Fw
