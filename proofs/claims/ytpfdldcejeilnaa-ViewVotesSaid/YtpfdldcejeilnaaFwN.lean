import Derived.Test.YtpfdldcejeilnaaFwM
set_option linter.unusedVariables false
set_option linter.unusedSimpArgs false
namespace Go.Fw
open Go

/-! ### Functions -/

/-- What a function does to the objects that it is lent, and what it answers. -/
def AC (P : Program) (f : FuncId) (args : List PV) (L0 : List PObj) (Q : PV → List PObj → Prop) : Prop :=
  enters P f = true ∧ ∀ (g : Gh) (w : World) (vs : List Value), vs.length = args.length → (∀ (i : Nat) v p, vs[i]? = some v → args[i]? = some p → Rep g v p) → RelH g (Lf L0) w → (∀ n, L0.length ≤ n → g.at_ n = none) →
    Calls P f vs.toArray w (fun e w' => ∃ v g' pv L env a, e = .returned v ∧ Rep g' v pv ∧ St L0 g w g' env L a w' ∧ Q pv L)

/-- How a function's results are found, at its end. -/
def resolveR (P : Program) : List ResultVar → Option (List POp)
  | [] => some []
  | .tmp t :: r => (resolveR P r).map (.move (.tmp t) :: ·)
  | .cell a t :: r =>
    match isAggT P t, szOf P t with
    | some true, some n => (resolveR P r).map (.loadN n (.tmp a) :: ·)
    | some false, _ => (resolveR P r).map (.load1 (.tmp a) :: ·)
    | _, _ => none

def resK (env : List PV) (L : List PObj) : List POp → (List PV → Prop) → Prop
  | [], k => k []
  | p :: r, k =>
    match peval env L p with
    | some (ob, out) => ob ∧ resK env L r (fun vs => k (out.pv :: vs))
    | none => False

def resPV : List PV → PV
  | [p] => p
  | ps => .tup ps

def resultOf (tmps : Array Value) (r : ResultVar) : Sem Value :=
  match r with
  | .tmp t => pure (tmps.getD t undef)
  | .cell a t => do loadVar t (← asAddr (tmps.getD a undef))

def resVal (vs : List Value) : Value :=
  match vs with
  | [v] => v
  | vs => .tuple vs.toArray

theorem loadAt_var {P : Program} {t : TypeId} {x v : Value} {w : World} (h : (Instr.loadAt t x).run P w = .ok v w) (hx : ∃ a, x = .pointer (some a)) : (do loadVar t (← asAddr x) : Sem Value).run P w = .ok v w := by
  obtain ⟨a, rfl⟩ := hx
  simpa [Instr.loadAt, Instr.sureAddr, asAddr] using h

theorem results_run {P : Program} {g : Gh} {env : List PV} {L : List PObj} {w : World} {a : Act} (hra : RelA g env a) (hrh : RelH g (Lf L) w) : ∀ {l : List ResultVar} {ps : List POp} {k : List PV → Prop}, resolveR P l = some ps → resK env L ps k →
    ∃ vs pvs, (l.mapM (resultOf a.tmps)).run P w = .ok vs w ∧ vs.length = pvs.length ∧ (∀ (i : Nat) v p, vs[i]? = some v → pvs[i]? = some p → Rep g v p) ∧ k pvs
  | [], ps, k, hr, h => by
    simp only [resolveR, Option.some.injEq] at hr
    subst hr
    exact ⟨[], [], by simp, rfl, by simp, h⟩
  | r :: l, ps, k, hr, h => by
    have glue : ∀ (p : POp) (qs : List POp), resolveR P l = some qs → resK env L (p :: qs) k → (∀ ob out, peval env L p = some (ob, out) → ob → ∃ v, (resultOf a.tmps r).run P w = .ok v w ∧ Rep g v out.pv) →
        ∃ vs pvs, ((r :: l).mapM (resultOf a.tmps)).run P w = .ok vs w ∧ vs.length = pvs.length ∧ (∀ (i : Nat) v p, vs[i]? = some v → pvs[i]? = some p → Rep g v p) ∧ k pvs := by
      intro p qs hq h hone
      simp only [resK] at h
      split at h
      · rename_i ob out hpe
        obtain ⟨v, hv1, hv2⟩ := hone ob out hpe h.1
        obtain ⟨vs, pvs, h1, h2, h3, h4⟩ := results_run hra hrh hq h.2
        refine ⟨v :: vs, out.pv :: pvs, by simp [List.mapM_cons, hv1, h1], by simp [h2], fun i u q hu hq => ?_, h4⟩
        cases i with
        | zero => simp at hu hq; subst hu; subst hq; exact hv2
        | succ i => exact h3 i u q (by simpa using hu) (by simpa using hq)
      · exact h.elim
    have ptr : ∀ (s : Nat) (t : TypeId) (u : Value) (p : PV), (Instr.loadAt t (a.eval (.tmp s))).run P w = .ok u w → Rep g u p → (∃ o off, ev env (.tmp s) = .ptr o off) ∨ (∃ e off, ev env (.tmp s) = .fptr e off) → ∃ v, (resultOf a.tmps (.cell s t)).run P w = .ok v w ∧ Rep g v p := by
      intro s t u p hu hp hx
      refine ⟨u, loadAt_var hu ?_, hp⟩
      have := hra.eval (.tmp s)
      have he : a.eval (.tmp s) = a.tmps.getD s undef := by simp [Act.eval]
      rw [he] at this
      rcases hx with ⟨o, off, hx⟩ | ⟨e, off, hx⟩ <;> rw [hx] at this
      · generalize a.tmps.getD s undef = v at this; cases this; exact ⟨_, rfl⟩
      · generalize a.tmps.getD s undef = v at this; cases this; exact ⟨_, rfl⟩
    cases r with
    | tmp t =>
      simp only [resolveR, Option.map_eq_some_iff] at hr
      obtain ⟨qs, hq, rfl⟩ := hr
      refine glue _ qs hq h (fun ob out hpe hob => ?_)
      simp only [peval, Option.some.injEq, Prod.mk.injEq] at hpe
      obtain ⟨-, rfl⟩ := hpe
      have he : a.eval (.tmp t) = a.tmps.getD t undef := by simp [Act.eval]
      exact ⟨_, by simp [resultOf], he ▸ hra.eval (.tmp t)⟩
    | cell s t =>
      simp only [resolveR] at hr
      split at hr
      · rename_i n ht hz
        simp only [Option.map_eq_some_iff] at hr
        obtain ⟨qs, hq, rfl⟩ := hr
        refine glue _ qs hq h (fun ob out hpe hob => ?_)
        obtain ⟨-, hrun⟩ := run_loadN ht hz hpe hob
        obtain ⟨u, hu, hp⟩ := hrun g w a.eval (hra.eval _) hrh.fr (fun n _ => hrh.obj n)
        refine ptr s t u _ hu hp ?_
        simp only [peval] at hpe
        split at hpe
        · rename_i o off h1; exact .inl ⟨o, off, h1⟩
        · rename_i e off h1; exact .inr ⟨e, off, h1⟩
        · cases hpe
      · rename_i ht
        simp only [Option.map_eq_some_iff] at hr
        obtain ⟨qs, hq, rfl⟩ := hr
        refine glue _ qs hq h (fun ob out hpe hob => ?_)
        obtain ⟨-, hrun⟩ := run_load1 ht hpe
        obtain ⟨u, hu, hp⟩ := hrun g w a.eval (hra.eval _) hrh.fr (fun n _ => hrh.obj n)
        refine ptr s t u _ hu hp ?_
        simp only [peval] at hpe
        split at hpe
        · rename_i o off h1; exact .inl ⟨o, off, h1⟩
        · rename_i e off h1; exact .inr ⟨e, off, h1⟩
        · cases hpe
      · cases hr

theorem results_all {P : Program} {fn : Func} {g : Gh} {env : List PV} {L : List PObj} {w : World} {a : Act} (hra : RelA g env a) (hrh : RelH g (Lf L) w) {ps : List POp} {k : List PV → Prop} (hr : resolveR P fn.results.toList = some ps) (h : resK env L ps k) :
    ∃ v pvs, (results fn a.tmps).run P w = .ok v w ∧ Rep g v (resPV pvs) ∧ k pvs := by
  obtain ⟨vs, pvs, h1, h2, h3, h4⟩ := results_run hra hrh hr h
  refine ⟨resVal vs, pvs, ?_, ?_, h4⟩
  · have hm : (fn.results.mapM (resultOf a.tmps)).run P w = .ok vs.toArray w := by
      rw [← Array.toArray_toList (xs := fn.results), List.mapM_toArray]
      simp [h1]
    show (do let vs ← fn.results.mapM (resultOf a.tmps); pure (if h : vs.size = 1 then vs[0] else .tuple vs) : Sem Value).run P w = _
    simp only [Sem.run_bind, hm, Result.andThen_ok, Sem.run_pure]
    rcases vs with _ | ⟨t, _ | ⟨u, r⟩⟩
    · simp [resVal]
    · simp [resVal]
    · simp [resVal]
  · rcases vs with _ | ⟨t, _ | ⟨u, r⟩⟩ <;> rcases pvs with _ | ⟨p, _ | ⟨q, s⟩⟩ <;> try (simp at h2; done)
    · exact .tup [] [] rfl (by simp)
    · exact h3 0 t p rfl rfl
    · exact .tup _ _ h2 h3

theorem ac_of_vc {P : Program} {f : FuncId} {fn : Func} {c : Code} {pc : PCode} {ts : List POp} {args : List PV} {L0 : List PObj} {Q : PV → List PObj → Prop} (hm : P.follows .mixedOrders = true) (hf : P.funcs[f]? = some fn) (hb : fn.body = some c)
    (hn : (fn.name != "runtime.NumGoroutine") = true) {ws : List Nat} (hc : resolveC P ws c = some pc) (hres : resolveR P fn.results.toList = some ts)
    (h : vc P L0.length pc (args ++ List.replicate (fn.ntmps - args.length) .und) L0 (fun e env L => (∀ i, e ≠ .exit i) ∧ resK env L ts (fun pvs => Q (resPV pvs) L))) : AC P f args L0 Q := by
  refine ⟨by simp [enters, hf, hn, hb], fun g w vs hl hr hh hnew => ?_⟩
  refine calls_of_wp hf hb ?_
  have hst : St L0 g w g (args ++ List.replicate (fn.ntmps - args.length) .und) L0 { tmps := vs.toArray ++ Array.replicate (fn.ntmps - vs.toArray.size) undef, defers := [] } w := {
    ra := {
      size := by simp [hl]
      rep := fun t p hp => by
        by_cases ht : t < args.length
        · rw [List.getElem?_append_left ht] at hp
          have hv : t < vs.length := by omega
          have := hr t _ p (List.getElem?_eq_getElem hv) hp
          simpa [Array.getD, hv, Array.getElem_append, Nat.lt_add_right] using this
        · rw [List.getElem?_append_right (by omega)] at hp
          have hlt := (List.getElem?_eq_some_iff.1 hp).1
          simp at hlt
          have hp' : p = .und := by
            have := (List.getElem?_eq_some_iff.1 hp).2
            simpa using this.symm
          subst hp'
          have hv : ¬ t < vs.length := by omega
          have h2 : t < vs.length + (fn.ntmps - vs.length) := by omega
          have : (vs.toArray ++ Array.replicate (fn.ntmps - vs.toArray.size) undef).getD t undef = undef := by
            simp [Array.getD, Array.getElem_append, hv]
          rw [this]; exact .und
      defers := rfl }
    rh := hh
    new := hnew
    os := rfl
    tape := rfl
    output := rfl
    size := Nat.le_refl _
    block := fun _ _ _ => rfl
    frle := fun _ _ _ h => h
    len := Nat.le_refl _
    at0 := fun n _ => ⟨rfl, fun _ _ => rfl⟩
    frn := fun b i v h => .inl h
    own := fun n hl b hb => .inr ⟨n, hl, hb⟩ }
  refine Code.wp_mono (fun e a w' hp => ?_) (vc_sound hm hc h hst)
  obtain ⟨pe, g', env', L', rfl, hst', hne, hk⟩ := hp
  have fin : ∀ (hd : a.defers = []), a.defers = [] ∧ ∃ v, (results fn a.tmps).run P w' = .ok v w' ∧ (∃ u g' pv L env a, Ending.returned v = .returned u ∧ Rep g' u pv ∧ St L0 g w g' env L a w' ∧ Q pv L) := by
    intro hd
    obtain ⟨v, pvs, h1, h2, h3⟩ := results_all hst'.ra hst'.rh hres hk
    exact ⟨hd, v, h1, v, g', resPV pvs, L', env', a, rfl, h2, hst', h3⟩
  cases pe with
  | normal => exact fin hst'.ra.defers
  | ret => exact fin hst'.ra.defers
  | exit i => exact absurd rfl (hne i)

end Go.Fw
