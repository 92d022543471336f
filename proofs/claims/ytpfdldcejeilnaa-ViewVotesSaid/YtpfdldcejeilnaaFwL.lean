import Derived.Test.YtpfdldcejeilnaaFwK
set_option linter.unusedVariables false
set_option linter.unusedSimpArgs false
namespace Go.Fw
open Go

/-! ### Calls and regions -/

/-- May this function be entered? -/
def enters (P : Program) (f : FuncId) : Bool :=
  match P.funcs[f]? with
  | some fn => fn.name != "runtime.NumGoroutine" && fn.body.isSome
  | none => false

/-- The names that an operation touches. -/
def Out.touch (out : Out) (n : Nat) : Prop := n ∈ out.rd ∨ ∃ ob, (n, ob) ∈ out.upd

/-- What a call must do, whatever memory it meets. -/
def CallD (P : Program) (f : FuncId) (args : List PV) (L : List PObj) (out : Out) : Prop :=
  enters P f = true ∧ OkUpd L out.upd ∧ ∀ (g : Gh) (w : World) (vs : List Value), vs.length = args.length → (∀ (i : Nat) v p, vs[i]? = some v → args[i]? = some p → Rep g v p) → FrOK g w →
    (∀ n, out.touch n → RelObj g w n (Lf L n)) → (∀ n ob, (n, ob) ∈ out.upd → Live (Lf L n) = true ∨ g.at_ n = none) →
    (∀ n m b, out.touch n → out.touch m → g.at_ n = some b → g.at_ m = some b → Live (Lf L n) = true → Live (Lf L m) = true → n = m) →
    Calls P f vs.toArray w (fun e w' => ∃ v g', e = .returned v ∧ Rep g' v out.pv ∧ Stp (Lf L) out.upd g g' w w')

structure POper where
  dst : Option Nat
  op : POp
  guard : Option (Nat × Bool)
  deriving Inhabited

def guardSlot (ops : Array Oper) : Option (Nat × Bool) → Option (Option (Nat × Bool))
  | none => some none
  | some (j, want) =>
    match (ops[j]?).bind (·.dst) with
    | some d => some (some (d, want))
    | none => none

def resolveOp (P : Program) (ops : Array Oper) (o : Oper) : Option POper :=
  match resolve P o, guardSlot ops o.guard with
  | some p, some g => if opFine P o then some { dst := o.dst, op := p, guard := g } else none
  | _, _ => none

def resolveOps (P : Program) (ops : Array Oper) : List Oper → Option (List POper)
  | [] => some []
  | o :: r =>
    match resolveOp P ops o, resolveOps P ops r with
    | some p, some ps => some (p :: ps)
    | _, _ => none

/-- One operation, then what follows. -/
def opO (P : Program) (o : POper) (env : List PV) (L : List PObj) (k : Out → Prop) : Prop :=
  match o.op with
  | .callf f args => ∃ out, CallD P f (args.map (ev env)) L out ∧ k out
  | .callv x args =>
    match ev env x with
    | .fn f first caps => ∃ out, CallD P f (first ++ args.map (ev env) ++ caps) L out ∧ k out
    | _ => False
  | p =>
    match peval env L p with
    | some (ob, out) => ob ∧ ∃ out', LeOut out out' ∧ k out'
    | none => False

def opK (P : Program) (o : POper) (env : List PV) (L : List PObj) (k : List PV → List PObj → Prop) : Prop :=
  opO P o env L (fun out => k (putE env o.dst out.pv) (upL L out.upd))

def regK (P : Program) : List POper → List PV → List PObj → (List PV → List PObj → Prop) → Prop
  | [], env, L, k => k env L
  | o :: r, env, L, k =>
    match o.guard with
    | none => opK P o env L (fun env L => regK P r env L k)
    | some (t, want) =>
      match ev env (.tmp t) with
      | .d (.bool b) => if b = want then opK P o env L (fun env L => regK P r env L k) else regK P r (putE env o.dst .und) L k
      | .und => regK P r (putE env o.dst .und) L k
      | _ => False

theorem peval_upd {env : List PV} {L : List PObj} {po : POp} {ob : Prop} {out : Out} (h : peval env L po = some (ob, out)) : OkUpd L out.upd := by
  have new : ∀ cs, OkUpd L [(L.length, .arr cs)] := fun cs => ⟨.inr rfl, fun _ _ h => (by cases h), trivial⟩
  have none_ : OkUpd L [] := trivial
  cases po
  case alloc zs => simp only [peval, Option.some.injEq, Prod.mk.injEq] at h; obtain ⟨-, rfl⟩ := h; exact new _
  case box n x => simp only [peval, Option.some.injEq, Prod.mk.injEq] at h; obtain ⟨-, rfl⟩ := h; exact new _
  case bslice z len zs parts =>
    simp only [peval, Option.map_eq_some_iff, Prod.mk.injEq] at h
    obtain ⟨cs, -, -, rfl⟩ := h; exact new _
  case mkslice z b zs l c =>
    simp only [peval] at h
    split at h
    · simp only [Option.some.injEq, Prod.mk.injEq] at h; obtain ⟨-, rfl⟩ := h; exact new _
    · cases h
  case mark x =>
    simp only [peval] at h
    split at h
    · rename_i q off n z tt h1
      split at h
      · rename_i cs hL
        simp only [Option.some.injEq, Prod.mk.injEq] at h; obtain ⟨-, rfl⟩ := h
        exact ⟨.inl ⟨(List.getElem?_eq_some_iff.1 hL).1, by simp [Lf, hL, Live]⟩, fun _ _ h => (by cases h), trivial⟩
      · cases h
    · cases h
  case store n a v =>
    simp only [peval] at h
    split at h
    · rename_i q off h1
      split at h
      · rename_i cs hL
        simp only [Option.some.injEq, Prod.mk.injEq] at h; obtain ⟨-, rfl⟩ := h
        exact ⟨.inl ⟨(List.getElem?_eq_some_iff.1 hL).1, by simp [Lf, hL, Live]⟩, fun _ _ h => (by cases h), trivial⟩
      · cases h
    · cases h
  case append z b x y =>
    simp only [peval] at h
    split at h
    · rename_i ob1 n cs kill ob2 m ys rd hb hin
      simp only [Option.some.injEq, Prod.mk.injEq] at h; obtain ⟨-, rfl⟩ := h
      unfold appBase at hb
      split at hb
      · simp only [Option.some.injEq, Prod.mk.injEq] at hb; obtain ⟨-, -, -, rfl⟩ := hb; exact new _
      · simp only [Option.some.injEq, Prod.mk.injEq] at hb; obtain ⟨-, -, -, rfl⟩ := hb; exact new _
      · simp only [Option.some.injEq, Prod.mk.injEq] at hb; obtain ⟨-, -, -, rfl⟩ := hb; exact new _
      · rename_i q off n' z' t
        split at hb
        · rename_i cs' hL
          split at hb
          · simp only [Option.some.injEq, Prod.mk.injEq] at hb; obtain ⟨-, -, -, rfl⟩ := hb
            have hq := (List.getElem?_eq_some_iff.1 hL).1
            refine ⟨.inl ⟨hq, by simp [Lf, hL, Live]⟩, fun m om hm => ?_, ?_⟩
            · have hm : (m, om) ∈ [(L.length, PObj.arr _)] := hm
              simp only [List.mem_singleton, Prod.mk.injEq] at hm; omega
            · refine ⟨.inr ?_, fun _ _ h => (by cases h), trivial⟩
              simp [up1, hq]
          · cases hb
        · cases hb
      · cases hb
    · cases h
  all_goals
    have : out.upd = [] := by
      simp only [peval] at h
      repeat' split at h
      all_goals first
        | (cases h; done)
        | (simp only [Option.some.injEq, Prod.mk.injEq] at h; obtain ⟨-, rfl⟩ := h; rfl)
        | (simp only [Option.map_eq_some_iff, Prod.mk.injEq] at h; obtain ⟨_, -, -, rfl⟩ := h; rfl)
        | (simp only [Option.map_eq_some_iff] at h; obtain ⟨⟨_, _⟩, -, h⟩ := h; simp only [Prod.mk.injEq] at h; obtain ⟨-, rfl⟩ := h; rfl)
    rw [this]; exact none_

/-- What an operation must do, where no two objects that it touches are one. -/
def OpDo (P : Program) (o : Oper) (env : List PV) (L : List PObj) (out : Out) : Prop :=
  ∀ (g : Gh) (w : World) (a : Act) (K : Act → World → Prop) (Q : Exit → Act → World → Prop),
    (∀ x ∈ o.op.operands.toList, Rep g (a.eval x) (ev env x)) → FrOK g w → (∀ n, out.touch n → RelObj g w n (Lf L n)) → (∀ n ob, (n, ob) ∈ out.upd → Live (Lf L n) = true ∨ g.at_ n = none) →
    (∀ n m b, out.touch n → out.touch m → g.at_ n = some b → g.at_ m = some b → Live (Lf L n) = true → Live (Lf L m) = true → n = m) →
    (∀ v g' w', Rep g' v out.pv → Stp (Lf L) out.upd g g' w w' → K (a.put o.dst v) w') → o.wp P a w K Q

theorem resolve_call {P : Program} {o : Oper} {p : POp} (h : resolve P o = some p) :
    (∀ f args, p = .callf f args → ∃ c : Call, o.op = .call c ∧ c.callee = .value (.func f) ∧ c.args.toList = args) ∧
    (∀ x args, p = .callv x args → ∃ c : Call, o.op = .call c ∧ c.callee = .value x ∧ c.args.toList = args) := by
  unfold resolve at h
  split at h
  case h_26 f args at_ ho => cases h; exact ⟨fun f' a e => (by cases e; exact ⟨_, ho, rfl, rfl⟩), fun x a e => (by cases e)⟩
  case h_27 t args at_ ho => cases h; exact ⟨fun f' a e => (by cases e), fun x a e => (by cases e; exact ⟨_, ho, rfl, rfl⟩)⟩
  all_goals
    refine ⟨fun f a e => ?_, fun x a e => ?_⟩ <;> subst e <;> exfalso
    all_goals
      repeat' split at h
      all_goals first
        | (cases h; done)
        | (simp at h; done)

theorem enter_run {P : Program} {f : FuncId} (hf : enters P f = true) (vs : Array Value) (w : World) : (callFunc f vs).run P w = .ok (.enter f vs) w := by
  unfold enters at hf
  split at hf
  · rename_i fn hfn
    simp only [Bool.and_eq_true, bne_iff_ne, ne_eq] at hf
    obtain ⟨b, hb⟩ := Option.isSome_iff_exists.1 hf.2
    simp [callFunc, hfn, hf.1, hb]
  · cases hf

theorem opO_ok {P : Program} {o : Oper} {po : POper} {ops : Array Oper} {env : List PV} {L : List PObj} {k : Out → Prop} (hr : resolveOp P ops o = some po) (h : opO P po env L k) :
    ∃ out : Out, OkUpd L out.upd ∧ k out ∧ OpDo P o env L out := by
  unfold resolveOp at hr
  split at hr
  · rename_i p gd hp hg
    split at hr
    · rename_i hfine
      simp only [Option.some.injEq] at hr
      subst hr
      have plain : ∀ (ob : Prop) (out : Out), peval env L p = some (ob, out) → ob → (∃ out', LeOut out out' ∧ k out') →
          ∃ out : Out, OkUpd L out.upd ∧ k out ∧ OpDo P o env L out := by
        intro ob out hpe hob ⟨out', hle, hk⟩
        refine ⟨out', OkUpd.weak hle.upd rfl (fun _ => rfl) (peval_upd hpe), hk, fun g w a K Q hx hf ht hn _ kk => sound hp hfine hpe hob g w a K Q hx hf (fun n hn => ht n (.inl (by rw [hle.rd]; exact hn))) (fun n ob hno => ?_) (fun n ob hno => ?_) (fun v g' w' hr hs => kk v g' w' (hle.pv _ _ hr) (hs.weak hle.upd))⟩
        · obtain ⟨b, hb, _⟩ := hle.upd.forth n ob hno
          exact ht n (.inr ⟨b, hb⟩)
        · obtain ⟨b, hb, _⟩ := hle.upd.forth n ob hno
          exact hn n b hb
      have call : ∀ (f : FuncId) (pvs : List PV) (out : Out), CallD P f pvs L out → k out →
          (∀ (g : Gh) (w : World) (a : Act), (∀ x ∈ o.op.operands.toList, Rep g (a.eval x) (ev env x)) → ∃ vs : List Value, vs.length = pvs.length ∧ (∀ (i : Nat) v p, vs[i]? = some v → pvs[i]? = some p → Rep g v p) ∧ (execOp a.eval o).run P w = .ok (.enter f vs.toArray) w) →
          ∃ out : Out, OkUpd L out.upd ∧ k out ∧ OpDo P o env L out := by
        intro f pvs out hcd hk hargs
        obtain ⟨-, hu, hc⟩ := hcd
        refine ⟨out, hu, hk, fun g w a K Q hx hf ht hn hi kk => ?_⟩
        obtain ⟨vs, h1, h2, h3⟩ := hargs g w a hx
        have hcall := hc g w vs h1 h2 hf ht hn hi
        unfold Oper.wp
        rw [h3, Oper.upon_enter]
        refine hcall.mono fun e w' ⟨v, g', he, hr, hs⟩ => ?_
        subst he
        exact kk v g' w' hr hs
      obtain ⟨rc1, rc2⟩ := resolve_call hp
      unfold opO at h
      simp only at h
      split at h
      · rename_i f args
        obtain ⟨out, hcd, hk⟩ := h
        obtain ⟨c, ho, hc, ha⟩ := rc1 f args rfl
        refine call f _ out hcd hk (fun g w a hx => ⟨args.map a.eval, by simp, fun i v p h1 h2 => ?_, ?_⟩)
        · simp only [List.getElem?_map, Option.map_eq_some_iff] at h1 h2
          obtain ⟨z, hz, rfl⟩ := h1
          obtain ⟨z', hz', rfl⟩ := h2
          rw [hz] at hz'; cases hz'
          refine hx z ?_
          rw [ho]; simp only [Op.operands, Call.operands, hc]
          rw [Array.toList_append, ha]
          exact List.mem_append_right _ (List.mem_of_getElem? hz)
        · have hca : c.args = args.toArray := by rw [← ha]
          have hargs : c.args.map a.eval = (args.map a.eval).toArray := by rw [hca]; simp
          simp [execOp, ho, Go.resolve, hc, hargs, Act.eval, Deferred.ofValue, invoke, enter_run hcd.1]
      · rename_i x args
        split at h
        · rename_i f first caps hx0
          obtain ⟨out, hcd, hk⟩ := h
          obtain ⟨c, ho, hc, ha⟩ := rc2 x args rfl
          refine call f _ out hcd hk (fun g w a hx => ?_)
          have hxr := hx x (by rw [ho]; simp [Op.operands, Call.operands, hc])
          rw [hx0] at hxr
          generalize hxv : a.eval x = xv at hxr
          cases hxr with
          | fn _ us ws _ _ l1 l2 l3 l4 =>
            refine ⟨us ++ args.map a.eval ++ ws, by simp [l1, l3], fun i v p h1 h2 => ?_, ?_⟩
            · by_cases hi : i < us.length
              · rw [List.append_assoc, List.getElem?_append_left hi] at h1
                rw [List.append_assoc, List.getElem?_append_left (by omega)] at h2
                exact l2 i v p h1 h2
              · by_cases hi2 : i < us.length + args.length
                · rw [List.append_assoc, List.getElem?_append_right (by omega), List.getElem?_append_left (by simp; omega)] at h1
                  rw [List.append_assoc, List.getElem?_append_right (by omega), List.getElem?_append_left (by simp; omega), ← l1] at h2
                  simp only [List.getElem?_map, Option.map_eq_some_iff] at h1 h2
                  obtain ⟨z, hz, rfl⟩ := h1
                  obtain ⟨z', hz', rfl⟩ := h2
                  rw [hz] at hz'; cases hz'
                  refine hx z ?_
                  rw [ho]; simp only [Op.operands, Call.operands, hc]
                  rw [Array.toList_append, ha]
                  exact List.mem_append_right _ (List.mem_of_getElem? hz)
                · rw [List.getElem?_append_right (by simp; omega)] at h1 h2
                  have e1 : (us ++ args.map a.eval).length = us.length + args.length := by simp
                  have e2 : (first ++ args.map (ev env)).length = us.length + args.length := by simp [l1]
                  rw [e1] at h1; rw [e2] at h2
                  exact l4 _ v p h1 h2
            · have hca : c.args = args.toArray := by rw [← ha]
              have hargs : c.args.map a.eval = (args.map a.eval).toArray := by rw [hca]; simp
              simp [execOp, ho, Go.resolve, hc, hargs, hxv, Deferred.ofValue, invoke, enter_run hcd.1]
        · exact h.elim
      · split at h
        · rename_i ob out hpe; exact plain ob out hpe h.1 h.2
        · exact h.elim
    · cases hr
  · cases hr

theorem opK_ok {P : Program} {o : Oper} {po : POper} {ops : Array Oper} {env : List PV} {L : List PObj} {k : List PV → List PObj → Prop} (hr : resolveOp P ops o = some po) (h : opK P po env L k) :
    ∃ out : Out, OkUpd L out.upd ∧ k (putE env o.dst out.pv) (upL L out.upd) ∧ OpDo P o env L out := by
  have hd : po.dst = o.dst := by
    unfold resolveOp at hr
    split at hr
    · split at hr
      · cases hr; rfl
      · cases hr
    · cases hr
  obtain ⟨out, h1, h2, h3⟩ := opO_ok hr h
  rw [hd] at h2
  exact ⟨out, h1, h2, h3⟩

end Go.Fw
