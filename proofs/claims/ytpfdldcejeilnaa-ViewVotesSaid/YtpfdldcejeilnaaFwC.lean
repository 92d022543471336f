import Derived.Test.YtpfdldcejeilnaaFwB
import Derived.Laws.Concat
set_option linter.unusedVariables false
set_option linter.unusedSimpArgs false
namespace Go.Fw
open Go

/-! ### One step of what is known -/

structure Stp (L : Objs) (upd : List (Nat × PObj)) (g g' : Gh) (w w' : World) : Prop where
  os : w'.os = w.os
  tape : w'.tape = w.tape
  output : w'.output = w.output
  size : w.heap.size ≤ w'.heap.size
  block : ∀ b, b < w.heap.size → (∀ n ob, (n, ob) ∈ upd → Live (L n) = true → g.at_ n ≠ some b) → w'.heap[b]? = w.heap[b]?
  le : Gle g g'
  at_ : ∀ n, (∀ ob, (n, ob) ∉ upd) → g'.at_ n = g.at_ n
  keep : ∀ n, Live (L n) = true → g'.at_ n = g.at_ n
  frn : ∀ b i v, g'.fr b i = some v → g.fr b i = some v ∨ w.heap.size ≤ b ∨ ∃ n ob, (n, ob) ∈ upd ∧ Live (L n) = true ∧ g.at_ n = some b
  frok : ∀ b i v, g'.fr b i = some v → w'.cell? ⟨b, i, none⟩ = some v
  obj : ∀ n ob, (n, ob) ∈ upd → RelObj g' w' n ob
  own : ∀ n ob, (n, ob) ∈ upd → Live ob = true → ∀ b, g'.at_ n = some b → w.heap.size ≤ b ∨ ∃ m om, (m, om) ∈ upd ∧ Live (L m) = true ∧ g.at_ m = some b
  inj : ∀ n ob m om b, (n, ob) ∈ upd → (m, om) ∈ upd → Live ob = true → Live om = true → g'.at_ n = some b → g'.at_ m = some b → n = m

def FrOK (g : Gh) (w : World) : Prop := ∀ b i v, g.fr b i = some v → w.cell? ⟨b, i, none⟩ = some v

theorem Stp.refl {L : Objs} {g : Gh} {w : World} (h : FrOK g w) : Stp L [] g g w w where
  os := rfl
  tape := rfl
  output := rfl
  size := Nat.le_refl _
  block := fun _ _ _ => rfl
  le := Gle.refl g
  at_ := fun _ _ => rfl
  keep := fun _ _ => rfl
  frn := fun _ _ _ h => .inl h
  frok := h
  obj := fun _ _ h => by cases h
  own := fun _ _ h => by cases h
  inj := fun _ _ _ _ _ h => by cases h

/-- What an operation must do, whatever memory it meets. -/
def OpOK (P : Program) (o : Oper) (env : List PV) (L : Objs) (out : Out) : Prop :=
  ∀ (g : Gh) (w : World) (a : Act) (K : Act → World → Prop) (Q : Exit → Act → World → Prop),
    (∀ x ∈ o.op.operands.toList, Rep g (a.eval x) (ev env x)) → FrOK g w →
    (∀ n, n ∈ out.rd → RelObj g w n (L n)) → (∀ n ob, (n, ob) ∈ out.upd → RelObj g w n (L n)) →
    (∀ n ob, (n, ob) ∈ out.upd → Live (L n) = true ∨ g.at_ n = none) →
    (∀ v g' w', Rep g' v out.pv → Stp L out.upd g g' w w' → K (a.put o.dst v) w') → o.wp P a w K Q

theorem wp_of_value {P : Program} {o : Oper} {a : Act} {w w' : World} {K : Act → World → Prop} {Q : Exit → Act → World → Prop} {v : Value}
    (h : (execOp a.eval o).run P w = .ok (.value v) w') (k : K (a.put o.dst v) w') : o.wp P a w K Q := by
  unfold Oper.wp; rw [h]; exact k
theorem wp_of_skip {P : Program} {o : Oper} {a : Act} {w w' : World} {K : Act → World → Prop} {Q : Exit → Act → World → Prop}
    (h : (execOp a.eval o).run P w = .ok .skip w') (k : K (a.put o.dst undef) w') : o.wp P a w K Q := by
  unfold Oper.wp; rw [h]; exact k

/-- An operation that leaves memory alone. -/
theorem ok_pure {P : Program} {o : Oper} {env : List PV} {L : Objs} {out : Out} (hu : out.upd = [])
    (h : ∀ (g : Gh) (w : World) (ρ : Operand → Value), (∀ x ∈ o.op.operands.toList, Rep g (ρ x) (ev env x)) → FrOK g w → (∀ n, n ∈ out.rd → RelObj g w n (L n)) →
      ∃ v, (execOp ρ o).run P w = .ok (.value v) w ∧ Rep g v out.pv) : OpOK P o env L out := by
  intro g w a K Q hx hf hr _ _ k
  obtain ⟨v, hv, hrep⟩ := h g w a.eval hx hf hr
  exact wp_of_value hv (k v g w hrep (by rw [hu]; exact Stp.refl hf))

/-! ### Looking types up -/
def szOf (P : Program) (t : TypeId) : Option Nat := (P.info? t).map (·.size)
def zeroOf (P : Program) (t : TypeId) : Option Value := (P.info? t).bind (·.zero)
def zcells (P : Program) (t : TypeId) : Option (List PV) :=
  match zeroOf P t with
  | some z => if plainConst z = true ∧ some (spread (ofConst z)).length = szOf P t then some (spread (ofConst z)) else none
  | none => none
def isAggT (P : Program) (t : TypeId) : Option Bool :=
  match P.underlying t with
  | some (.struct _) | some (.array _ _) => some true
  | some _ => some false
  | none => none

def partPlace (P : Program) (fs : Array Field) (p : Nat × Operand) : Option (Nat × Nat × Operand) :=
  match fs[p.1]? with
  | some f => (szOf P f.type).map fun n => (f.offset, n, p.2)
  | none => none

def isBytes (P : Program) (s : TypeId) : Bool :=
  match P.underlying s with
  | some (.slice e) =>
    match P.underlying e with
    | some (.int .u8) => true
    | _ => false
  | _ => false
theorem isBytes_spec {P : Program} {s : TypeId} (h : isBytes P s = true) : ∃ e, P.underlying s = some (.slice e) ∧ P.underlying e = some (.int .u8) := by
  unfold isBytes at h
  split at h
  · rename_i e he
    split at h
    · rename_i hu; exact ⟨e, he, hu⟩
    · cases h
  · cases h

def resolve (P : Program) (o : Oper) : Option POp :=
  match o.op with
  | .move x | .assign x => some (.move x)
  | .pick c a b => some (.pick c a b)
  | .alloc e => (zcells P e).map .alloc
  | .box e x => (szOf P e).map fun n => .box n x
  | .build t parts =>
    match P.underlying t, zcells P t with
    | some (.struct fs), some zs =>
      (parts.toList.mapM (partPlace P fs)).map fun ps => .build zs ps
    | some (.array _ e), some zs => (szOf P e).map fun n => .build zs (parts.toList.map fun (i, x) => (i * n, n, x))
    | _, _ => none
  | .buildSlice t len parts =>
    match P.underlying t with
    | some (.slice e) =>
      match szOf P e, zcells P e with
      | some n, some zs => if len * n ≤ 2 ^ 24 ∧ 0 < n then some (.bslice n len ((List.replicate len zs).flatten) (parts.toList.map fun (i, x) => (i * n, n, x))) else none
      | _, _ => none
    | _ => none
  | .load t a =>
    match isAggT P t, szOf P t with
    | some true, some n => some (.loadN n a)
    | some false, _ => some (.load1 a)
    | _, _ => none
  | .store t a v => (szOf P t).map fun n => .store n a v
  | .nilCheck x => some (.nilc x)
  | .binOp op t x y _ =>
    match P.underlying t with
    | some (.int _) | some .string => some (.bin op x y)
    | some .bool => match op with
      | .eql => some (.binB false x y)
      | .neq => some (.binB true x y)
      | _ => none
    | some (.pointer _) =>
      match op, y with
      | .eql, .const (.pointer none) => some (.isnil 0 false x)
      | .neq, .const (.pointer none) => some (.isnil 0 true x)
      | _, _ => none
    | some (.slice _) =>
      match op, y with
      | .eql, .const (.slice none 0 0) => some (.isnil 1 false x)
      | .neq, .const (.slice none 0 0) => some (.isnil 1 true x)
      | _, _ => none
    | some (.func _ _ _) =>
      match op, y with
      | .eql, .const .nilFunc => some (.isnil 2 false x)
      | .neq, .const .nilFunc => some (.isnil 2 true x)
      | _, _ => none
    | some (.map _ _) =>
      match op, y with
      | .eql, .const (.map none) => some (.isnil 3 false x)
      | .neq, .const (.map none) => some (.isnil 3 true x)
      | _, _ => none
    | _ => none
  | .unOp op _ x => some (.un op x)
  | .convert s t x =>
    match P.underlying s, P.underlying t with
    | some (.int _), some (.int k) => some (.conv k x)
    | some (.slice e), some .string => if (P.underlying e matches some (.int .u8)) then some (.b2s x) else none
    | _, _ => if isBytes P s && s == t then some (.mark x) else none
  | .extract x i => some (.extract x i)
  | .fieldAddr s x i =>
    match P.underlying s with
    | some (.struct fs) => match fs[i]? with
      | some f => match szOf P f.type with
        | some n => if n = 0 then none else some (.faddr f.offset x)
        | none => none
      | none => none
    | _ => none
  | .field s x i =>
    match P.underlying s with
    | some (.struct fs) => match fs[i]? with
      | some f => match isAggT P f.type, szOf P f.type with
        | some true, some n => some (.fieldN f.offset n x)
        | some false, _ => some (.field1 f.offset x)
        | _, _ => none
      | none => none
    | _ => none
  | .indexAddr t x i =>
    match P.underlying t with
    | some (.slice e) => (szOf P e).map fun n => .iaddr n x i
    | some (.array m e) => (szOf P e).map fun n => .iaddrA m n x i
    | _ => none
  | .index t x i =>
    match P.underlying t with
    | some .string => some (.idxS x i)
    | _ => none
  | .slice t x lo hi mx =>
    match P.underlying t with
    | some (.slice e) => (szOf P e).map fun n => .slice n x lo hi mx
    | some (.array m e) => (szOf P e).map fun n => .sliceA m n x lo hi mx
    | some .string => match mx with
      | none => some (.sliceS x lo hi)
      | some _ => none
    | _ => none
  | .makeSlice t l c =>
    match P.underlying t with
    | some (.slice e) => match P.info? e, zcells P e with
      | some i, some zs => if 0 < i.size then some (.mkslice i.size i.bytes zs l c) else none
      | _, _ => none
    | _ => none
  | .makeFunc (.func f) first caps => if first.isEmpty then some (.mkfn f caps.toList) else none
  | .call { callee := .builtin .len, args, argTypes } =>
    match argTypes[0]?, args.toList with
    | some t, [x] => match P.underlying t with
      | some .string => some (.lenS x)
      | some (.slice _) => some (.len x)
      | _ => none
    | _, _ => none
  | .call { callee := .builtin .min, args, .. } =>
    match args.toList with
    | [x, y] => some (.minmax false x y)
    | _ => none
  | .call { callee := .builtin .max, args, .. } =>
    match args.toList with
    | [x, y] => some (.minmax true x y)
    | _ => none
  | .call { callee := .builtin .append, args, argTypes } =>
    match argTypes.toList, args.toList with
    | [t, u], [x, y] => if t = u then match P.underlying t with
        | some (.slice e) => match P.info? e, zcells P e with
          | some i, some _ => if 0 < i.size then some (.append i.size i.bytes x y) else none
          | _, _ => none
        | _ => none
      else none
    | _, _ => none
  | .call { callee := .value (.func f), args, .. } => some (.callf f args.toList)
  | .call { callee := .value (.tmp t), args, .. } => some (.callv (.tmp t) args.toList)
  | _ => none


section sound
variable {P : Program} {o : Oper} {env : List PV} {L : List PObj} {ob : Prop} {out : Out}

theorem mem_ops {op : Op} {x : Operand} (h : x ∈ op.operands.toList) {op' : Op} (e : op = op') : x ∈ op'.operands.toList := e ▸ h

theorem snd_move {x : Operand} (ho : o.op = .move x ∨ o.op = .assign x) (hp : peval env L (.move x) = some (ob, out)) : OpOK P o env (Lf L) out := by
  simp only [peval, Option.some.injEq, Prod.mk.injEq] at hp
  obtain ⟨-, rfl⟩ := hp
  refine ok_pure rfl (fun g w ρ hx _ _ => ⟨ρ x, ?_, ?_⟩)
  · rcases ho with h | h <;> simp [execOp, h, pure, Sem.run]
  · rcases ho with h | h <;> exact hx x (by simp [h, Op.operands])

theorem rep_bool {g : Gh} {v : Value} {b : Bool} (h : Rep g v (.d (.bool b))) : v = .bool b := by
  cases h with | d h => cases h; rfl
theorem rep_int {g : Gh} {v : Value} {k : IntKind} {n : Int} (h : Rep g v (.d (.int k n))) : v = .int k n := by
  cases h with | d h => cases h; rfl
theorem rep_str {g : Gh} {v : Value} {s : ByteArray} (h : Rep g v (.d (.str s))) : v = .string s := by
  cases h with | d h => cases h; rfl

theorem snd_pick {c x y : Operand} (ho : o.op = .pick c x y) (hp : peval env L (.pick c x y) = some (ob, out)) : OpOK P o env (Lf L) out := by
  simp only [peval] at hp
  split at hp
  · rename_i t hc
    have key : ∀ (g : Gh) (w : World) (ρ : Operand → Value), (∀ z ∈ o.op.operands.toList, Rep g (ρ z) (ev env z)) →
        (execOp ρ o).run P w = .ok (.value (if t then ρ x else ρ y)) w ∧ Rep g (ρ x) (ev env x) ∧ Rep g (ρ y) (ev env y) := by
      intro g w ρ hx
      have h1 := hx c (by simp [ho, Op.operands])
      rw [hc] at h1
      refine ⟨?_, hx x (by simp [ho, Op.operands]), hx y (by simp [ho, Op.operands])⟩
      simp [execOp, ho, rep_bool h1, asBool, bind, Sem.bind, pure, Sem.run]
    split at hp
    · rename_i p q hp1 hp2
      simp only [Option.some.injEq, Prod.mk.injEq] at hp
      obtain ⟨-, rfl⟩ := hp
      refine ok_pure rfl (fun g w ρ hx _ _ => ⟨_, (key g w ρ hx).1, ?_⟩)
      obtain ⟨-, h2, h3⟩ := key g w ρ hx
      rw [hp1] at h2; rw [hp2] at h3
      rw [rep_bool h2, rep_bool h3]
      cases t <;> exact .d (.bool _)
    · simp only [Option.some.injEq, Prod.mk.injEq] at hp
      obtain ⟨-, rfl⟩ := hp
      refine ok_pure rfl (fun g w ρ hx _ _ => ⟨_, (key g w ρ hx).1, ?_⟩)
      obtain ⟨-, h2, h3⟩ := key g w ρ hx
      cases t
      · exact h3
      · exact h2
  · cases hp

theorem snd_nilc {x : Operand} (ho : o.op = .nilCheck x) (hp : peval env L (.nilc x) = some (ob, out)) : OpOK P o env (Lf L) out := by
  simp only [peval] at hp
  split at hp
  · rename_i q off hc
    simp only [Option.some.injEq, Prod.mk.injEq] at hp
    obtain ⟨-, rfl⟩ := hp
    refine ok_pure rfl (fun g w ρ hx _ _ => ⟨ρ x, ?_, ?_⟩)
    · have h1 := hx x (by simp [ho, Op.operands]); rw [hc] at h1
      generalize hv : ρ x = v at h1 ⊢
      cases h1; simp [execOp, ho, pure, Sem.run, hv]
    · have h1 := hx x (by simp [ho, Op.operands]); rw [hc] at h1; exact h1
  · rename_i e off hc
    simp only [Option.some.injEq, Prod.mk.injEq] at hp
    obtain ⟨-, rfl⟩ := hp
    refine ok_pure rfl (fun g w ρ hx _ _ => ⟨ρ x, ?_, ?_⟩)
    · have h1 := hx x (by simp [ho, Op.operands]); rw [hc] at h1
      generalize hv : ρ x = v at h1 ⊢
      cases h1; simp [execOp, ho, pure, Sem.run, hv]
    · have h1 := hx x (by simp [ho, Op.operands]); rw [hc] at h1; exact h1
  · rename_i f p q hc
    simp only [Option.some.injEq, Prod.mk.injEq] at hp
    obtain ⟨-, rfl⟩ := hp
    refine ok_pure rfl (fun g w ρ hx _ _ => ⟨ρ x, ?_, ?_⟩)
    · have h1 := hx x (by simp [ho, Op.operands]); rw [hc] at h1
      generalize hv : ρ x = v at h1 ⊢
      cases h1; simp [execOp, ho, pure, Sem.run, hv]
    · have h1 := hx x (by simp [ho, Op.operands]); rw [hc] at h1; exact h1
  · cases hp

theorem run_binD {fr : Nat → Nat → Option Value} {op : BinOp} {a b r : DV} {va vb : Value} {t : TypeId} {x y : Operand} (w : World) (ha : RepD fr va a) (hb : RepD fr vb b)
    (h : binD op a b = some (ob, r)) (hob : ob) : ∃ v, (do eqGuard op t x y va vb; binOp op t va vb : Sem Value).run P w = .ok v w ∧ RepD fr v r := by
  cases ha <;> cases hb <;> simp only [binD] at h
  all_goals try (cases h; done)
  · cases op <;> simp only at h
    all_goals try (cases h; done)
    all_goals first
      | (split at h
         · rename_i hk; subst hk
           simp only [Option.some.injEq, Prod.mk.injEq] at h
           obtain ⟨rfl, rfl⟩ := h
           first
             | exact ⟨_, by simp [eqGuard, binOp, bind, Sem.bind, pure, Sem.run, Op.intArith, Op.intBits, Op.intCmp]; rfl, by constructor⟩
             | exact ⟨_, by simp [eqGuard, binOp, bind, Sem.bind, pure, Sem.run, Op.intDiv, hob]; rfl, by constructor⟩
         · cases h)
      | (simp only [Option.some.injEq, Prod.mk.injEq] at h
         obtain ⟨rfl, rfl⟩ := h
         exact ⟨_, by simp [eqGuard, binOp, bind, Sem.bind, pure, Sem.run, Op.shift, show ¬ _ < (0 : Int) from Int.not_lt.mpr hob]; rfl, by constructor⟩)
  · cases op <;> simp only at h
    all_goals try (cases h; done)
    all_goals
      simp only [Option.some.injEq, Prod.mk.injEq] at h
      obtain ⟨rfl, rfl⟩ := h
    · have hs := run_string_add_sum (P := P) w _ _ hob
      exact ⟨_, by simp only [eqGuard, binOp]; simpa [bind, Sem.bind, pure] using hs, by constructor⟩
    all_goals exact ⟨_, by simp [eqGuard, binOp, bind, Sem.bind, pure, Sem.run, Op.stringOp]; rfl, by constructor⟩

theorem rep_d {g : Gh} {v : Value} {x : DV} (h : Rep g v (.d x)) : RepD g.fr v x := by
  cases h with | d h => exact h

theorem snd_bin {op : BinOp} {t u : TypeId} {x y : Operand} (ho : o.op = .binOp op t x y u) (hp : peval env L (.bin op x y) = some (ob, out)) (hob : ob) : OpOK P o env (Lf L) out := by
  simp only [peval] at hp
  split at hp
  · rename_i a b h1 h2
    cases hb : binD op a b with
    | none => rw [hb] at hp; cases hp
    | some q =>
      rw [hb] at hp
      obtain ⟨ob', r⟩ := q
      simp only [Option.map_some, Option.some.injEq, Prod.mk.injEq] at hp
      obtain ⟨rfl, rfl⟩ := hp
      refine ok_pure rfl (fun g w ρ hx _ _ => ?_)
      have r1 := hx x (by simp [ho, Op.operands]); rw [h1] at r1
      have r2 := hx y (by simp [ho, Op.operands]); rw [h2] at r2
      obtain ⟨v, hv, hr⟩ := run_binD (P := P) (t := t) (x := x) (y := y) w (rep_d r1) (rep_d r2) hb hob
      refine ⟨v, ?_, .d hr⟩
      simp only [execOp, ho, Sem.run_bind] at hv ⊢
      rw [hv]; rfl
  · cases hp

theorem snd_binB {neq : Bool} {op : BinOp} {t u : TypeId} {x y : Operand} (ht : P.underlying t = some .bool) (hop : op = if neq then .neq else .eql) (ho : o.op = .binOp op t x y u)
    (hp : peval env L (.binB neq x y) = some (ob, out)) : OpOK P o env (Lf L) out := by
  simp only [peval] at hp
  split at hp
  · rename_i a b h1 h2
    simp only [Option.some.injEq, Prod.mk.injEq] at hp
    obtain ⟨-, rfl⟩ := hp
    refine ok_pure rfl (fun g w ρ hx _ _ => ?_)
    have r1 := hx x (by simp [ho, Op.operands]); rw [h1] at r1
    have r2 := hx y (by simp [ho, Op.operands]); rw [h2] at r2
    refine ⟨_, ?_, .d (.bool _)⟩
    have he : (Op.equal t (.bool a) (.bool b)).run P w = .ok (a == b) w := by
      have gen : ∀ d, (Op.equalIn (d + 1) t (.bool a) (.bool b)).run P w = .ok (a == b) w := fun d => by simp [Op.equalIn, run_underlying ht]
      exact gen 9999
    subst hop
    cases neq
    · simp [execOp, ho, rep_bool r1, rep_bool r2, eqGuard, binOp, he]
    · simp [execOp, ho, rep_bool r1, rep_bool r2, eqGuard, binOp, he]
  · cases hp

theorem snd_un {op : UnOp} {t : TypeId} {x : Operand} (ho : o.op = .unOp op t x) (hp : peval env L (.un op x) = some (ob, out)) : OpOK P o env (Lf L) out := by
  simp only [peval] at hp
  split at hp
  · rename_i b h1
    simp only [Option.some.injEq, Prod.mk.injEq] at hp
    obtain ⟨-, rfl⟩ := hp
    refine ok_pure rfl (fun g w ρ hx _ _ => ?_)
    have r1 := hx x (by simp [ho, Op.operands]); rw [h1] at r1
    exact ⟨_, by simp [execOp, ho, rep_bool r1, Op.unary], .d (.bool _)⟩
  · rename_i k n h1
    simp only [Option.some.injEq, Prod.mk.injEq] at hp
    obtain ⟨-, rfl⟩ := hp
    refine ok_pure rfl (fun g w ρ hx _ _ => ?_)
    have r1 := hx x (by simp [ho, Op.operands]); rw [h1] at r1
    exact ⟨_, by simp [execOp, ho, rep_int r1, Op.unary, Op.intArith], .d (.int _ _)⟩
  · cases hp

theorem snd_conv {s t : TypeId} {k : IntKind} {x : Operand} (ht : P.underlying t = some (.int k)) (hs : (P.underlying s).isSome = true) (ho : o.op = .convert s t x)
    (hp : peval env L (.conv k x) = some (ob, out)) : OpOK P o env (Lf L) out := by
  simp only [peval] at hp
  split at hp
  · rename_i q n h1
    simp only [Option.some.injEq, Prod.mk.injEq] at hp
    obtain ⟨-, rfl⟩ := hp
    refine ok_pure rfl (fun g w ρ hx _ _ => ?_)
    have r1 := hx x (by simp [ho, Op.operands]); rw [h1] at r1
    obtain ⟨d, hd⟩ := Option.isSome_iff_exists.1 hs
    exact ⟨_, by simp [execOp, ho, rep_int r1, convert, run_underlying hd, run_underlying ht, Conv.intToInt], .d (.int _ _)⟩
  · cases hp

theorem rep_tup {g : Gh} {v : Value} {cs : List PV} (h : Rep g v (.tup cs)) : ∃ vs : List Value, v = .tuple vs.toArray ∧ vs.length = cs.length ∧ ∀ (i : Nat) u c, vs[i]? = some u → cs[i]? = some c → Rep g u c := by
  cases h with | tup vs _ h1 h2 => exact ⟨vs, rfl, h1, h2⟩
theorem rep_agg {g : Gh} {v : Value} {cs : List PV} (h : Rep g v (.agg cs)) : ∃ vs : List Value, v = .agg vs.toArray ∧ vs.length = cs.length ∧ (∀ (i : Nat) u, vs[i]? = some u → one u = true) ∧
    ∀ (i : Nat) u c, vs[i]? = some u → cs[i]? = some c → Rep g u c := by
  cases h with | agg vs _ h1 h2 h3 => exact ⟨vs, rfl, h1, h2, h3⟩

theorem snd_extract {x : Operand} {i : Nat} (ho : o.op = .extract x i) (hp : peval env L (.extract x i) = some (ob, out)) : OpOK P o env (Lf L) out := by
  simp only [peval] at hp
  split at hp
  · rename_i vs h1
    cases hi : vs[i]? with
    | none => rw [hi] at hp; cases hp
    | some p =>
      rw [hi] at hp
      simp only [Option.map_some, Option.some.injEq, Prod.mk.injEq] at hp
      obtain ⟨-, rfl⟩ := hp
      refine ok_pure rfl (fun g w ρ hx _ _ => ?_)
      have r1 := hx x (by simp [ho, Op.operands]); rw [h1] at r1
      obtain ⟨us, hv, hl, hr⟩ := rep_tup r1
      have hlt : i < us.length := by rw [hl]; exact (List.getElem?_eq_some_iff.1 hi).1
      refine ⟨us[i], ?_, hr i _ _ (List.getElem?_eq_getElem hlt) hi⟩
      simp [execOp, ho, hv, Instr.extract, hlt]
  · cases hp

theorem snd_faddr {s : TypeId} {fs : Array Field} {f : Field} {i n : Nat} {x : Operand} (hs : P.underlying s = some (.struct fs)) (hf : fs[i]? = some f) (hz : szOf P f.type = some n) (hn : n ≠ 0)
    (ho : o.op = .fieldAddr s x i) (hp : peval env L (.faddr f.offset x) = some (ob, out)) : OpOK P o env (Lf L) out := by
  have hi : ∃ ti, P.info? f.type = some ti ∧ ti.size = n := by
    unfold szOf at hz
    cases h : P.info? f.type with
    | none => rw [h] at hz; cases hz
    | some ti => rw [h] at hz; exact ⟨ti, rfl, by simpa using hz⟩
  obtain ⟨ti, hti, hts⟩ := hi
  have run : ∀ (b off : Nat) (w : World), (Instr.fieldAt s (.pointer (some ⟨b, off, none⟩)) i).run P w = .ok (.pointer (some ⟨b, off + f.offset, none⟩)) w := by
    intro b off w
    simp [Instr.fieldAt, run_underlying hs, hf, Instr.sureAddr, fieldPlace, sizeOf, typeInfo, hti, hts, hn, Addr.add]
  simp only [peval] at hp
  split at hp
  · rename_i q k h1
    simp only [Option.some.injEq, Prod.mk.injEq] at hp
    obtain ⟨-, rfl⟩ := hp
    refine ok_pure rfl (fun g w ρ hx _ _ => ?_)
    have r1 := hx x (by simp [ho, Op.operands]); rw [h1] at r1
    generalize hv : ρ x = v at r1
    cases r1 with
    | ptr _ _ b hb => exact ⟨_, by simp [execOp, ho, hv, run], .ptr _ _ b hb⟩
  · rename_i e k h1
    simp only [Option.some.injEq, Prod.mk.injEq] at hp
    obtain ⟨-, rfl⟩ := hp
    refine ok_pure rfl (fun g w ρ hx _ _ => ?_)
    have r1 := hx x (by simp [ho, Op.operands]); rw [h1] at r1
    generalize hv : ρ x = v at r1
    cases r1 with
    | fptr _ _ b base hb => exact ⟨.pointer (some ⟨b, base + (k + f.offset), none⟩), by simp [execOp, ho, hv, run, Nat.add_assoc], .fptr _ _ b base hb⟩
  · cases hp

theorem run_isAgg {t : TypeId} {b : Bool} (h : isAggT P t = some b) (w : World) : (isAgg t).run P w = .ok b w := by
  unfold isAggT at h
  split at h
  · rename_i fs hu; cases h; simp [isAgg, run_underlying hu]
  · rename_i n e hu; cases h; simp [isAgg, run_underlying hu]
  · rename_i d h1 h2 hu
    cases h
    simp only [isAgg, Sem.run_bind, run_underlying hu, Result.andThen_ok]
    cases d <;> first | rfl | (exfalso; apply h1; assumption) | (exfalso; apply h2; assumption) | (exfalso; exact h1 _ hu) | (exfalso; exact h2 _ _ hu)
  · cases h

theorem run_szOf {t : TypeId} {n : Nat} (h : szOf P t = some n) (w : World) : (sizeOf t).run P w = .ok n w := by
  unfold szOf at h
  cases hi : P.info? t with
  | none => rw [hi] at h; cases h
  | some ti => rw [hi] at h; simp only [Option.map_some, Option.some.injEq] at h; simp [sizeOf, typeInfo, hi, h]

theorem add_plain (b off k : Nat) : (⟨b, off, none⟩ : Addr).add k = ⟨b, off + k, none⟩ := by
  unfold Addr.add; split <;> simp_all

theorem rel_cell {g : Gh} {w : World} {q b off : Nat} {cs : List PV} {p : PV} (h : RelObj g w q (.arr cs)) (hb : g.at_ q = some b) (hp : cs[off]? = some p) :
    ∃ v, w.cell? ⟨b, off, none⟩ = some v ∧ one v = true ∧ Rep g v p := by
  have hlt : off < cs.length := (List.getElem?_eq_some_iff.1 hp).1
  rcases h with ⟨rfl, _⟩ | ⟨b', c, e, h1, h2, h3, h4, h5, h6, h7⟩
  · simp at hp
  · rw [hb] at h1; cases h1
    have hc : c[off]? = some c[off] := Array.getElem?_eq_getElem (by omega)
    refine ⟨c[off], ?_, h5 off _ hlt hc, h6 off _ _ hc hp⟩
    simp [World.cell?, h2, hc]

theorem froz_cell {g : Gh} {w : World} {q b off : Nat} {cs : List DV} {x : DV} (hf : FrOK g w) (h : RelObj g w q (.froz cs)) (hb : g.at_ q = some b) (hp : cs[off]? = some x) :
    ∃ v, w.cell? ⟨b, off, none⟩ = some v ∧ RepD g.fr v x := by
  obtain ⟨b', h1, h2⟩ := h
  rw [hb] at h1; cases h1
  obtain ⟨v, h3, h4⟩ := h2 off x hp
  rw [Nat.zero_add] at h3
  exact ⟨v, hf _ _ _ h3, h4⟩

theorem frozen_cell {g : Gh} {w : World} {b base off : Nat} {e : List DV} {x : DV} (hf : FrOK g w) (h : FrozenAt g.fr b base e) (hp : e[off]? = some x) :
    ∃ v, w.cell? ⟨b, base + off, none⟩ = some v ∧ RepD g.fr v x := by
  obtain ⟨v, h3, h4⟩ := h off x hp
  exact ⟨v, hf _ _ _ h3, h4⟩

theorem Lf_some {q : Nat} {x : PObj} (h : L[q]? = some x) : Lf L q = x := by simp [Lf, h]

/-- Several cells, read one by one. -/
theorem cells_list {w : World} {b off n : Nat} (f : Nat → Value → Prop) (h : ∀ j, j < n → ∃ v, w.cell? ⟨b, off + j, none⟩ = some v ∧ f j v) :
    ∃ vs : List Value, vs.length = n ∧ (∀ j v, vs[j]? = some v → w.cell? ((⟨b, off, none⟩ : Addr).add j) = some v) ∧ ∀ j v, vs[j]? = some v → f j v := by
  induction n with
  | zero => exact ⟨[], rfl, by simp, by simp⟩
  | succ n ih =>
    obtain ⟨vs, h1, h2, h3⟩ := ih (fun j hj => h j (by omega))
    obtain ⟨v, hv, hfv⟩ := h n (by omega)
    refine ⟨vs ++ [v], by simp [h1], fun j u hu => ?_, fun j u hu => ?_⟩
    · by_cases hj : j < vs.length
      · rw [List.getElem?_append_left hj] at hu; exact h2 j u hu
      · rw [List.getElem?_append_right (by omega)] at hu
        have : j = n := by
          have := (List.getElem?_eq_some_iff.1 hu).1; simp at this; omega
        subst this
        simp [h1] at hu; subst hu; rw [add_plain]; exact hv
    · by_cases hj : j < vs.length
      · rw [List.getElem?_append_left hj] at hu; exact h3 j u hu
      · rw [List.getElem?_append_right (by omega)] at hu
        have : j = n := by
          have := (List.getElem?_eq_some_iff.1 hu).1; simp at this; omega
        subst this
        simp [h1] at hu; subst hu; exact hfv

theorem snd_load1 {t : TypeId} {x : Operand} (ht : isAggT P t = some false) (ho : o.op = .load t x) (hp : peval env L (.load1 x) = some (ob, out)) : OpOK P o env (Lf L) out := by
  have run : ∀ (b off : Nat) (w : World) (v : Value), w.cell? ⟨b, off, none⟩ = some v → (Instr.loadAt t (.pointer (some ⟨b, off, none⟩))).run P w = .ok v w := by
    intro b off w v hc
    simp [Instr.loadAt, Instr.sureAddr, loadVar, run_isAgg ht, run_load, hc]
  simp only [peval] at hp
  split at hp
  · rename_i q off h1
    split at hp
    · rename_i cs hL
      cases hi : cs[off]? with
      | none => rw [hi] at hp; cases hp
      | some p =>
        rw [hi] at hp
        simp only [Option.map_some, Option.some.injEq, Prod.mk.injEq] at hp
        obtain ⟨-, rfl⟩ := hp
        refine ok_pure rfl (fun g w ρ hx hf hr => ?_)
        have r1 := hx x (by simp [ho, Op.operands]); rw [h1] at r1
        have hq := hr q (by simp); rw [Lf_some hL] at hq
        generalize hv : ρ x = v at r1
        cases r1 with
        | ptr _ _ b hb =>
          obtain ⟨u, c1, c2, c3⟩ := rel_cell hq hb hi
          exact ⟨u, by simp [execOp, ho, hv, run _ _ _ _ c1], c3⟩
    · rename_i cs hL
      cases hi : cs[off]? with
      | none => rw [hi] at hp; cases hp
      | some p =>
        rw [hi] at hp
        simp only [Option.map_some, Option.some.injEq, Prod.mk.injEq] at hp
        obtain ⟨-, rfl⟩ := hp
        refine ok_pure rfl (fun g w ρ hx hf hr => ?_)
        have r1 := hx x (by simp [ho, Op.operands]); rw [h1] at r1
        have hq := hr q (by simp); rw [Lf_some hL] at hq
        generalize hv : ρ x = v at r1
        cases r1 with
        | ptr _ _ b hb =>
          obtain ⟨u, c1, c3⟩ := froz_cell hf hq hb hi
          exact ⟨u, by simp [execOp, ho, hv, run _ _ _ _ c1], .d c3⟩
    · cases hp
  · rename_i e off h1
    cases hi : e[off]? with
    | none => rw [hi] at hp; cases hp
    | some p =>
      rw [hi] at hp
      simp only [Option.map_some, Option.some.injEq, Prod.mk.injEq] at hp
      obtain ⟨-, rfl⟩ := hp
      refine ok_pure rfl (fun g w ρ hx hf hr => ?_)
      have r1 := hx x (by simp [ho, Op.operands]); rw [h1] at r1
      generalize hv : ρ x = v at r1
      cases r1 with
      | fptr _ _ b base hb =>
        obtain ⟨u, c1, c3⟩ := frozen_cell hf hb hi
        exact ⟨u, by simp [execOp, ho, hv, run _ _ _ _ c1], .d c3⟩
  · cases hp

theorem snd_loadN {t : TypeId} {n : Nat} {x : Operand} (ht : isAggT P t = some true) (hz : szOf P t = some n) (ho : o.op = .load t x) (hp : peval env L (.loadN n x) = some (ob, out)) (hob : ob) : OpOK P o env (Lf L) out := by
  have run : ∀ (b off : Nat) (w : World) (vs : List Value), vs.length = n → (∀ j v, vs[j]? = some v → w.cell? ((⟨b, off, none⟩ : Addr).add j) = some v) →
      (Instr.loadAt t (.pointer (some ⟨b, off, none⟩))).run P w = .ok (.agg vs.toArray) w := by
    intro b off w vs hl hc
    have := run_loadCells_list (P := P) w ⟨b, off, none⟩ vs hc
    rw [hl] at this
    simp [Instr.loadAt, Instr.sureAddr, loadVar, run_isAgg ht, run_szOf hz, this]
  have seg : ∀ {α : Type} (cs : List α) (off j : Nat), off + n ≤ cs.length → j < n → ((cs.drop off).take n)[j]? = cs[off + j]? := by
    intro α cs off j h hj
    rw [List.getElem?_take_of_lt hj, List.getElem?_drop]
  simp only [peval] at hp
  split at hp
  · rename_i q off h1
    split at hp
    · rename_i cs hL
      simp only [Option.some.injEq, Prod.mk.injEq] at hp
      obtain ⟨rfl, rfl⟩ := hp
      refine ok_pure rfl (fun g w ρ hx hf hr => ?_)
      have r1 := hx x (by simp [ho, Op.operands]); rw [h1] at r1
      have hq := hr q (by simp); rw [Lf_some hL] at hq
      generalize hv : ρ x = v at r1
      cases r1 with
      | ptr _ _ b hb =>
        obtain ⟨vs, l1, l2, l3⟩ := cells_list (w := w) (b := b) (off := off) (n := n) (fun j v => one v = true ∧ ∀ p, cs[off + j]? = some p → Rep g v p) (fun j hj => by
          have hlt : off + j < cs.length := by omega
          obtain ⟨u, c1, c2, c3⟩ := rel_cell hq hb (List.getElem?_eq_getElem hlt)
          exact ⟨u, c1, c2, fun p hp => by rw [List.getElem?_eq_getElem hlt] at hp; cases hp; exact c3⟩)
        refine ⟨_, by simp [execOp, ho, hv, run _ _ _ _ l1 l2], .agg vs _ (by simp; omega) (fun i v hv => (l3 i v hv).1) (fun i v c h1 h2 => ?_)⟩
        have hi : i < n := by rw [← l1]; exact (List.getElem?_eq_some_iff.1 h1).1
        rw [seg cs off i hob hi] at h2
        exact (l3 i v h1).2 c h2
    · rename_i cs hL
      simp only [Option.some.injEq, Prod.mk.injEq] at hp
      obtain ⟨rfl, rfl⟩ := hp
      refine ok_pure rfl (fun g w ρ hx hf hr => ?_)
      have r1 := hx x (by simp [ho, Op.operands]); rw [h1] at r1
      have hq := hr q (by simp); rw [Lf_some hL] at hq
      generalize hv : ρ x = v at r1
      cases r1 with
      | ptr _ _ b hb =>
        obtain ⟨vs, l1, l2, l3⟩ := cells_list (w := w) (b := b) (off := off) (n := n) (fun j v => ∀ p, cs[off + j]? = some p → RepD g.fr v p) (fun j hj => by
          have hlt : off + j < cs.length := by omega
          obtain ⟨u, c1, c3⟩ := froz_cell hf hq hb (List.getElem?_eq_getElem hlt)
          exact ⟨u, c1, fun p hp => by rw [List.getElem?_eq_getElem hlt] at hp; cases hp; exact c3⟩)
        have get : ∀ i v, vs[i]? = some v → ∃ p, cs[off + i]? = some p ∧ RepD g.fr v p := fun i v h1 => by
          have hi : i < n := by rw [← l1]; exact (List.getElem?_eq_some_iff.1 h1).1
          have hlt : off + i < cs.length := by omega
          exact ⟨_, List.getElem?_eq_getElem hlt, l3 i v h1 _ (List.getElem?_eq_getElem hlt)⟩
        refine ⟨_, by simp [execOp, ho, hv, run _ _ _ _ l1 l2], .agg vs _ (by simp; omega) (fun i v hv => let ⟨_, _, r⟩ := get i v hv; r.one) (fun i v c h1 h2 => ?_)⟩
        have hi : i < n := by rw [← l1]; exact (List.getElem?_eq_some_iff.1 h1).1
        obtain ⟨p, p1, p2⟩ := get i v h1
        rw [List.getElem?_map, seg cs off i hob hi, p1] at h2
        simp only [Option.map_some, Option.some.injEq] at h2
        rw [← h2]; exact .d p2
    · cases hp
  · rename_i e off h1
    simp only [Option.some.injEq, Prod.mk.injEq] at hp
    obtain ⟨rfl, rfl⟩ := hp
    refine ok_pure rfl (fun g w ρ hx hf hr => ?_)
    have r1 := hx x (by simp [ho, Op.operands]); rw [h1] at r1
    generalize hv : ρ x = v at r1
    cases r1 with
    | fptr _ _ b base hb =>
      obtain ⟨vs, l1, l2, l3⟩ := cells_list (w := w) (b := b) (off := base + off) (n := n) (fun j v => ∀ p, e[off + j]? = some p → RepD g.fr v p) (fun j hj => by
        have hlt : off + j < e.length := by omega
        obtain ⟨u, c1, c3⟩ := frozen_cell hf hb (List.getElem?_eq_getElem hlt)
        exact ⟨u, by rw [Nat.add_assoc]; exact c1, fun p hp => by rw [List.getElem?_eq_getElem hlt] at hp; cases hp; exact c3⟩)
      have get : ∀ i v, vs[i]? = some v → ∃ p, e[off + i]? = some p ∧ RepD g.fr v p := fun i v h1 => by
        have hi : i < n := by rw [← l1]; exact (List.getElem?_eq_some_iff.1 h1).1
        have hlt : off + i < e.length := by omega
        exact ⟨_, List.getElem?_eq_getElem hlt, l3 i v h1 _ (List.getElem?_eq_getElem hlt)⟩
      refine ⟨_, by simp [execOp, ho, hv, run _ _ _ _ l1 l2], .agg vs _ (by simp; omega) (fun i v hv => let ⟨_, _, r⟩ := get i v hv; r.one) (fun i v c h1 h2 => ?_)⟩
      have hi : i < n := by rw [← l1]; exact (List.getElem?_eq_some_iff.1 h1).1
      obtain ⟨p, p1, p2⟩ := get i v h1
      rw [List.getElem?_map, seg e off i hob hi, p1] at h2
      simp only [Option.map_some, Option.some.injEq] at h2
      rw [← h2]; exact .d p2
  · cases hp

end sound
end Go.Fw
