import Derived.Test.YtpfdldcejeilnaaFwC
import Derived.WalkSpells
import Derived.Laws.Cover3
import Derived.Laws.BytesString
set_option linter.unusedVariables false
set_option linter.unusedSimpArgs false
namespace Go.Fw
open Go
section sound
variable {P : Program} {o : Oper} {env : List PV} {L : List PObj} {ob : Prop} {out : Out}

/-- Comparing with nil: the four kinds. -/
theorem run_isnil {t : TypeId} {x y : Operand} {v n : Value} {w : World} {r neq : Bool}
    (h : (∃ e, P.underlying t = some (.pointer e) ∧ n = .pointer none ∧ ∃ a, v = .pointer a ∧ r = a.isNone) ∨
      (∃ e, P.underlying t = some (.slice e) ∧ n = .slice none 0 0 ∧ ∃ a l c, v = .slice a l c ∧ r = a.isNone) ∨
      (∃ p q u, P.underlying t = some (.func p q u) ∧ n = .nilFunc ∧ ((∃ f a b, v = .func f a b ∧ r = false) ∨ (v = .nilFunc ∧ r = true))) ∨
      (∃ k e, P.underlying t = some (.map k e) ∧ n = .map none ∧ ∃ a, v = .map a ∧ r = a.isNone)) :
    (do eqGuard (if neq then .neq else .eql) t x y v n; binOp (if neq then .neq else .eql) t v n : Sem Value).run P w = .ok (.bool (if neq then !r else r)) w := by
  have key : (Op.equal t v n).run P w = .ok r w := by
    have gen : ∀ d, (Op.equalIn (d + 1) t v n).run P w = .ok r w := by
      intro d
      rcases h with ⟨e, hu, rfl, a, rfl, rfl⟩ | ⟨e, hu, rfl, a, l, c, rfl, rfl⟩ | ⟨p, q, u, hu, rfl, ⟨f, a, b, rfl, rfl⟩ | ⟨rfl, rfl⟩⟩ | ⟨k, e, hu, rfl, a, rfl, rfl⟩
      · cases a <;> simp [Op.equalIn, run_underlying hu]
      · cases a <;> simp [Op.equalIn, run_underlying hu]
      · simp [Op.equalIn, run_underlying hu]
      · simp [Op.equalIn, run_underlying hu]
      · cases a <;> simp [Op.equalIn, run_underlying hu]
    exact gen 9999
  rcases h with ⟨e, hu, rfl, a, rfl, rfl⟩ | ⟨e, hu, rfl, a, l, c, rfl, rfl⟩ | ⟨p, q, u, hu, rfl, ⟨f, a, b, rfl, rfl⟩ | ⟨rfl, rfl⟩⟩ | ⟨k, e, hu, rfl, a, rfl, rfl⟩
  all_goals cases neq <;> simp [eqGuard, binOp, key]

theorem snd_isnil {kd : Nat} {neq : Bool} {op : BinOp} {t u : TypeId} {x y : Operand} (hop : op = if neq then .neq else .eql) (ho : o.op = .binOp op t x y u)
    (hy : (kd = 0 ∧ ∃ e, P.underlying t = some (.pointer e) ∧ y = .const (.pointer none)) ∨ (kd = 1 ∧ ∃ e, P.underlying t = some (.slice e) ∧ y = .const (.slice none 0 0)) ∨
      (kd = 2 ∧ ∃ p q v, P.underlying t = some (.func p q v) ∧ y = .const .nilFunc) ∨ (kd = 3 ∧ ∃ k e, P.underlying t = some (.map k e) ∧ y = .const (.map none)))
    (hp : peval env L (.isnil kd neq x) = some (ob, out)) : OpOK P o env (Lf L) out := by
  subst hop
  have fin : ∀ (r : Bool), out = .pure (.d (.bool (if neq then !r else r))) →
      (∀ (g : Gh) (a : Act), Rep g (a.eval x) (ev env x) → ∃ n, a.eval y = n ∧ ((∃ e, P.underlying t = some (.pointer e) ∧ n = .pointer none ∧ ∃ b, a.eval x = .pointer b ∧ r = b.isNone) ∨
      (∃ e, P.underlying t = some (.slice e) ∧ n = .slice none 0 0 ∧ ∃ b l c, a.eval x = .slice b l c ∧ r = b.isNone) ∨
      (∃ p q u, P.underlying t = some (.func p q u) ∧ n = .nilFunc ∧ ((∃ f b c, a.eval x = .func f b c ∧ r = false) ∨ (a.eval x = .nilFunc ∧ r = true))) ∨
      (∃ k e, P.underlying t = some (.map k e) ∧ n = .map none ∧ ∃ b, a.eval x = .map b ∧ r = b.isNone))) → OpOK P o env (Lf L) out := by
    intro r he h
    subst he
    intro g w a K Q hx hf _ _ _ k
    obtain ⟨n, hn, h⟩ := h g a (hx x (by simp [ho, Op.operands]))
    have run := run_isnil (P := P) (x := x) (y := y) (w := w) (neq := neq) h
    refine wp_of_value (v := .bool (if neq then !r else r)) ?_ (k _ g w (.d (.bool _)) (Stp.refl hf))
    simp only [execOp, ho, hn, Sem.run_bind] at run ⊢
    rw [run]; rfl
  simp only [peval] at hp
  rcases hy with ⟨rfl, e, hu, rfl⟩ | ⟨rfl, e, hu, rfl⟩ | ⟨rfl, p, q, v, hu, rfl⟩ | ⟨rfl, k, e, hu, rfl⟩
  · split at hp <;> (try (cases hp; done)) <;> simp only [Option.some.injEq, Prod.mk.injEq] at hp
    all_goals (first | (rename_i h0 _; exact absurd h0 (by decide)) | skip)
    all_goals obtain ⟨-, rfl⟩ := hp
    · rename_i h1
      refine fin false (by cases neq <;> rfl) (fun g a r1 => ⟨_, rfl, .inl ⟨e, hu, rfl, ?_⟩⟩)
      rw [h1] at r1; generalize a.eval x = v at r1 ⊢; cases r1; exact ⟨_, rfl, rfl⟩
    · rename_i h1
      refine fin false (by cases neq <;> rfl) (fun g a r1 => ⟨_, rfl, .inl ⟨e, hu, rfl, ?_⟩⟩)
      rw [h1] at r1; generalize a.eval x = v at r1 ⊢; cases r1; exact ⟨_, rfl, rfl⟩
    · rename_i h1
      refine fin true (by cases neq <;> rfl) (fun g a r1 => ⟨_, rfl, .inl ⟨e, hu, rfl, ?_⟩⟩)
      rw [h1] at r1; have r1 := rep_d r1; generalize a.eval x = v at r1 ⊢; cases r1; exact ⟨_, rfl, rfl⟩
  · split at hp <;> (try (cases hp; done)) <;> simp only [Option.some.injEq, Prod.mk.injEq] at hp
    all_goals (first | (rename_i h0 _; exact absurd h0 (by decide)) | skip)
    all_goals obtain ⟨-, rfl⟩ := hp
    · rename_i h1
      refine fin false (by cases neq <;> rfl) (fun g a r1 => ⟨_, rfl, .inr (.inl ⟨e, hu, rfl, ?_⟩)⟩)
      rw [h1] at r1; generalize a.eval x = v at r1 ⊢; cases r1; exact ⟨_, _, _, rfl, rfl⟩
    · rename_i h1
      refine fin true (by cases neq <;> rfl) (fun g a r1 => ⟨_, rfl, .inr (.inl ⟨e, hu, rfl, ?_⟩)⟩)
      rw [h1] at r1; generalize a.eval x = v at r1 ⊢; cases r1; exact ⟨_, _, _, rfl, rfl⟩
  · split at hp <;> (try (cases hp; done)) <;> simp only [Option.some.injEq, Prod.mk.injEq] at hp
    all_goals (first | (rename_i h0 _; exact absurd h0 (by decide)) | skip)
    all_goals obtain ⟨-, rfl⟩ := hp
    · rename_i h1
      refine fin false (by cases neq <;> rfl) (fun g a r1 => ⟨_, rfl, .inr (.inr (.inl ⟨p, q, v, hu, rfl, .inl ?_⟩))⟩)
      rw [h1] at r1; generalize a.eval x = v at r1 ⊢; cases r1; exact ⟨_, _, _, rfl, rfl⟩
    · rename_i h1
      refine fin true (by cases neq <;> rfl) (fun g a r1 => ⟨_, rfl, .inr (.inr (.inl ⟨p, q, v, hu, rfl, .inr ?_⟩))⟩)
      rw [h1] at r1; have r1 := rep_d r1; generalize a.eval x = v at r1 ⊢; cases r1; exact ⟨rfl, rfl⟩
  · split at hp <;> (try (cases hp; done)) <;> simp only [Option.some.injEq, Prod.mk.injEq] at hp
    all_goals (first | (rename_i h0 _; exact absurd h0 (by decide)) | skip)
    all_goals obtain ⟨-, rfl⟩ := hp
    · rename_i h1
      refine fin false (by cases neq <;> rfl) (fun g a r1 => ⟨_, rfl, .inr (.inr (.inr ⟨k, e, hu, rfl, ?_⟩))⟩)
      rw [h1] at r1; generalize a.eval x = v at r1 ⊢; cases r1; exact ⟨_, rfl, rfl⟩

theorem snd_field1 {s : TypeId} {fs : Array Field} {f : Field} {i : Nat} {x : Operand} (hs : P.underlying s = some (.struct fs)) (hf : fs[i]? = some f) (ha : isAggT P f.type = some false)
    (ho : o.op = .field s x i) (hp : peval env L (.field1 f.offset x) = some (ob, out)) : OpOK P o env (Lf L) out := by
  simp only [peval] at hp
  split at hp
  · rename_i cs h1
    cases hi : cs[f.offset]? with
    | none => rw [hi] at hp; cases hp
    | some p =>
      rw [hi] at hp
      simp only [Option.map_some, Option.some.injEq, Prod.mk.injEq] at hp
      obtain ⟨-, rfl⟩ := hp
      refine ok_pure rfl (fun g w ρ hx _ _ => ?_)
      have r1 := hx x (by simp [ho, Op.operands]); rw [h1] at r1
      obtain ⟨us, hv, hl, h1, hr⟩ := rep_agg r1
      have hlt : f.offset < us.length := by rw [hl]; exact (List.getElem?_eq_some_iff.1 hi).1
      refine ⟨us[f.offset], ?_, hr _ _ _ (List.getElem?_eq_getElem hlt) hi⟩
      simp [execOp, ho, hv, Instr.field, run_underlying hs, hf, asAgg, part, run_isAgg ha, hlt]
  · cases hp

theorem snd_fieldN {s : TypeId} {fs : Array Field} {f : Field} {i n : Nat} {x : Operand} (hs : P.underlying s = some (.struct fs)) (hf : fs[i]? = some f) (ha : isAggT P f.type = some true) (hz : szOf P f.type = some n)
    (ho : o.op = .field s x i) (hp : peval env L (.fieldN f.offset n x) = some (ob, out)) (hob : ob) : OpOK P o env (Lf L) out := by
  simp only [peval] at hp
  split at hp
  · rename_i cs h1
    simp only [Option.some.injEq, Prod.mk.injEq] at hp
    obtain ⟨rfl, rfl⟩ := hp
    refine ok_pure rfl (fun g w ρ hx _ _ => ?_)
    have r1 := hx x (by simp [ho, Op.operands]); rw [h1] at r1
    obtain ⟨us, hv, hl, h1, hr⟩ := rep_agg r1
    refine ⟨.agg ((us.drop f.offset).take n).toArray, ?_, .agg _ _ (by simp; omega) (fun j v h => ?_) (fun j v c h h' => ?_)⟩
    · simp [execOp, ho, hv, Instr.field, run_underlying hs, hf, asAgg, part, run_isAgg ha, run_szOf hz, List.extract_toArray, List.extract_eq_take_drop]
    · have hj : j < n := by have := (List.getElem?_eq_some_iff.1 h).1; simp at this; omega
      rw [List.getElem?_take_of_lt hj, List.getElem?_drop] at h
      exact h1 _ _ h
    · have hj : j < n := by have := (List.getElem?_eq_some_iff.1 h).1; simp at this; omega
      rw [List.getElem?_take_of_lt hj, List.getElem?_drop] at h h'
      exact hr _ _ _ h h'
  · cases hp

theorem snd_mkfn {f : FuncId} {first caps : Array Operand} (hf : first.isEmpty = true) (ho : o.op = .makeFunc (.func f) first caps) (hp : peval env L (.mkfn f caps.toList) = some (ob, out)) : OpOK P o env (Lf L) out := by
  simp only [peval, Option.some.injEq, Prod.mk.injEq] at hp
  obtain ⟨-, rfl⟩ := hp
  have hfe : first = #[] := by simpa using hf
  subst hfe
  refine ok_pure rfl (fun g w ρ hx _ _ => ⟨.func (.func f) [].toArray (caps.toList.map ρ).toArray, ?_, ?_⟩)
  · obtain ⟨l⟩ := caps
    simp [execOp, ho, Instr.makeFunc]
  · refine .fn f _ _ _ _ rfl (by simp) (by simp) (fun i v c h1 h2 => ?_)
    simp only [List.getElem?_map, Option.map_eq_some_iff] at h1 h2
    obtain ⟨z, hz, rfl⟩ := h1
    obtain ⟨z', hz', rfl⟩ := h2
    rw [hz] at hz'; cases hz'
    exact hx z (by rw [ho]; simp [Op.operands]; exact Array.mem_toList_iff.1 (List.mem_of_getElem? hz))

theorem snd_minmax {mx : Bool} {c : Call} {x y : Operand} (hc : c.callee = .builtin (if mx then .max else .min)) (ha : c.args.toList = [x, y]) (ho : o.op = .call c)
    (hp : peval env L (.minmax mx x y) = some (ob, out)) : OpOK P o env (Lf L) out := by
  have hargs : c.args = #[x, y] := by rw [← Array.toArray_toList (xs := c.args), ha]
  simp only [peval] at hp
  split at hp
  · rename_i k a k' b h1 h2
    split at hp
    · rename_i hk; subst hk
      simp only [Option.some.injEq, Prod.mk.injEq] at hp
      obtain ⟨-, rfl⟩ := hp
      refine ok_pure rfl (fun g w ρ hx _ _ => ?_)
      have r1 := hx x (by simp [ho, Op.operands, Call.operands, hargs]); rw [h1] at r1
      have r2 := hx y (by simp [ho, Op.operands, Call.operands, hargs]); rw [h2] at r2
      refine ⟨_, ?_, .d (.int _ _)⟩
      cases mx
      · simp [execOp, ho, resolve, Go.resolve, hc, hargs, invoke, builtin, Builtin.min_, rep_int r1, rep_int r2, Builtin.min2]
      · simp [execOp, ho, resolve, Go.resolve, hc, hargs, invoke, builtin, Builtin.max_, rep_int r1, rep_int r2, Builtin.max2]
    · cases hp
  · cases hp

theorem flat_idx {α : Type} {z : Nat} : ∀ {es : List (List α)} (hz : ∀ e ∈ es, e.length = z) {i k : Nat} {e : List α} {c : α}, es[i]? = some e → e[k]? = some c → es.flatten[i * z + k]? = some c
  | [], _, i, k, e, c, h, _ => by simp at h
  | x :: xs, hz, 0, k, e, c, h, hk => by
    simp only [List.getElem?_cons_zero, Option.some.injEq] at h
    subst h
    have : k < x.length := (List.getElem?_eq_some_iff.1 hk).1
    rw [List.flatten_cons, Nat.zero_mul, Nat.zero_add, List.getElem?_append_left this]; exact hk
  | x :: xs, hz, i + 1, k, e, c, h, hk => by
    simp only [List.getElem?_cons_succ] at h
    have hx : x.length = z := hz x (by simp)
    have := flat_idx (fun e he => hz e (by simp [he])) h hk
    rw [List.flatten_cons, List.getElem?_append_right (by rw [hx, Nat.succ_mul]; omega)]
    rw [← this]; congr 1; rw [hx, Nat.succ_mul]; omega

/-- A frozen slice: its address, and where an element lies. -/
theorem slice_base {fr : Nat → Nat → Option Value} {v : Value} {es : List (List DV)} (h : RepD fr v (.sl es)) :
    ∃ a cap, v = .slice a es.length cap ∧ (∀ i e, es[i]? = some e → ∃ b off, a = some ⟨b, off, none⟩ ∧ FrozenAt fr b (off + i * e.length) e) := by
  cases h with
  | sl0 a cap _ => exact ⟨a, cap, rfl, fun i e h => by simp at h⟩
  | sl b off cap sz n es f h1 h2 h3 h4 h5 =>
    subst h1
    refine ⟨_, cap, rfl, fun i e he => ⟨b, off, rfl, fun k c hk => ?_⟩⟩
    have hl : e.length = sz := h3 e (List.mem_of_getElem? he)
    have hf := flat_idx h3 he hk
    rw [hl, Nat.add_assoc]
    exact ⟨_, h4 _ _ hf, h5 _ _ hf⟩

theorem idx_some {p : PV} {n : Int} (h : idx? p = some n) : ∃ k, p = .d (.int k n) := by
  unfold idx? at h
  split at h
  · cases h; exact ⟨_, rfl⟩
  · cases h

theorem run_indexSlice {t e : TypeId} {z : Nat} (ht : P.underlying t = some (.slice e)) (hz : szOf P e = some z) (w : World) (b off len cap : Nat) (k : IntKind) (n : Int) (h0 : 0 ≤ n) (h1 : n.toNat < len) :
    (Instr.indexAt t (.slice (some ⟨b, off, none⟩) len cap) (.int k n)).run P w = .ok (.pointer (some ⟨b, off + n.toNat * z, none⟩)) w := by
  have hc : 0 ≤ n ∧ n < (len : Int) := ⟨h0, by omega⟩
  simp [Instr.indexAt, asIntOf, run_underlying ht, hc, run_szOf hz, add_plain]

theorem snd_iaddr {t e : TypeId} {z : Nat} {x i : Operand} (ht : P.underlying t = some (.slice e)) (hz : szOf P e = some z) (ho : o.op = .indexAddr t x i)
    (hp : peval env L (.iaddr z x i) = some (ob, out)) (hob : ob) : OpOK P o env (Lf L) out := by
  have frozen : ∀ (es : List (List DV)) (n : Int) (k : IntKind) (v : Value) (g : Gh) (w : World), RepD g.fr v (.sl es) → 0 ≤ n ∧ n.toNat < es.length ∧ ((es[n.toNat]?).getD []).length = z →
      ∃ u, (Instr.indexAt t v (.int k n)).run P w = .ok u w ∧ Rep g u (.fptr ((es[n.toNat]?).getD []) 0) := by
    intro es n k v g w hv ⟨h0, h1, h2⟩
    obtain ⟨a, cap, rfl, hbase⟩ := slice_base hv
    have he : es[n.toNat]? = some es[n.toNat] := List.getElem?_eq_getElem h1
    obtain ⟨b, off, rfl, hf⟩ := hbase _ _ he
    rw [he] at h2 ⊢
    simp only [Option.getD_some] at h2 ⊢
    rw [h2] at hf
    exact ⟨_, run_indexSlice ht hz w b off _ cap k n h0 h1, .fptr _ 0 b _ hf⟩
  simp only [peval] at hp
  split at hp
  · rename_i es n h1 h2
    simp only [Option.some.injEq, Prod.mk.injEq] at hp
    obtain ⟨rfl, rfl⟩ := hp
    refine ok_pure rfl (fun g w ρ hx _ _ => ?_)
    have r1 := hx x (by simp [ho, Op.operands]); rw [h1] at r1
    obtain ⟨k, h2⟩ := idx_some h2
    have r2 := hx i (by simp [ho, Op.operands]); rw [h2] at r2
    obtain ⟨u, hu, hr⟩ := frozen es n k (ρ x) g w (rep_d r1) hob
    exact ⟨u, by simp [execOp, ho, rep_int r2, hu], hr⟩
  · rename_i es q n h1 h2
    simp only [Option.some.injEq, Prod.mk.injEq] at hp
    obtain ⟨rfl, rfl⟩ := hp
    refine ok_pure rfl (fun g w ρ hx _ _ => ?_)
    have r1 := hx x (by simp [ho, Op.operands]); rw [h1] at r1
    obtain ⟨k, h2⟩ := idx_some h2
    have r2 := hx i (by simp [ho, Op.operands]); rw [h2] at r2
    have r1' : RepD g.fr (ρ x) (.sl es) := by generalize ρ x = v at r1 ⊢; cases r1; assumption
    obtain ⟨u, hu, hr⟩ := frozen es n k (ρ x) g w r1' hob
    exact ⟨u, by simp [execOp, ho, rep_int r2, hu], hr⟩
  · rename_i q off len z' tt n h1 h2
    split at hp
    · rename_i hzz; subst hzz
      simp only [Option.some.injEq, Prod.mk.injEq] at hp
      obtain ⟨rfl, rfl⟩ := hp
      refine ok_pure rfl (fun g w ρ hx _ _ => ?_)
      have r1 := hx x (by simp [ho, Op.operands]); rw [h1] at r1
      obtain ⟨k, h2⟩ := idx_some h2
      have r2 := hx i (by simp [ho, Op.operands]); rw [h2] at r2
      generalize hv : ρ x = v at r1
      cases r1 with
      | osl _ _ _ _ cap b _ hb hl hs hc => exact ⟨_, by simp [execOp, ho, hv, rep_int r2, run_indexSlice ht hz w b off len cap k n hob.1 hob.2], .ptr _ _ b hb⟩
      | osl0 => exact absurd hob.2 (by omega)
    · cases hp
  · cases hp

theorem snd_iaddrA {t e : TypeId} {m z : Nat} {x i : Operand} (ht : P.underlying t = some (.array m e)) (hz : szOf P e = some z) (ho : o.op = .indexAddr t x i)
    (hp : peval env L (.iaddrA m z x i) = some (ob, out)) (hob : ob) : OpOK P o env (Lf L) out := by
  have run : ∀ (w : World) (b off : Nat) (k : IntKind) (n : Int), 0 ≤ n ∧ n.toNat < m → (Instr.indexAt t (.pointer (some ⟨b, off, none⟩)) (.int k n)).run P w = .ok (.pointer (some ⟨b, off + n.toNat * z, none⟩)) w := by
    intro w b off k n ⟨h0, h1⟩
    have hc : 0 ≤ n ∧ n < (m : Int) := ⟨h0, by omega⟩
    simp [Instr.indexAt, asIntOf, run_underlying ht, Instr.sureAddr, hc, run_szOf hz, add_plain]
  simp only [peval] at hp
  split at hp
  · rename_i q off n h1 h2
    simp only [Option.some.injEq, Prod.mk.injEq] at hp
    obtain ⟨rfl, rfl⟩ := hp
    refine ok_pure rfl (fun g w ρ hx _ _ => ?_)
    have r1 := hx x (by simp [ho, Op.operands]); rw [h1] at r1
    obtain ⟨k, h2⟩ := idx_some h2
    have r2 := hx i (by simp [ho, Op.operands]); rw [h2] at r2
    generalize hv : ρ x = v at r1
    cases r1 with
    | ptr _ _ b hb => exact ⟨_, by simp [execOp, ho, hv, rep_int r2, run w b off k n hob], .ptr _ _ b hb⟩
  · rename_i e off n h1 h2
    simp only [Option.some.injEq, Prod.mk.injEq] at hp
    obtain ⟨rfl, rfl⟩ := hp
    refine ok_pure rfl (fun g w ρ hx _ _ => ?_)
    have r1 := hx x (by simp [ho, Op.operands]); rw [h1] at r1
    obtain ⟨k, h2⟩ := idx_some h2
    have r2 := hx i (by simp [ho, Op.operands]); rw [h2] at r2
    generalize hv : ρ x = v at r1
    cases r1 with
    | fptr _ _ b base hb => exact ⟨.pointer (some ⟨b, base + (off + n.toNat * z), none⟩), by simp [execOp, ho, hv, rep_int r2, run w b (base + off) k n hob, Nat.add_assoc], .fptr _ _ b base hb⟩
  · cases hp

theorem snd_idxS {t : TypeId} {x i : Operand} (ht : P.underlying t = some .string) (ho : o.op = .index t x i)
    (hp : peval env L (.idxS x i) = some (ob, out)) (hob : ob) : OpOK P o env (Lf L) out := by
  simp only [peval] at hp
  split at hp
  · rename_i s n h1 h2
    simp only [Option.some.injEq, Prod.mk.injEq] at hp
    obtain ⟨rfl, rfl⟩ := hp
    refine ok_pure rfl (fun g w ρ hx _ _ => ?_)
    have r1 := hx x (by simp [ho, Op.operands]); rw [h1] at r1
    obtain ⟨k, h2⟩ := idx_some h2
    have r2 := hx i (by simp [ho, Op.operands]); rw [h2] at r2
    obtain ⟨h0, hlt⟩ := hob
    have hs : s[n.toNat]? = some s[n.toNat] := by simp [hlt]
    have hd : s.data[n.toNat]? = some s[n.toNat] := by
      rw [Array.getElem?_eq_getElem (by simpa using hlt)]; rfl
    refine ⟨_, ?_, .d (.int _ _)⟩
    simp [execOp, ho, rep_str r1, rep_int r2, Instr.index, asIntOf, run_underlying ht, h0, hs, hd]
  · cases hp

theorem snd_len {t e : TypeId} {c : Call} {x : Operand} (ht : P.underlying t = some (.slice e)) (hc : c.callee = .builtin .len) (ha : c.args.toList = [x]) (hat : c.argTypes[0]? = some t) (ho : o.op = .call c)
    (hp : peval env L (.len x) = some (ob, out)) : OpOK P o env (Lf L) out := by
  have hargs : c.args = #[x] := by rw [← Array.toArray_toList (xs := c.args), ha]
  have fin : ∀ (ρ : Operand → Value) (w : World) (a : Option Addr) (n cap : Nat), ρ x = .slice a n cap → (execOp ρ o).run P w = .ok (.value (.int .i64 n)) w := by
    intro ρ w a n cap h
    simp [execOp, ho, Go.resolve, hc, hargs, h, invoke, builtin, Builtin.len_, hat, run_underlying ht, goInt]
  simp only [peval] at hp
  split at hp <;> (try (cases hp; done)) <;> simp only [Option.some.injEq, Prod.mk.injEq] at hp <;> obtain ⟨-, rfl⟩ := hp <;> rename_i h1 <;>
    refine ok_pure rfl (fun g w ρ hx _ _ => ?_) <;> have r1 := hx x (by simp [ho, Op.operands, Call.operands, hargs, hc]) <;> rw [h1] at r1 <;> generalize hv : ρ x = v at r1
  · obtain ⟨a, cap, rfl, -⟩ := slice_base (rep_d r1)
    exact ⟨_, fin ρ w _ _ _ hv, .d (.int _ _)⟩
  · cases r1 with
    | fsl es a n cap tt h2 h3 =>
      obtain ⟨a', cap', h4, -⟩ := slice_base h2
      cases h4
      exact ⟨_, fin ρ w _ _ _ hv, .d (.int _ _)⟩
  · cases r1; exact ⟨_, fin ρ w _ _ _ hv, .d (.int _ _)⟩
  · cases r1; exact ⟨_, fin ρ w _ _ _ hv, .d (.int _ _)⟩
  · cases r1
    · exact ⟨_, fin ρ w _ _ _ hv, .d (.int _ _)⟩
    · exact ⟨_, fin ρ w _ _ _ hv, .d (.int _ _)⟩

theorem snd_lenS {t : TypeId} {c : Call} {x : Operand} (ht : P.underlying t = some .string) (hc : c.callee = .builtin .len) (ha : c.args.toList = [x]) (hat : c.argTypes[0]? = some t) (ho : o.op = .call c)
    (hp : peval env L (.lenS x) = some (ob, out)) : OpOK P o env (Lf L) out := by
  have hargs : c.args = #[x] := by rw [← Array.toArray_toList (xs := c.args), ha]
  simp only [peval] at hp
  split at hp
  · rename_i s h1
    simp only [Option.some.injEq, Prod.mk.injEq] at hp
    obtain ⟨-, rfl⟩ := hp
    refine ok_pure rfl (fun g w ρ hx _ _ => ?_)
    have r1 := hx x (by simp [ho, Op.operands, Call.operands, hargs, hc]); rw [h1] at r1
    refine ⟨_, ?_, .d (.int _ _)⟩
    simp [execOp, ho, Go.resolve, hc, hargs, rep_str r1, invoke, builtin, Builtin.len_, hat, run_underlying ht, goInt]
  · cases hp

end sound
end Go.Fw
