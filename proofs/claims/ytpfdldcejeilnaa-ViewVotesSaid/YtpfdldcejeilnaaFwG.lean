import Derived.Test.YtpfdldcejeilnaaFwF
set_option linter.unusedVariables false
set_option linter.unusedSimpArgs false
namespace Go.Fw
open Go
section sound
variable {P : Program} {o : Oper} {env : List PV} {L : List PObj} {ob : Prop} {out : Out}

theorem flat_length {α : Type} {z : Nat} : ∀ {es : List (List α)}, (∀ e ∈ es, e.length = z) → es.flatten.length = es.length * z
  | [], _ => by simp
  | x :: xs, h => by
    rw [List.flatten_cons, List.length_append, flat_length (fun e he => h e (by simp [he])), h x (by simp), List.length_cons, Nat.succ_mul]; omega

/-- A slice's cells, as they stand in memory. -/
structure Cells (g : Gh) (w : World) (v : Value) (m z : Nat) (ys : List PV) (vs : List Value) : Prop where
  len : vs.length = m * z
  len' : ys.length = m * z
  one : ∀ (i : Nat) u, vs[i]? = some u → one u = true
  rep : ∀ (i : Nat) u p, vs[i]? = some u → ys[i]? = some p → Rep g u p
  val : ∃ A c, v = .slice A m c ∧ m ≤ c ∧ (0 < m → ∃ a, A = some a ∧ ∀ j u, vs[j]? = some u → w.cell? (a.add j) = some u)

theorem cells_frozen {g : Gh} {w : World} {v : Value} {z : Nat} {es : List (List DV)} (hf : FrOK g w) (hz : ∀ e ∈ es, e.length = z) (h : RepD g.fr v (.sl es)) :
    ∃ vs, Cells g w v es.length z (es.flatten.map .d) vs := by
  cases h with
  | sl0 a cap _ => exact ⟨[], by simp, by simp, by simp, by simp, a, cap, rfl, Nat.zero_le _, fun h => absurd h (by simp)⟩
  | sl b off cap sz n es f h1 h2 h3 h4 h5 =>
    subst h1
    have hlen := flat_length hz
    obtain ⟨vs, l1, l2, l3⟩ := cells_list (w := w) (b := b) (off := off) (n := es.length * z) (fun j v => ∀ c, es.flatten[j]? = some c → RepD g.fr v c) (fun j hj => by
      have hlt : j < es.flatten.length := by omega
      exact ⟨_, hf _ _ _ (h4 j _ (List.getElem?_eq_getElem hlt)), fun c hc => h5 j c hc⟩)
    have get : ∀ i u, vs[i]? = some u → ∃ p, es.flatten[i]? = some p ∧ RepD g.fr u p := fun i u h => by
      have hi : i < es.flatten.length := by rw [hlen, ← l1]; exact (List.getElem?_eq_some_iff.1 h).1
      exact ⟨_, List.getElem?_eq_getElem hi, l3 i u h _ (List.getElem?_eq_getElem hi)⟩
    refine ⟨vs, l1, by rw [List.length_map]; exact hlen, fun i u h => let ⟨_, _, r⟩ := get i u h; r.one, fun i u p h h' => ?_, _, cap, rfl, h2, fun _ => ⟨_, rfl, l2⟩⟩
    obtain ⟨q, hq, hr⟩ := get i u h
    rw [List.getElem?_map, hq] at h'
    simp only [Option.map_some, Option.some.injEq] at h'
    rw [← h']; exact .d hr

theorem cells_own {g : Gh} {w : World} {q b off m z : Nat} {cs : List PV} (h : RelObj g w q (.arr cs)) (hb : g.at_ q = some b) (hl : off + m * z ≤ cs.length) :
    ∃ vs : List Value, vs.length = m * z ∧ (∀ (i : Nat) u, vs[i]? = some u → one u = true) ∧ (∀ (i : Nat) u p, vs[i]? = some u → ((cs.drop off).take (m * z))[i]? = some p → Rep g u p) ∧
      ∀ j u, vs[j]? = some u → w.cell? ((⟨b, off, none⟩ : Addr).add j) = some u := by
  obtain ⟨vs, l1, l2, l3⟩ := cells_list (w := w) (b := b) (off := off) (n := m * z) (fun j v => one v = true ∧ ∀ p, cs[off + j]? = some p → Rep g v p) (fun j hj => by
    have hlt : off + j < cs.length := by omega
    obtain ⟨u, c1, c2, c3⟩ := rel_cell h hb (List.getElem?_eq_getElem hlt)
    exact ⟨u, c1, c2, fun p hp => by rw [List.getElem?_eq_getElem hlt] at hp; cases hp; exact c3⟩)
  refine ⟨vs, l1, fun i u h => (l3 i u h).1, fun i u p h h' => ?_, l2⟩
  have hi : i < m * z := by rw [← l1]; exact (List.getElem?_eq_some_iff.1 h).1
  rw [List.getElem?_take_of_lt hi, List.getElem?_drop] at h'
  exact (l3 i u h).2 p h'

theorem cellsIn_spec {g : Gh} {w : World} {v : Value} {p : PV} {z m : Nat} {ys : List PV} {rd : List Nat} (hf : FrOK g w) (hr : Rep g v p) (h : cellsIn L z p = some (ob, m, ys, rd)) (hob : ob)
    (hrd : ∀ n, n ∈ rd → RelObj g w n (Lf L n)) : ∃ vs, Cells g w v m z ys vs := by
  unfold cellsIn at h
  split at h
  · simp only [Option.some.injEq, Prod.mk.injEq] at h
    obtain ⟨rfl, rfl, rfl, rfl⟩ := h
    exact cells_frozen hf hob (rep_d hr)
  · simp only [Option.some.injEq, Prod.mk.injEq] at h
    obtain ⟨rfl, rfl, rfl, rfl⟩ := h
    cases hr with | fsl es a n cap t h1 h2 => exact cells_frozen hf hob h1
  · simp only [Option.some.injEq, Prod.mk.injEq] at h
    obtain ⟨rfl, rfl, rfl, rfl⟩ := h
    cases hr
    exact ⟨[], by simp, by simp, by simp, by simp, none, 0, rfl, Nat.le_refl _, fun h => absurd h (by simp)⟩
  · simp only [Option.some.injEq, Prod.mk.injEq] at h
    obtain ⟨rfl, rfl, rfl, rfl⟩ := h
    cases hr
    exact ⟨[], by simp, by simp, by simp, by simp, _, 0, rfl, Nat.le_refl _, fun h => absurd h (by simp)⟩
  · rename_i q off m' z' t
    split at h
    · rename_i cs hL
      split at h
      · rename_i hz; subst hz
        simp only [Option.some.injEq, Prod.mk.injEq] at h
        obtain ⟨rfl, rfl, rfl, rfl⟩ := h
        have hq := hrd q (by simp); rw [Lf_some hL] at hq
        have hlen : ((cs.drop off).take (m' * z')).length = m' * z' := by simp; omega
        cases hr with
        | osl _ _ _ _ cap b _ hb hl hs ht =>
          obtain ⟨vs, l1, l2, l3, l4⟩ := cells_own hq hb hob
          exact ⟨vs, l1, hlen, l2, l3, _, cap, rfl, hl, fun _ => ⟨_, rfl, l4⟩⟩
        | osl0 => exact ⟨[], by simp, by simp, by simp, by simp, _, 0, rfl, Nat.le_refl _, fun h => absurd h (by simp)⟩
      · cases h
    · cases h
  · cases h

/-- Nothing is appended. -/
theorem run_append_zero {t ty e : TypeId} {i : TypeInfo} (ht : P.underlying t = some (.slice e)) (hi : P.info? e = some i) (w : World) (A B : Option Addr) (n cap c : Nat) (hn : n ≤ cap) :
    (Builtin.append_ #[t, t] ty #[.slice A n cap, .slice B 0 c]).run P w = .ok (.slice A n cap) w := by
  have hf : (Builtin.firstCells i.size 0 (.slice B 0 c)).run P w = .ok #[] w := by
    cases B with
    | none => simp [Builtin.firstCells]
    | some a => simp [Builtin.firstCells, loadCells, loadCellsFrom]
  cases A with
  | none => simp [Builtin.append_, run_underlying ht, sizeOf, typeInfo, hi, Builtin.lenOf, hn, hf]
  | some a => simp [Builtin.append_, run_underlying ht, sizeOf, typeInfo, hi, Builtin.lenOf, hn, hf, storeCells]

/-- The arm that grows: a new block. -/
theorem run_append_new {t ty e : TypeId} {i : TypeInfo} {z : Value} (ht : P.underlying t = some (.slice e)) (hi : P.info? e = some i) (hz : i.zero = some z) (hzs : z.cells.size = i.size) (hsz : 0 < i.size) (w : World)
    (A : Option Addr) (n cap : Nat) (hA : A = none → n = 0 ∧ cap = 0) (olds : List Value) (hlo : olds.length = n * i.size) (holds : 0 < n → ∃ a, A = some a ∧ ∀ j u, olds[j]? = some u → w.cell? (a.add j) = some u)
    (a : Addr) (m c : Nat) (news : List Value) (hl : news.length = m * i.size) (hnews : ∀ j u, news[j]? = some u → w.cell? (a.add j) = some u)
    (hone : ∀ u ∈ news, one u = true) (hg : cap < n + m) (h63 : n + m ≤ 1099511627776) (hbytes : (n + m) * i.bytes ≤ 140737488355328) :
    ∃ B cap' cur w', (Builtin.append_ #[t, t] ty #[.slice A n cap, .slice (some a) m c]).run P w = .ok (.slice (some ⟨B, 0, none⟩) (n + m) cap') w' ∧ n + m ≤ cap' ∧ cur.size = cap' * i.size ∧
      cur.toList.take ((n + m) * i.size) = olds ++ news ∧ w'.heap[B]? = some (.cells cur e (0, 0)) ∧ w.heap.size ≤ B ∧ w'.os = w.os ∧ w'.tape = w.tape ∧ w'.output = w.output ∧ w.heap.size ≤ w'.heap.size ∧
      ∀ b, b < w.heap.size → w'.heap[b]? = w.heap[b]? := by
  have hml : n + m ≤ maxLen := by simp only [maxLen]; omega
  have fin : ∀ v' w', (Builtin.append_ #[t, t] ty #[.slice A n cap, .slice (some a) m c]).run P w = .ok v' w' → w'.ownsRow w.heap.size e i.size v' (n + m) (olds ++ news) → w.grownBy w' none →
      ∃ B cap' cur w', (Builtin.append_ #[t, t] ty #[.slice A n cap, .slice (some a) m c]).run P w = .ok (.slice (some ⟨B, 0, none⟩) (n + m) cap') w' ∧ n + m ≤ cap' ∧ cur.size = cap' * i.size ∧
      cur.toList.take ((n + m) * i.size) = olds ++ news ∧ w'.heap[B]? = some (.cells cur e (0, 0)) ∧ w.heap.size ≤ B ∧ w'.os = w.os ∧ w'.tape = w.tape ∧ w'.output = w.output ∧ w.heap.size ≤ w'.heap.size ∧
      ∀ b, b < w.heap.size → w'.heap[b]? = w.heap[b]? := by
    intro v' w' hrun hown hgr
    rcases hown.2 with ⟨_, h0⟩ | ⟨B, cap', cur, rfl, hB, hh, h1, h2, h3, h4⟩
    · omega
    · exact ⟨B, cap', cur, w', hrun, h1, h3, h4, hh, hB, hgr.os, hgr.tape, hgr.output, hgr.size, fun b hb => hgr.block b hb (by simp)⟩
  cases A with
  | none =>
    obtain ⟨rfl, rfl⟩ := hA rfl
    have ho : olds = [] := List.eq_nil_of_length_eq_zero (by simpa using hlo)
    subst ho
    have hown : w.ownsRow w.heap.size e i.size (.slice none 0 0) 0 [] := ⟨by simp, .inl ⟨rfl, rfl⟩⟩
    obtain ⟨v', w', hrun, h1, h2, _⟩ := run_append_own (P := P) w w.heap.size t ty e i z i.size i.bytes ht hi hz rfl rfl hzs hsz _ 0 [] hown a m c news hl hnews (fun u hu => by rw [one_eq]; exact hone u hu) hml (by simpa using hbytes) (Nat.le_refl _)
    exact fin v' w' hrun h1 h2
  | some b =>
    obtain ⟨v', w', hrun, h1, h2⟩ := run_append_arg_grows (P := P) w t ty e i z i.size i.bytes ht hi hz rfl rfl hzs hsz b n cap olds hlo (fun j u hj => by
      rcases Nat.eq_zero_or_pos n with h0 | h0
      · subst h0; simp at hlo; subst hlo; simp at hj
      · obtain ⟨a', ha', hc⟩ := holds h0
        cases ha'; exact hc j u hj) a m c news hl hnews hg hml hbytes
    exact fin v' w' hrun h1 h2

/-- What is appended to, in memory. -/
theorem appBase_spec {g : Gh} {w : World} {v : Value} {p : PV} {z n : Nat} {cs : List PV} {kill : List (Nat × PObj)} (hf : FrOK g w) (hr : Rep g v p) (h : appBase L z p = some (ob, n, cs, kill)) (hob : ob)
    (hrd : ∀ n ob, (n, ob) ∈ kill → RelObj g w n (Lf L n)) :
    cs.length = n * z ∧ ∃ A cap, v = .slice A n cap ∧ n ≤ cap ∧ (∀ m om, (m, om) ∈ kill → om = .dead ∧ m < L.length) ∧
      ((n = 0 ∧ cap = 0) ∨ ∃ q b c e, (q, PObj.dead) ∈ kill ∧ Live (Lf L q) = true ∧ g.at_ q = some b ∧ A = some ⟨b, 0, none⟩ ∧ w.heap[b]? = some (.cells c e (0, 0)) ∧ c.size = g.sz q ∧ cap * z ≤ c.size ∧ (∀ i, g.fr b i = none) ∧
        (∀ (i : Nat) u, i < n * z → c[i]? = some u → one u = true) ∧ (∀ (i : Nat) u p, c[i]? = some u → cs[i]? = some p → Rep g u p)) := by
  unfold appBase at h
  split at h
  · simp only [Option.some.injEq, Prod.mk.injEq] at h
    obtain ⟨rfl, rfl, rfl, rfl⟩ := h
    cases hr
    exact ⟨by simp, none, 0, rfl, Nat.le_refl _, by simp, .inl ⟨rfl, rfl⟩⟩
  · simp only [Option.some.injEq, Prod.mk.injEq] at h
    obtain ⟨rfl, rfl, rfl, rfl⟩ := h
    cases hr
    exact ⟨by simp, _, 0, rfl, Nat.le_refl _, by simp, .inl ⟨rfl, rfl⟩⟩
  · rename_i es
    simp only [Option.some.injEq, Prod.mk.injEq] at h
    obtain ⟨rfl, rfl, rfl, rfl⟩ := h
    subst hob
    cases hr with
    | fsl _ a n cap t h1 h2 =>
      obtain ⟨a', cap', h3, -⟩ := slice_base h1
      simp only [List.length_nil, Value.slice.injEq] at h3
      obtain ⟨-, rfl, -⟩ := h3
      have := h2 rfl
      subst this
      exact ⟨by simp, _, 0, rfl, Nat.le_refl _, by simp, .inl ⟨rfl, rfl⟩⟩
  · rename_i q off n' z' t
    split at h
    · rename_i cs' hL
      split at h
      · rename_i hz; subst hz
        simp only [Option.some.injEq, Prod.mk.injEq] at h
        obtain ⟨rfl, rfl, rfl, rfl⟩ := h
        obtain ⟨h0, hlen, htt⟩ := hob
        subst h0
        have hq := hrd q _ (List.mem_singleton.2 rfl); rw [Lf_some hL] at hq
        have hqL : q < L.length := (List.getElem?_eq_some_iff.1 hL).1
        have hk : ∀ m om, (m, om) ∈ [(q, PObj.dead)] → om = .dead ∧ m < L.length := fun m om hm => by
          simp only [List.mem_singleton, Prod.mk.injEq] at hm
          obtain ⟨rfl, rfl⟩ := hm; exact ⟨rfl, hqL⟩
        refine ⟨by simp; omega, ?_⟩
        cases hr with
        | osl _ _ _ _ cap b _ hb hl hs ht =>
          obtain ⟨c, e, d1, d2, d3, d4, d5, d6⟩ := arr_block hq hb
          refine ⟨_, cap, rfl, hl, hk, .inr ⟨q, b, c, e, by simp, by rw [Lf_some hL]; rfl, hb, rfl, d1, d3, by rw [d3]; omega, d6, fun i u hi hu => d4 i u (by omega) hu, fun i u p hu hp => ?_⟩⟩
          have hi : i < n' * z' := by have := (List.getElem?_eq_some_iff.1 hp).1; simp at this; omega
          rw [List.getElem?_take_of_lt hi] at hp
          exact d5 i u p hu hp
        | osl0 => exact ⟨_, 0, rfl, Nat.le_refl _, hk, .inl ⟨rfl, rfl⟩⟩
      · cases h
    · cases h
  · cases h

theorem snd_append {t e : TypeId} {c : Call} {i : TypeInfo} {zs : List PV} {x y : Operand} (ht : P.underlying t = some (.slice e)) (hi : P.info? e = some i) (hz : zcells P e = some zs) (hsz : 0 < i.size)
    (hc : c.callee = .builtin .append) (ha : c.args.toList = [x, y]) (hat : c.argTypes.toList = [t, t]) (ho : o.op = .call c)
    (hp : peval env L (.append i.size i.bytes x y) = some (ob, out)) (hob : ob) : OpOK P o env (Lf L) out := by
  have hargs : c.args = #[x, y] := by rw [← Array.toArray_toList (xs := c.args), ha]
  have hats : c.argTypes = #[t, t] := by rw [← Array.toArray_toList (xs := c.argTypes), hat]
  obtain ⟨z, ti, hti, hzz, hpl, hzeq, hzl⟩ := zcells_spec hz
  rw [hi] at hti; cases hti
  have hzs : z.cells.size = i.size := by
    obtain ⟨vs, c1, c2, _, _⟩ := zero_cells hpl { fr := fun _ _ => none, at_ := fun _ => none, sz := fun _ => 0 }
    rw [c1]; simp [c2]; rw [← hzeq]; exact hzl
  have exec : ∀ (ρ : Operand → Value) (w : World) (v : Value) (w' : World), (Builtin.append_ #[t, t] o.type #[ρ x, ρ y]).run P w = .ok v w' → (execOp ρ o).run P w = .ok (.value v) w' := by
    intro ρ w v w' h
    simp [execOp, ho, Go.resolve, hc, hargs, hats, invoke, builtin, h]
  simp only [peval] at hp
  split at hp
  · rename_i ob1 n cs kill ob2 m ys rd hb hin
    simp only [Option.some.injEq, Prod.mk.injEq] at hp
    obtain ⟨rfl, rfl⟩ := hp
    obtain ⟨hob1, hob2, hm1, hm2⟩ := hob
    intro g w a K Q hx hf hrd hupd hnew k
    have hn1 := at_new (hnew L.length _ (List.mem_append_right _ (List.mem_singleton.2 rfl))) rfl
    have r1 := hx x (by simp [ho, Op.operands, Call.operands, hargs, hc])
    have r2 := hx y (by simp [ho, Op.operands, Call.operands, hargs, hc])
    obtain ⟨hcl, A, cap, hvx, hle, hkill, hcase⟩ := appBase_spec hf r1 hb hob1 (fun n ob h => hupd n ob (List.mem_append_left _ h))
    obtain ⟨vs, hv⟩ := cellsIn_spec hf r2 hin hob2 (fun n h => hrd n h)
    obtain ⟨B, c2, hvy, hmc, hcells⟩ := hv.val
    have hk : ∀ q oq, (q, oq) ∈ kill → oq = .dead ∧ q ≠ L.length := fun q oq hq => ⟨(hkill q oq hq).1, by have := (hkill q oq hq).2; omega⟩
    have hLn : Live (Lf L L.length) = false := by rw [Lf_new]; rfl
    have hone : ∀ u ∈ vs, one u = true := fun u hu => by obtain ⟨j, hj⟩ := List.getElem?_of_mem hu; exact hv.one j u hj
    rcases Nat.eq_zero_or_pos m with h0 | h0
    · -- nothing is appended
      subst h0
      have hys : ys = [] := List.eq_nil_of_length_eq_zero (by simpa using hv.len')
      subst hys
      have hrun := run_append_zero (P := P) (ty := o.type) ht hi w A B n cap c2 hle
      rcases hcase with ⟨rfl, rfl⟩ | ⟨q, b, c, e', hq, hlive, hb1, rfl, d1, d2, d3, d4, d5, d6⟩
      · have hcs : cs = [] := List.eq_nil_of_length_eq_zero (by simpa using hcl)
        subst hcs
        refine wp_of_value (exec _ _ _ _ (by rw [hvx, hvy]; exact hrun)) (k _ g w (.osl0 _ _ _ _ _) ?_)
        refine { os := rfl, tape := rfl, output := rfl, size := Nat.le_refl _, block := fun _ _ _ => rfl, le := Gle.refl g, at_ := fun _ _ => rfl, keep := fun _ _ => rfl, frn := fun _ _ _ h => .inl h, frok := hf, obj := fun p op hp => ?_, own := fun p op hp hl b' hb' => ?_, inj := fun p op p' op' b hp hp' hl hl' _ _ => ?_ }
        · rcases List.mem_append.1 hp with hp | hp
          · rw [(hk p op hp).1]; trivial
          · simp only [List.mem_singleton, Prod.mk.injEq] at hp
            obtain ⟨rfl, rfl⟩ := hp
            exact .inl ⟨rfl, hn1⟩
        · rcases List.mem_append.1 hp with hp | hp
          · rw [(hk p op hp).1] at hl; cases hl
          · simp only [List.mem_singleton, Prod.mk.injEq] at hp
            obtain ⟨rfl, rfl⟩ := hp
            rw [hn1] at hb'; cases hb'
        · rcases List.mem_append.1 hp with hp | hp
          · rw [(hk p op hp).1] at hl; cases hl
          rcases List.mem_append.1 hp' with hp' | hp'
          · rw [(hk p' op' hp').1] at hl'; cases hl'
          simp only [List.mem_singleton, Prod.mk.injEq] at hp hp'
          rw [hp.1, hp'.1]
      · refine wp_of_value (exec _ _ _ _ (by rw [hvx, hvy]; exact hrun)) (k _ (g.new L.length b (g.sz q)) w (.osl _ _ _ _ cap b _ (by simp [Gh.new]) hle (by simp [Gh.new]; omega) (by simp)) ?_)
        refine { os := rfl, tape := rfl, output := rfl, size := Nat.le_refl _, block := fun _ _ _ => rfl, le := Gle.new hn1, at_ := fun p hp => ?_, keep := fun p hp => (by have : p ≠ L.length := (fun e => by rw [e, hLn] at hp; cases hp); simp [Gh.new, this]), frn := fun _ _ _ h => .inl h, frok := hf, obj := fun p op hp => ?_, own := fun p op hp hl b' hb' => ?_, inj := fun p op p' op' b hp hp' hl hl' _ _ => ?_ }
        · have : p ≠ L.length := fun e => by subst e; exact hp _ (List.mem_append_right _ (List.mem_singleton.2 rfl))
          simp [Gh.new, this]
        · rcases List.mem_append.1 hp with hp | hp
          · rw [(hk p op hp).1]; trivial
          · simp only [List.mem_singleton, Prod.mk.injEq] at hp
            obtain ⟨rfl, rfl⟩ := hp
            simp only [List.append_nil]
            refine .inr ⟨b, c, e', by simp [Gh.new], d1, by rw [hcl]; have := Nat.mul_le_mul_right i.size hle; omega, by simp [Gh.new, d2], fun j u hj hu => d5 j u (by omega) hu, fun j u r hu hr => (d6 j u r hu hr).mono (Gle.new hn1), d4⟩
        · rcases List.mem_append.1 hp with hp | hp
          · rw [(hk p op hp).1] at hl; cases hl
          · simp only [List.mem_singleton, Prod.mk.injEq] at hp
            obtain ⟨rfl, rfl⟩ := hp
            simp [Gh.new] at hb'
            subst hb'
            exact .inr ⟨q, .dead, List.mem_append_left _ hq, hlive, hb1⟩
        · rcases List.mem_append.1 hp with hp | hp
          · rw [(hk p op hp).1] at hl; cases hl
          rcases List.mem_append.1 hp' with hp' | hp'
          · rw [(hk p' op' hp').1] at hl'; cases hl'
          simp only [List.mem_singleton, Prod.mk.injEq] at hp hp'
          rw [hp.1, hp'.1]
    · obtain ⟨ad, rfl, hnews⟩ := hcells h0
      have hvl := hv.len
      by_cases hroom : n + m ≤ cap
      · -- there is room
        rcases hcase with ⟨rfl, rfl⟩ | ⟨q, b, c, e', hq, hlive, hb1, rfl, d1, d2, d3, d4, d5, d6⟩
        · omega
        · have hmul : (n + m) * i.size ≤ cap * i.size := Nat.mul_le_mul_right _ hroom
          rw [Nat.add_mul] at hmul
          have hfc := run_firstCells_some (P := P) w i.size m ad m c2 vs hvl hnews
          have hst := run_storeCells_at P b (n * i.size) e' vs 0 c w d1 (by rw [hvl]; omega) (fun u hu => by rw [one_eq]; exact hone u hu)
          simp only [Nat.add_zero] at hst
          have hrun : (Builtin.append_ #[t, t] o.type #[.slice (some ⟨b, 0, none⟩) n cap, .slice (some ad) m c2]).run P w =
              .ok (.slice (some ⟨b, 0, none⟩) (n + m) cap) (w.setRow b (c.toList.take (n * i.size) ++ vs ++ c.toList.drop (n * i.size + vs.length)).toArray) := by
            simp [Builtin.append_, run_underlying ht, sizeOf, typeInfo, hi, Builtin.lenOf, hroom, hfc, Addr.add_lit, hst]
          have hcl' : c.toList.length = c.size := by simp
          have get := splice_get (l := c.toList) (vs := vs) (off := n * i.size) (by rw [hcl', hvl]; omega)
          have hsz' : (c.toList.take (n * i.size) ++ vs ++ c.toList.drop (n * i.size + vs.length)).length = c.size := by simp [hvl]; omega
          have hat1 : (g.new L.length b (g.sz q)).at_ L.length = some b := by simp [Gh.new]
          refine wp_of_value (exec _ _ _ _ (by rw [hvx, hvy]; exact hrun)) (k _ (g.new L.length b (g.sz q)) _ (.osl _ _ _ _ cap b _ hat1 hroom (by simp [Gh.new]; omega) (by simp)) ?_)
          refine { os := rfl, tape := rfl, output := rfl, size := by simp, block := fun b' hb' hx' => setRow_other w b b' _ (fun e => hx' q .dead (List.mem_append_left _ hq) hlive (e ▸ hb1)), le := Gle.new hn1, at_ := fun p hp => ?_, keep := fun p hp => (by have : p ≠ L.length := (fun e => by rw [e, hLn] at hp; cases hp); simp [Gh.new, this]), frn := fun _ _ _ h => .inl h,
                   frok := fun b' j u hu => ?_, obj := fun p op hp => ?_, own := fun p op hp hl b' hb' => ?_, inj := fun p op p' op' b hp hp' hl hl' _ _ => ?_ }
          · have : p ≠ L.length := fun e => by subst e; exact hp _ (List.mem_append_right _ (List.mem_singleton.2 rfl))
            simp [Gh.new, this]
          · have hne : b' ≠ b := fun e => by rw [e] at hu; have := d4 j; simp only [Gh.new] at hu; rw [this] at hu; cases hu
            have := hf b' j u hu
            rw [← this]
            simp [World.cell?, setRow_other w b b' _ hne]
          · rcases List.mem_append.1 hp with hp | hp
            · rw [(hk p op hp).1]; trivial
            · simp only [List.mem_singleton, Prod.mk.injEq] at hp
              obtain ⟨rfl, rfl⟩ := hp
              refine .inr ⟨b, _, e', hat1, setRow_heap w b c _ e' (0, 0) d1, by simp only [List.size_toArray, hsz', List.length_append, hcl, hv.len']; omega, by simp only [List.size_toArray, hsz', Gh.new, if_true]; exact d2, fun j u hj hu => ?_, fun j u r hu hr => ?_, d4⟩
              · have hu' : (c.toList.take (n * i.size) ++ vs ++ c.toList.drop (n * i.size + vs.length))[j]? = some u := by simpa using hu
                rw [get j] at hu'
                simp only [List.length_append, hcl, hv.len'] at hj
                split at hu'
                · exact hv.one _ _ hu'
                · exact d5 j u (by omega) (by simpa using hu')
              · have hu' : (c.toList.take (n * i.size) ++ vs ++ c.toList.drop (n * i.size + vs.length))[j]? = some u := by simpa using hu
                rw [get j] at hu'
                have hj : j < (cs ++ ys).length := (List.getElem?_eq_some_iff.1 hr).1
                simp only [List.length_append, hcl, hv.len'] at hj
                split at hu'
                · rename_i hc'
                  rw [List.getElem?_append_right (by omega), hcl] at hr
                  exact (hv.rep _ _ _ hu' hr).mono (Gle.new hn1)
                · rename_i hc'
                  rw [List.getElem?_append_left (by omega)] at hr
                  exact (d6 j u r (by simpa using hu') hr).mono (Gle.new hn1)
          · rcases List.mem_append.1 hp with hp | hp
            · rw [(hk p op hp).1] at hl; cases hl
            · simp only [List.mem_singleton, Prod.mk.injEq] at hp
              obtain ⟨rfl, rfl⟩ := hp
              rw [hat1] at hb'; cases hb'
              exact .inr ⟨q, .dead, List.mem_append_left _ hq, hlive, hb1⟩
          · rcases List.mem_append.1 hp with hp | hp
            · rw [(hk p op hp).1] at hl; cases hl
            rcases List.mem_append.1 hp' with hp' | hp'
            · rw [(hk p' op' hp').1] at hl'; cases hl'
            simp only [List.mem_singleton, Prod.mk.injEq] at hp hp'
            rw [hp.1, hp'.1]
      · -- a new block
        have holds : ∃ olds : List Value, olds.length = n * i.size ∧ (∀ (j : Nat) u, olds[j]? = some u → one u = true) ∧ (∀ (j : Nat) u p, olds[j]? = some u → cs[j]? = some p → Rep g u p) ∧ (A = none → n = 0 ∧ cap = 0) ∧
            (0 < n → ∃ a, A = some a ∧ ∀ j u, olds[j]? = some u → w.cell? (a.add j) = some u) := by
          rcases hcase with ⟨rfl, rfl⟩ | ⟨q, b, c, e', hq, hlive, hb1, rfl, d1, d2, d3, d4, d5, d6⟩
          · exact ⟨[], by simp, by simp, by simp, fun _ => ⟨rfl, rfl⟩, fun h => absurd h (by simp)⟩
          · have hmul : n * i.size ≤ cap * i.size := Nat.mul_le_mul_right _ hle
            have sub : ∀ (j : Nat) u, (c.toList.take (n * i.size))[j]? = some u → j < n * i.size ∧ c[j]? = some u := fun j u hj => by
              have : j < n * i.size := by have := (List.getElem?_eq_some_iff.1 hj).1; simp at this; omega
              rw [List.getElem?_take_of_lt this] at hj
              exact ⟨this, by simpa using hj⟩
            refine ⟨c.toList.take (n * i.size), by simp; omega, fun j u hj => d5 j u (sub j u hj).1 (sub j u hj).2, fun j u p hj hp => d6 j u p (sub j u hj).2 hp, by simp, fun _ => ⟨_, rfl, fun j u hj => ?_⟩⟩
            rw [add_plain, Nat.zero_add]
            simp [World.cell?, d1, (sub j u hj).2]
        obtain ⟨olds, o1, o2, o3, o4, o5⟩ := holds
        obtain ⟨B, cap', cur, w', hrun, e1, e2, e3, e4, e5, e6, e7, e8, e9, e10⟩ := run_append_new (P := P) (ty := o.type) ht hi hzz hzs hsz w A n cap o4 olds o1 o5 ad m c2 vs hvl hnews hone (by omega) hm1 hm2
        have hmul : (n + m) * i.size ≤ cap' * i.size := Nat.mul_le_mul_right _ e1
        have getc : ∀ (j : Nat) u, j < (n + m) * i.size → cur[j]? = some u → (olds ++ vs)[j]? = some u := fun j u hj hu => by
          rw [← e3, List.getElem?_take_of_lt hj]; simpa using hu
        have hlen2 : (cs ++ ys).length = (n + m) * i.size := by rw [List.length_append, hcl, hv.len', Nat.add_mul]
        refine wp_of_value (exec _ _ _ _ (by rw [hvx, hvy]; exact hrun)) (k _ (g.new L.length B cur.size) w' (.osl _ _ _ _ cap' B _ (by simp [Gh.new]) e1 (by simp [Gh.new]; omega) (by simp)) ?_)
        refine stp_new' hf hn1 hLn hk e6 e7 e8 e5 e9 e10 e4 (by rw [hlen2]; omega) (fun j u hj hu => ?_) (fun j u p hu hp => ?_)
        · rw [hlen2] at hj
          have := getc j u hj hu
          by_cases hlt : j < olds.length
          · rw [List.getElem?_append_left hlt] at this; exact o2 j u this
          · rw [List.getElem?_append_right (by omega)] at this; exact hv.one _ _ this
        · have hj : j < (cs ++ ys).length := (List.getElem?_eq_some_iff.1 hp).1
          rw [hlen2] at hj
          have := getc j u hj hu
          by_cases hlt : j < olds.length
          · rw [List.getElem?_append_left hlt] at this
            rw [List.getElem?_append_left (by omega)] at hp
            exact o3 j u p this hp
          · rw [List.getElem?_append_right (by omega)] at this
            rw [List.getElem?_append_right (by omega), hcl] at hp
            rw [o1] at this
            exact hv.rep _ _ _ this hp
  · cases hp

end sound
end Go.Fw
