import Derived.Test.YtpfdldcejeilnaaFwD
import Derived.Laws.Rows
set_option linter.unusedVariables false
set_option linter.unusedSimpArgs false
namespace Go.Fw
open Go
section sound
variable {P : Program} {o : Oper} {env : List PV} {L : List PObj} {ob : Prop} {out : Out}

theorem one_eq (v : Value) : v.oneCell' = one v := by cases v <;> rfl

theorem FrOK.grow {g : Gh} {w w' : World} (h : FrOK g w) (hb : ∀ b, b < w.heap.size → w'.heap[b]? = w.heap[b]?) : FrOK g w' := by
  intro b i v hv
  have := h b i v hv
  have hlt : b < w.heap.size := by
    rcases Nat.lt_or_ge b w.heap.size with h | h
    · exact h
    · rw [World.cell?, Array.getElem?_eq_none h] at this; simp at this
  rw [← this]
  simp [World.cell?, hb b hlt]

/-- The state of knowledge behind a new object. -/
def Gh.new (g : Gh) (n b sz : Nat) : Gh := { fr := g.fr, at_ := fun m => if m = n then some b else g.at_ m, sz := fun m => if m = n then sz else g.sz m }

theorem Gle.new {g : Gh} {n b sz : Nat} (h : g.at_ n = none) : Gle g (g.new n b sz) :=
  ⟨fun _ _ _ h => h, fun m c hm => by
    have : m ≠ n := fun e => by subst e; rw [h] at hm; cases hm
    simp [Gh.new, this, hm]⟩

theorem fr_lt {g : Gh} {w : World} (h : FrOK g w) {b i : Nat} {v : Value} (hv : g.fr b i = some v) : b < w.heap.size := by
  have := h b i v hv
  rcases Nat.lt_or_ge b w.heap.size with h | h
  · exact h
  · rw [World.cell?, Array.getElem?_eq_none h] at this; simp at this

/-- A new block. -/
theorem stp_new' {L : Objs} {g : Gh} {w w' : World} {n B : Nat} {cs : List PV} {c : Array Value} {e : TypeId} {kill : List (Nat × PObj)} (hf : FrOK g w) (hn : g.at_ n = none) (hL : Live (L n) = false)
    (hk : ∀ m om, (m, om) ∈ kill → om = .dead ∧ m ≠ n)
    (hos : w'.os = w.os) (htape : w'.tape = w.tape) (hout : w'.output = w.output) (hB : w.heap.size ≤ B) (hsz : w.heap.size ≤ w'.heap.size) (hold : ∀ b, b < w.heap.size → w'.heap[b]? = w.heap[b]?)
    (hnew : w'.heap[B]? = some (.cells c e (0, 0)))
    (hl : cs.length ≤ c.size) (h1 : ∀ (i : Nat) v, i < cs.length → c[i]? = some v → one v = true) (hr : ∀ (i : Nat) v p, c[i]? = some v → cs[i]? = some p → Rep g v p) :
    Stp L (kill ++ [(n, .arr cs)]) g (g.new n B c.size) w w' where
  os := hos
  tape := htape
  output := hout
  size := hsz
  block := fun b hb _ => hold b hb
  le := Gle.new hn
  at_ := fun m hm => by
    have : m ≠ n := fun e => by subst e; exact hm (.arr cs) (by simp)
    simp [Gh.new, this]
  keep := fun m hm => by
    have : m ≠ n := fun e => by rw [e, hL] at hm; cases hm
    simp [Gh.new, this]
  frn := fun b i v h => .inl h
  frok := hf.grow hold
  obj := fun m om hm => by
    rcases List.mem_append.1 hm with hm | hm
    · rw [(hk m om hm).1]; trivial
    simp only [List.mem_singleton, Prod.mk.injEq] at hm
    obtain ⟨rfl, rfl⟩ := hm
    refine .inr ⟨B, c, e, by simp [Gh.new], hnew, hl, by simp [Gh.new], h1, fun i v p a b => (hr i v p a b).mono (Gle.new hn), fun i => ?_⟩
    cases hh : (g.new m B c.size).fr B i with
    | none => rfl
    | some v => exact absurd (fr_lt hf hh) (by omega)
  own := fun m om hm hlive b hb => by
    rcases List.mem_append.1 hm with hm | hm
    · rw [(hk m om hm).1] at hlive; cases hlive
    simp only [List.mem_singleton, Prod.mk.injEq] at hm
    obtain ⟨rfl, rfl⟩ := hm
    simp [Gh.new] at hb
    left; omega
  inj := fun m om m' om' b hm hm' hl hl' _ _ => by
    rcases List.mem_append.1 hm with hm | hm
    · rw [(hk m om hm).1] at hl; cases hl
    rcases List.mem_append.1 hm' with hm' | hm'
    · rw [(hk m' om' hm').1] at hl'; cases hl'
    simp only [List.mem_singleton, Prod.mk.injEq] at hm hm'
    rw [hm.1, hm'.1]

theorem stp_new {L : Objs} {g : Gh} {w w' : World} {n : Nat} {cs : List PV} {c : Array Value} {e : TypeId} (hf : FrOK g w) (hn : g.at_ n = none) (hL : Live (L n) = false)
    (hos : w'.os = w.os) (htape : w'.tape = w.tape) (hout : w'.output = w.output) (hsz : w'.heap.size = w.heap.size + 1) (hold : ∀ b, b < w.heap.size → w'.heap[b]? = w.heap[b]?)
    (hnew : w'.heap[w.heap.size]? = some (.cells c e (0, 0)))
    (hl : cs.length ≤ c.size) (h1 : ∀ (i : Nat) v, i < cs.length → c[i]? = some v → one v = true) (hr : ∀ (i : Nat) v p, c[i]? = some v → cs[i]? = some p → Rep g v p) :
    Stp L [(n, .arr cs)] g (g.new n w.heap.size c.size) w w' :=
  stp_new' (kill := []) hf hn hL (fun _ _ h => by cases h) hos htape hout (Nat.le_refl _) (by omega) hold hnew hl h1 hr

theorem Lf_new (L : List PObj) : Lf L L.length = .dead := by simp [Lf]

/-- What a value spreads to, cell by cell. -/
theorem spread_cells {g : Gh} {v : Value} {p : PV} (hr : Rep g v p) (hv : isVal p = true) : ∃ vs : List Value, v.cells = vs.toArray ∧ vs.length = (spread p).length ∧ (∀ (i : Nat) u, vs[i]? = some u → one u = true) ∧
    ∀ (i : Nat) u c, vs[i]? = some u → (spread p)[i]? = some c → Rep g u c := by
  have single : ∀ (hp : spread p = [p]), one v = true → v.cells = #[v] → ∃ vs : List Value, v.cells = vs.toArray ∧ vs.length = (spread p).length ∧ (∀ (i : Nat) u, vs[i]? = some u → one u = true) ∧
      ∀ (i : Nat) u c, vs[i]? = some u → (spread p)[i]? = some c → Rep g u c := by
    intro hp h1 h2
    refine ⟨[v], h2, by rw [hp]; rfl, fun i u h => ?_, fun i u c h h' => ?_⟩
    · cases i with
      | zero => simp at h; subst h; exact h1
      | succ i => simp at h
    · rw [hp] at h'
      cases i with
      | zero => simp at h h'; subst h; subst h'; exact hr
      | succ i => simp at h
  cases hr with
  | d r => exact single rfl r.one (by cases r <;> rfl)
  | agg vs cs h1 h2 h3 => exact ⟨vs, rfl, h1, h2, h3⟩
  | ptr q off b hb => exact single rfl rfl rfl
  | fptr e off b base hb => exact single rfl rfl rfl
  | osl q off len z cap b t h1 h2 h3 h4 => exact single rfl rfl rfl
  | osl0 q off z a t => exact single rfl rfl rfl
  | fsl es a n cap t h1 h2 => exact single rfl rfl rfl
  | nilsl => exact single rfl rfl rfl
  | zsl => exact single rfl rfl rfl
  | fn f vs ws a b h1 h2 h3 h4 => exact single rfl rfl rfl
  | map q b h => exact single rfl rfl rfl
  | tup vs cs h1 h2 => cases hv
  | und => cases hv
  | dead => cases hv

theorem zcells_spec {t : TypeId} {zs : List PV} (h : zcells P t = some zs) : ∃ z ti, P.info? t = some ti ∧ ti.zero = some z ∧ plainConst z = true ∧ zs = spread (ofConst z) ∧ zs.length = ti.size := by
  unfold zcells at h
  split at h
  · rename_i z hz
    unfold zeroOf at hz
    cases hi : P.info? t with
    | none => rw [hi] at hz; cases hz
    | some ti =>
      rw [hi] at hz
      split at h
      · rename_i hc
        cases h
        refine ⟨z, ti, rfl, hz, hc.1, rfl, ?_⟩
        have := hc.2
        unfold szOf at this
        rw [hi] at this
        simpa using this
      · cases h
  · cases h

/-- A zero value's cells. -/
theorem zero_cells {z : Value} (h : plainConst z = true) (g : Gh) : ∃ vs : List Value, z.cells = vs.toArray ∧ vs.length = (spread (ofConst z)).length ∧ (∀ (i : Nat) u, vs[i]? = some u → one u = true) ∧
    ∀ (i : Nat) u c, vs[i]? = some u → (spread (ofConst z))[i]? = some c → Rep g u c := by
  by_cases ha : ∃ cs, z = .agg cs
  · obtain ⟨cs, rfl⟩ := ha
    have := spread_cells (g := g) (rep_ofConst g (.agg cs) h) rfl
    exact this
  · have hz : z.cells = [z].toArray := by
      cases z <;> first | rfl | exact absurd ⟨_, rfl⟩ ha
    have hs : ofConst z = ofCell z := by
      cases z <;> first | rfl | exact absurd ⟨_, rfl⟩ ha
    have hp : plainConst z = one z := by
      cases z <;> first | rfl | exact absurd ⟨_, rfl⟩ ha
    have hsp : spread (ofConst z) = [ofCell z] := by
      rw [hs]; unfold ofCell; split <;> rfl
    rw [hsp]
    refine ⟨[z], hz, rfl, fun i u hu => ?_, fun i u c hu hc => ?_⟩
    · cases i with
      | zero => simp at hu; subst hu; rw [← hp]; exact h
      | succ i => simp at hu
    · cases i with
      | zero => simp at hu hc; subst hu; subst hc; exact rep_ofCell g _
      | succ i => simp at hu

theorem at_new {g : Gh} {n : Nat} (h : Live (Lf L n) = true ∨ g.at_ n = none) (hn : n = L.length) : g.at_ n = none := by
  rcases h with h | h
  · subst hn; rw [Lf_new] at h; cases h
  · exact h

theorem snd_alloc {e : TypeId} {zs : List PV} (hz : zcells P e = some zs) (ho : o.op = .alloc e) (hp : peval env L (.alloc zs) = some (ob, out)) : OpOK P o env (Lf L) out := by
  simp only [peval, Option.some.injEq, Prod.mk.injEq] at hp
  obtain ⟨-, rfl⟩ := hp
  obtain ⟨z, ti, hi, hzz, hpl, rfl, hl⟩ := zcells_spec hz
  intro g w a K Q hx hf _ _ hnew k
  have hn := at_new (hnew _ _ (List.mem_singleton.2 rfl)) rfl
  obtain ⟨vs, c1, c2, c3, c4⟩ := zero_cells hpl g
  refine wp_of_value (v := .pointer (some ⟨w.heap.size, 0, none⟩)) (w' := w.alloc (.cells z.cells e)) ?_ (k _ (g.new L.length w.heap.size z.cells.size) _ (.ptr _ _ _ (by simp [Gh.new])) ?_)
  · simp [execOp, ho, Instr.alloc, zeroValue, typeInfo, hi, hzz, newVar, newRow]
  · rw [c1]
    exact stp_new hf hn (by rw [Lf_new]; rfl) rfl rfl rfl (by show (w.heap.push _).size = _; simp) (fun b hb => heap_alloc_old w _ hb) (heap_alloc_new w _) (by simp [c2])
      (fun i v _ h => c3 i v (by simpa using h)) (fun i v p h h' => c4 i v p (by simpa using h) h')

theorem snd_box {e : TypeId} {n : Nat} {x : Operand} (ho : o.op = .box e x) (hp : peval env L (.box n x) = some (ob, out)) (hob : ob) : OpOK P o env (Lf L) out := by
  simp only [peval, Option.some.injEq, Prod.mk.injEq] at hp
  obtain ⟨rfl, rfl⟩ := hp
  intro g w a K Q hx hf _ _ hnew k
  have hn := at_new (hnew _ _ (List.mem_singleton.2 rfl)) rfl
  obtain ⟨vs, c1, c2, c3, c4⟩ := spread_cells (hx x (by simp [ho, Op.operands])) hob.1
  refine wp_of_value (v := .pointer (some ⟨w.heap.size, 0, none⟩)) (w' := w.alloc (.cells (a.eval x).cells e)) ?_ (k _ (g.new L.length w.heap.size (a.eval x).cells.size) _ (.ptr _ _ _ (by simp [Gh.new])) ?_)
  · simp [execOp, ho, Instr.box, newVar, newRow]
  · rw [c1]
    exact stp_new hf hn (by rw [Lf_new]; rfl) rfl rfl rfl (by show (w.heap.push _).size = _; simp) (fun b hb => heap_alloc_old w _ hb) (heap_alloc_new w _) (by simp [c2])
      (fun i v _ h => c3 i v (by simpa using h)) (fun i v p h h' => c4 i v p (by simpa using h) h')

/-- An array of values that reads as these. -/
def CellsRep (g : Gh) (C : Array Value) (cs : List PV) : Prop :=
  C.size = cs.length ∧ (∀ (i : Nat) v, C[i]? = some v → one v = true) ∧ ∀ (i : Nat) v p, C[i]? = some v → cs[i]? = some p → Rep g v p

theorem fold_set (off : Nat) : ∀ (vs : List Value) (k : Nat) (C : Array Value), off + k + vs.length ≤ C.size →
    let R := (vs.zipIdx k).foldl (fun cs (c, j) => cs.setIfInBounds (off + j) c) C
    R.size = C.size ∧ ∀ i : Nat, R[i]? = if off + k ≤ i ∧ i < off + k + vs.length then vs[i - (off + k)]? else C[i]?
  | [], k, C, _ => by
    refine ⟨rfl, fun i => ?_⟩
    simp only [List.zipIdx_nil, List.foldl_nil, List.length_nil]
    rw [if_neg (by omega)]
  | v :: vs, k, C, h => by
    simp only [List.length_cons] at h
    obtain ⟨h1, h2⟩ := fold_set off vs (k + 1) (C.setIfInBounds (off + k) v) (by simp; omega)
    simp only [List.zipIdx_cons, List.foldl_cons]
    refine ⟨by rw [h1]; simp, fun i => ?_⟩
    rw [h2 i]
    by_cases a : off + (k + 1) ≤ i ∧ i < off + (k + 1) + vs.length
    · rw [if_pos a, if_pos (by simp; omega)]
      have : i - (off + k) = (i - (off + (k + 1))) + 1 := by omega
      rw [this, List.getElem?_cons_succ]
    · rw [if_neg a]
      by_cases b : i = off + k
      · subst b
        have hlt : off + k < C.size := by omega
        rw [if_pos ⟨Nat.le_refl _, by simp⟩, Nat.sub_self, List.getElem?_cons_zero]
        simp [hlt]
      · rw [if_neg (by simp; omega), Array.getElem?_setIfInBounds_ne (Ne.symm b)]

theorem fill_rep {g : Gh} {place : Nat → Option (Nat × Nat)} : ∀ {parts : List (Nat × Nat × PV)} {real : List (Nat × Value)} {C : Array Value} {zs cs : List PV}, CellsRep g C zs →
    fillP zs parts = some cs → real.length = parts.length → (∀ (j i : Nat) v q, real[j]? = some (i, v) → parts[j]? = some q → place i = some (q.1, q.2.1) ∧ Rep g v q.2.2) →
    ∃ C', Instr.fill place C real = some C' ∧ CellsRep g C' cs
  | [], [], C, zs, cs, hC, h, _, _ => by
    simp only [fillP, Option.some.injEq] at h
    subst h
    exact ⟨C, rfl, hC⟩
  | [], r :: real, C, zs, cs, hC, h, hl, _ => by simp at hl
  | (off, n, p) :: parts, [], C, zs, cs, hC, h, hl, _ => by simp at hl
  | (off, n, p) :: parts, (i, v) :: real, C, zs, cs, hC, h, hl, hr => by
    simp only [fillP] at h
    split at h
    · rename_i hc
      obtain ⟨hv, hn, hoff⟩ := hc
      obtain ⟨hpl, hrep⟩ := hr 0 i v _ rfl rfl
      have hrep : Rep g v p := hrep
      obtain ⟨vs, c1, c2, c3, c4⟩ := spread_cells (p := p) hrep hv
      simp only at hpl
      have c2' : vs.length = n := by rw [c2]; exact hn
      have hsz : v.cells.size = n := by rw [c1]; simp [c2']
      have hCs := hC.1
      simp only [Instr.fill, hpl]
      rw [if_neg (by rw [hsz]; simp; omega)]
      have hfold := fold_set off vs 0 C (by rw [Nat.add_zero, c2, hn, hCs]; exact hoff)
      simp only [Nat.add_zero] at hfold
      have hz : v.cells.zipIdx.foldl (fun cs (x : Value × Nat) => cs.setIfInBounds (off + x.2) x.1) C = (vs.zipIdx 0).foldl (fun cs (x : Value × Nat) => cs.setIfInBounds (off + x.2) x.1) C := by
        rw [c1]; simp
      have hC' : CellsRep g (v.cells.zipIdx.foldl (fun cs (x : Value × Nat) => cs.setIfInBounds (off + x.2) x.1) C) (zs.take off ++ spread p ++ zs.drop (off + n)) := by
        rw [hz]
        refine ⟨by rw [hfold.1, hCs]; simp; omega, fun j u hu => ?_, fun j u q hu hq => ?_⟩
        · rw [hfold.2 j] at hu
          split at hu
          · exact c3 _ _ hu
          · exact hC.2.1 _ _ hu
        · rw [hfold.2 j] at hu
          split at hu
          · rename_i hj
            rw [List.append_assoc, List.getElem?_append_right (by simp; omega)] at hq
            rw [List.getElem?_append_left (by simp [hn]; omega)] at hq
            have : j - (zs.take off).length = j - off := by simp; omega
            rw [this] at hq
            exact c4 _ _ _ hu hq
          · rename_i hj
            refine hC.2.2 j u q hu ?_
            by_cases hlt : j < off
            · rw [List.append_assoc, List.getElem?_append_left (by simp; omega), List.getElem?_take_of_lt hlt] at hq; exact hq
            · have hge : off + n ≤ j := by omega
              rw [List.getElem?_append_right (by simp [hn]; omega)] at hq
              rw [List.getElem?_drop] at hq
              rw [← hq]; congr 1; simp [hn]; omega
      obtain ⟨C', h1, h2⟩ := fill_rep (place := place) hC' h (by simpa using hl) (fun j i v q a b => hr (j + 1) i v q (by simpa using a) (by simpa using b))
      exact ⟨C', h1, h2⟩
    · cases h

theorem zero_rep {z : Value} (h : plainConst z = true) (g : Gh) : CellsRep g z.cells (spread (ofConst z)) := by
  obtain ⟨vs, c1, c2, c3, c4⟩ := zero_cells h g
  rw [c1]
  exact ⟨by simp [c2], fun i v hv => c3 i v (by simpa using hv), fun i v p hv hp => c4 i v p (by simpa using hv) hp⟩

theorem rep_agg_of {g : Gh} {C : Array Value} {cs : List PV} (h : CellsRep g C cs) : Rep g (.agg C) (.agg cs) := by
  obtain ⟨l⟩ := C
  exact .agg l cs (by simpa using h.1) (fun i v hv => h.2.1 i v (by simpa using hv)) (fun i v c hv hc => h.2.2 i v c (by simpa using hv) hc)

theorem snd_build_array {t e : TypeId} {m n : Nat} {parts : Array (Nat × Operand)} {zs : List PV} (ht : P.underlying t = some (.array m e)) (hz : zcells P t = some zs) (hn : szOf P e = some n) (ho : o.op = .build t parts)
    (hp : peval env L (.build zs (parts.toList.map fun (i, x) => (i * n, n, x))) = some (ob, out)) : OpOK P o env (Lf L) out := by
  simp only [peval] at hp
  cases hfl : fillP zs ((parts.toList.map fun (i, x) => (i * n, n, x)).map fun (o, n, x) => (o, n, ev env x)) with
  | none => rw [hfl] at hp; cases hp
  | some cs =>
    rw [hfl] at hp
    simp only [Option.map_some, Option.some.injEq, Prod.mk.injEq] at hp
    obtain ⟨-, rfl⟩ := hp
    obtain ⟨z, ti, hi, hzz, hpl, rfl, hl⟩ := zcells_spec hz
    refine ok_pure rfl (fun g w ρ hx hf _ => ?_)
    obtain ⟨C', h1, h2⟩ := fill_rep (place := fun i => some (i * n, n)) (real := parts.toList.map fun (i, x) => (i, ρ x)) (zero_rep hpl g) hfl (by simp) (fun j i v q a b => by
      simp only [List.getElem?_map, Option.map_eq_some_iff, List.map_map] at a b
      obtain ⟨⟨i', x⟩, hj, he⟩ := a
      obtain ⟨⟨i'', x'⟩, hj', he'⟩ := b
      rw [hj] at hj'; cases hj'
      simp only [Prod.mk.injEq] at he
      obtain ⟨rfl, rfl⟩ := he
      subst he'
      refine ⟨rfl, hx x ?_⟩
      rw [ho]; simp only [Op.operands, List.mem_map]; exact ⟨_, List.mem_of_getElem? hj, rfl⟩)
    refine ⟨.agg C', ?_, rep_agg_of h2⟩
    have hreal : (parts.map fun (p : Nat × Operand) => (p.1, ρ p.2)).toList = parts.toList.map fun (i, x) => (i, ρ x) := by simp
    simp [execOp, ho, Instr.build, zeroValue, typeInfo, hi, hzz, run_underlying ht, run_szOf hn, h1]

end sound
end Go.Fw
