import Derived.Test.YtpfdldcejeilnaaFwQ
set_option linter.unusedVariables false
set_option linter.unusedSimpArgs false
namespace Go.Fw
open Go

section
variable {P : Program} {ops : Array Oper} {env : List PV} {L : List PObj} {envs : Nat → List PV} {Ls : Nat → List PObj} {outs : Nat → Out} {ords : List (List Nat)}

def uE (ops : Array Oper) (outs : Nat → Out) (len : Nat) (k t : Nat) : Option (Option PV) :=
  if (ops[k]?).bind (·.dst) = some t ∧ t < len then some (some (outs k).pv) else none
def uO (outs : Nat → Out) (k n : Nat) : Option PObj := ((outs k).upd.find? (·.1 == n)).map (·.2)

theorem uE_some {len k t : Nat} (h : (uE ops outs len k t).isSome = true) : ∃ o, ops[k]? = some o ∧ o.dst = some t ∧ t < len ∧ uE ops outs len k t = some (some (outs k).pv) := by
  unfold uE at h ⊢
  split at h
  · rename_i hc
    rw [if_pos hc]
    obtain ⟨h1, h2⟩ := hc
    cases ho : ops[k]? with
    | none => rw [ho] at h1; cases h1
    | some o => rw [ho] at h1; exact ⟨o, rfl, h1, h2, rfl⟩
  · cases h
theorem uO_some {k n : Nat} (h : (uO outs k n).isSome = true) : n ∈ (outs k).upd.map (·.1) := by
  unfold uO at h
  simp only [Option.isSome_map] at h
  obtain ⟨x, hx⟩ := Option.isSome_iff_exists.1 h
  have h1 := List.find?_some hx
  have h2 := List.mem_of_find?_eq_some hx
  simp only [beq_iff_eq] at h1
  exact List.mem_map.2 ⟨x, h2, h1⟩

theorem find_upd : ∀ {upd : List (Nat × PObj)} {L : List PObj}, OkUpd L upd → ∀ n ob, (n, ob) ∈ upd → upd.find? (·.1 == n) = some (n, ob)
  | [], _, _, n, ob, h => by cases h
  | (m, om) :: r, L, h, n, ob, hm => by
    obtain ⟨h1, h2, h3⟩ := h
    rcases List.mem_cons.1 hm with e | hm
    · cases e; simp
    · have := h2 n ob hm
      rw [List.find?_cons_of_neg (by simp; exact Ne.symm this)]
      exact find_upd h3 n ob hm

theorem Trc.env_len (T : Trc P ops ops.toList env L envs Ls outs) : ∀ j, j ≤ ops.size → (envs j).length = env.length := by
  intro j
  induction j with
  | zero => intro _; rw [T.e0]
  | succ j ih =>
    intro hj
    have hj' : j < ops.toList.length := by rw [Array.length_toList]; omega
    rw [T.es j _ (List.getElem?_eq_getElem hj')]
    cases (ops.toList[j]).dst with
    | none => exact ih (by omega)
    | some d => simp only [putE, List.length_set]; exact ih (by omega)

theorem Trc.ls_len (T : Trc P ops ops.toList env L envs Ls outs) : ∀ j i, i ≤ j → j ≤ ops.size → (Ls i).length ≤ (Ls j).length := by
  intro j
  induction j with
  | zero => intro i h _; have : i = 0 := by omega
            subst this; exact Nat.le_refl _
  | succ j ih =>
    intro i hi hj
    by_cases e : i = j + 1
    · subst e; exact Nat.le_refl _
    · have hj' : j < ops.toList.length := by rw [Array.length_toList]; omega
      rw [T.ls j hj']
      exact Nat.le_trans (ih i (by omega) (by omega)) (upL_len _ _)

theorem Trc.sE (T : Trc P ops ops.toList env L envs Ls outs) (k t : Nat) (hk : k < ops.size) : (envs (k + 1))[t]? = (uE ops outs env.length k t).getD (envs k)[t]? := by
  have hk' : k < ops.toList.length := by simpa using hk
  rw [T.es k _ (List.getElem?_eq_getElem hk')]
  have hlen := T.env_len k (by omega)
  have hop : ops[k]? = some ops[k] := Array.getElem?_eq_getElem hk
  have he : ops.toList[k] = ops[k] := by simp
  rw [he]
  unfold uE
  rw [hop]
  simp only [Option.bind_some]
  by_cases e : ops[k].dst = some t ∧ t < env.length
  · rw [if_pos e, e.1]
    simp [putE, hlen, e.2]
  · rw [if_neg e]
    show (putE (envs k) ops[k].dst (outs k).pv)[t]? = (envs k)[t]?
    unfold putE
    split
    · rename_i d hd
      by_cases e' : d = t
      · subst e'
        have : ¬ d < env.length := fun h => e ⟨hd, h⟩
        rw [List.getElem?_eq_none (by simp; omega), List.getElem?_eq_none (by omega)]
      · rw [List.getElem?_set_ne e']
    · rfl

theorem Trc.sO (T : Trc P ops ops.toList env L envs Ls outs) (k n : Nat) (hk : k < ops.size) : Lf (Ls (k + 1)) n = (uO outs k n).getD (Lf (Ls k) n) := by
  have hk' : k < ops.toList.length := by simpa using hk
  rw [T.ls k hk']
  obtain ⟨h1, h2⟩ := upL_get (T.ok k hk')
  unfold uO
  cases hf : (outs k).upd.find? (·.1 == n) with
  | none =>
    rw [h2 n (fun ob ho => by have := List.find?_eq_none.1 hf _ ho; simp at this)]; rfl
  | some x =>
    obtain ⟨m, ob⟩ := x
    have e := List.find?_some hf
    simp only [beq_iff_eq] at e
    subst e
    exact h1 m ob (List.mem_of_find?_eq_some hf)

def FE (ops : Array Oper) (outs : Nat → Out) (env : List PV) (D : Nat → Bool) : Nat → Option PV := fd (fun t => env[t]?) (uE ops outs env.length) D ops.size
def FO (ops : Array Oper) (outs : Nat → Out) (L : List PObj) (D : Nat → Bool) : Objs := fd (Lf L) (uO outs) D ops.size
def FN (ops : Array Oper) (outs : Nat → Out) (L : List PObj) (D : Nat → Bool) (m : Nat) : Prop := L.length ≤ m ∧ ∀ k, k < ops.size → D k = true → m ∉ (outs k).upd.map (·.1)

/-- What the check says. -/
structure Chk (ops : Array Oper) (ords : List (List Nat)) (outs : Nat → Out) : Prop where
  edges : okEdges ops = true
  ordok : okOrds ops ords = true
  slots : okSlots ops ords = true
  nms : okNms ords ((List.range ops.size).map fun j => (outs j).nms) = true

def Closed (ops : Array Oper) (D : Nat → Bool) : Prop := ∀ j o, D j = true → ops[j]? = some o → ∀ e ∈ o.after, Region.binds .any e = true → D e.on = true

/-- Is each that clashes with i, and is before it, done, and none that is behind? -/
theorem Chk.slot (C : Chk ops ords outs) {D : Nat → Bool} (hD : Closed ops D) {i : Nat} {o : Oper} (ho : ops[i]? = some o) (hi : D i = false) (hpre : ∀ e ∈ o.after, Region.binds .any e = true → D e.on = true)
    {k : Nat} {x : Oper} (hx : ops[k]? = some x) (hne : k ≠ i) (hcl : ¬ (x.apart ops o = true) ∧ ¬ (o.apart ops x = true)) : D k = decide (k < i) := by
  have hlt := (Array.getElem?_eq_some_iff.1 ho).1
  rcases Nat.lt_or_ge k i with h | h
  · rw [decide_eq_true h]
    rcases okSlots_spec C.slots h hx ho with h1 | h1
    · exact okOrds_done C.ordok hD i (fun o' ho' => by rw [ho] at ho'; cases ho'; exact hpre) hlt k h1
    · exact absurd h1 hcl.1
  · have h : i < k := by omega
    rw [decide_eq_false (by omega)]
    rcases okSlots_spec C.slots h ho hx with h1 | h1
    · cases hk : D k with
      | false => rfl
      | true =>
        have hkl := (Array.getElem?_eq_some_iff.1 hx).1
        have := okOrds_done C.ordok hD k (fun o' ho' => hD k o' hk ho') hkl i h1
        rw [hi] at this; cases this
    · exact absurd h1 hcl.2

theorem Chk.name (C : Chk ops ords outs) {D : Nat → Bool} (hD : Closed ops D) {i : Nat} {o : Oper} (ho : ops[i]? = some o) (hi : D i = false) (hpre : ∀ e ∈ o.after, Region.binds .any e = true → D e.on = true)
    {k : Nat} (hk : k < ops.size) (hne : k ≠ i) {n : Nat} (h1 : n ∈ (outs k).upd.map (·.1)) (h2 : n ∈ (outs i).upd.map (·.1) ∨ n ∈ (outs i).rd) : D k = decide (k < i) := by
  have hlt := (Array.getElem?_eq_some_iff.1 ho).1
  have hget : ∀ j, j < ops.size → ((List.range ops.size).map fun j => (outs j).nms)[j]? = some (outs j).nms := fun j hj => by simp [hj]
  rcases Nat.lt_or_ge k i with h | h
  · rw [decide_eq_true h]
    rcases okNms_spec C.nms h (hget k hk) (hget i hlt) with h3 | h3
    · exact okOrds_done C.ordok hD i (fun o' ho' => by rw [ho] at ho'; cases ho'; exact hpre) hlt k h3
    · obtain ⟨c1, -⟩ := clashN_false h3
      obtain ⟨a, b⟩ := c1 n h1
      rcases h2 with h2 | h2
      · exact absurd h2 a
      · exact absurd h2 b
  · have h : i < k := by omega
    rw [decide_eq_false (by omega)]
    rcases okNms_spec C.nms h (hget i hlt) (hget k hk) with h3 | h3
    · cases hk' : D k with
      | false => rfl
      | true =>
        have := okOrds_done C.ordok hD k (fun o' ho' => hD k o' hk' ho') hk i h3
        rw [hi] at this; cases this
    · obtain ⟨c1, c2⟩ := clashN_false h3
      rcases h2 with h2 | h2
      · exact absurd h1 (c1 n h2).1
      · exact absurd h1 (c2 n h2)

theorem region_step {L0 : List PObj} {g0 : Gh} {w0 : World} (hL0 : L0.length ≤ L.length) (T : Trc P ops ops.toList env L envs Ls outs) (C : Chk ops ords outs) {D D' : Nat → Bool} (hD : Closed ops D) {i : Nat} {o : Oper} (ho : ops[i]? = some o) (hi : D i = false)
    (hpre : ∀ e ∈ o.after, Region.binds .any e = true → D e.on = true) (hDi : D' i = true) (hDk : ∀ k, k ≠ i → D' k = D k) {g : Gh} {a : Act} {w : World} {K : Act → World → Prop} {Q : Exit → Act → World → Prop}
    (hst : StF L0 g0 w0 g env.length (FE ops outs env D) (FO ops outs L D) (FN ops outs L D) a w)
    (hK : ∀ g' a' w', StF L0 g0 w0 g' env.length (FE ops outs env D') (FO ops outs L D') (FN ops outs L D') a' w' → K a' w') : wpOp P ops Q i K a w := by
  have hlt := (Array.getElem?_eq_some_iff.1 ho).1
  have hll : ops.toList[i]? = some o := by simpa using ho
  have hlt' : i < ops.toList.length := by simpa using hlt
  have slotA : ∀ t, t ∈ o.looksAt ops → FE ops outs env D t = (envs i)[t]? := by
    intro t ht
    refine fd_agree (S := fun k t => (envs k)[t]?) (fun x => by rw [T.e0]) (fun k x hk => T.sE k x hk) ops.size (Nat.le_refl _) i (by omega) (fun k hk hs => ?_)
    obtain ⟨x, hx, hxd, -, -⟩ := uE_some hs
    by_cases hki : k = i
    · subst hki; rw [hi]; simp
    · refine C.slot hD ho hi hpre hx hki ⟨fun h => ?_, fun h => ?_⟩
      · exact (Oper.apart_spec h).1 t hxd ht
      · exact (Oper.apart_spec h).2.2 t hxd ht
  have nameB : ∀ n, (n ∈ (outs i).upd.map (·.1) ∨ n ∈ (outs i).rd) → FO ops outs L D n = Lf (Ls i) n := by
    intro n hn
    refine fd_agree (S := fun k n => Lf (Ls k) n) (fun x => by rw [T.l0]) (fun k x hk => T.sO k x hk) ops.size (Nat.le_refl _) i (by omega) (fun k hk hs => ?_)
    by_cases hki : k = i
    · subst hki; rw [hi]; simp
    · exact C.name hD ho hi hpre hk hki (uO_some hs) hn
  have touchB : ∀ n, (outs i).touch n → FO ops outs L D n = Lf (Ls i) n := fun n hn => by
    refine nameB n ?_
    rcases hn with hn | ⟨ob, hn⟩
    · exact .inr hn
    · exact .inl (List.mem_map.2 ⟨_, hn, rfl⟩)
  have slotC : ∀ t, o.dst = some t → ∀ p, FE ops outs env D' t = some p → p = (outs i).pv := by
    intro t ht p hp
    have hen : t < env.length := by
      by_cases hl : t < env.length
      · exact hl
      · exfalso
        have hz : FE ops outs env D' t = none := by
          unfold FE
          rw [fd_congr (D' := fun _ => false) ops.size (fun k hk hs => by obtain ⟨x, _, _, h3, _⟩ := uE_some hs; exact absurd h3 hl)]
          have : ∀ m, fd (fun t => env[t]?) (uE ops outs env.length) (fun _ => false) m t = env[t]? := by
            intro m; induction m with
            | zero => rfl
            | succ m ih => simp [fd, ih]
          rw [this]; exact List.getElem?_eq_none (Nat.le_of_not_lt hl)
        rw [hz] at hp; cases hp
    have hu : uE ops outs env.length i t = some (some (outs i).pv) := by unfold uE; rw [ho]; simp [ht, hen]
    have := fd_add (s0 := fun t => env[t]?) (u := uE ops outs env.length) (D' := D') hu hDi ops.size hlt (fun k h1 h2 hs => by
      obtain ⟨x, hx, hxd, -, -⟩ := uE_some hs
      rw [hDk k (by omega), C.slot hD ho hi hpre hx (by omega) ⟨fun h => (Oper.apart_spec h).2.1 t hxd ht, fun h => (Oper.apart_spec h).2.1 t ht hxd⟩]
      simp; omega)
    unfold FE at hp
    rw [this] at hp
    cases hp; rfl
  have slotD : ∀ t, o.dst ≠ some t → FE ops outs env D' t = FE ops outs env D t := by
    intro t ht
    refine fd_congr ops.size (fun k hk hs => hDk k (fun e => ?_))
    subst e
    obtain ⟨x, hx, hxd, -, -⟩ := uE_some hs
    rw [ho] at hx; cases hx; exact ht hxd
  have nameE : ∀ n ob, (n, ob) ∈ (outs i).upd → FO ops outs L D' n = ob := by
    intro n ob hn
    have hu : uO outs i n = some ob := by unfold uO; rw [find_upd (T.ok i hlt') n ob hn]; rfl
    exact fd_add hu hDi ops.size hlt (fun k h1 h2 hs => by
      rw [hDk k (by omega), C.name hD ho hi hpre h2 (by omega) (uO_some hs) (.inl (List.mem_map.2 ⟨_, hn, rfl⟩))]
      simp; omega)
  have nameF : ∀ n, (∀ ob, (n, ob) ∉ (outs i).upd) → FO ops outs L D' n = FO ops outs L D n := by
    intro n hn
    refine fd_congr ops.size (fun k hk hs => hDk k (fun e => ?_))
    subst e
    obtain ⟨⟨m, ob⟩, h1, h2⟩ := List.mem_map.1 (uO_some hs)
    simp only at h2; subst h2; exact hn ob h1
  have fresh : ∀ m, (∀ ob, (m, ob) ∈ (outs i).upd → (m < (Ls i).length ∧ Live (Lf (Ls i) m) = true) ∨ (Ls i).length ≤ m) := fun m ob hm => OkUpd.live (T.ok i hlt') m ob hm
  have freshN : ∀ m ob, (m, ob) ∈ (outs i).upd → (Ls i).length ≤ m → FN ops outs L D m := by
    intro m ob hm hle
    refine ⟨Nat.le_trans (by have := T.ls_len i 0 (by omega) (by omega); rw [T.l0] at this; exact this) hle, fun k hk hdk hmk => ?_⟩
    have hki : k ≠ i := fun e => by subst e; rw [hi] at hdk; cases hdk
    have := C.name hD ho hi hpre hk hki hmk (.inl (List.mem_map.2 ⟨_, hm, rfl⟩))
    rw [hdk] at this
    have hlt2 : k < i := by simpa using this.symm
    obtain ⟨⟨m', ob'⟩, h1, h2⟩ := List.mem_map.1 hmk
    simp only at h2; subst h2
    have hk' : k < ops.toList.length := by simpa using hk
    have h3 := OkUpd.le (T.ok k hk') m' ob' h1
    rw [← T.ls k hk'] at h3
    have := T.ls_len i (k + 1) (by omega) (by omega)
    omega
  have hN' : ∀ m, FN ops outs L D' m → FN ops outs L D m ∧ ∀ ob, (m, ob) ∉ (outs i).upd := by
    intro m hm
    refine ⟨⟨hm.1, fun k hk hdk => hm.2 k hk (by rw [hDk k (fun e => by subst e; rw [hi] at hdk; cases hdk)]; exact hdk)⟩, fun ob hob => hm.2 i hlt hDi (List.mem_map.2 ⟨_, hob, rfl⟩)⟩
  have hev : ∀ x ∈ o.op.operands.toList, Rep g (a.eval x) (ev (envs i) x) := by
    intro x hx
    cases x with
    | tmp t =>
      have ht := slotA t (by unfold Oper.looksAt; exact List.mem_append_left _ (List.mem_filterMap.2 ⟨.tmp t, hx, rfl⟩))
      simp only [ev, Act.eval]
      cases he : (envs i)[t]? with
      | none => exact .dead _
      | some p => rw [he] at ht; exact hst.rep t p ht
    | const v =>
      simp only [ev, Act.eval, ofOpd]
      cases hp : plainConst v with
      | true => exact rep_ofConst g v hp
      | false => exact .dead _
    | global n => exact .dead _
    | func f => exact .fn f [] [] [] [] rfl (by simp) rfl (by simp)
  have hgd : ∀ t want, guardSlot ops o.guard = some (some (t, want)) → ∀ p, ev (envs i) (.tmp t) = p → p ≠ .dead → t < a.tmps.size ∧ Rep g (a.tmps.getD t undef) p := by
    intro t want hg p hp hne
    have ht : t ∈ o.looksAt ops := by
      unfold guardSlot at hg
      unfold Oper.looksAt
      split at hg
      · cases hg
      · rename_i j want' hgo
        split at hg
        · rename_i d hd
          simp only [Option.some.injEq, Prod.mk.injEq] at hg
          obtain ⟨rfl, rfl⟩ := hg
          rw [hgo]
          exact List.mem_append_right _ (by simp only [hd]; simp)
        · cases hg
    have hs := slotA t ht
    simp only [ev] at hp
    cases he : (envs i)[t]? with
    | none => rw [he] at hp; exact absurd hp.symm hne
    | some q =>
      rw [he] at hp hs; simp at hp; subst hp
      refine ⟨?_, hst.rep t _ hs⟩
      rw [hst.asz, ← T.env_len i (by omega)]
      exact (List.getElem?_eq_some_iff.1 he).1
  have put : ∀ (g' : Gh) (v : Value), Gle g g' → Rep g' v (outs i).pv → (∀ t p, FE ops outs env D' t = some p → Rep g' ((a.put o.dst v).tmps.getD t undef) p) ∧ (a.put o.dst v).tmps.size = env.length ∧ (a.put o.dst v).defers = [] := by
    intro g' v hle hv
    refine ⟨fun t p hp => ?_, ?_, ?_⟩
    · by_cases hd : o.dst = some t
      · have := slotC t hd p hp
        subst this
        rw [hd]
        simp only [Act.put]
        by_cases hts : t < a.tmps.size
        · simp [Array.getD, hts]; exact hv
        · exfalso
          have hz : FE ops outs env D' t = none := by
            rw [hst.asz] at hts
            unfold FE
            rw [fd_congr (D' := fun _ => false) ops.size (fun k hk hs => by obtain ⟨x, _, _, h3, _⟩ := uE_some hs; exact absurd h3 hts)]
            have : ∀ m, fd (fun t => env[t]?) (uE ops outs env.length) (fun _ => false) m t = env[t]? := by
              intro m; induction m with
              | zero => rfl
              | succ m ih => simp [fd, ih]
            rw [this]; exact List.getElem?_eq_none (Nat.le_of_not_lt hts)
          rw [hz] at hp; cases hp
      · rw [slotD t hd] at hp
        have := (hst.rep t p hp).mono hle
        cases hdd : o.dst with
        | none => exact this
        | some d =>
          have hne : d ≠ t := fun e => hd (by rw [hdd, e])
          simp only [Act.put]
          simp only [Array.getD_eq_getD_getElem?, Array.getElem?_setIfInBounds_ne hne] at this ⊢
          exact this
    · cases o.dst <;> simp [Act.put, hst.asz]
    · cases o.dst <;> simp [Act.put, hst.defers]
  unfold wpOp
  simp only [ho]
  rcases T.good i o hll with ⟨hdo, hg⟩ | ⟨hout, t, want, hg, hb⟩
  · have hw : Region.wanted o (yielded ops a.tmps) = true := by
      rcases hg with hg | ⟨t, want, hg, hb⟩
      · exact wanted_none hg
      · obtain ⟨h1, h2⟩ := hgd t want hg _ hb (by simp)
        rw [(wanted_slot hg h1 h2).1 want rfl]; simp
    rw [if_pos hw]
    refine .inl (hdo g w a K Q hev hst.rh.fr (fun n hn => ?_) (fun n ob hn => ?_) (fun n m b hn hm h1 h2 h3 h4 => ?_) (fun v g' w' hv hs => ?_))
    · rw [← touchB n hn]; exact hst.rh.obj n
    · rcases fresh n ob hn with ⟨-, hl⟩ | hl
      · exact .inl hl
      · exact .inr (hst.new n (freshN n ob hn hl)).1
    · exact hst.rh.inj n m b h1 h2 (by rw [touchB n hn]; exact h3) (by rw [touchB m hm]; exact h4)
    · have hs' : Stp (FO ops outs L D) (outs i).upd g g' w w' := hs.congr (fun n ob hn => (touchB n (.inr ⟨ob, hn⟩)).symm)
      obtain ⟨p1, p2, p3⟩ := put g' v hs.le hv
      refine hK g' _ w' (hst.step hs' (fun m ob hm => ?_) nameE nameF hN' p2 p1 p3)
      rcases fresh m ob hm with ⟨-, hl⟩ | hl
      · left; rw [touchB m (.inr ⟨ob, hm⟩)]; exact hl
      · right; exact freshN m ob hm hl
  · have hw : Region.wanted o (yielded ops a.tmps) = false := by
      rcases hb with ⟨b, hb, hne⟩ | hb
      · obtain ⟨h1, h2⟩ := hgd t want hg _ hb (by simp)
        rw [(wanted_slot hg h1 h2).1 b rfl]; simpa using hne
      · obtain ⟨h1, h2⟩ := hgd t want hg _ hb (by simp)
        exact (wanted_slot hg h1 h2).2 rfl
    rw [if_neg (by rw [hw]; simp)]
    obtain ⟨p1, p2, p3⟩ := put g undef (Gle.refl g) (by rw [hout]; exact .und)
    have hu0 : (outs i).upd = [] := by rw [hout]; rfl
    refine hK g _ w (hst.step (upd := []) (Stp.refl hst.rh.fr) (fun m ob hm => (by cases hm)) (fun m ob hm => (by cases hm)) (fun m _ => nameF m (fun ob h => by rw [hu0] at h; cases h)) (fun m hm => ⟨(hN' m hm).1, fun ob h => (by cases h)⟩) p2 p1 p3)

theorem St.toF {L0 : List PObj} {g0 : Gh} {w0 : World} {g : Gh} {a : Act} {w : World} (h : St L0 g0 w0 g env L a w) : StF L0 g0 w0 g env.length (FE ops outs env fun _ => false) (FO ops outs L fun _ => false) (FN ops outs L fun _ => false) a w := by
  have e1 : ∀ t, FE ops outs env (fun _ => false) t = env[t]? := fun t => by
    have : ∀ m, fd (fun t => env[t]?) (uE ops outs env.length) (fun _ => false) m t = env[t]? := by
      intro m; induction m with
      | zero => rfl
      | succ m ih => simp [fd, ih]
    exact this _
  have e2 : FO ops outs L (fun _ => false) = Lf L := by
    funext n
    have : ∀ m, fd (Lf L) (uO outs) (fun _ => false) m n = Lf L n := by
      intro m; induction m with
      | zero => rfl
      | succ m ih => simp [fd, ih]
    exact this _
  exact {
    asz := h.ra.size
    rep := fun t p hp => h.ra.rep t p (by rw [← e1]; exact hp)
    defers := h.ra.defers
    rh := by rw [e2]; exact h.rh
    new := fun m hm => ⟨h.new m hm.1, Nat.le_trans h.len hm.1⟩
    os := h.os
    tape := h.tape
    output := h.output
    size := h.size
    block := h.block
    frle := h.frle
    at0 := h.at0
    frn := h.frn
    own := by rw [e2]; exact h.own }

theorem StF.toSt {L0 : List PObj} {g0 : Gh} {w0 : World} {g : Gh} {a : Act} {w : World} {D : Nat → Bool} (T : Trc P ops ops.toList env L envs Ls outs) (hL0 : L0.length ≤ L.length) (hD : ∀ k, k < ops.size → D k = true)
    (h : StF L0 g0 w0 g env.length (FE ops outs env D) (FO ops outs L D) (FN ops outs L D) a w) : St L0 g0 w0 g (envs ops.size) (Ls ops.size) a w := by
  have e1 : ∀ t, FE ops outs env D t = (envs ops.size)[t]? := fun t =>
    fd_agree (S := fun k t => (envs k)[t]?) (fun x => by rw [T.e0]) (fun k x hk => T.sE k x hk) ops.size (Nat.le_refl _) ops.size (Nat.le_refl _) (fun k hk _ => by rw [hD k hk]; simp [hk])
  have e2 : FO ops outs L D = Lf (Ls ops.size) := by
    funext n
    exact fd_agree (S := fun k n => Lf (Ls k) n) (fun x => by rw [T.l0]) (fun k x hk => T.sO k x hk) ops.size (Nat.le_refl _) ops.size (Nat.le_refl _) (fun k hk _ => by rw [hD k hk]; simp [hk])
  have hlen := T.ls_len ops.size 0 (by omega) (Nat.le_refl _)
  rw [T.l0] at hlen
  exact {
    ra := ⟨by rw [h.asz, T.env_len _ (Nat.le_refl _)], fun t p hp => h.rep t p (by rw [e1]; exact hp), h.defers⟩
    rh := by rw [← e2]; exact h.rh
    new := fun m hm => (h.new m ⟨Nat.le_trans hlen hm, fun k hk _ hmk => by
      obtain ⟨⟨m', ob⟩, h1, h2⟩ := List.mem_map.1 hmk
      simp only at h2; subst h2
      have hk' : k < ops.toList.length := by simpa using hk
      have h3 := OkUpd.le (T.ok k hk') m' ob h1
      rw [← T.ls k hk'] at h3
      have := T.ls_len ops.size (k + 1) (by omega) (Nat.le_refl _)
      omega⟩).1
    os := h.os
    tape := h.tape
    output := h.output
    size := h.size
    block := h.block
    frle := h.frle
    len := Nat.le_trans hL0 hlen
    at0 := h.at0
    frn := h.frn
    own := by rw [← e2]; exact h.own }

/-- How many are not done. -/
def left (n : Nat) (D : Nat → Bool) : Nat := ((List.range n).filter fun k => !D k).length

theorem left_zero {n : Nat} {D : Nat → Bool} (h : left n D = 0) : ∀ k, k < n → D k = true := by
  intro k hk
  have := List.length_eq_zero_iff.1 h
  rw [List.filter_eq_nil_iff] at this
  simpa using this k (List.mem_range.2 hk)

theorem left_lt {n : Nat} {D D' : Nat → Bool} {i : Nat} (hi : i < n) (h0 : D i = false) (h1 : D' i = true) (hk : ∀ k, k ≠ i → D' k = D k) : left n D' < left n D := by
  induction n with
  | zero => omega
  | succ n ih =>
    unfold left at *
    rw [List.range_succ, List.filter_append, List.filter_append, List.length_append, List.length_append]
    by_cases e : i = n
    · subst e
      have : (List.range i).filter (fun k => !D' k) = (List.range i).filter (fun k => !D k) := List.filter_congr (fun k hk' => by rw [hk k (by have := List.mem_range.1 hk'; omega)])
      rw [this]; simp [h0, h1]
    · have := ih (by omega)
      have e2 : [n].filter (fun k => !D' k) = [n].filter (fun k => !D k) := List.filter_congr (fun k hk' => by simp at hk'; subst hk'; rw [hk k (Ne.symm e)])
      rw [e2]; omega

theorem region_any {L0 : List PObj} {g0 : Gh} {w0 : World} (hL0 : L0.length ≤ L.length) (T : Trc P ops ops.toList env L envs Ls outs) (C : Chk ops ords outs) {Q : Exit → Act → World → Prop}
    (hQ : ∀ g a w, St L0 g0 w0 g (envs ops.size) (Ls ops.size) a w → Q .normal a w) : ∀ (fuel : Nat) (listed : Array Bool) (g : Gh) (a : Act) (w : World), listed.size = ops.size → left ops.size (fun k => listed.getD k false) ≤ fuel →
      Closed ops (fun k => listed.getD k false) → StF L0 g0 w0 g env.length (FE ops outs env fun k => listed.getD k false) (FO ops outs L fun k => listed.getD k false) (FN ops outs L fun k => listed.getD k false) a w →
      wpAny P .any ops Q fuel listed a w := by
  have fin : ∀ (listed : Array Bool) (g : Gh) (a : Act) (w : World), listed.size = ops.size → Region.ready .any ops listed = [] →
      StF L0 g0 w0 g env.length (FE ops outs env fun k => listed.getD k false) (FO ops outs L fun k => listed.getD k false) (FN ops outs L fun k => listed.getD k false) a w → Q .normal a w := by
    intro listed g a w hsz hr hst
    refine hQ g a w (hst.toSt T hL0 ?_)
    intro k
    induction k using Nat.strongRecOn with
    | _ k ih =>
      intro hk
      cases hl : listed.getD k false with
      | true => rfl
      | false =>
        exfalso
        have : k ∈ Region.ready .any ops listed := by
          refine mem_ready.2 ⟨?_, ops[k], Array.getElem?_eq_getElem hk, fun e he hb => ?_⟩
          · have hlt : k < listed.size := by omega
            simp [Array.getD, hlt] at hl ⊢; exact hl
          · have := okEdges_spec C.edges (Array.getElem?_eq_getElem hk) he hb
            exact ih e.on this (by omega)
        rw [hr] at this; cases this
  intro fuel
  induction fuel with
  | zero =>
    intro listed g a w hsz hleft hcl hst
    have hall := left_zero (Nat.le_zero.1 hleft)
    have hr : Region.ready .any ops listed = [] := by
      cases hr : Region.ready .any ops listed with
      | nil => rfl
      | cons i r =>
        have hi : i ∈ Region.ready .any ops listed := by rw [hr]; simp
        obtain ⟨h1, o, ho, -⟩ := mem_ready.1 hi
        have hlt := (Array.getElem?_eq_some_iff.1 ho).1
        have h2 := hall i hlt
        have hlt' : i < listed.size := by omega
        simp [Array.getD, hlt'] at h1 h2
        rw [h1] at h2; cases h2
    exact ⟨hr, fin listed g a w hsz hr hst⟩
  | succ fuel ih =>
    intro listed g a w hsz hleft hcl hst
    refine ⟨fun hr => fin listed g a w hsz hr hst, fun i hi => ?_⟩
    obtain ⟨h1, o, ho, hpre⟩ := mem_ready.1 hi
    have hlt := (Array.getElem?_eq_some_iff.1 ho).1
    have hlt' : i < listed.size := by omega
    have hDi0 : listed.getD i false = false := by simp [Array.getD, hlt'] at h1 ⊢; exact h1
    have hD1 : (listed.setIfInBounds i true).getD i false = true := by simp [hlt']
    have hD2 : ∀ k, k ≠ i → (listed.setIfInBounds i true).getD k false = listed.getD k false := fun k hk => getD_set_ne false (Ne.symm hk)
    refine region_step (D := fun k => listed.getD k false) (D' := fun k => (listed.setIfInBounds i true).getD k false) hL0 T C hcl ho hDi0 hpre hD1 hD2 hst (fun g' a' w' hst' => ih _ g' a' w' (by simpa using hsz) ?_ ?_ hst')
    · have := left_lt (n := ops.size) (D := fun k => listed.getD k false) (D' := fun k => (listed.setIfInBounds i true).getD k false) hlt hDi0 hD1 hD2
      omega
    · intro j oj hj hoj e he hb
      simp only at hj ⊢
      by_cases hji : j = i
      · subst hji
        rw [ho] at hoj; cases hoj
        exact getD_set_true (hpre e he hb)
      · rw [hD2 j hji] at hj
        exact getD_set_true (hcl j oj hj hoj e he hb)
end

theorem dregK_sound {P : Program} {ops : Array Oper} {ords : List (List Nat)} {L0 : List PObj} {g0 : Gh} {w0 : World} {id : Nat} {Q : Exit → Act → World → Prop} {pl : List POper} {env : List PV} {L : List PObj} {k : List PV → List PObj → Prop} {g : Gh} {a : Act} {w : World} (hm : P.follows .mixedOrders = true)
    (hr : resolveOps P ops ops.toList = some pl) (h1 : okEdges ops = true) (h2 : okOrds ops ords = true) (h3 : okSlots ops ords = true) (h : dregK P pl env L (fun ns env L => okNms ords ns = true ∧ k env L)) (hst : St L0 g0 w0 g env L a w)
    (hQ : ∀ env' L' g' a' w', St L0 g0 w0 g' env' L' a' w' → k env' L' → Q .normal a' w') : (Code.region id ops true).wp P Q a w := by
  obtain ⟨envs, Ls, outs, T, hn, hk⟩ := dregK_trc hr h
  simp only [Array.length_toList] at hn hk
  have C : Chk ops ords outs := ⟨h1, h2, h3, hn⟩
  have hst' : St L0 g0 w0 g env L a { w with drawn := w.drawn + 1 } := ⟨hst.ra, ⟨hst.rh.fr, hst.rh.obj, hst.rh.inj⟩, hst.new, hst.os, hst.tape, hst.output, hst.size, hst.block, hst.frle, hst.len, hst.at0, hst.frn, hst.own⟩
  refine wp_region_any hm (region_any hst.len T C (fun g a w hs => hQ _ _ g a w hs hk) ops.size _ g a _ (by simp) ?_ ?_ ?_)
  · unfold left; exact Nat.le_trans (List.length_filter_le _ _) (by simp)
  · intro j o hj
    exfalso
    simp only [Array.getD_eq_getD_getElem?, Array.getElem?_replicate] at hj
    split at hj <;> simp at hj
  · have : (fun k => (Array.replicate ops.size false).getD k false) = fun _ => false := by
      funext k
      simp only [Array.getD_eq_getD_getElem?, Array.getElem?_replicate]
      split <;> rfl
    rw [this]
    exact hst'.toF

end Go.Fw
