import Derived.Test.YtpfdldcejeilnaaFwU
set_option linter.unusedVariables false
set_option linter.unusedSimpArgs false
namespace Go.Fw
open Go

/-! ### Calls that are lent objects -/

/-- The callee's names in the caller's. -/
def back (ks : List Nat) (len : Nat) (i : Nat) : Nat := if i < ks.length then nm ks i else len + (i - ks.length)

def lendUpd (r : Nat → Nat) : List PObj → Nat → List (Nat × PObj)
  | [], _ => []
  | ob :: t, i => (r i, renO r ob) :: lendUpd r t (i + 1)

theorem mem_lendUpd {r : Nat → Nat} : ∀ {objs : List PObj} {i m : Nat} {ob : PObj}, (m, ob) ∈ lendUpd r objs i ↔ ∃ j o, objs[j]? = some o ∧ m = r (i + j) ∧ ob = renO r o
  | [], i, m, ob => by simp [lendUpd]
  | o :: t, i, m, ob => by
    simp only [lendUpd, List.mem_cons, Prod.mk.injEq]
    rw [mem_lendUpd]
    constructor
    · rintro (⟨rfl, rfl⟩ | ⟨j, o', h1, rfl, rfl⟩)
      · exact ⟨0, o, by simp, by simp, rfl⟩
      · exact ⟨j + 1, o', by simpa using h1, by rw [show i + (j + 1) = i + 1 + j from by omega], rfl⟩
    · rintro ⟨j, o', h1, rfl, rfl⟩
      cases j with
      | zero => left; simp at h1; subst h1; simp
      | succ j => right; exact ⟨j, o', by simpa using h1, by rw [show i + (j + 1) = i + 1 + j from by omega], rfl⟩

theorem nm_mem {ks : List Nat} {i : Nat} (h : i < ks.length) : nm ks i ∈ ks ∧ ks[i]? = some (nm ks i) := by
  simp [nm, h]

theorem okUpd_lend {ks : List Nat} {len : Nat} (hnd : ks.Nodup) (hlt : ∀ k ∈ ks, k < len) : ∀ {objs : List PObj} {i : Nat} {L : List PObj}, len + (i - ks.length) = L.length → (∀ j, i ≤ j → j < ks.length → Live (Lf L (nm ks j)) = true) → OkUpd L (lendUpd (back ks len) objs i)
  | [], i, L, _, _ => trivial
  | o :: t, i, L, hl, hlive => by
    have hne : ∀ j, i < j → back ks len j ≠ back ks len i := by
      intro j hj e
      unfold back at e
      by_cases h1 : j < ks.length
      · rw [if_pos h1, if_pos (by omega)] at e
        simp only [nm, List.getElem?_eq_getElem h1, List.getElem?_eq_getElem (show i < ks.length by omega), Option.getD_some] at e
        have := (List.getElem_inj hnd).1 e; omega
      · rw [if_neg h1] at e
        by_cases h2 : i < ks.length
        · rw [if_pos h2] at e
          have := hlt _ (nm_mem h2).1; omega
        · rw [if_neg h2] at e; omega
    refine ⟨?_, fun m om hm => ?_, ?_⟩
    · unfold back
      by_cases h : i < ks.length
      · rw [if_pos h]; left
        refine ⟨?_, hlive i (Nat.le_refl _) h⟩
        have := hlt _ (nm_mem h).1; omega
      · rw [if_neg h]; right; exact hl
    · obtain ⟨j, _, _, rfl, _⟩ := mem_lendUpd.1 hm
      exact hne _ (by omega)
    · by_cases h : i < ks.length
      · have hk := hlt _ (nm_mem h).1
        have e : back ks len i = nm ks i := by unfold back; rw [if_pos h]
        have hll : (up1 L (back ks len i) (renO (back ks len) o)).length = L.length := by rw [e]; unfold up1; rw [if_pos (by omega)]; simp
        refine okUpd_lend hnd hlt (by rw [hll]; omega) (fun j hj1 hj2 => ?_)
        have hn := hne j (by omega)
        have e2 : back ks len j = nm ks j := by unfold back; rw [if_pos hj2]
        rw [e2] at hn
        rw [up1_get (by rw [e]; omega), if_neg hn]
        exact hlive j (by omega) hj2
      · have e : back ks len i = L.length := by unfold back; rw [if_neg h]; exact hl
        have hll : (up1 L (back ks len i) (renO (back ks len) o)).length = L.length + 1 := by rw [e]; unfold up1; rw [if_neg (by omega)]; simp
        refine okUpd_lend hnd hlt (by rw [hll]; omega) (fun j hj1 hj2 => by omega)

/-- The objects that are lent, by the callee's names. -/
def Lent (ks : List Nat) (L : List PObj) : List PObj → Nat → Prop
  | [], _ => True
  | ob :: r, i => (match ob with | .arr cs => L[nm ks i]? = some (.arr (renL (nm ks) cs)) ∧ bndL ks.length cs = true | _ => False) ∧ Lent ks L r (i + 1)

theorem Lent.get {ks : List Nat} {L : List PObj} : ∀ {L' : List PObj} {i : Nat}, Lent ks L L' i → ∀ j ob, L'[j]? = some ob → ∃ cs, ob = .arr cs ∧ L[nm ks (i + j)]? = some (.arr (renL (nm ks) cs)) ∧ bndL ks.length cs = true
  | [], i, _, j, ob, h => by simp at h
  | o :: r, i, hs, 0, ob, h => by
    simp at h; subst h
    obtain ⟨h1, -⟩ := hs
    cases o with
    | arr cs => exact ⟨cs, rfl, h1⟩
    | _ => exact h1.elim
  | o :: r, i, hs, j + 1, ob, h => by
    obtain ⟨cs, h1, h2⟩ := Lent.get hs.2 j ob (by simpa using h)
    refine ⟨cs, h1, ?_⟩
    rw [show i + (j + 1) = i + 1 + j from by omega]; exact h2

theorem callD_lend {P : Program} {f : FuncId} {args args' : List PV} {L L0 Lc : List PObj} {r : PV} (ks : List Nat) (h : AC P f args' L0 (fun pv L' => pv = r ∧ L' = Lc)) (hk : ks.length = L0.length) (hnd : ks.Nodup) (hlt : ∀ k ∈ ks, k < L.length)
    (hL : Lent ks L L0 0) (hle : LeL args (renL (nm ks) args')) (hb : bndL ks.length args' = true) :
    CallD P f args L { pv := ren (back ks L.length) r, upd := lendUpd (back ks L.length) Lc 0, rd := ks } := by
  obtain ⟨hent, h⟩ := h
  have lentAt : ∀ i, i < ks.length → ∃ cs, L0[i]? = some (.arr cs) ∧ L[nm ks i]? = some (.arr (renL (nm ks) cs)) ∧ bndL ks.length cs = true := fun i hi => by
    have hi' : i < L0.length := by omega
    obtain ⟨cs, h1, h2⟩ := hL.get i _ (List.getElem?_eq_getElem hi')
    rw [Nat.zero_add] at h2
    exact ⟨cs, by rw [List.getElem?_eq_getElem hi', h1], h2⟩
  have liveL : ∀ i, i < ks.length → Live (Lf L (nm ks i)) = true := fun i hi => by
    obtain ⟨cs, -, h2, -⟩ := lentAt i hi
    rw [Lf_some h2]; rfl
  refine ⟨hent, okUpd_lend hnd hlt (by simp) (fun j _ hj => liveL j hj), fun g w vs hl hr hf ht hn hi => ?_⟩
  obtain ⟨hlen, hget⟩ := hle.get
  rw [renL_len] at hlen
  let gc : Gh := { fr := g.fr, at_ := fun i => if i < ks.length then g.at_ (nm ks i) else none, sz := fun i => g.sz (nm ks i) }
  have hat : ∀ o, o < ks.length → gc.at_ o = g.at_ (nm ks o) ∧ gc.sz o = g.sz (nm ks o) := fun o ho => ⟨by simp [gc, ho], rfl⟩
  have touched : ∀ i, i < ks.length → ({ pv := ren (back ks L.length) r, upd := lendUpd (back ks L.length) Lc 0, rd := ks } : Out).touch (nm ks i) := fun i hi => .inl (nm_mem hi).1
  have inj : ∀ i j, i < ks.length → j < ks.length → nm ks i = nm ks j → i = j := fun i j hi hj e => by
    simp only [nm, List.getElem?_eq_getElem hi, List.getElem?_eq_getElem hj, Option.getD_some] at e
    exact (List.getElem_inj hnd).1 e
  have at_lt : ∀ o b, gc.at_ o = some b → o < ks.length := fun o b h => by
    rcases Nat.lt_or_ge o ks.length with h' | h'
    · exact h'
    · simp [gc, Nat.not_lt.mpr h'] at h
  have hrh : RelH gc (Lf L0) w := {
    fr := hf
    obj := fun o => by
      cases hLo : L0[o]? with
      | none => simp only [Lf, hLo, Option.getD_none]; trivial
      | some ob =>
        have hol : o < ks.length := by rw [hk]; exact (List.getElem?_eq_some_iff.1 hLo).1
        obtain ⟨cs, h1, h2, h3⟩ := lentAt o hol
        rw [h1] at hLo; cases hLo
        rw [Lf_some h1]
        have hob := ht (nm ks o) (touched o hol)
        rw [Lf_some h2] at hob
        have hat' := hat o hol
        rcases hob with ⟨e1, e2⟩ | ⟨b, c, e, e1, e2, e3, e4, e5, e6, e7⟩
        · left
          refine ⟨?_, hat'.1.trans e2⟩
          cases cs with
          | nil => rfl
          | cons x xs => simp [renL] at e1
        · rw [renL_len] at e3 e5
          refine .inr ⟨b, c, e, hat'.1.trans e1, e2, e3, e4.trans hat'.2.symm, e5, fun i v p hv hp => ?_, e7⟩
          have := e6 i v (Fw.ren (nm ks) p) hv (by rw [renL_get, hp]; rfl)
          exact Rep.unren (g := g) (g' := gc) (k := ks.length) (fun _ _ _ h => h) hat this p rfl (bndL_get h3 hp)
    inj := fun o o' b h h' hl hl' => by
      have l1 := at_lt o b h
      have l2 := at_lt o' b h'
      exact inj o o' l1 l2 (hi _ _ b (touched o l1) (touched o' l2) ((hat o l1).1 ▸ h) ((hat o' l2).1 ▸ h') (liveL o l1) (liveL o' l2)) }
  have hc := h gc w vs (by omega) (fun i v p hv hp' => by
      obtain ⟨q, hq, hpq⟩ := hget i (Fw.ren (nm ks) p) (by rw [renL_get, hp']; rfl)
      exact Rep.unren (g := g) (g' := gc) (k := ks.length) (fun _ _ _ h => h) hat (hpq g v (hr i v q hv hq)) p rfl (bndL_get hb hp')) hrh (fun n hn' => by simp [gc, show ¬ n < ks.length by omega])
  refine hc.mono fun e w' ⟨v, gc', pv, Lc', envc, ac, he, hrep, hst, hpv, hLc⟩ => ?_
  subst hpv; subst hLc
  let n := ks.length
  let isNew : Nat → Bool := fun m => decide (L.length ≤ m) && decide (m < L.length + (Lc'.length - ks.length))
  let g' : Gh := { fr := gc'.fr, at_ := fun m => if isNew m then gc'.at_ (m - L.length + ks.length) else g.at_ m, sz := fun m => if isNew m then gc'.sz (m - L.length + ks.length) else g.sz m }
  have hnLc : ks.length ≤ Lc'.length := by rw [hk]; exact hst.len
  have names : ∀ o b, gc'.at_ o = some b → o < Lc'.length := fun o b hb => by
    rcases Nat.lt_or_ge o Lc'.length with h | h
    · exact h
    · rw [hst.new o h] at hb; cases hb
  have backLt : ∀ o, o < ks.length → back ks L.length o = nm ks o ∧ isNew (nm ks o) = false := fun o ho => by
    refine ⟨by simp [back, ho], ?_⟩
    have := hlt _ (nm_mem ho).1
    simp [isNew]; omega
  have backGe : ∀ o, ks.length ≤ o → o < Lc'.length → isNew (back ks L.length o) = true ∧ back ks L.length o - L.length + ks.length = o := fun o h1 h2 => by
    have e : back ks L.length o = L.length + (o - ks.length) := by simp [back, show ¬ o < ks.length by omega]
    rw [e]
    exact ⟨by simp [isNew]; omega, by omega⟩
  have hatB : ∀ o, o < Lc'.length → g'.at_ (back ks L.length o) = gc'.at_ o := fun o ho => by
    rcases Nat.lt_or_ge o ks.length with h1 | h1
    · obtain ⟨e1, e2⟩ := backLt o h1
      rw [e1]
      simp only [g', e2]
      rw [(hst.at0 o (by omega)).1]
      exact (hat o h1).1.symm
    · obtain ⟨e1, e2⟩ := backGe o h1 ho
      simp only [g', e1, if_true, e2]
  have hszB : ∀ o b, gc'.at_ o = some b → g'.sz (back ks L.length o) = gc'.sz o := fun o b hb => by
    have ho := names o b hb
    rcases Nat.lt_or_ge o ks.length with h1 | h1
    · obtain ⟨e1, e2⟩ := backLt o h1
      rw [e1]
      simp only [g', e2]
      rw [(hst.at0 o (by omega)).2 b hb]
      exact (hat o h1).2.symm
    · obtain ⟨e1, e2⟩ := backGe o h1 ho
      simp only [g', e1, if_true, e2]
  have shift : ∀ o b, gc'.at_ o = some b → g'.at_ (back ks L.length o) = some b ∧ g'.sz (back ks L.length o) = gc'.sz o := fun o b hb => ⟨(hatB o (names o b hb)).trans hb, hszB o b hb⟩
  have inUpd : ∀ m ob, (m, ob) ∈ lendUpd (back ks L.length) Lc' 0 → ∃ i o, Lc'[i]? = some o ∧ m = back ks L.length i ∧ ob = renO (back ks L.length) o ∧ i < Lc'.length := fun m ob hm => by
    obtain ⟨j, o, hj, rfl, rfl⟩ := mem_lendUpd.1 hm
    exact ⟨j, o, hj, by rw [Nat.zero_add], rfl, (List.getElem?_eq_some_iff.1 hj).1⟩
  have ofIdx : ∀ i, i < Lc'.length → ∃ ob, (back ks L.length i, ob) ∈ lendUpd (back ks L.length) Lc' 0 := fun i hi => ⟨_, mem_lendUpd.2 ⟨i, _, List.getElem?_eq_getElem hi, by rw [Nat.zero_add], rfl⟩⟩
  have ofLent : ∀ i, i < ks.length → ∃ ob, (nm ks i, ob) ∈ lendUpd (back ks L.length) Lc' 0 := fun i hi => by
    have := ofIdx i (by omega)
    rw [(backLt i hi).1] at this; exact this
  have ofNew : ∀ m, isNew m = true → ∃ ob, (m, ob) ∈ lendUpd (back ks L.length) Lc' 0 := fun m hm => by
    simp only [isNew, Bool.and_eq_true, decide_eq_true_eq] at hm
    obtain ⟨ob, hob⟩ := ofIdx (m - L.length + ks.length) (by omega)
    refine ⟨ob, ?_⟩
    have : back ks L.length (m - L.length + ks.length) = m := by
      unfold back; rw [if_neg (by omega)]; omega
    rw [this] at hob; exact hob
  have noneAt : ∀ m, isNew m = true → g.at_ m = none := fun m hnew => by
    obtain ⟨ob, hm⟩ := ofNew m hnew
    rcases hn m ob hm with h | h
    · simp only [isNew, Bool.and_eq_true, decide_eq_true_eq] at hnew
      have : Lf L m = .dead := by simp [Lf, List.getElem?_eq_none hnew.1]
      rw [this] at h; cases h
    · exact h
  have live0 : ∀ i, Live (Lf L0 i) = true → i < ks.length := fun i hl => by
    rcases Nat.lt_or_ge i ks.length with h | h
    · exact h
    · simp [Lf, List.getElem?_eq_none (show L0.length ≤ i by omega), Live] at hl
  have liveC : ∀ i o, Lc'[i]? = some o → Live (renO (back ks L.length) o) = true → Live (Lf Lc' i) = true := fun i o ho hl => by
    rw [Lf_some ho]; cases o <;> first | rfl | cases hl
  refine ⟨v, g', he, Rep.ren (h := hrep) (g := gc') (g' := g') (fun _ _ _ h => h) shift, ?_⟩
  exact {
    os := hst.os
    tape := hst.tape
    output := hst.output
    size := hst.size
    block := fun b hb hx => hst.block b hb (fun i hl e => by
      have hi' := live0 i hl
      obtain ⟨ob, hob⟩ := ofLent i hi'
      exact hx _ ob hob (liveL i hi') ((hat i hi').1 ▸ e))
    le := ⟨fun b i v hv => hst.frle b i v hv, fun o b hb => by
      have : isNew o = false := by
        cases hno : isNew o with
        | false => rfl
        | true => rw [noneAt o hno] at hb; cases hb
      simp only [g', this]; exact ⟨hb, rfl⟩⟩
    at_ := fun m hm => by
      have : isNew m = false := by
        cases hno : isNew m with
        | false => rfl
        | true => obtain ⟨ob, hob⟩ := ofNew m hno; exact absurd hob (hm ob)
      simp [g', this]
    keep := fun m hl => by
      have : isNew m = false := by
        cases hno : isNew m with
        | false => rfl
        | true =>
          simp only [isNew, Bool.and_eq_true, decide_eq_true_eq] at hno
          have : Lf L m = .dead := by simp [Lf, List.getElem?_eq_none hno.1]
          rw [this] at hl; cases hl
      simp [g', this]
    frn := fun b i v hv => by
      rcases hst.frn b i v hv with h | h | ⟨j, hl, hj⟩
      · exact .inl h
      · exact .inr (.inl h)
      · have hj' := live0 j hl
        obtain ⟨ob, hob⟩ := ofLent j hj'
        exact .inr (.inr ⟨_, ob, hob, liveL j hj', (hat j hj').1 ▸ hj⟩)
    frok := hst.rh.fr
    obj := fun m ob hm => by
      obtain ⟨i, o, ho, rfl, rfl, hil⟩ := inUpd m ob hm
      have hob := hst.rh.obj i
      rw [Lf_some ho] at hob
      have hat' := hatB i hil
      cases o with
      | arr cs =>
        rcases hob with ⟨h1, h2⟩ | ⟨b, c, e, h1, h2, h3, h4, h5, h6, h7⟩
        · subst h1; exact .inl ⟨rfl, hat'.trans h2⟩
        · refine .inr ⟨b, c, e, hat'.trans h1, h2, by rw [renL_len]; exact h3, h4.trans (hszB i b h1).symm, fun i v hi hv => h5 i v (by rw [renL_len] at hi; exact hi) hv, fun i v p hv hp' => ?_, h7⟩
          rw [renL_get] at hp'
          obtain ⟨q, hq, rfl⟩ := Option.map_eq_some_iff.1 hp'
          exact Rep.ren (h := h6 i v q hv hq) (g := gc') (g' := g') (fun _ _ _ h => h) shift
      | froz cs => obtain ⟨b, h1, h2⟩ := hob; exact ⟨b, hat'.trans h1, h2⟩
      | mp es => trivial
      | dead => trivial
    own := fun m ob hm hl b hbm => by
      obtain ⟨i, o, ho, rfl, rfl, hil⟩ := inUpd m ob hm
      rcases hst.own i (liveC i o ho hl) b (hatB i hil ▸ hbm) with h | ⟨j, hj, hjb⟩
      · exact .inl h
      · have hj' := live0 j hj
        obtain ⟨ob, hob⟩ := ofLent j hj'
        exact .inr ⟨_, ob, hob, liveL j hj', (hat j hj').1 ▸ hjb⟩
    inj := fun m ob m' ob' b hm hm' hl hl' hbm hbm' => by
      obtain ⟨i, o, ho, rfl, rfl, hil⟩ := inUpd m ob hm
      obtain ⟨i', o', ho', rfl, rfl, hil'⟩ := inUpd m' ob' hm'
      have := hst.rh.inj i i' b (hatB i hil ▸ hbm) (hatB i' hil' ▸ hbm') (liveC i o ho hl) (liveC i' o' ho' hl')
      rw [this] }

end Go.Fw
