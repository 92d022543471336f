import Derived.Test.YtpfdldcejeilnaaFwN
set_option linter.unusedVariables false
set_option linter.unusedSimpArgs false
namespace Go.Fw
open Go

/-! ### Names anew -/

mutual
def ren (r : Nat → Nat) : PV → PV
  | .d x => .d x
  | .agg cs => .agg (renL r cs)
  | .ptr o off => .ptr (r o) off
  | .fptr e off => .fptr e off
  | .osl o off n z t => .osl (r o) off n z t
  | .fsl es t => .fsl es t
  | .nilsl => .nilsl
  | .zsl => .zsl
  | .fn f a b => .fn f (renL r a) (renL r b)
  | .map o => .map (r o)
  | .tup cs => .tup (renL r cs)
  | .und => .und
  | .dead => .dead
def renL (r : Nat → Nat) : List PV → List PV
  | [] => []
  | p :: ps => ren r p :: renL r ps
end

def renO (r : Nat → Nat) : PObj → PObj
  | .arr cs => .arr (renL r cs)
  | .froz cs => .froz cs
  | .mp es => .dead
  | .dead => .dead

mutual
def pureP : PV → Bool
  | .agg cs => pureL cs
  | .ptr _ _ => false
  | .osl _ _ _ _ _ => false
  | .fn _ a b => pureL a && pureL b
  | .map _ => false
  | .tup cs => pureL cs
  | _ => true
def pureL : List PV → Bool
  | [] => true
  | p :: ps => pureP p && pureL ps
end

theorem renL_get (r : Nat → Nat) : ∀ (l : List PV) (i : Nat), (renL r l)[i]? = (l[i]?).map (ren r)
  | [], i => by simp [renL]
  | p :: ps, 0 => by simp [renL]
  | p :: ps, i + 1 => by simp only [renL, List.getElem?_cons_succ]; exact renL_get r ps i
theorem renL_len (r : Nat → Nat) : ∀ (l : List PV), (renL r l).length = l.length
  | [] => rfl
  | p :: ps => by simp only [renL, List.length_cons, renL_len r ps]
theorem pureL_get : ∀ {l : List PV}, pureL l = true → ∀ {i : Nat} {p : PV}, l[i]? = some p → pureP p = true
  | [], _, i, p, h => by simp at h
  | q :: qs, hp, 0, p, h => by
    simp only [pureL, Bool.and_eq_true] at hp
    simp at h; subst h; exact hp.1
  | q :: qs, hp, i + 1, p, h => by
    simp only [pureL, Bool.and_eq_true] at hp
    exact pureL_get hp.2 (by simpa using h)

theorem Rep.ren {g g' : Gh} {r : Nat → Nat} (hf : ∀ b i v, g.fr b i = some v → g'.fr b i = some v) (ha : ∀ o b, g.at_ o = some b → g'.at_ (r o) = some b ∧ g'.sz (r o) = g.sz o) {v : Value} {p : PV} (h : Rep g v p) : Rep g' v (ren r p) := by
  induction h with
  | d h => exact .d (h.mono hf)
  | agg vs cs h1 h2 h3 ih => exact .agg vs _ (by rw [renL_len]; exact h1) h2 (fun i v c hv hc => by
      rw [renL_get] at hc
      obtain ⟨c', hc', rfl⟩ := Option.map_eq_some_iff.1 hc
      exact ih i v c' hv hc')
  | ptr o off b h1 => exact .ptr _ off b (ha o b h1).1
  | fptr e off b base h1 => exact .fptr e off b base (h1.mono hf)
  | osl o off len z cap b t h1 h2 h3 h4 => exact .osl _ off len z cap b t (ha o b h1).1 h2 (by rw [(ha o b h1).2]; exact h3) h4
  | osl0 o off z a t => exact .osl0 _ off z a t
  | fsl es a n cap t h1 h2 => exact .fsl es a n cap t (h1.mono hf) h2
  | nilsl => exact .nilsl
  | zsl a => exact .zsl a
  | fn f vs ws first caps h1 h2 h3 h4 ih1 ih2 =>
    refine .fn f vs ws _ _ (by rw [renL_len]; exact h1) (fun i v c hv hc => ?_) (by rw [renL_len]; exact h3) (fun i v c hv hc => ?_)
    · rw [renL_get] at hc
      obtain ⟨c', hc', rfl⟩ := Option.map_eq_some_iff.1 hc
      exact ih1 i v c' hv hc'
    · rw [renL_get] at hc
      obtain ⟨c', hc', rfl⟩ := Option.map_eq_some_iff.1 hc
      exact ih2 i v c' hv hc'
  | map o b h1 => exact .map _ b (ha o b h1).1
  | tup vs cs h1 h2 ih => exact .tup vs _ (by rw [renL_len]; exact h1) (fun i v c hv hc => by
      rw [renL_get] at hc
      obtain ⟨c', hc', rfl⟩ := Option.map_eq_some_iff.1 hc
      exact ih i v c' hv hc')
  | und => exact .und
  | dead v => exact .dead v

theorem Rep.pure {g g' : Gh} (hf : ∀ b i v, g.fr b i = some v → g'.fr b i = some v) {v : Value} {p : PV} (h : Rep g v p) : pureP p = true → Rep g' v p := by
  induction h with
  | d h => exact fun _ => .d (h.mono hf)
  | agg vs cs h1 h2 h3 ih => exact fun hp => .agg vs _ h1 h2 (fun i v c hv hc => ih i v c hv hc (pureL_get (by simpa [pureP] using hp) hc))
  | ptr o off b h1 => intro hp; simp [pureP] at hp
  | fptr e off b base h1 => exact fun _ => .fptr e off b base (h1.mono hf)
  | osl o off len z cap b t h1 h2 h3 h4 => intro hp; simp [pureP] at hp
  | osl0 o off z a t => intro hp; simp [pureP] at hp
  | fsl es a n cap t h1 h2 => exact fun _ => .fsl es a n cap t (h1.mono hf) h2
  | nilsl => exact fun _ => .nilsl
  | zsl a => exact fun _ => .zsl a
  | fn f vs ws first caps h1 h2 h3 h4 ih1 ih2 =>
    intro hp
    simp only [pureP, Bool.and_eq_true] at hp
    exact .fn f vs ws _ _ h1 (fun i v c hv hc => ih1 i v c hv hc (pureL_get hp.1 hc)) h3 (fun i v c hv hc => ih2 i v c hv hc (pureL_get hp.2 hc))
  | map o b h1 => intro hp; simp [pureP] at hp
  | tup vs cs h1 h2 ih => exact fun hp => .tup vs _ h1 (fun i v c hv hc => ih i v c hv hc (pureL_get (by simpa [pureP] using hp) hc))
  | und => exact fun _ => .und
  | dead v => exact fun _ => .dead v

/-- New objects, numbered on. -/
def newUpd (k : Nat) : List PObj → Nat → List (Nat × PObj)
  | [], _ => []
  | ob :: r, n => (n, renO (· + k) ob) :: newUpd k r (n + 1)

theorem mem_newUpd {k : Nat} : ∀ {objs : List PObj} {n m : Nat} {ob : PObj}, (m, ob) ∈ newUpd k objs n ↔ ∃ j o, objs[j]? = some o ∧ m = n + j ∧ ob = renO (· + k) o
  | [], n, m, ob => by simp [newUpd]
  | o :: r, n, m, ob => by
    simp only [newUpd, List.mem_cons, Prod.mk.injEq]
    rw [mem_newUpd]
    constructor
    · rintro (⟨rfl, rfl⟩ | ⟨j, o', h1, rfl, rfl⟩)
      · exact ⟨0, o, by simp, by simp, rfl⟩
      · exact ⟨j + 1, o', by simpa using h1, by omega, rfl⟩
    · rintro ⟨j, o', h1, rfl, rfl⟩
      cases j with
      | zero => left; simp at h1; subst h1; simp
      | succ j => right; exact ⟨j, o', by simpa using h1, by omega, rfl⟩

theorem okUpd_new {k : Nat} : ∀ {objs : List PObj} {L : List PObj}, OkUpd L (newUpd k objs L.length)
  | [], L => trivial
  | o :: r, L => by
    refine ⟨.inr rfl, fun m om hm => ?_, ?_⟩
    · obtain ⟨j, _, _, rfl, _⟩ := mem_newUpd.1 hm; omega
    · have : (up1 L L.length (renO (· + k) o)).length = L.length + 1 := by simp [up1]
      rw [← this]; exact okUpd_new

/-- A function that is lent nothing. -/
theorem callD_new {P : Program} {f : FuncId} {args args' : List PV} {L objs : List PObj} {r : PV} (h : AC P f args' [] (fun pv L' => pv = r ∧ L' = objs)) (hle : LeL args args') (hp : pureL args' = true) :
    CallD P f args L { pv := ren (· + L.length) r, upd := newUpd L.length objs L.length } := by
  obtain ⟨hent, h⟩ := h
  refine ⟨hent, okUpd_new, fun g w vs hl hr hf ht hn hi => ?_⟩
  obtain ⟨hlen, hget⟩ := hle.get
  let gc : Gh := { fr := g.fr, at_ := fun _ => none, sz := fun _ => 0 }
  have hc := h gc w vs (by omega) (fun i v p hv hp' => by
      obtain ⟨q, hq, hpq⟩ := hget i p hp'
      exact Rep.pure (g := g) (g' := gc) (fun _ _ _ h => h) (hpq g v (hr i v q hv hq)) (pureL_get hp hp'))
    { fr := hf, obj := fun o => by simp [Lf]; trivial, inj := fun o o' b h _ _ _ => by cases h } (fun _ _ => rfl)
  refine hc.mono fun e w' ⟨v, gc', pv, Lc, envc, ac, he, hrep, hst, hpv, hLc⟩ => ?_
  subst hpv; subst hLc
  let isNew : Nat → Bool := fun n => decide (L.length ≤ n) && decide (n < L.length + Lc.length)
  let g' : Gh := { fr := gc'.fr, at_ := fun n => if isNew n then gc'.at_ (n - L.length) else g.at_ n, sz := fun n => if isNew n then gc'.sz (n - L.length) else g.sz n }
  have dead0 : ∀ m, Live (Lf ([] : List PObj) m) = true → False := fun m hm => by simp [Lf, Live] at hm
  have names : ∀ o b, gc'.at_ o = some b → o < Lc.length := fun o b hb => by
    rcases Nat.lt_or_ge o Lc.length with h | h
    · exact h
    · rw [hst.new o h] at hb; cases hb
  have shift : ∀ o b, gc'.at_ o = some b → g'.at_ (o + L.length) = some b ∧ g'.sz (o + L.length) = gc'.sz o := fun o b hb => by
    have := names o b hb
    have hin : isNew (o + L.length) = true := by simp [isNew]; omega
    simp only [g', hin, if_true]
    rw [Nat.add_sub_cancel]; exact ⟨hb, rfl⟩
  have inUpd : ∀ n ob, (n, ob) ∈ newUpd L.length Lc L.length → isNew n = true ∧ ∃ o, Lc[n - L.length]? = some o ∧ ob = renO (· + L.length) o := fun n ob hm => by
    obtain ⟨j, o, hj, rfl, rfl⟩ := mem_newUpd.1 hm
    have hlt : j < Lc.length := (List.getElem?_eq_some_iff.1 hj).1
    exact ⟨by simp [isNew]; omega, o, by rw [Nat.add_sub_cancel_left]; exact hj, rfl⟩
  have ofNew : ∀ n, isNew n = true → ∃ ob, (n, ob) ∈ newUpd L.length Lc L.length := fun n hn => by
    simp only [isNew, Bool.and_eq_true, decide_eq_true_eq] at hn
    have hlt : n - L.length < Lc.length := by omega
    exact ⟨_, mem_newUpd.2 ⟨n - L.length, _, List.getElem?_eq_getElem hlt, by omega, rfl⟩⟩
  have noneAt : ∀ n, isNew n = true → g.at_ n = none := fun n hnew => by
    obtain ⟨ob, hm⟩ := ofNew n hnew
    rcases hn n ob hm with h | h
    · simp only [isNew, Bool.and_eq_true, decide_eq_true_eq] at hnew
      have : Lf L n = .dead := by simp [Lf, List.getElem?_eq_none hnew.1]
      rw [this] at h; cases h
    · exact h
  have hle' : Gle g g' := ⟨fun b i v hv => hst.frle b i v hv, fun o b hb => by
    have : isNew o = false := by
      cases hno : isNew o with
      | false => rfl
      | true => rw [noneAt o hno] at hb; cases hb
    simp only [g', this]; exact ⟨hb, rfl⟩⟩
  refine ⟨v, g', he, Rep.ren (h := hrep) (g := gc') (g' := g') (fun _ _ _ h => h) shift, ?_⟩
  exact {
    os := hst.os
    tape := hst.tape
    output := hst.output
    size := hst.size
    block := fun b hb _ => hst.block b hb (fun n hl => (dead0 n hl).elim)
    le := hle'
    at_ := fun n hn' => by
      have : isNew n = false := by
        cases hno : isNew n with
        | false => rfl
        | true => obtain ⟨ob, hm⟩ := ofNew n hno; exact absurd hm (hn' ob)
      simp [g', this]
    keep := fun n hl => by
      have : isNew n = false := by
        cases hno : isNew n with
        | false => rfl
        | true =>
          simp only [isNew, Bool.and_eq_true, decide_eq_true_eq] at hno
          have : Lf L n = .dead := by simp [Lf, List.getElem?_eq_none hno.1]
          rw [this] at hl; cases hl
      simp [g', this]
    frn := fun b i v hv => by
      rcases hst.frn b i v hv with h | h | ⟨n, hl, _⟩
      · exact .inl h
      · exact .inr (.inl h)
      · exact (dead0 n hl).elim
    frok := hst.rh.fr
    obj := fun n ob hm => by
      obtain ⟨hnew, o, ho, rfl⟩ := inUpd n ob hm
      have hob := hst.rh.obj (n - L.length)
      rw [Lf_some ho] at hob
      have hat : g'.at_ n = gc'.at_ (n - L.length) := by simp [g', hnew]
      have hsz : g'.sz n = gc'.sz (n - L.length) := by simp [g', hnew]
      cases o with
      | arr cs =>
        rcases hob with ⟨h1, h2⟩ | ⟨b, c, e, h1, h2, h3, h4, h5, h6, h7⟩
        · subst h1; exact .inl ⟨rfl, hat.trans h2⟩
        · refine .inr ⟨b, c, e, hat.trans h1, h2, by rw [renL_len]; exact h3, h4.trans hsz.symm, fun i v hi hv => h5 i v (by rw [renL_len] at hi; exact hi) hv, fun i v p hv hp' => ?_, h7⟩
          rw [renL_get] at hp'
          obtain ⟨q, hq, rfl⟩ := Option.map_eq_some_iff.1 hp'
          exact Rep.ren (h := h6 i v q hv hq) (g := gc') (g' := g') (fun _ _ _ h => h) shift
      | froz cs => obtain ⟨b, h1, h2⟩ := hob; exact ⟨b, hat.trans h1, h2⟩
      | mp es => trivial
      | dead => trivial
    own := fun n ob hm hl b hb => by
      obtain ⟨hnew, o, ho, rfl⟩ := inUpd n ob hm
      have hat : g'.at_ n = gc'.at_ (n - L.length) := by simp [g', hnew]
      have hlive : Live (Lf Lc (n - L.length)) = true := by rw [Lf_some ho]; cases o <;> first | rfl | cases hl
      rcases hst.own (n - L.length) hlive b (hat ▸ hb) with h | ⟨m, hm, _⟩
      · exact .inl h
      · exact (dead0 m hm).elim
    inj := fun n ob m om b hn' hm' hl hl' hb hb' => by
      obtain ⟨h1, o1, ho1, rfl⟩ := inUpd n ob hn'
      obtain ⟨h2, o2, ho2, rfl⟩ := inUpd m om hm'
      have e1 : g'.at_ n = gc'.at_ (n - L.length) := by simp [g', h1]
      have e2 : g'.at_ m = gc'.at_ (m - L.length) := by simp [g', h2]
      have l1 : Live (Lf Lc (n - L.length)) = true := by rw [Lf_some ho1]; cases o1 <;> first | rfl | cases hl
      have l2 : Live (Lf Lc (m - L.length)) = true := by rw [Lf_some ho2]; cases o2 <;> first | rfl | cases hl'
      have := hst.rh.inj (n - L.length) (m - L.length) b (e1 ▸ hb) (e2 ▸ hb') l1 l2
      simp only [isNew, Bool.and_eq_true, decide_eq_true_eq] at h1 h2
      omega }

theorem callD_fun {P : Program} {f : FuncId} {args args' : List PV} {L : List PObj} {r : PV} (h : AC P f args' [] (fun pv L' => pv = r ∧ L' = [])) (hle : LeL args args') (hp : pureL args' = true) (hr : ren (· + L.length) r = r) :
    CallD P f args L { pv := r } := by
  have := callD_new (L := L) h hle hp
  rw [hr] at this; exact this

end Go.Fw
