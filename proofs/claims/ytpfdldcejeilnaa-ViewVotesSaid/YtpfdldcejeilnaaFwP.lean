import Derived.Test.YtpfdldcejeilnaaFwO
set_option linter.unusedVariables false
set_option linter.unusedSimpArgs false
namespace Go.Fw
open Go

/-! ### Forgetting, and naming anew -/

mutual
/-- All objects that a value names are below k. -/
def bnd_ (k : Nat) : PV → Bool
  | .agg cs => bndL k cs
  | .ptr o _ => decide (o < k)
  | .osl o _ n _ _ => decide (o < k)
  | .fn _ a b => bndL k a && bndL k b
  | .map o => decide (o < k)
  | .tup cs => bndL k cs
  | _ => true
def bndL (k : Nat) : List PV → Bool
  | [] => true
  | p :: ps => bnd_ k p && bndL k ps
end

theorem bndL_get {k : Nat} : ∀ {l : List PV}, bndL k l = true → ∀ {i : Nat} {p : PV}, l[i]? = some p → bnd_ k p = true
  | [], _, i, p, h => by simp at h
  | q :: qs, hp, 0, p, h => by
    simp only [bndL, Bool.and_eq_true] at hp
    simp at h; subst h; exact hp.1
  | q :: qs, hp, i + 1, p, h => by
    simp only [bndL, Bool.and_eq_true] at hp
    exact bndL_get hp.2 (by simpa using h)

theorem Rep.unren {g g' : Gh} {r : Nat → Nat} {k : Nat} (hf : ∀ b i v, g.fr b i = some v → g'.fr b i = some v) (ha : ∀ o, o < k → g'.at_ o = g.at_ (r o) ∧ g'.sz o = g.sz (r o)) {v : Value} {q : PV} (h : Rep g v q) :
    ∀ p, q = Fw.ren r p → bnd_ k p = true → Rep g' v p := by
  induction h with
  | d h => intro p e _; cases p <;> simp only [Fw.ren] at e <;> cases e; exact .d (h.mono hf)
  | agg vs cs h1 h2 h3 ih =>
    intro p e hb
    cases p <;> simp only [Fw.ren] at e <;> cases e
    rename_i cs
    refine .agg vs cs (by rw [h1, renL_len]) h2 (fun i v c hv hc => ?_)
    exact ih i v (Fw.ren r c) hv (by rw [renL_get, hc]; rfl) c rfl (bndL_get (by simpa [bnd_] using hb) hc)
  | ptr o off b h1 =>
    intro p e hb
    cases p <;> simp only [Fw.ren] at e <;> cases e
    exact .ptr _ off b ((ha _ (by simpa [bnd_] using hb)).1.trans h1)
  | fptr e off b base h1 => intro p e' _; cases p <;> simp only [Fw.ren] at e' <;> cases e'; exact .fptr e off b base (h1.mono hf)
  | osl o off len z cap b t h1 h2 h3 h4 =>
    intro p e hb
    cases p <;> simp only [Fw.ren] at e <;> cases e
    have := ha _ (by simpa [bnd_] using hb)
    exact .osl _ off len z cap b t (this.1.trans h1) h2 (by rw [this.2]; exact h3) h4
  | osl0 o off z a t =>
    intro p e _
    cases p <;> simp only [Fw.ren] at e <;> cases e
    exact .osl0 _ off z a t
  | fsl es a n cap t h1 h2 => intro p e _; cases p <;> simp only [Fw.ren] at e <;> cases e; exact .fsl es a n cap t (h1.mono hf) h2
  | nilsl => intro p e _; cases p <;> simp only [Fw.ren] at e <;> cases e; exact .nilsl
  | zsl a => intro p e _; cases p <;> simp only [Fw.ren] at e <;> cases e; exact .zsl a
  | fn f vs ws first caps h1 h2 h3 h4 ih1 ih2 =>
    intro p e hb
    cases p <;> simp only [Fw.ren] at e <;> cases e
    rename_i a b
    simp only [bnd_, Bool.and_eq_true] at hb
    refine .fn f vs ws a b (by rw [h1, renL_len]) (fun i v c hv hc => ?_) (by rw [h3, renL_len]) (fun i v c hv hc => ?_)
    · exact ih1 i v (Fw.ren r c) hv (by rw [renL_get, hc]; rfl) c rfl (bndL_get hb.1 hc)
    · exact ih2 i v (Fw.ren r c) hv (by rw [renL_get, hc]; rfl) c rfl (bndL_get hb.2 hc)
  | map o b h1 =>
    intro p e hb
    cases p <;> simp only [Fw.ren] at e <;> cases e
    exact .map _ b ((ha _ (by simpa [bnd_] using hb)).1.trans h1)
  | tup vs cs h1 h2 ih =>
    intro p e hb
    cases p <;> simp only [Fw.ren] at e <;> cases e
    rename_i cs
    refine .tup vs cs (by rw [h1, renL_len]) (fun i v c hv hc => ?_)
    exact ih i v (Fw.ren r c) hv (by rw [renL_get, hc]; rfl) c rfl (bndL_get (by simpa [bnd_] using hb) hc)
  | und => intro p e _; cases p <;> simp only [Fw.ren] at e <;> cases e; exact .und
  | dead v => intro p e _; cases p <;> simp only [Fw.ren] at e <;> cases e; exact .dead v

/-- Old names of new ones. -/
def nm (ks : List Nat) (i : Nat) : Nat := (ks[i]?).getD 0

/-- The objects that are kept, cell by cell as they were, or dead. -/
def SameO (ks : List Nat) (L : List PObj) : List PObj → Nat → Prop
  | [], _ => True
  | ob :: r, i => (ob = .dead ∨ (L[nm ks i]? = some (renO (nm ks) ob) ∧ match ob with | .arr cs => bndL ks.length cs = true | .froz _ => True | _ => False)) ∧ SameO ks L r (i + 1)

theorem SameO.get {ks : List Nat} {L : List PObj} : ∀ {L' : List PObj} {i : Nat}, SameO ks L L' i → ∀ j ob, L'[j]? = some ob → ob = .dead ∨ (L[nm ks (i + j)]? = some (renO (nm ks) ob) ∧ match ob with | .arr cs => bndL ks.length cs = true | .froz _ => True | _ => False)
  | [], i, _, j, ob, h => by simp at h
  | o :: r, i, hs, 0, ob, h => by simp at h; subst h; exact hs.1
  | o :: r, i, hs, j + 1, ob, h => by
    have := SameO.get hs.2 j ob (by simpa using h)
    rw [show i + (j + 1) = i + 1 + j from by omega]; exact this

/-- Renaming with forgetting: the first n0 names stay. -/
theorem wk_ren {n0 : Nat} {env env' : List PV} {L L' : List PObj} (ks : List Nat) (hk : ks.length = L'.length) (h0 : n0 ≤ ks.length) (hid : ∀ i, i < n0 → ks[i]? = some i) (hnd : ks.Nodup) (hlt : ∀ k ∈ ks, k < L.length)
    (henv : LeL env (renL (nm ks) env')) (hb : bndL ks.length env' = true) (hL : SameO ks L L' 0) : Wk n0 env L env' L' := by
  intro L0 g0 w0 g a w hn hst
  let g' : Gh := { fr := g.fr, at_ := fun i => if i < ks.length then g.at_ (nm ks i) else none, sz := fun i => g.sz (nm ks i) }
  have hat : ∀ o, o < ks.length → g'.at_ o = g.at_ (nm ks o) ∧ g'.sz o = g.sz (nm ks o) := fun o ho => ⟨by simp [g', ho], rfl⟩
  have inj : ∀ i j, i < ks.length → j < ks.length → nm ks i = nm ks j → i = j := fun i j hi hj e => by
    simp only [nm, List.getElem?_eq_getElem hi, List.getElem?_eq_getElem hj, Option.getD_some] at e
    exact (List.getElem_inj hnd).1 e
  have at_lt : ∀ o b, g'.at_ o = some b → o < ks.length := fun o b h => by
    rcases Nat.lt_or_ge o ks.length with h' | h'
    · exact h'
    · simp [g', Nat.not_lt.mpr h'] at h
  have nmid : ∀ i, i < n0 → nm ks i = i := fun i hi => by simp [nm, hid i hi]
  obtain ⟨hlen, hget⟩ := henv.get
  rw [renL_len] at hlen
  have liveO : ∀ o, Live (Lf L' o) = true → o < L'.length ∧ Live (Lf L (nm ks o)) = true := fun o hl => by
    cases hLo : L'[o]? with
    | none => simp [Lf, hLo, Live] at hl
    | some ob =>
      have := hL.get o ob hLo
      rw [Nat.zero_add] at this
      rw [Lf_some hLo] at hl
      rcases this with rfl | ⟨h1, h2⟩
      · cases hl
      · refine ⟨(List.getElem?_eq_some_iff.1 hLo).1, ?_⟩
        rw [Lf_some h1]
        cases ob <;> first | rfl | exact h2.elim | (cases hl; done)
  refine ⟨g', ?_⟩
  exact {
    ra := {
      size := by rw [hst.ra.size, hlen]
      rep := fun t p hp => by
        obtain ⟨q, hq, hle⟩ := hget t (ren (nm ks) p) (by rw [renL_get, hp]; rfl)
        exact Rep.unren (g := g) (g' := g') (k := ks.length) (fun _ _ _ h => h) hat (hle g _ (hst.ra.rep t q hq)) p rfl (bndL_get hb hp)
      defers := hst.ra.defers }
    rh := {
      fr := hst.rh.fr
      obj := fun o => by
        cases hLo : L'[o]? with
        | none => simp only [Lf, hLo, Option.getD_none]; trivial
        | some ob =>
          have hol : o < L'.length := (List.getElem?_eq_some_iff.1 hLo).1
          rw [Lf_some hLo]
          have := hL.get o ob hLo
          rw [Nat.zero_add] at this
          rcases this with rfl | ⟨h1, h2⟩
          · trivial
          · have hob := hst.rh.obj (nm ks o)
            rw [Lf_some h1] at hob
            have hat' := hat o (by omega)
            cases ob with
            | arr cs =>
              rcases hob with ⟨e1, e2⟩ | ⟨b, c, e, e1, e2, e3, e4, e5, e6, e7⟩
              · left
                refine ⟨?_, hat'.1.trans e2⟩
                cases cs with
                | nil => rfl
                | cons x xs => simp [renL] at e1
              · rw [renL_len] at e3 e5
                refine .inr ⟨b, c, e, hat'.1.trans e1, e2, e3, e4.trans hat'.2.symm, e5, fun i v p hv hp => ?_, e7⟩
                have := e6 i v (ren (nm ks) p) hv (by rw [renL_get, hp]; rfl)
                exact Rep.unren (g := g) (g' := g') (k := ks.length) (fun _ _ _ h => h) hat this p rfl (bndL_get h2 hp)
            | froz cs => obtain ⟨b, e1, e2⟩ := hob; exact ⟨b, hat'.1.trans e1, e2⟩
            | mp es => exact h2.elim
            | dead => trivial
      inj := fun o o' b h h' hl hl' => by
        have l1 := at_lt o b h
        have l2 := at_lt o' b h'
        exact inj o o' l1 l2 (hst.rh.inj _ _ b ((hat o l1).1 ▸ h) ((hat o' l2).1 ▸ h') (liveO o hl).2 (liveO o' hl').2) }
    new := fun n hn' => by simp [g', show ¬ n < ks.length by omega]
    os := hst.os
    tape := hst.tape
    output := hst.output
    size := hst.size
    block := hst.block
    frle := hst.frle
    len := by omega
    at0 := fun n hn' => by
      have hn0 : n < n0 := by omega
      obtain ⟨e1, e2⟩ := hst.at0 n hn'
      have hl : n < ks.length := by omega
      have := hat n hl
      rw [nmid n hn0] at this
      exact ⟨this.1.trans e1, fun b hb' => by rw [this.1] at hb'; exact this.2.trans (e2 b hb')⟩
    frn := hst.frn
    own := fun n hl b hb' => hst.own (nm ks n) (liveO n hl).2 b ((hat n (at_lt n b hb')).1 ▸ hb') }

theorem Wk.refl (n0 : Nat) (env : List PV) (L : List PObj) : Wk n0 env L env L := fun _ _ _ g _ _ _ h => ⟨g, h⟩
theorem Wk.trans {n0 : Nat} {e1 e2 e3 : List PV} {L1 L2 L3 : List PObj} (h : Wk n0 e1 L1 e2 L2) (h' : Wk n0 e2 L2 e3 L3) : Wk n0 e1 L1 e3 L3 := fun L0 g0 w0 g a w hn hst => by
  obtain ⟨g1, h1⟩ := h L0 g0 w0 g a w hn hst
  exact h' L0 g0 w0 g1 a w hn h1

end Go.Fw
