import Derived.Test.YtpfdldcejeilnaaFwV
set_option linter.unusedVariables false
set_option linter.unusedSimpArgs false
namespace Go.Fw
open Go

/-! ### Freezing: an object that nobody writes to any more is data -/

/-- What is known of a value once object o's cells stay as ds. -/
def LeO (o : Nat) (ds : List DV) (p q : PV) : Prop :=
  ∀ (g g1 : Gh) (v : Value), (∀ b i v, g.fr b i = some v → g1.fr b i = some v) → g1.at_ = g.at_ → g1.sz = g.sz → (∀ b, g.at_ o = some b → FrozenAt g1.fr b 0 ds) → Rep g v p → Rep g1 v q

theorem LeO.of_le {o : Nat} {ds : List DV} {p q : PV} (h : Le p q) : LeO o ds p q := fun g g1 v h1 h2 h3 _ hr =>
  (h g v hr).mono ⟨h1, fun o b hb => ⟨by rw [h2]; exact hb, by rw [h3]⟩⟩
theorem LeO.refl {o : Nat} {ds : List DV} (p : PV) : LeO o ds p p := .of_le (.refl p)
theorem LeO.trans {o : Nat} {ds : List DV} {p q r : PV} (h : LeO o ds p q) (h' : Le q r) : LeO o ds p r := fun g g1 v h1 h2 h3 h4 hr => h' g1 v (h g g1 v h1 h2 h3 h4 hr)

theorem LeO.osl {o off n z : Nat} {t : Bool} {ds : List DV} {es : List (List DV)} (hn : es.length = n) (hz : ∀ e ∈ es, e.length = z) (hf : es.flatten = (ds.drop off).take (n * z)) (hb : off + n * z ≤ ds.length) : LeO o ds (.osl o off n z t) (.d (.sl es)) := by
  intro g g1 v h1 h2 h3 h4 hr
  cases hr with
  | osl _ _ _ _ cap b _ a1 a2 a3 a4 =>
    have hfr := h4 b a1
    have key : ∀ (k : Nat) c, es.flatten[k]? = some c → ∃ u, g1.fr b (off + k) = some u ∧ RepD g1.fr u c := fun k c hk => by
      rw [hf] at hk
      have hlt : k < n * z := by
        have := (List.getElem?_eq_some_iff.1 hk).1
        rw [List.length_take] at this; omega
      rw [List.getElem?_take_of_lt hlt, List.getElem?_drop] at hk
      have := hfr (off + k) c hk
      simpa using this
    refine .d (.sl b off cap z n es (fun k => (g1.fr b (off + k)).getD undef) hn.symm a2 hz (fun k c hk => ?_) (fun k c hk => ?_))
    · obtain ⟨u, hu, _⟩ := key k c hk; simp [hu]
    · obtain ⟨u, hu, hr⟩ := key k c hk; simpa [hu] using hr
  | osl0 _ _ _ a _ =>
    have : es = [] := List.length_eq_zero_iff.1 hn
    subst this
    exact .d (.sl0 a 0 (fun _ => rfl))

def LeOL (o : Nat) (ds : List DV) : List PV → List PV → Prop
  | [], [] => True
  | p :: ps, q :: qs => LeO o ds p q ∧ LeOL o ds ps qs
  | _, _ => False

theorem LeOL.get {o : Nat} {ds : List DV} : ∀ {ps qs : List PV}, LeOL o ds ps qs → ps.length = qs.length ∧ ∀ (i : Nat) q, qs[i]? = some q → ∃ p, ps[i]? = some p ∧ LeO o ds p q
  | [], [], _ => ⟨rfl, fun i q h => by simp at h⟩
  | p :: ps, q :: qs, h => by
    obtain ⟨h1, h2⟩ := h
    obtain ⟨l, ih⟩ := LeOL.get h2
    refine ⟨by simp [l], fun i q' hq => ?_⟩
    cases i with
    | zero => simp at hq; subst hq; exact ⟨p, by simp, h1⟩
    | succ i => simpa using ih i q' (by simpa using hq)
  | [], _ :: _, h => h.elim
  | _ :: _, [], h => h.elim

theorem LeOL.refl {o : Nat} {ds : List DV} : ∀ (ps : List PV), LeOL o ds ps ps
  | [] => trivial
  | p :: ps => ⟨.refl p, LeOL.refl ps⟩

theorem LeO.agg {o : Nat} {ds : List DV} {ps qs : List PV} (h : LeOL o ds ps qs) : LeO o ds (.agg ps) (.agg qs) := by
  obtain ⟨l, hg⟩ := h.get
  intro g g1 v h1 h2 h3 h4 hr
  cases hr with
  | agg vs cs a1 a2 a3 =>
    refine .agg vs qs (by omega) a2 (fun i u q hu hq => ?_)
    obtain ⟨p, hp, hpq⟩ := hg i q hq
    exact hpq g g1 u h1 h2 h3 h4 (a3 i u p hu hp)
theorem LeO.tup {o : Nat} {ds : List DV} {ps qs : List PV} (h : LeOL o ds ps qs) : LeO o ds (.tup ps) (.tup qs) := by
  obtain ⟨l, hg⟩ := h.get
  intro g g1 v h1 h2 h3 h4 hr
  cases hr with
  | tup vs cs a1 a3 =>
    refine .tup vs qs (by omega) (fun i u q hu hq => ?_)
    obtain ⟨p, hp, hpq⟩ := hg i q hq
    exact hpq g g1 u h1 h2 h3 h4 (a3 i u p hu hp)

/-- The frozen state. -/
theorem frz_gh {g : Gh} {w : World} {o : Nat} {cs : List PV} {ds : List DV} (hr : RelObj g w o (.arr cs)) (hc : LeL cs (ds.map .d)) (hf : FrOK g w) :
    ∃ g1 : Gh, (∀ b i v, g.fr b i = some v → g1.fr b i = some v) ∧ g1.at_ = g.at_ ∧ g1.sz = g.sz ∧ (∀ b, g.at_ o = some b → FrozenAt g1.fr b 0 ds) ∧ FrOK g1 w ∧
      (∀ b i v, g1.fr b i = some v → g.fr b i = some v ∨ g.at_ o = some b) := by
  rcases hr with ⟨e1, e2⟩ | ⟨b, c, e, e1, e2, e3, e4, e5, e6, e7⟩
  · subst e1
    exact ⟨g, fun _ _ _ h => h, rfl, rfl, fun b hb => (by rw [e2] at hb; cases hb), hf, fun _ _ _ h => .inl h⟩
  · obtain ⟨hl, hget⟩ := hc.get
    have mono : ∀ b' i v, g.fr b' i = some v → (if b' = b then (if i < cs.length then c[i]? else none) else g.fr b' i) = some v := fun b' i v h => by
      split
      · rename_i hb; subst hb; rw [e7 i] at h; cases h
      · exact h
    refine ⟨{ g with fr := fun b' i => if b' = b then (if i < cs.length then c[i]? else none) else g.fr b' i }, mono, rfl, rfl, fun b' hb' => ?_, fun b' i v h => ?_, fun b' i v h => ?_⟩
    · rw [e1] at hb'; cases hb'
      intro k x hx
      have hlt : k < cs.length := by
        have := (List.getElem?_eq_some_iff.1 hx).1; rw [hl]; simpa using this
      obtain ⟨p, hp, hle⟩ := hget k (.d x) (by rw [List.getElem?_map, hx]; rfl)
      have hck : k < c.size := by omega
      have hrep := hle g _ (e6 k c[k] p (by simp [hck]) hp)
      generalize hck' : c[k] = u at hrep
      cases hrep with
      | d hd => exact ⟨u, by simp [hlt, hck, hck'], hd.mono mono⟩
    · simp only at h
      split at h
      · rename_i hb; subst hb
        split at h
        · rename_i hi
          have hci : i < c.size := by omega
          rw [Array.getElem?_eq_getElem hci] at h
          cases h
          simp [World.cell?, e2, hci]
        · cases h
      · exact hf b' i v h
    · simp only at h
      split at h
      · rename_i hb; subst hb; exact .inr e1
      · exact .inl h

/-- The objects, of one whom o is frozen. -/
def FrL (o : Nat) (ds : List DV) : List PObj → List PObj → Nat → Prop
  | [], [], _ => True
  | a :: as, b :: bs, i => (b = .dead ∨ (i ≠ o ∧ (b = a ∨ ∃ cs cs', a = .arr cs ∧ b = .arr cs' ∧ LeOL o ds cs cs'))) ∧ FrL o ds as bs (i + 1)
  | _, _, _ => False

theorem FrL.get {o : Nat} {ds : List DV} : ∀ {as bs : List PObj} {i : Nat}, FrL o ds as bs i → as.length = bs.length ∧ ∀ j b, bs[j]? = some b → b = .dead ∨ (i + j ≠ o ∧ ∃ a, as[j]? = some a ∧ (b = a ∨ ∃ cs cs', a = .arr cs ∧ b = .arr cs' ∧ LeOL o ds cs cs'))
  | [], [], i, _ => ⟨rfl, fun j b h => by simp at h⟩
  | a :: as, b :: bs, i, h => by
    obtain ⟨h1, h2⟩ := h
    obtain ⟨l, ih⟩ := FrL.get h2
    refine ⟨by simp [l], fun j b' hb => ?_⟩
    cases j with
    | zero =>
      simp at hb; subst hb
      rcases h1 with h1 | ⟨h1, h3⟩
      · exact .inl h1
      · exact .inr ⟨by simpa using h1, a, by simp, h3⟩
    | succ j =>
      have := ih j b' (by simpa using hb)
      rw [show i + (j + 1) = i + 1 + j from by omega]
      simpa using this
  | [], _ :: _, _, h => h.elim
  | _ :: _, [], _, h => h.elim

theorem frz_st {env env' : List PV} {L L' : List PObj} (o : Nat) (cs : List PV) (ds : List DV) (hL : L[o]? = some (.arr cs)) (hc : LeL cs (ds.map .d)) (he : LeOL o ds env env') (hO : FrL o ds L L' 0) {L0 : List PObj} {g0 : Gh} {w0 : World} {g : Gh} {a : Act} {w : World} (hst : St L0 g0 w0 g env L a w) :
    ∃ g1, (∀ b i v, g.fr b i = some v → g1.fr b i = some v) ∧ g1.at_ = g.at_ ∧ g1.sz = g.sz ∧ (∀ b, g.at_ o = some b → FrozenAt g1.fr b 0 ds) ∧ St L0 g0 w0 g1 env' L' a w := by
  have hobj := hst.rh.obj o
  rw [Lf_some hL] at hobj
  obtain ⟨g1, f1, f2, f3, f4, f5, f6⟩ := frz_gh hobj hc hst.rh.fr
  obtain ⟨hle, hget⟩ := he.get
  obtain ⟨hlL, hgetL⟩ := hO.get
  have liveO : Live (Lf L o) = true := by rw [Lf_some hL]; rfl
  have liveOf : ∀ m, Live (Lf L' m) = true → m ≠ o ∧ Live (Lf L m) = true := fun m hl => by
    cases hLm : L'[m]? with
    | none => simp [Lf, hLm, Live] at hl
    | some b =>
      rw [Lf_some hLm] at hl
      rcases hgetL m b hLm with rfl | ⟨h1, a, ha, h2⟩
      · cases hl
      · rw [Nat.zero_add] at h1
        refine ⟨h1, ?_⟩
        rw [Lf_some ha]
        rcases h2 with rfl | ⟨c1, c2, rfl, rfl, _⟩
        · exact hl
        · rfl
  have gle : Gle g g1 := ⟨f1, fun o b hb => ⟨by rw [f2]; exact hb, by rw [f3]⟩⟩
  refine ⟨g1, f1, f2, f3, f4, ?_⟩
  exact {
    ra := {
      size := by rw [hst.ra.size, hle]
      rep := fun t p hp => by
        obtain ⟨q, hq, hqp⟩ := hget t p hp
        exact hqp g g1 _ f1 f2 f3 f4 (hst.ra.rep t q hq)
      defers := hst.ra.defers }
    rh := {
      fr := f5
      obj := fun m => by
        cases hLm : L'[m]? with
        | none => simp only [Lf, hLm, Option.getD_none]; trivial
        | some b =>
          rw [Lf_some hLm]
          rcases hgetL m b hLm with rfl | ⟨h1, a, ha, h2⟩
          · trivial
          · rw [Nat.zero_add] at h1
            have hm := hst.rh.obj m
            rw [Lf_some ha] at hm
            have hne : Live a = true → ∀ b', g.at_ m = some b' → ∀ i, g.fr b' i = none → g1.fr b' i = none := fun hla b' hb' i hi => by
              cases hf : g1.fr b' i with
              | none => rfl
              | some v =>
                rcases f6 b' i v hf with h0 | h0
                · rw [hi] at h0; cases h0
                · exact absurd (hst.rh.inj m o b' hb' h0 (by rw [Lf_some ha]; exact hla) liveO) h1
            rcases h2 with rfl | ⟨c1, c2, rfl, rfl, hcc⟩
            · exact hm.keep gle (by rw [f2]) (fun _ _ _ => rfl) hne
            · obtain ⟨l12, g12⟩ := hcc.get
              rcases hm with ⟨a1, a2⟩ | ⟨b', c, e, a1, a2, a3, a4, a5, a6, a7⟩
              · left
                subst a1
                refine ⟨List.length_eq_zero_iff.1 (by rw [← l12]; rfl), by rw [f2]; exact a2⟩
              · refine .inr ⟨b', c, e, by rw [f2]; exact a1, a2, by omega, by rw [f3]; exact a4, fun i v hi hv => a5 i v (by omega) hv, fun i v p hv hp => ?_, fun i => hne rfl b' a1 i (a7 i)⟩
                obtain ⟨q, hq, hqp⟩ := g12 i p hp
                exact hqp g g1 v f1 f2 f3 f4 (a6 i v q hv hq)
      inj := fun m m' b h h' hl hl' => hst.rh.inj m m' b (by rw [← f2]; exact h) (by rw [← f2]; exact h') (liveOf m hl).2 (liveOf m' hl').2 }
    new := fun m hm => by rw [f2]; exact hst.new m (by omega)
    os := hst.os
    tape := hst.tape
    output := hst.output
    size := hst.size
    block := hst.block
    frle := fun b i v h => f1 _ _ _ (hst.frle b i v h)
    len := by have := hst.len; omega
    at0 := fun m hm => by rw [f2, f3]; exact hst.at0 m hm
    frn := fun b i v h => by
      rcases f6 b i v h with h0 | h0
      · exact hst.frn b i v h0
      · exact .inr (hst.own o liveO b h0)
    own := fun m hl b hb => hst.own m (liveOf m hl).2 b (by rw [← f2]; exact hb) }

theorem wk_frz {n0 : Nat} {env env' : List PV} {L L' : List PObj} (o : Nat) (cs : List PV) (ds : List DV) (hL : L[o]? = some (.arr cs)) (hc : LeL cs (ds.map .d)) (he : LeOL o ds env env') (hO : FrL o ds L L' 0) : Wk n0 env L env' L' := fun L0 g0 w0 g a w hn hst =>
  let ⟨g1, _, _, _, _, h⟩ := frz_st o cs ds hL hc he hO hst
  ⟨g1, h⟩

/-- A call for which an object is frozen. -/
theorem callD_frz {P : Program} {f : FuncId} {args args' : List PV} {L : List PObj} {out : Out} (o : Nat) (cs : List PV) (ds : List DV) (hL : L[o]? = some (.arr cs)) (hc : LeL cs (ds.map .d)) (he : LeOL o ds args args')
    (h : CallD P f args' (L.set o .dead) out) (hno : ∀ ob, (o, ob) ∉ out.upd) : CallD P f args L { out with upd := (o, .dead) :: out.upd } := by
  obtain ⟨h1, h2, h3⟩ := h
  have hol : o < L.length := (List.getElem?_eq_some_iff.1 hL).1
  have liveO : Live (Lf L o) = true := by rw [Lf_some hL]; rfl
  have e1 : up1 L o .dead = L.set o .dead := by simp [up1, hol]
  refine ⟨h1, ⟨.inl ⟨hol, liveO⟩, fun m om hm e => hno om (e ▸ hm), by rw [e1]; exact h2⟩, fun g w vs hl hr hf ht hn hi => ?_⟩
  have hobj := ht o (.inr ⟨_, List.mem_cons_self ..⟩)
  rw [Lf_some hL] at hobj
  obtain ⟨g1, f1, f2, f3, f4, f5, f6⟩ := frz_gh hobj hc hf
  obtain ⟨hle, hget⟩ := he.get
  have other : ∀ m, m ≠ o → Lf (L.set o .dead) m = Lf L m := fun m hm => by simp [Lf, List.getElem?_set_ne (Ne.symm hm)]
  have atO : Lf (L.set o .dead) o = .dead := by simp [Lf, hol]
  have touch' : ∀ m, out.touch m → ({ out with upd := (o, .dead) :: out.upd } : Out).touch m := fun m hm => by
    rcases hm with hm | ⟨ob, hm⟩
    · exact .inl hm
    · exact .inr ⟨ob, List.mem_cons_of_mem _ hm⟩
  have gle : Gle g g1 := ⟨f1, fun o b hb => ⟨by rw [f2]; exact hb, by rw [f3]⟩⟩
  have liveNe : ∀ m, Live (Lf (L.set o .dead) m) = true → m ≠ o ∧ Live (Lf L m) = true := fun m hlm => by
    by_cases e : m = o
    · subst e; rw [atO] at hlm; cases hlm
    · exact ⟨e, by rw [← other m e]; exact hlm⟩
  refine (h3 g1 w vs (by omega) (fun i v p hv hp => ?_) f5 (fun m hm => ?_) (fun m ob hm => ?_) (fun m m' b hm hm' hb hb' hlm hlm' => ?_)).mono fun e w' ⟨v, g', hev, hrv, hs⟩ => ⟨v, g', hev, hrv, ?_⟩
  · obtain ⟨q, hq, hqp⟩ := hget i p hp
    exact hqp g g1 v f1 f2 f3 f4 (hr i v q hv hq)
  · by_cases e : m = o
    · subst e; rw [atO]; trivial
    · rw [other m e]
      refine (ht m (touch' m hm)).keep gle (by rw [f2]) (fun _ _ _ => rfl) (fun hla b' hb' i hi' => ?_)
      cases hfi : g1.fr b' i with
      | none => rfl
      | some v =>
        rcases f6 b' i v hfi with h0 | h0
        · rw [hi'] at h0; cases h0
        · exact absurd (hi m o b' (touch' m hm) (.inr ⟨_, List.mem_cons_self ..⟩) hb' h0 hla liveO) e
  · have e : m ≠ o := fun e => hno ob (e ▸ hm)
    rw [other m e, f2]
    exact hn m ob (List.mem_cons_of_mem _ hm)
  · exact hi m m' b (touch' m hm) (touch' m' hm') (by rw [← f2]; exact hb) (by rw [← f2]; exact hb') (liveNe m hlm).2 (liveNe m' hlm').2
  · exact {
      os := hs.os
      tape := hs.tape
      output := hs.output
      size := hs.size
      block := fun b hb hx => hs.block b hb (fun n ob hn hl => by rw [f2]; exact hx n ob (List.mem_cons_of_mem _ hn) (liveNe n hl).2)
      le := gle.trans hs.le
      at_ := fun m hm => by rw [hs.at_ m (fun ob ho => hm ob (List.mem_cons_of_mem _ ho)), f2]
      keep := fun m hl => by
        by_cases e : m = o
        · subst e; rw [hs.at_ m hno, f2]
        · rw [hs.keep m (by rw [other m e]; exact hl), f2]
      frn := fun b i v hv => by
        rcases hs.frn b i v hv with h0 | h0 | ⟨n, ob, hn', hl, hb⟩
        · rcases f6 b i v h0 with h0 | h0
          · exact .inl h0
          · exact .inr (.inr ⟨o, _, List.mem_cons_self .., liveO, h0⟩)
        · exact .inr (.inl h0)
        · exact .inr (.inr ⟨n, ob, List.mem_cons_of_mem _ hn', (liveNe n hl).2, by rw [← f2]; exact hb⟩)
      frok := hs.frok
      obj := fun n ob hn' => by
        rcases List.mem_cons.1 hn' with e | hn'
        · cases e; trivial
        · exact hs.obj n ob hn'
      own := fun n ob hn' hl b hb => by
        rcases List.mem_cons.1 hn' with e | hn'
        · cases e; cases hl
        · rcases hs.own n ob hn' hl b hb with h0 | ⟨m, om, hm, hlm, hmb⟩
          · exact .inl h0
          · exact .inr ⟨m, om, List.mem_cons_of_mem _ hm, (liveNe m hlm).2, by rw [← f2]; exact hmb⟩
      inj := fun n ob m om b hn' hm' hl hl' hb hb' => by
        rcases List.mem_cons.1 hn' with e | hn'
        · cases e; cases hl
        · rcases List.mem_cons.1 hm' with e | hm'
          · cases e; cases hl'
          · exact hs.inj n ob m om b hn' hm' hl hl' hb hb' }

end Go.Fw
