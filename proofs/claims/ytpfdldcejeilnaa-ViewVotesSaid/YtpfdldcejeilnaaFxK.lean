import Derived.Test.YtpfdldcejeilnaaFxJ
set_option linter.unusedVariables false
set_option linter.unusedSimpArgs false
namespace Go.Fw
open Go

/-! ### A call that only reads an object: the object stands as frozen, for the call alone -/

theorem LeO.ptr {o off : Nat} {ds : List DV} : LeO o ds (.ptr o off) (.fptr ds off) := by
  intro g g1 v h1 h2 h3 h4 hr
  cases hr with
  | ptr _ _ b a1 =>
    have h := Rep.fptr (g := g1) ds off b 0 (h4 b a1)
    rwa [Nat.zero_add] at h

theorem callD_ro {P : Program} {f : FuncId} {args args' : List PV} {L : List PObj} {r : PV} {rds : List Nat} (o : Nat) (cs : List PV) (ds : List DV) (hL : L[o]? = some (.arr cs)) (hc : LeL cs (ds.map .d)) (he : LeOL o ds args args')
    (hp : ∀ g g' v, Rep g v r → Rep g' v r) (h : CallD P f args' (L.set o .dead) { pv := r, rd := rds }) (hno : o ∉ rds) : CallD P f args L { pv := r, rd := o :: rds } := by
  obtain ⟨h1, h2, h3⟩ := h
  have hol : o < L.length := (List.getElem?_eq_some_iff.1 hL).1
  have liveO : Live (Lf L o) = true := by rw [Lf_some hL]; rfl
  refine ⟨h1, trivial, fun g w vs hl hr hf ht hn hi => ?_⟩
  have hobj := ht o (.inl (List.mem_cons_self ..))
  rw [Lf_some hL] at hobj
  obtain ⟨g1, f1, f2, f3, f4, f5, f6⟩ := frz_gh hobj hc hf
  obtain ⟨hle, hget⟩ := he.get
  have other : ∀ m, m ≠ o → Lf (L.set o .dead) m = Lf L m := fun m hm => by simp [Lf, List.getElem?_set_ne (Ne.symm hm)]
  have atO : Lf (L.set o .dead) o = .dead := by simp [Lf, hol]
  have touch' : ∀ m, ({ pv := r, rd := rds } : Out).touch m → ({ pv := r, rd := o :: rds } : Out).touch m := fun m hm => by
    rcases hm with hm | ⟨ob, hm⟩
    · exact .inl (List.mem_cons_of_mem _ hm)
    · exact absurd hm (by simp)
  have gle : Gle g g1 := ⟨f1, fun o b hb => ⟨by rw [f2]; exact hb, by rw [f3]⟩⟩
  have liveNe : ∀ m, Live (Lf (L.set o .dead) m) = true → m ≠ o ∧ Live (Lf L m) = true := fun m hlm => by
    by_cases e : m = o
    · subst e; rw [atO] at hlm; cases hlm
    · exact ⟨e, by rw [← other m e]; exact hlm⟩
  refine (h3 g1 w vs (by omega) (fun i v p hv hp => ?_) f5 (fun m hm => ?_) (fun m ob hm => absurd hm (by simp)) (fun m m' b hm hm' hb hb' hlm hlm' => ?_)).mono fun e w' ⟨v, g', hev, hrv, hs⟩ => ⟨v, g, hev, hp g' g v hrv, ?_⟩
  · obtain ⟨q, hq, hqp⟩ := hget i p hp
    exact hqp g g1 v f1 f2 f3 f4 (hr i v q hv hq)
  · by_cases e : m = o
    · subst e; rw [atO]; trivial
    · rw [other m e]
      refine (ht m (touch' m hm)).keep gle (by rw [f2]) (fun _ _ _ => rfl) (fun hla b' hb' i hi' => ?_)
      cases hfi : g1.fr b' i with
      | none => rfl
      | some v =>
        rcases f6 b' i v hfi with h0 | h0
        · rw [hi'] at h0; cases h0
        · exact absurd (hi m o b' (touch' m hm) (.inl (List.mem_cons_self ..)) hb' h0 hla liveO) e
  · exact hi m m' b (touch' m hm) (touch' m' hm') (by rw [← f2]; exact hb) (by rw [← f2]; exact hb') (liveNe m hlm).2 (liveNe m' hlm').2
  · exact { os := hs.os, tape := hs.tape, output := hs.output, size := hs.size, block := fun b hb _ => hs.block b hb (fun n ob hm => absurd hm (by simp)), le := Gle.refl g, at_ := fun _ _ => rfl, keep := fun _ _ => rfl, frn := fun b i v h => .inl h, frok := fun b i v h => hs.frok b i v (hs.le.1 _ _ _ (f1 _ _ _ h)), obj := fun n ob hm => absurd hm (by simp), own := fun n ob hm => absurd hm (by simp), inj := fun n ob m om b hm => absurd hm (by simp) }

/-- Values that stand for themselves. -/
def plainT : TV → Bool
  | .int _ _ | .bool _ | .str _ => true
  | _ => false
theorem plainT_rep {r : TV} (h : plainT r = true) : ∀ g g' v, Rep g v (er r) → Rep g' v (er r) := by
  intro g g' v hr
  cases r <;> first | (cases h; done) | skip
  all_goals
    cases hr with
    | d hd => cases hd <;> exact .d (by constructor)

/-- Pointers to object o, as pointers to what is frozen. -/
def roV (o : Nat) (e : EL) (x : e.T) : TV → TV
  | .ptr q off => if q = o then .fp e x off else .ptr q off
  | v => v
theorem roV_le {o : Nat} {e : EL} {x : e.T} (v : TV) : LeO o (EL.dv e x) (er v) (er (roV o e x v)) := by
  cases v with
  | ptr q off =>
    by_cases h : q = o
    · subst h
      simp only [roV, if_true]
      exact LeO.ptr
    · simp only [roV, if_neg h]; exact .refl _
  | _ => exact .refl _
theorem roL_le {o : Nat} {e : EL} {x : e.T} : ∀ (vs : List TV), LeOL o (EL.dv e x) (erL vs) (erL (vs.map (roV o e x)))
  | [] => trivial
  | v :: vs => ⟨roV_le v, roL_le vs⟩

def TOut.ro (o : Nat) (out : TOut) : TOut := { pv := out.pv, rd := o :: out.rd }
theorem call_ro {P : Program} {f : FuncId} {acts : List TV} {L : List TO} {out : TOut} (o : Nat) (e : EL) (x : e.T) (hL : L[o]? = some (.arr (EL.tv e x))) (h : CallD P f (erL (acts.map (roV o e x))) (erOL (L.set o .dead)) out.er)
    (hu : out.upd = []) (hp : plainT out.pv = true) (hno : out.rd.contains o = false) : CallD P f (erL acts) (erOL L) (out.ro o).er := by
  have hset : erOL (L.set o .dead) = (erOL L).set o .dead := by simp [erOL, List.map_set, erO]
  rw [hset] at h
  obtain ⟨pv, upd, rd⟩ := out
  simp only at hu; subst hu
  refine callD_ro o (erL (EL.tv e x)) (EL.dv e x) (by rw [erOL_get, hL]; rfl) (by rw [er_etv]; exact LeL.refl _) (roL_le acts) (plainT_rep hp) h (fun hm => ?_)
  rw [List.contains_iff_mem.2 hm] at hno; cases hno

end Go.Fw
