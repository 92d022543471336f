import Derived.Test.YtpfdldcejeilnaaFwY
set_option linter.unusedVariables false
set_option linter.unusedSimpArgs false
namespace Go.Fw
open Go

/-! ### Working rules -/

/-- A slice of which it is not known whether it is nil. -/
theorem AC.sl {P : Program} {f : FuncId} {pre post : List PV} {es : List (List DV)} {L0 : List PObj} {Q : PV → List PObj → Prop} (h1 : AC P f (pre ++ .fsl es false :: post) L0 Q) (h2 : es = [] → AC P f (pre ++ .nilsl :: post) L0 Q) : AC P f (pre ++ .d (.sl es) :: post) L0 Q := by
  refine ⟨h1.1, fun g w vs hl hr hh hn => ?_⟩
  have hp : (pre ++ PV.d (.sl es) :: post)[pre.length]? = some (.d (.sl es)) := by simp
  have hlt : pre.length < vs.length := by rw [hl]; simp
  have hrep := hr pre.length _ _ (List.getElem?_eq_getElem hlt) hp
  have other : ∀ (p : PV), Rep g vs[pre.length] p → ∀ (i : Nat) v q, vs[i]? = some v → (pre ++ p :: post)[i]? = some q → Rep g v q := by
    intro p hp' i v q hv hq
    rcases Nat.lt_trichotomy i pre.length with h | h | h
    · rw [List.getElem?_append_left h] at hq
      exact hr i v q hv (by rw [List.getElem?_append_left h]; exact hq)
    · subst h
      rw [List.getElem?_append_right (Nat.le_refl _)] at hq
      simp at hq; subst hq
      rw [List.getElem?_eq_getElem hlt] at hv; cases hv; exact hp'
    · rw [List.getElem?_append_right (by omega)] at hq
      obtain ⟨k, hk⟩ : ∃ k, i - pre.length = k + 1 := ⟨i - pre.length - 1, by omega⟩
      rw [hk] at hq
      refine hr i v q hv ?_
      rw [List.getElem?_append_right (by omega), hk]
      simpa using hq
  have nonnil : ∀ a n cap, vs[pre.length] = .slice (some a) n cap → Calls P f vs.toArray w (fun e w' => ∃ v g' pv L env a, e = .returned v ∧ Rep g' v pv ∧ St L0 g w g' env L a w' ∧ Q pv L) := by
    intro a n cap hv
    refine h1.2 g w vs (by rw [hl]; simp) (other _ ?_) hh hn
    rw [hv] at hrep ⊢
    cases hrep with | d hd => exact .fsl es a n cap false hd (fun h => by cases h)
  generalize hv : vs[pre.length] = v at hrep
  cases hrep with
  | d hd =>
    cases hd with
    | sl0 a cap ha =>
      cases a with
      | none =>
        have := ha rfl
        subst this
        exact (h2 rfl).2 g w vs (by rw [hl]; simp) (other _ (by rw [hv]; exact .nilsl)) hh hn
      | some a => exact nonnil a 0 cap hv
    | sl b off cap sz n _ f h1 h2 h3 h4 h5 => exact nonnil _ _ _ hv

mutual
theorem ren_pure (r : Nat → Nat) : ∀ p, pureP p = true → ren r p = p
  | .d _, _ => rfl
  | .agg cs, h => by simp only [ren]; rw [renL_pure r cs (by simpa [pureP] using h)]
  | .ptr _ _, h => by simp [pureP] at h
  | .fptr _ _, _ => rfl
  | .osl _ _ _ _ _, h => by simp [pureP] at h
  | .fsl _ _, _ => rfl
  | .nilsl, _ => rfl
  | .zsl, _ => rfl
  | .fn f a b, h => by
    simp only [pureP, Bool.and_eq_true] at h
    simp only [ren]; rw [renL_pure r a h.1, renL_pure r b h.2]
  | .map _, h => by simp [pureP] at h
  | .tup cs, h => by simp only [ren]; rw [renL_pure r cs (by simpa [pureP] using h)]
  | .und, _ => rfl
  | .dead, _ => rfl
theorem renL_pure (r : Nat → Nat) : ∀ ps, pureL ps = true → renL r ps = ps
  | [], _ => rfl
  | p :: ps, h => by
    simp only [pureL, Bool.and_eq_true] at h
    simp only [renL]; rw [ren_pure r p h.1, renL_pure r ps h.2]
end
mutual
theorem bnd_pure (k : Nat) : ∀ p, pureP p = true → bnd_ k p = true
  | .d _, _ => rfl
  | .agg cs, h => by simp only [bnd_]; exact bndL_pure k cs (by simpa [pureP] using h)
  | .ptr _ _, h => by simp [pureP] at h
  | .fptr _ _, _ => rfl
  | .osl _ _ _ _ _, h => by simp [pureP] at h
  | .fsl _ _, _ => rfl
  | .nilsl, _ => rfl
  | .zsl, _ => rfl
  | .fn f a b, h => by
    simp only [pureP, Bool.and_eq_true] at h
    simp only [bnd_, Bool.and_eq_true]; exact ⟨bndL_pure k a h.1, bndL_pure k b h.2⟩
  | .map _, h => by simp [pureP] at h
  | .tup cs, h => by simp only [bnd_]; exact bndL_pure k cs (by simpa [pureP] using h)
  | .und, _ => rfl
  | .dead, _ => rfl
theorem bndL_pure (k : Nat) : ∀ ps, pureL ps = true → bndL k ps = true
  | [], _ => rfl
  | p :: ps, h => by
    simp only [pureL, Bool.and_eq_true] at h
    simp only [bndL, Bool.and_eq_true]; exact ⟨bnd_pure k p h.1, bndL_pure k ps h.2⟩
end

/-- Objects of no use any more. -/
theorem wk_drop {env env' : List PV} {L : List PObj} (hp : pureL env' = true) (hle : LeL env env') : Wk 0 env L env' [] :=
  wk_ren [] rfl (Nat.le_refl _) (fun i h => by omega) List.nodup_nil (fun k h => by cases h) (by rw [renL_pure _ _ hp]; exact hle) (bndL_pure _ _ hp) trivial

theorem frL_dead {o : Nat} {ds : List DV} : ∀ (L : List PObj) (i : Nat), FrL o ds L (List.replicate L.length .dead) i
  | [], _ => trivial
  | _ :: L, i => ⟨.inl rfl, frL_dead L (i + 1)⟩

/-- A slice that a function made and nobody writes to any more. -/
theorem wk_slice {L : List PObj} {o off n z : Nat} {t : Bool} {cs : List PV} {ds : List DV} {es : List (List DV)} (hL : L[o]? = some (.arr cs)) (hc : LeL cs (ds.map .d)) (hn : es.length = n) (hz : ∀ e ∈ es, e.length = z) (hf : es.flatten = (ds.drop off).take (n * z)) (hb : off + n * z ≤ ds.length) :
    Wk 0 [.osl o off n z t] L [.d (.sl es)] [] :=
  (wk_frz o cs ds hL hc (env := [.osl o off n z t]) (env' := [.d (.sl es)]) ⟨.osl hn hz hf hb, trivial⟩ (frL_dead L 0)).trans (wk_drop rfl (LeL.refl _))

end Go.Fw
