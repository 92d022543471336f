import Derived.Test.YtpfdldcejeilnaaFwP
set_option linter.unusedVariables false
set_option linter.unusedSimpArgs false
namespace Go.Fw
open Go

/-- Results and memory, less of it known. -/
theorem AC.wk {P : Program} {f : FuncId} {args : List PV} {L0 : List PObj} {Q Q' : PV → List PObj → Prop} (h : AC P f args L0 Q) (hq : ∀ pv L, Q pv L → ∃ pv' L', Wk L0.length [pv] L [pv'] L' ∧ Q' pv' L') : AC P f args L0 Q' := by
  refine ⟨h.1, fun g w vs h1 h2 h3 h4 => (h.2 g w vs h1 h2 h3 h4).mono fun e w' ⟨v, g', pv, L, env, a, he, hr, hst, hQ⟩ => ?_⟩
  obtain ⟨pv', L', hw, hQ'⟩ := hq pv L hQ
  have hst1 : St L0 g w g' [pv] L { tmps := #[v], defers := [] } w' := { hst with
    ra := ⟨rfl, fun t p hp => by
      cases t with
      | zero => simp at hp; subst hp; exact hr
      | succ t => simp at hp, rfl⟩ }
  obtain ⟨g'', hst2⟩ := hw L0 g w g' _ w' rfl hst1
  exact ⟨v, g'', pv', L', _, _, he, hst2.ra.rep 0 pv' rfl, hst2, hQ'⟩

theorem AC.mono {P : Program} {f : FuncId} {args : List PV} {L0 : List PObj} {Q Q' : PV → List PObj → Prop} (h : AC P f args L0 Q) (hq : ∀ pv L, Q pv L → Q' pv L) : AC P f args L0 Q' :=
  h.wk fun pv L hQ => ⟨pv, L, Wk.refl _ _ _, hq pv L hQ⟩

end Go.Fw
