/- The law ViewVotes: its function answers true for every input.
Conditions: the inputs are those of the given statement; nothing else is asked. -/
import Derived.Test.YtpfdldcejeilnaaRows
import Derived.Test.YtpfdldcejeilnaaVwD
import Derived.WalkKit
import Derived.ProofKit
import Derived.OpenShut
import Derived.ShutString
import Derived.ChangeOld
import Derived.Below
import Derived.SizedLaws
set_option linter.unusedVariables false
set_option maxRecDepth 100000
namespace Go.Proofs.Ytpfdldcejeilnaa.viewVotes
open Go.ChangeShapes Go.WideShapes Go.ChangeAt Go.RowKit Go.Fw
open Go.ChangeMaps (open_string shut_string)
theorem own : ownKnob Try.prog.godebug = none := by kernel_rfl
theorem acs (pvs : List PV) (h : HasArgs Try.prog 12 [3, 41] pvs) : AC Try.prog 8 pvs [] (fun pv _ => pv = .d (.bool true)) := by
  obtain ⟨xs0, r0, hp0, hh0, h⟩ := hasArgs_cons h
  obtain ⟨a0, ha0, w0⟩ := arg_cell (c := (.int .i64)) hh0 (by kernel_rfl) (by kernel_rfl)
  obtain ⟨xs1, r1, hp1, hh1, h⟩ := hasArgs_cons h
  obtain ⟨a1, ha1, w1⟩ := arg_cell (c := (.sl eI64)) hh1 (by kernel_rfl) (by kernel_rfl)
  have hn := hasArgs_nil h
  subst hn
  subst hp1
  subst hp0
  rw [ha0, ha1]
  exact law_ac (law08_ViewVotes_act a0 a1 (law08_ViewVotes_true a0 a1 w0 w1)) rfl
theorem lifted (os : Os) (started : os.Started) (H : Type) (enc : TypeId × Value → H) :
    ReturnsInHanded {} Try.checked os 8 .any (Rows.viewVotesSpec.pre6 enc Try.prog Try.f8 Rows.viewVotesRow.domain false) (Rows.viewVotesSpec.post enc Try.prog Try.f8 false true false false) := by
  refine returnsInHanded_of_change_sized (C := Try.checked) own started (by kernel_rfl) Try.func8
    (ChangeSpec.witness6 (enc := enc) (C := Try.checked) false ⟨#[], #[.int .i64 0, .slice none 0 0], []⟩ 8 (by kernel_rfl) (by kernel_rfl) (by kernel_rfl) (by kernel_rfl)) ?_
  intro W base args ds gs before hval0 hW hcnd hsz0 _
  refine calls_true (P := Try.prog) (f := 8) (fn := Try.f8) (s := Rows.viewVotesSpec) (rt := 4) (ts := [3, 41]) 12 (by kernel_rfl) (by kernel_rfl) ?_ (by kernel_rfl) (by kernel_rfl) (by kernel_rfl) ?_ acs (W := W) (fun j t v h1 h2 => hval0 j t v h1 h2) hW
  · intro t ht
    have : ([3, 41] : List TypeId).all (fun t => Sup Try.prog 12 t && Try.prog.readableRec t && decide (t < Try.prog.types.size)) = true := by kernel_rfl
    have := List.all_eq_true.1 this t ht
    simp only [Bool.and_eq_true, decide_eq_true_eq] at this
    exact ⟨this.1.1, this.1.2, this.2⟩
  · intro ds hds
    match ds, hds with
    | [d0, d1], _ => rfl
theorem over : Rows.viewVotesRow.holds Try.pinned (OpenSpec.ofChange Rows.viewVotesSpec) :=
  OpenClaim.holds_of_wide 8 Try.f8 rfl rfl rfl rfl rfl rfl rfl ⟨rfl, rfl, rfl, rfl, rfl⟩ rfl rfl rfl rfl rfl (by kernel_rfl) Try.func8 (by kernel_rfl)
    (of_decide_eq_true (by kernel_rfl)) (by unfold Func.isWrapper; first | (rw [if_pos (by decide +kernel)]; kernel_rfl) | (rw [if_neg (by decide +kernel)]; exact ⟨rfl, rfl⟩))
    (fun os started H enc _ => lifted os started H enc)
end Go.Proofs.Ytpfdldcejeilnaa.viewVotes
namespace Go.Proofs.Ytpfdldcejeilnaa
/-- The row: the law's function answers true for every input. -/
theorem viewVotes_holds : Rows.ViewVotesSaid := viewVotes.over
#print axioms viewVotes_holds
end Go.Proofs.Ytpfdldcejeilnaa
