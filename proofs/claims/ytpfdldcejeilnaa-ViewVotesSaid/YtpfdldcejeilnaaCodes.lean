import Derived.Test.YtpfdldcejeilnaaCodes0
set_option linter.unusedVariables false
set_option maxRecDepth 100000
namespace Go.Proofs.Ytpfdldcejeilnaa
open Go Go.Fw
/-! (*drover/droverref08.Votes).Has -/
def ref08_Votes_Has_enc  : Bool → TV := fun r => (.bool r)
def ref08_Votes_Has_obj  : Bool → List TO := fun r => []
def ref08_Votes_Has_R  (Q : Bool → Prop) : TV → List TO → Prop := RetR (ref08_Votes_Has_enc) (ref08_Votes_Has_obj) Q
def ref08_Votes_Has_ret  (Q : Bool → Prop) (r : Bool) : Prop := ref08_Votes_Has_R Q (ref08_Votes_Has_enc r) (ref08_Votes_Has_obj r)
theorem ref08_Votes_Has_ret.intro  {Q : Bool → Prop} {r : Bool} (h : Q r) : ref08_Votes_Has_ret Q r := RetR.intro h
def ref08_Votes_Has_o2_0 : List WOp := .op (POper.mk (some 4) (.move (.const (.bool false))) none) none :: []
def ref08_Votes_Has_w2 : WC := (.region ref08_Votes_Has_o2_0)
def ref08_Votes_Has_o5_0 : List WOp := .op (POper.mk (some 7) (.move (.tmp 0)) none) none :: .op (POper.mk (some 8) (.nilc (.tmp 7)) none) none :: .op (POper.mk (some 9) (.faddr 1 (.tmp 8)) none) none :: .op (POper.mk (some 10) (.load1 (.tmp 9)) none) none :: .op (POper.mk (some 11) (.len (.tmp 10)) none) none :: .op (POper.mk (some 12) (.move (.const (.int .i64 0))) none) none :: []
def ref08_Votes_Has_w5 : WC := (.region ref08_Votes_Has_o5_0)
def ref08_Votes_Has_o9_0 : List WOp := .op (POper.mk (some 13) (.bin .lss (.tmp 12) (.tmp 11)) none) none :: []
def ref08_Votes_Has_w9 : WC := (.region ref08_Votes_Has_o9_0)
def ref08_Votes_Has_w11 : WC := (.cond (.tmp 13) .skip (.exit 0))
def ref08_Votes_Has_o17_0 : List WOp := .op (POper.mk (some 14) (.iaddr 1 (.tmp 10) (.tmp 12)) none) none :: .op (POper.mk (some 15) (.load1 (.tmp 14)) none) none :: .op (POper.mk (some 6) (.move (.tmp 15)) none) none :: []
def ref08_Votes_Has_w17 : WC := (.region ref08_Votes_Has_o17_0)
def ref08_Votes_Has_o19_0 : List WOp := .op (POper.mk (some 16) (.move (.tmp 6)) none) none :: .op (POper.mk (some 17) (.move (.tmp 1)) none) none :: .op (POper.mk (some 18) (.bin .eql (.tmp 16) (.tmp 17)) none) none :: []
def ref08_Votes_Has_w19 : WC := (.region ref08_Votes_Has_o19_0)
def ref08_Votes_Has_o22_0 : List WOp := .op (POper.mk (some 4) (.move (.const (.bool true))) none) none :: []
def ref08_Votes_Has_w22 : WC := (.region ref08_Votes_Has_o22_0)
def ref08_Votes_Has_w21 : WC := (.seq ref08_Votes_Has_w22 .ret)
def ref08_Votes_Has_w20 : WC := (.cond (.tmp 18) ref08_Votes_Has_w21 .skip)
def ref08_Votes_Has_w18 : WC := (.seq ref08_Votes_Has_w19 ref08_Votes_Has_w20)
def ref08_Votes_Has_w16 : WC := (.seq ref08_Votes_Has_w17 ref08_Votes_Has_w18)
def ref08_Votes_Has_w15 : WC := (.block 1 ref08_Votes_Has_w16)
def ref08_Votes_Has_o25_0 : List WOp := .op (POper.mk (some 19) (.bin .add (.tmp 12) (.const (.int .i64 1))) none) none :: .op (POper.mk (some 12) (.move (.tmp 19)) none) none :: []
def ref08_Votes_Has_w25 : WC := (.region ref08_Votes_Has_o25_0)
def ref08_Votes_Has_w14 : WC := (.seq ref08_Votes_Has_w15 ref08_Votes_Has_w25)
def ref08_Votes_Has_w10 : WC := (.seq ref08_Votes_Has_w11 ref08_Votes_Has_w14)
def ref08_Votes_Has_w8 : WC := (.seq ref08_Votes_Has_w9 ref08_Votes_Has_w10)
def ref08_Votes_Has_w7 : WC := (.loop [.mask [1, 10, 11, 12], .gc] ref08_Votes_Has_w8)
def ref08_Votes_Has_w6 : WC := (.block 0 (.ann [.mask [1, 10, 11, 12], .gc] ref08_Votes_Has_w7))
def ref08_Votes_Has_w4 : WC := (.seq ref08_Votes_Has_w5 ref08_Votes_Has_w6)
def ref08_Votes_Has_o27_0 : List WOp := .op (POper.mk (some 4) (.move (.const (.bool false))) none) none :: []
def ref08_Votes_Has_w27 : WC := (.region ref08_Votes_Has_o27_0)
def ref08_Votes_Has_w26 : WC := (.seq ref08_Votes_Has_w27 .ret)
def ref08_Votes_Has_w3 : WC := (.seq ref08_Votes_Has_w4 ref08_Votes_Has_w26)
def ref08_Votes_Has_w1 : WC := (.seq ref08_Votes_Has_w2 ref08_Votes_Has_w3)
theorem ref08_Votes_Has_rc : resolveC Try.prog [] (Try.f30.body.getD .skip) = some (WC.er ref08_Votes_Has_w1) := by kernel_rfl
theorem ref08_Votes_Has_rr : resolveR Try.prog Try.f30.results.toList = some [(.move (.tmp 4))] := by kernel_rfl
def ref08_Votes_Has (v0 : eR4.T) (node1 : Int) (Q : Bool → Prop) : Prop := Run Try.prog 0 (FinS Try.prog 0 Try.f30 (ref08_Votes_Has_R Q)) [.code ref08_Votes_Has_w1] [(.fp eR4 v0 0), (.int .i64 node1), .und, .und, .und, .und, .und, .und, .und, .und, .und, .und, .und, .und, .und, .und, .und, .und, .und, .und] []
def ref08_Votes_Has_l1 (node1 : Int) (v0 : eR4.T) (x2 : Int) (Q : Bool → Prop) : Prop := Run Try.prog 0 (FinS Try.prog 0 Try.f30 (ref08_Votes_Has_R Q)) [.lp [.mask [1, 10, 11, 12], .gc] ref08_Votes_Has_w8, .bend 0, .code ref08_Votes_Has_w26] [.dead, (.int .i64 node1), .dead, .dead, .dead, .dead, .dead, .dead, .dead, .dead, (.sl eI64 v0.2), (.int .i64 (v0.2.length : Int)), (.int .i64 x2), .dead, .dead, .dead, .dead, .dead, .dead, .dead] []
theorem ref08_Votes_Has_step (v0 : eR4.T) (node1 : Int) {Q : Bool → Prop} (h :
    ref08_Votes_Has_l1 node1 v0 0 Q) : ref08_Votes_Has v0 node1 Q :=
  adv_go 6000 mixed ref08_Votes_Has_rr (fa := [.gc]) (by kernel_rfl) h
theorem ref08_Votes_Has_l1_step (node1 : Int) (v0 : eR4.T) (x2 : Int) {Q : Bool → Prop} (h :
    Br (decide (x2 < (v0.2.length : Int)))
      ((0 ≤ x2 ∧ x2.toNat < v0.2.length) ∧
      Br ((rdI v0.2 x2.toNat) == node1)
        (ref08_Votes_Has_ret Q true)
        (ref08_Votes_Has_l1 node1 v0 (addK .i64 x2 1) Q))
      (ref08_Votes_Has_ret Q false)) : ref08_Votes_Has_l1 node1 v0 x2 Q :=
  run_loop (adv_go 6000 mixed ref08_Votes_Has_rr (fa := [.gc]) (by kernel_rfl) h)
theorem ref08_Votes_Has_act (v0 : eR4.T) (node1 : Int) {Q : Bool → Prop} (h : ref08_Votes_Has v0 node1 Q) : ACT Try.prog 30 [(.fp eR4 v0 0), (.int .i64 node1)] [] (ref08_Votes_Has_R Q) :=
  act_go Try.func30 (by rfl) (by kernel_rfl) ref08_Votes_Has_rc (n0 := 0) rfl (by kernel_rfl) h
theorem ref08_Votes_Has_ok (v0 : eR4.T) (node1 : Int) (r : Bool) (h : ref08_Votes_Has v0 node1 (fun x => x = r)) : ACT Try.prog 30 [(.fp eR4 v0 0), (.int .i64 node1)] [] (fun tv tL => tv = ref08_Votes_Has_enc r ∧ tL = ref08_Votes_Has_obj r) := act_det (ref08_Votes_Has_act v0 node1 h)

/-! (*drover/droverref08.Votes).Add -/
def ref08_Votes_Add_enc  : (Bool × eR4.T) → TV := fun r => (.bool r.1)
def ref08_Votes_Add_obj  : (Bool × eR4.T) → List TO := fun r => [(.arr [(.int .i64 r.2.1), (.sl eI64 r.2.2)])]
def ref08_Votes_Add_R  (Q : (Bool × eR4.T) → Prop) : TV → List TO → Prop := RetR (ref08_Votes_Add_enc) (ref08_Votes_Add_obj) Q
def ref08_Votes_Add_ret  (Q : (Bool × eR4.T) → Prop) (r : (Bool × eR4.T)) : Prop := ref08_Votes_Add_R Q (ref08_Votes_Add_enc r) (ref08_Votes_Add_obj r)
theorem ref08_Votes_Add_ret.intro  {Q : (Bool × eR4.T) → Prop} {r : (Bool × eR4.T)} (h : Q r) : ref08_Votes_Add_ret Q r := RetR.intro h
def ref08_Votes_Add_o2_0 : List WOp := .op (POper.mk (some 4) (.move (.const (.bool false))) none) none :: []
def ref08_Votes_Add_w2 : WC := (.region ref08_Votes_Add_o2_0)
def ref08_Votes_Add_o5_14 : List WOp := .op (POper.mk (some 21) (.pick (.tmp 17) (.const (.bool true)) (.tmp 20)) none) none :: []
def ref08_Votes_Add_o5_0 : List WOp := .op (POper.mk (some 7) (.move (.tmp 1)) none) none :: .op (POper.mk (some 8) (.bin .lss (.tmp 7) (.const (.int .i64 1))) none) none :: .op (POper.mk (some 9) (.move (.tmp 8)) none) none :: .op (POper.mk (some 10) (.move (.tmp 1)) (some (9, false))) none :: .op (POper.mk (some 11) (.move (.tmp 0)) (some (9, false))) none :: .op (POper.mk (some 12) (.nilc (.tmp 11)) (some (9, false))) none :: .op (POper.mk (some 13) (.faddr 0 (.tmp 12)) (some (9, false))) none :: .op (POper.mk (some 14) (.load1 (.tmp 13)) (some (9, false))) none :: .op (POper.mk (some 15) (.bin .gtr (.tmp 10) (.tmp 14)) (some (9, false))) none :: .op (POper.mk (some 16) (.pick (.tmp 9) (.const (.bool true)) (.tmp 15)) none) none :: .op (POper.mk (some 17) (.move (.tmp 16)) none) none :: .op (POper.mk (some 18) (.move (.tmp 0)) (some (17, false))) none :: .op (POper.mk (some 19) (.move (.tmp 1)) (some (17, false))) none :: .ann [.mask [0, 1, 17, 18, 19], .gc] :: .op (POper.mk (some 20) (.callf 30 [(.tmp 18), (.tmp 19)]) (some (17, false))) none :: ref08_Votes_Add_o5_14
def ref08_Votes_Add_w5 : WC := (.region ref08_Votes_Add_o5_0)
def ref08_Votes_Add_o8_0 : List WOp := .op (POper.mk (some 4) (.move (.const (.bool false))) none) none :: []
def ref08_Votes_Add_w8 : WC := (.region ref08_Votes_Add_o8_0)
def ref08_Votes_Add_w7 : WC := (.seq ref08_Votes_Add_w8 .ret)
def ref08_Votes_Add_w6 : WC := (.cond (.tmp 21) ref08_Votes_Add_w7 .skip)
def ref08_Votes_Add_w4 : WC := (.seq ref08_Votes_Add_w5 (.ann [.mask [0, 1, 21], .gc] (.cut ref08_Votes_Add_w6)))
def ref08_Votes_Add_o12_0 : List WOp := .op (POper.mk (some 22) (.bslice 1 0 [] []) none) none :: .op (POper.mk (some 23) (.move (.tmp 0)) none) none :: .op (POper.mk (some 24) (.nilc (.tmp 23)) none) none :: .op (POper.mk (some 25) (.faddr 1 (.tmp 24)) none) none :: .op (POper.mk (some 26) (.load1 (.tmp 25)) none) none :: .op (POper.mk (some 27) (.append 1 8 (.tmp 22) (.tmp 26)) none) (some eI64) :: .op (POper.mk (some 28) (.move (.tmp 1)) none) none :: .op (POper.mk (some 29) (.bslice 1 1 [(.d (.int .i64 0))] [(0, (1, (.tmp 28)))]) none) none :: .op (POper.mk (some 30) (.append 1 8 (.tmp 27) (.tmp 29)) none) (some eI64) :: .op (POper.mk (some 5) (.move (.tmp 30)) none) none :: []
def ref08_Votes_Add_w12 : WC := (.region ref08_Votes_Add_o12_0)
def ref08_Votes_Add_o15_0 : List WOp := .op (POper.mk (some 31) (.move (.tmp 5)) none) none :: .op (POper.mk (some 32) (.len (.tmp 31)) none) none :: .op (POper.mk (some 33) (.bin .sub (.tmp 32) (.const (.int .i64 1))) none) none :: .op (POper.mk (some 6) (.move (.tmp 33)) none) none :: []
def ref08_Votes_Add_w15 : WC := (.region ref08_Votes_Add_o15_0)
def ref08_Votes_Add_o20_0 : List WOp := .op (POper.mk (some 34) (.move (.tmp 6)) none) none :: .op (POper.mk (some 35) (.bin .gtr (.tmp 34) (.const (.int .i64 0))) none) none :: .op (POper.mk (some 36) (.move (.tmp 35)) none) none :: .op (POper.mk (some 37) (.move (.tmp 5)) (some (36, true))) none :: .op (POper.mk (some 38) (.move (.tmp 6)) (some (36, true))) none :: .op (POper.mk (some 39) (.bin .sub (.tmp 38) (.const (.int .i64 1))) (some (36, true))) none :: .op (POper.mk (some 40) (.iaddr 1 (.tmp 37) (.tmp 39)) (some (36, true))) none :: .op (POper.mk (some 41) (.load1 (.tmp 40)) (some (36, true))) none :: .op (POper.mk (some 42) (.move (.tmp 5)) (some (36, true))) none :: .op (POper.mk (some 43) (.move (.tmp 6)) (some (36, true))) none :: .op (POper.mk (some 44) (.iaddr 1 (.tmp 42) (.tmp 43)) (some (36, true))) none :: .op (POper.mk (some 45) (.load1 (.tmp 44)) (some (36, true))) none :: .op (POper.mk (some 46) (.bin .gtr (.tmp 41) (.tmp 45)) (some (36, true))) none :: .op (POper.mk (some 47) (.pick (.tmp 36) (.tmp 46) (.const (.bool false))) none) none :: []
def ref08_Votes_Add_e20 : List (List Nat) := [[], [0], [1, 0], [2, 1, 0], [2, 1, 0], [4, 2, 1, 0], [3, 2, 1, 0, 5, 4], [6, 3, 2, 1, 0, 5, 4], [2, 1, 0], [2, 1, 0], [8, 2, 1, 0, 9], [10, 8, 2, 1, 0, 9], [7, 6, 3, 2, 1, 0, 5, 4, 11, 10, 8, 9], [2, 1, 0, 12, 7, 6, 3, 5, 4, 11, 10, 8, 9]]
def ref08_Votes_Add_w20 : WC := (.dregion ref08_Votes_Add_o20_0 ref08_Votes_Add_e20)
def ref08_Votes_Add_w21 : WC := (.cond (.tmp 47) .skip (.exit 0))
def ref08_Votes_Add_w19 : WC := (.seq ref08_Votes_Add_w20 (.ann [.mask [0, 5, 6, 47], .gc] (.cut ref08_Votes_Add_w21)))
def ref08_Votes_Add_o26_0 : List WOp := .op (POper.mk (some 50) (.move (.tmp 5)) none) none :: .op (POper.mk (some 51) (.move (.tmp 6)) none) none :: .op (POper.mk (some 52) (.bin .sub (.tmp 51) (.const (.int .i64 1))) none) none :: .op (POper.mk (some 53) (.move (.tmp 5)) none) none :: .op (POper.mk (some 54) (.move (.tmp 6)) none) none :: .op (POper.mk (some 55) (.move (.tmp 5)) none) none :: .op (POper.mk (some 56) (.move (.tmp 6)) none) none :: .op (POper.mk (some 57) (.iaddr 1 (.tmp 55) (.tmp 56)) none) none :: .op (POper.mk (some 58) (.load1 (.tmp 57)) none) none :: .op (POper.mk (some 59) (.move (.tmp 5)) none) none :: .op (POper.mk (some 60) (.move (.tmp 6)) none) none :: .op (POper.mk (some 61) (.bin .sub (.tmp 60) (.const (.int .i64 1))) none) none :: .op (POper.mk (some 62) (.iaddr 1 (.tmp 59) (.tmp 61)) none) none :: .op (POper.mk (some 63) (.load1 (.tmp 62)) none) none :: .op (POper.mk (some 64) (.iaddr 1 (.tmp 50) (.tmp 52)) none) none :: .op (POper.mk none (.store 1 (.tmp 64) (.tmp 58)) none) none :: .op (POper.mk (some 65) (.iaddr 1 (.tmp 53) (.tmp 54)) none) none :: .op (POper.mk none (.store 1 (.tmp 65) (.tmp 63)) none) none :: []
def ref08_Votes_Add_e26 : List (List Nat) := [[], [], [1], [], [], [], [], [5, 6], [7, 5, 6], [], [], [10], [9, 11, 10], [12, 9, 11, 10], [0, 2, 1, 5, 6, 7, 8, 13, 12, 9, 11, 10], [14, 0, 2, 1, 5, 6, 7, 8, 13, 12, 9, 11, 10], [3, 4, 0, 1, 2, 5, 6, 7, 8, 9, 10, 11, 12, 13, 14, 15], [16, 3, 4, 0, 1, 2, 5, 6, 7, 8, 9, 10, 11, 12, 13, 14, 15]]
def ref08_Votes_Add_w26 : WC := (.dregion ref08_Votes_Add_o26_0 ref08_Votes_Add_e26)
def ref08_Votes_Add_w25 : WC := (.block 1 ref08_Votes_Add_w26)
def ref08_Votes_Add_o27_0 : List WOp := .op (POper.mk (some 48) (.move (.tmp 6)) none) none :: .op (POper.mk (some 49) (.bin .sub (.tmp 48) (.const (.int .i64 1))) none) none :: .op (POper.mk (some 6) (.move (.tmp 49)) none) none :: []
def ref08_Votes_Add_w27 : WC := (.region ref08_Votes_Add_o27_0)
def ref08_Votes_Add_w24 : WC := (.seq ref08_Votes_Add_w25 ref08_Votes_Add_w27)
def ref08_Votes_Add_w18 : WC := (.seq ref08_Votes_Add_w19 (.ann [.mask [0, 5, 6], .gc] (.cut ref08_Votes_Add_w24)))
def ref08_Votes_Add_w17 : WC := (.loop [.mask [0, 5, 6], .len (.s 5 []), .gc] ref08_Votes_Add_w18)
def ref08_Votes_Add_w16 : WC := (.block 0 (.ann [.mask [0, 5, 6], .len (.s 5 []), .gc] ref08_Votes_Add_w17))
def ref08_Votes_Add_w14 : WC := (.seq ref08_Votes_Add_w15 ref08_Votes_Add_w16)
def ref08_Votes_Add_o29_0 : List WOp := .op (POper.mk (some 66) (.move (.tmp 0)) none) none :: .op (POper.mk (some 67) (.move (.tmp 5)) none) none :: .op (POper.mk (some 68) (.nilc (.tmp 66)) none) none :: .op (POper.mk (some 69) (.faddr 1 (.tmp 68)) none) none :: .op (POper.mk none (.store 1 (.tmp 69) (.tmp 67)) none) none :: []
def ref08_Votes_Add_w29 : WC := (.region ref08_Votes_Add_o29_0)
def ref08_Votes_Add_o31_0 : List WOp := .op (POper.mk (some 4) (.move (.const (.bool true))) none) none :: []
def ref08_Votes_Add_w31 : WC := (.region ref08_Votes_Add_o31_0)
def ref08_Votes_Add_w30 : WC := (.seq ref08_Votes_Add_w31 .ret)
def ref08_Votes_Add_w28 : WC := (.seq ref08_Votes_Add_w29 ref08_Votes_Add_w30)
def ref08_Votes_Add_w13 : WC := (.seq ref08_Votes_Add_w14 ref08_Votes_Add_w28)
def ref08_Votes_Add_w11 : WC := (.seq ref08_Votes_Add_w12 ref08_Votes_Add_w13)
def ref08_Votes_Add_w3 : WC := (.seq ref08_Votes_Add_w4 (.ann [.mask [0, 1], .gc] (.cut ref08_Votes_Add_w11)))
def ref08_Votes_Add_w1 : WC := (.seq ref08_Votes_Add_w2 ref08_Votes_Add_w3)
theorem ref08_Votes_Add_rc : resolveC Try.prog [] (Try.f29.body.getD .skip) = some (WC.er ref08_Votes_Add_w1) := by kernel_rfl
theorem ref08_Votes_Add_rr : resolveR Try.prog Try.f29.results.toList = some [(.move (.tmp 4))] := by kernel_rfl
def ref08_Votes_Add (node0 : Int) (v1 : eR4.T) (Q : (Bool × eR4.T) → Prop) : Prop := Run Try.prog 1 (FinS Try.prog 1 Try.f29 (ref08_Votes_Add_R Q)) [.code ref08_Votes_Add_w1] [(.ptr 0 0), (.int .i64 node0), .und, .und, .und, .und, .und, .und, .und, .und, .und, .und, .und, .und, .und, .und, .und, .und, .und, .und, .und, .und, .und, .und, .und, .und, .und, .und, .und, .und, .und, .und, .und, .und, .und, .und, .und, .und, .und, .und, .und, .und, .und, .und, .und, .und, .und, .und, .und, .und, .und, .und, .und, .und, .und, .und, .und, .und, .und, .und, .und, .und, .und, .und, .und, .und, .und, .und, .und, .und] [(.arr [(.int .i64 v1.1), (.sl eI64 v1.2)])]
def ref08_Votes_Add_k1 (node0 : Int) (x2 : Bool) (v1 : eR4.T) (Q : (Bool × eR4.T) → Prop) : Prop := Run Try.prog 1 (FinS Try.prog 1 Try.f29 (ref08_Votes_Add_R Q)) [.code ref08_Votes_Add_w6, .code (.ann [.mask [0, 1], .gc] (.cut ref08_Votes_Add_w11))] [(.ptr 0 0), (.int .i64 node0), .dead, .dead, .dead, .dead, .dead, .dead, .dead, .dead, .dead, .dead, .dead, .dead, .dead, .dead, .dead, .dead, .dead, .dead, .dead, (.bool x2), .dead, .dead, .dead, .dead, .dead, .dead, .dead, .dead, .dead, .dead, .dead, .dead, .dead, .dead, .dead, .dead, .dead, .dead, .dead, .dead, .dead, .dead, .dead, .dead, .dead, .dead, .dead, .dead, .dead, .dead, .dead, .dead, .dead, .dead, .dead, .dead, .dead, .dead, .dead, .dead, .dead, .dead, .dead, .dead, .dead, .dead, .dead, .dead] [(.arr [(.int .i64 v1.1), (.sl eI64 v1.2)])]
def ref08_Votes_Add_k2 (node0 : Int) (v1 : eR4.T) (Q : (Bool × eR4.T) → Prop) : Prop := Run Try.prog 1 (FinS Try.prog 1 Try.f29 (ref08_Votes_Add_R Q)) [.code ref08_Votes_Add_w11] [(.ptr 0 0), (.int .i64 node0), .dead, .dead, .dead, .dead, .dead, .dead, .dead, .dead, .dead, .dead, .dead, .dead, .dead, .dead, .dead, .dead, .dead, .dead, .dead, .dead, .dead, .dead, .dead, .dead, .dead, .dead, .dead, .dead, .dead, .dead, .dead, .dead, .dead, .dead, .dead, .dead, .dead, .dead, .dead, .dead, .dead, .dead, .dead, .dead, .dead, .dead, .dead, .dead, .dead, .dead, .dead, .dead, .dead, .dead, .dead, .dead, .dead, .dead, .dead, .dead, .dead, .dead, .dead, .dead, .dead, .dead, .dead, .dead] [(.arr [(.int .i64 v1.1), (.sl eI64 v1.2)])]
def ref08_Votes_Add_l3 (l3 : List Int) (i4 : Int) (v1 : eR4.T) (Q : (Bool × eR4.T) → Prop) : Prop := Run Try.prog 1 (FinS Try.prog 1 Try.f29 (ref08_Votes_Add_R Q)) [.lp [.mask [0, 5, 6], .len (.s 5 []), .gc] ref08_Votes_Add_w18, .bend 0, .code ref08_Votes_Add_w28] [(.ptr 0 0), .dead, .dead, .dead, .dead, (.vf 1 eI64 l3.length false), (.int .i64 i4), .dead, .dead, .dead, .dead, .dead, .dead, .dead, .dead, .dead, .dead, .dead, .dead, .dead, .dead, .dead, .dead, .dead, .dead, .dead, .dead, .dead, .dead, .dead, .dead, .dead, .dead, .dead, .dead, .dead, .dead, .dead, .dead, .dead, .dead, .dead, .dead, .dead, .dead, .dead, .dead, .dead, .dead, .dead, .dead, .dead, .dead, .dead, .dead, .dead, .dead, .dead, .dead, .dead, .dead, .dead, .dead, .dead, .dead, .dead, .dead, .dead, .dead, .dead] [(.arr [(.int .i64 v1.1), (.sl eI64 v1.2)]), (.vec eI64 l3)]
def ref08_Votes_Add_k4 (l3 : List Int) (i4 : Int) (x5 : Bool) (v1 : eR4.T) (Q : (Bool × eR4.T) → Prop) : Prop := Run Try.prog 1 (FinS Try.prog 1 Try.f29 (ref08_Votes_Add_R Q)) [.code ref08_Votes_Add_w21, .code (.ann [.mask [0, 5, 6], .gc] (.cut ref08_Votes_Add_w24)), .lp [.mask [0, 5, 6], .len (.s 5 []), .gc] ref08_Votes_Add_w18, .bend 0, .code ref08_Votes_Add_w28] [(.ptr 0 0), .dead, .dead, .dead, .dead, (.vf 1 eI64 l3.length false), (.int .i64 i4), .dead, .dead, .dead, .dead, .dead, .dead, .dead, .dead, .dead, .dead, .dead, .dead, .dead, .dead, .dead, .dead, .dead, .dead, .dead, .dead, .dead, .dead, .dead, .dead, .dead, .dead, .dead, .dead, .dead, .dead, .dead, .dead, .dead, .dead, .dead, .dead, .dead, .dead, .dead, .dead, (.bool x5), .dead, .dead, .dead, .dead, .dead, .dead, .dead, .dead, .dead, .dead, .dead, .dead, .dead, .dead, .dead, .dead, .dead, .dead, .dead, .dead, .dead, .dead] [(.arr [(.int .i64 v1.1), (.sl eI64 v1.2)]), (.vec eI64 l3)]
def ref08_Votes_Add_k5 (l3 : List Int) (i4 : Int) (v1 : eR4.T) (Q : (Bool × eR4.T) → Prop) : Prop := Run Try.prog 1 (FinS Try.prog 1 Try.f29 (ref08_Votes_Add_R Q)) [.code ref08_Votes_Add_w24, .lp [.mask [0, 5, 6], .len (.s 5 []), .gc] ref08_Votes_Add_w18, .bend 0, .code ref08_Votes_Add_w28] [(.ptr 0 0), .dead, .dead, .dead, .dead, (.vf 1 eI64 l3.length false), (.int .i64 i4), .dead, .dead, .dead, .dead, .dead, .dead, .dead, .dead, .dead, .dead, .dead, .dead, .dead, .dead, .dead, .dead, .dead, .dead, .dead, .dead, .dead, .dead, .dead, .dead, .dead, .dead, .dead, .dead, .dead, .dead, .dead, .dead, .dead, .dead, .dead, .dead, .dead, .dead, .dead, .dead, .dead, .dead, .dead, .dead, .dead, .dead, .dead, .dead, .dead, .dead, .dead, .dead, .dead, .dead, .dead, .dead, .dead, .dead, .dead, .dead, .dead, .dead, .dead] [(.arr [(.int .i64 v1.1), (.sl eI64 v1.2)]), (.vec eI64 l3)]
def ref08_Votes_Add_c1 (node0 : Int) (v1 : eR4.T) (Q : (Bool × eR4.T) → Prop) : Prop := Run Try.prog 1 (FinS Try.prog 1 Try.f29 (ref08_Votes_Add_R Q)) [.ops (.op (POper.mk (some 20) (.callf 30 [(.tmp 18), (.tmp 19)]) none) none :: ref08_Votes_Add_o5_14), .code (.ann [.mask [0, 1, 21], .gc] (.cut ref08_Votes_Add_w6)), .code (.ann [.mask [0, 1], .gc] (.cut ref08_Votes_Add_w11))] [(.ptr 0 0), (.int .i64 node0), .dead, .dead, .dead, .dead, .dead, .dead, .dead, .dead, .dead, .dead, .dead, .dead, .dead, .dead, .dead, (.bool false), (.ptr 0 0), (.int .i64 node0), .dead, .dead, .dead, .dead, .dead, .dead, .dead, .dead, .dead, .dead, .dead, .dead, .dead, .dead, .dead, .dead, .dead, .dead, .dead, .dead, .dead, .dead, .dead, .dead, .dead, .dead, .dead, .dead, .dead, .dead, .dead, .dead, .dead, .dead, .dead, .dead, .dead, .dead, .dead, .dead, .dead, .dead, .dead, .dead, .dead, .dead, .dead, .dead, .dead, .dead] [(.arr [(.int .i64 v1.1), (.sl eI64 v1.2)])]
theorem ref08_Votes_Add_step (node0 : Int) (v1 : eR4.T) {Q : (Bool × eR4.T) → Prop} (h :
    Br (decide (node0 < 1))
      (ref08_Votes_Add_k1 node0 true v1 Q)
      (Br (decide (node0 > v1.1))
        (ref08_Votes_Add_k1 node0 true v1 Q)
        (ref08_Votes_Add_c1 node0 v1 Q))) : ref08_Votes_Add node0 v1 Q :=
  adv_go 6000 mixed ref08_Votes_Add_rr (fa := [.fit (.c 0 1) eI64, .gc]) (by kernel_rfl) h
theorem ref08_Votes_Add_k1_step (node0 : Int) (x2 : Bool) (v1 : eR4.T) {Q : (Bool × eR4.T) → Prop} (h :
    Br (x2)
      (ref08_Votes_Add_ret Q (false, v1))
      (ref08_Votes_Add_k2 node0 v1 Q)) : ref08_Votes_Add_k1 node0 x2 v1 Q :=
  adv_go 6000 mixed ref08_Votes_Add_rr (fa := [.fit (.c 0 1) eI64, .gc]) (by kernel_rfl) h
theorem ref08_Votes_Add_k2_step (node0 : Int) (v1 : eR4.T) {Q : (Bool × eR4.T) → Prop} (h :
    (0 + v1.2.length ≤ 1099511627776) ∧
    ((v1.2.length = v1.2.length) ∧ (v1.2.length + 1 ≤ 1099511627776)) ∧
    ((v1.2 ++ ([node0])).length = (v1.2 ++ ([node0])).length) ∧
    ref08_Votes_Add_l3 (v1.2 ++ ([node0])) (subK .i64 ((v1.2 ++ ([node0])).length : Int) 1) v1 Q) : ref08_Votes_Add_k2 node0 v1 Q :=
  adv_go 6000 mixed ref08_Votes_Add_rr (fa := [.fit (.c 0 1) eI64, .gc]) (by kernel_rfl) h
theorem ref08_Votes_Add_l3_step (l3 : List Int) (i4 : Int) (v1 : eR4.T) {Q : (Bool × eR4.T) → Prop} (h :
    Br (decide (i4 > 0))
      ((0 ≤ (subK .i64 i4 1) ∧ (subK .i64 i4 1).toNat < l3.length) ∧
      ((subK .i64 i4 1).toNat < l3.length) ∧
      (0 ≤ i4 ∧ i4.toNat < l3.length) ∧
      (i4.toNat < l3.length) ∧
      ref08_Votes_Add_k4 l3 i4 (decide ((rdI l3 ((subK .i64 i4 1).toNat)) > (rdI l3 i4.toNat))) v1 Q)
      (ref08_Votes_Add_k4 l3 i4 false v1 Q)) : ref08_Votes_Add_l3 l3 i4 v1 Q :=
  run_loop (adv_go 6000 mixed ref08_Votes_Add_rr (fa := [.fit (.c 0 1) eI64, .gc]) (by kernel_rfl) h)
theorem ref08_Votes_Add_k4_step (l3 : List Int) (i4 : Int) (x5 : Bool) (v1 : eR4.T) {Q : (Bool × eR4.T) → Prop} (h :
    Br (x5)
      (ref08_Votes_Add_k5 l3 i4 v1 Q)
      ((l3.length = l3.length) ∧
      ref08_Votes_Add_ret Q (true, (v1.1, l3)))) : ref08_Votes_Add_k4 l3 i4 x5 v1 Q :=
  adv_go 6000 mixed ref08_Votes_Add_rr (fa := [.fit (.c 0 1) eI64, .gc]) (by kernel_rfl) h
theorem ref08_Votes_Add_k5_step (l3 : List Int) (i4 : Int) (v1 : eR4.T) {Q : (Bool × eR4.T) → Prop} (h :
    (0 ≤ i4 ∧ i4.toNat < l3.length) ∧
    (i4.toNat < l3.length) ∧
    (0 ≤ (subK .i64 i4 1) ∧ (subK .i64 i4 1).toNat < l3.length) ∧
    ((subK .i64 i4 1).toNat < l3.length) ∧
    (0 ≤ (subK .i64 i4 1) ∧ (subK .i64 i4 1).toNat < l3.length) ∧
    ((subK .i64 i4 1).toNat < l3.length) ∧
    (0 ≤ i4 ∧ i4.toNat < l3.length) ∧
    (i4.toNat < (l3.set ((subK .i64 i4 1).toNat) (rdI l3 i4.toNat)).length) ∧
    (l3.length = ((l3.set ((subK .i64 i4 1).toNat) (rdI l3 i4.toNat)).set i4.toNat (rdI l3 ((subK .i64 i4 1).toNat))).length) ∧
    ref08_Votes_Add_l3 ((l3.set ((subK .i64 i4 1).toNat) (rdI l3 i4.toNat)).set i4.toNat (rdI l3 ((subK .i64 i4 1).toNat))) (subK .i64 i4 1) v1 Q) : ref08_Votes_Add_k5 l3 i4 v1 Q :=
  adv_go 6000 mixed ref08_Votes_Add_rr (fa := [.fit (.c 0 1) eI64, .gc]) (by kernel_rfl) h
theorem ref08_Votes_Add_c1_step (node0 : Int) (v1 : eR4.T) {Q : (Bool × eR4.T) → Prop} (r6 : Bool) (hc : ref08_Votes_Has v1 node0 (fun x => x = r6)) (h :
    ref08_Votes_Add_k1 node0 r6 v1 Q) : ref08_Votes_Add_c1 node0 v1 Q :=
  run_callf (tout := (TOut.ro 0 (lendOut [] 1 (ref08_Votes_Has_enc r6) (ref08_Votes_Has_obj r6)))) (call_ro 0 eR4 v1 (by kernel_rfl) (call_typed [] (ref08_Votes_Has_ok v1 node0 r6 hc) (by kernel_rfl) (by kernel_rfl) (by kernel_rfl)) (by kernel_rfl) (by kernel_rfl) (by kernel_rfl)) (adv_go 6000 mixed ref08_Votes_Add_rr (fa := [.fit (.c 0 1) eI64, .gc]) (by kernel_rfl) h)
theorem ref08_Votes_Add_act (node0 : Int) (v1 : eR4.T) {Q : (Bool × eR4.T) → Prop} (h : ref08_Votes_Add node0 v1 Q) : ACT Try.prog 29 [(.ptr 0 0), (.int .i64 node0)] [(.arr [(.int .i64 v1.1), (.sl eI64 v1.2)])] (ref08_Votes_Add_R Q) :=
  act_go Try.func29 (by rfl) (by kernel_rfl) ref08_Votes_Add_rc (n0 := 1) rfl (by kernel_rfl) h
theorem ref08_Votes_Add_ok (node0 : Int) (v1 : eR4.T) (r : (Bool × eR4.T)) (h : ref08_Votes_Add node0 v1 (fun x => x = r)) : ACT Try.prog 29 [(.ptr 0 0), (.int .i64 node0)] [(.arr [(.int .i64 v1.1), (.sl eI64 v1.2)])] (fun tv tL => tv = ref08_Votes_Add_enc r ∧ tL = ref08_Votes_Add_obj r) := act_det (ref08_Votes_Add_act node0 v1 h)

/-! drover/droverref08.Quorum -/
def ref08_Quorum_enc  : Int → TV := fun r => (.int .i64 r)
def ref08_Quorum_obj  : Int → List TO := fun r => []
def ref08_Quorum_R  (Q : Int → Prop) : TV → List TO → Prop := RetR (ref08_Quorum_enc) (ref08_Quorum_obj) Q
def ref08_Quorum_ret  (Q : Int → Prop) (r : Int) : Prop := ref08_Quorum_R Q (ref08_Quorum_enc r) (ref08_Quorum_obj r)
theorem ref08_Quorum_ret.intro  {Q : Int → Prop} {r : Int} (h : Q r) : ref08_Quorum_ret Q r := RetR.intro h
def ref08_Quorum_o2_0 : List WOp := .op (POper.mk (some 2) (.move (.const (.int .i64 0))) none) none :: []
def ref08_Quorum_w2 : WC := (.region ref08_Quorum_o2_0)
def ref08_Quorum_o5_2 : List WOp := .op (POper.mk (some 5) (.un .not (.tmp 4)) none) none :: []
def ref08_Quorum_o5_0 : List WOp := .op (POper.mk (some 3) (.move (.tmp 0)) none) none :: .ann [.mask [0, 3], .gc] :: .op (POper.mk (some 4) (.callf 34 [(.tmp 3)]) none) none :: ref08_Quorum_o5_2
def ref08_Quorum_w5 : WC := (.region ref08_Quorum_o5_0)
def ref08_Quorum_o8_0 : List WOp := .op (POper.mk (some 2) (.move (.const (.int .i64 0))) none) none :: []
def ref08_Quorum_w8 : WC := (.region ref08_Quorum_o8_0)
def ref08_Quorum_w7 : WC := (.seq ref08_Quorum_w8 .ret)
def ref08_Quorum_w6 : WC := (.cond (.tmp 5) ref08_Quorum_w7 .skip)
def ref08_Quorum_w4 : WC := (.seq ref08_Quorum_w5 ref08_Quorum_w6)
def ref08_Quorum_o12_0 : List WOp := .op (POper.mk (some 6) (.move (.tmp 0)) none) none :: .op (POper.mk (some 7) (.bin .quo (.tmp 6) (.const (.int .i64 2))) none) none :: .op (POper.mk (some 8) (.bin .add (.tmp 7) (.const (.int .i64 1))) none) none :: .op (POper.mk (some 2) (.move (.tmp 8)) none) none :: []
def ref08_Quorum_w12 : WC := (.region ref08_Quorum_o12_0)
def ref08_Quorum_w11 : WC := (.seq ref08_Quorum_w12 .ret)
def ref08_Quorum_w3 : WC := (.seq ref08_Quorum_w4 ref08_Quorum_w11)
def ref08_Quorum_w1 : WC := (.seq ref08_Quorum_w2 ref08_Quorum_w3)
theorem ref08_Quorum_rc : resolveC Try.prog [] (Try.f12.body.getD .skip) = some (WC.er ref08_Quorum_w1) := by kernel_rfl
theorem ref08_Quorum_rr : resolveR Try.prog Try.f12.results.toList = some [(.move (.tmp 2))] := by kernel_rfl
def ref08_Quorum (n0 : Int) (Q : Int → Prop) : Prop := Run Try.prog 0 (FinS Try.prog 0 Try.f12 (ref08_Quorum_R Q)) [.code ref08_Quorum_w1] [(.int .i64 n0), .und, .und, .und, .und, .und, .und, .und, .und] []
def ref08_Quorum_c1 (n0 : Int) (Q : Int → Prop) : Prop := Run Try.prog 0 (FinS Try.prog 0 Try.f12 (ref08_Quorum_R Q)) [.ops (.op (POper.mk (some 4) (.callf 34 [(.tmp 3)]) none) none :: ref08_Quorum_o5_2), .code ref08_Quorum_w6, .code ref08_Quorum_w11] [(.int .i64 n0), .dead, .dead, (.int .i64 n0), .dead, .dead, .dead, .dead, .dead] []
theorem ref08_Quorum_step (n0 : Int) {Q : Int → Prop} (h :
    ref08_Quorum_c1 n0 Q) : ref08_Quorum n0 Q :=
  adv_go 6000 mixed ref08_Quorum_rr (fa := [.gc]) (by kernel_rfl) h
theorem ref08_Quorum_c1_step (n0 : Int) {Q : Int → Prop} (r1 : Bool) (hc : ref08_Is n0 (fun x => x = r1)) (h :
    Br (!r1)
      (ref08_Quorum_ret Q 0)
      (((2 : Int) ≠ 0) ∧
      ref08_Quorum_ret Q (addK .i64 (quoK .i64 n0 2) 1))) : ref08_Quorum_c1 n0 Q :=
  run_callf (tout := (lendOut [] 0 (ref08_Is_enc r1) (ref08_Is_obj r1))) (call_typed [] (ref08_Is_ok n0 r1 hc) (by kernel_rfl) (by kernel_rfl) (by kernel_rfl)) (adv_go 6000 mixed ref08_Quorum_rr (fa := [.gc]) (by kernel_rfl) h)
theorem ref08_Quorum_act (n0 : Int) {Q : Int → Prop} (h : ref08_Quorum n0 Q) : ACT Try.prog 12 [(.int .i64 n0)] [] (ref08_Quorum_R Q) :=
  act_go Try.func12 (by rfl) (by kernel_rfl) ref08_Quorum_rc (n0 := 0) rfl (by kernel_rfl) h
theorem ref08_Quorum_ok (n0 : Int) (r : Int) (h : ref08_Quorum n0 (fun x => x = r)) : ACT Try.prog 12 [(.int .i64 n0)] [] (fun tv tL => tv = ref08_Quorum_enc r ∧ tL = ref08_Quorum_obj r) := act_det (ref08_Quorum_act n0 h)

/-! (*drover/droverref08.Votes).Enough -/
def ref08_Votes_Enough_enc  : Bool → TV := fun r => (.bool r)
def ref08_Votes_Enough_obj  : Bool → List TO := fun r => []
def ref08_Votes_Enough_R  (Q : Bool → Prop) : TV → List TO → Prop := RetR (ref08_Votes_Enough_enc) (ref08_Votes_Enough_obj) Q
def ref08_Votes_Enough_ret  (Q : Bool → Prop) (r : Bool) : Prop := ref08_Votes_Enough_R Q (ref08_Votes_Enough_enc r) (ref08_Votes_Enough_obj r)
theorem ref08_Votes_Enough_ret.intro  {Q : Bool → Prop} {r : Bool} (h : Q r) : ref08_Votes_Enough_ret Q r := RetR.intro h
def ref08_Votes_Enough_o2_0 : List WOp := .op (POper.mk (some 2) (.move (.const (.bool false))) none) none :: []
def ref08_Votes_Enough_w2 : WC := (.region ref08_Votes_Enough_o2_0)
def ref08_Votes_Enough_o4_10 : List WOp := .op (POper.mk (some 13) (.bin .geq (.tmp 7) (.tmp 12)) none) none :: .op (POper.mk (some 2) (.move (.tmp 13)) none) none :: []
def ref08_Votes_Enough_o4_0 : List WOp := .op (POper.mk (some 3) (.move (.tmp 0)) none) none :: .op (POper.mk (some 4) (.nilc (.tmp 3)) none) none :: .op (POper.mk (some 5) (.faddr 1 (.tmp 4)) none) none :: .op (POper.mk (some 6) (.load1 (.tmp 5)) none) none :: .op (POper.mk (some 7) (.len (.tmp 6)) none) none :: .op (POper.mk (some 8) (.move (.tmp 0)) none) none :: .op (POper.mk (some 9) (.nilc (.tmp 8)) none) none :: .op (POper.mk (some 10) (.faddr 0 (.tmp 9)) none) none :: .op (POper.mk (some 11) (.load1 (.tmp 10)) none) none :: .op (POper.mk (some 12) (.callf 12 [(.tmp 11)]) none) none :: ref08_Votes_Enough_o4_10
def ref08_Votes_Enough_e4 : List (List Nat) := [[], [0], [1, 0], [2, 1, 0], [3, 2, 1, 0], [], [5], [6, 5], [7, 6, 5], [8, 7, 6, 5], [4, 3, 2, 1, 0, 9, 8, 7, 6, 5], [10, 4, 3, 2, 1, 0, 9, 8, 7, 6, 5]]
def ref08_Votes_Enough_w4 : WC := (.dregion ref08_Votes_Enough_o4_0 ref08_Votes_Enough_e4)
def ref08_Votes_Enough_w3 : WC := (.seq ref08_Votes_Enough_w4 .ret)
def ref08_Votes_Enough_w1 : WC := (.seq ref08_Votes_Enough_w2 ref08_Votes_Enough_w3)
theorem ref08_Votes_Enough_rc : resolveC Try.prog [] (Try.f31.body.getD .skip) = some (WC.er ref08_Votes_Enough_w1) := by kernel_rfl
theorem ref08_Votes_Enough_rr : resolveR Try.prog Try.f31.results.toList = some [(.move (.tmp 2))] := by kernel_rfl
def ref08_Votes_Enough (v0 : eR4.T) (Q : Bool → Prop) : Prop := Run Try.prog 0 (FinS Try.prog 0 Try.f31 (ref08_Votes_Enough_R Q)) [.code ref08_Votes_Enough_w1] [(.fp eR4 v0 0), .und, .und, .und, .und, .und, .und, .und, .und, .und, .und, .und, .und, .und] []
def ref08_Votes_Enough_c1 (v0 : eR4.T) (Q : Bool → Prop) : Prop := Run Try.prog 0 (FinS Try.prog 0 Try.f31 (ref08_Votes_Enough_R Q)) [.dops (.op (POper.mk (some 12) (.callf 12 [(.tmp 11)]) none) none :: ref08_Votes_Enough_o4_10) ref08_Votes_Enough_e4 [([], []), ([], []), ([], []), ([], []), ([], []), ([], []), ([], []), ([], []), ([], [])], .code .ret] [(.fp eR4 v0 0), .und, (.bool false), (.fp eR4 v0 0), (.fp eR4 v0 0), (.fp eR4 v0 1), (.sl eI64 v0.2), (.int .i64 (v0.2.length : Int)), (.fp eR4 v0 0), (.fp eR4 v0 0), (.fp eR4 v0 0), (.int .i64 v0.1), .und, .und] []
theorem ref08_Votes_Enough_step (v0 : eR4.T) {Q : Bool → Prop} (h :
    ref08_Votes_Enough_c1 v0 Q) : ref08_Votes_Enough v0 Q :=
  adv_go 6000 mixed ref08_Votes_Enough_rr (fa := [.gc]) (by kernel_rfl) h
theorem ref08_Votes_Enough_c1_step (v0 : eR4.T) {Q : Bool → Prop} (r1 : Int) (hc : ref08_Quorum v0.1 (fun x => x = r1)) (h :
    ref08_Votes_Enough_ret Q (decide ((v0.2.length : Int) ≥ r1))) : ref08_Votes_Enough_c1 v0 Q :=
  run_dcallf (tout := (lendOut [] 0 (ref08_Quorum_enc r1) (ref08_Quorum_obj r1))) (call_typed [] (ref08_Quorum_ok v0.1 r1 hc) (by kernel_rfl) (by kernel_rfl) (by kernel_rfl)) (adv_go 6000 mixed ref08_Votes_Enough_rr (fa := [.gc]) (by kernel_rfl) h)
theorem ref08_Votes_Enough_act (v0 : eR4.T) {Q : Bool → Prop} (h : ref08_Votes_Enough v0 Q) : ACT Try.prog 31 [(.fp eR4 v0 0)] [] (ref08_Votes_Enough_R Q) :=
  act_go Try.func31 (by rfl) (by kernel_rfl) ref08_Votes_Enough_rc (n0 := 0) rfl (by kernel_rfl) h
theorem ref08_Votes_Enough_ok (v0 : eR4.T) (r : Bool) (h : ref08_Votes_Enough v0 (fun x => x = r)) : ACT Try.prog 31 [(.fp eR4 v0 0)] [] (fun tv tL => tv = ref08_Votes_Enough_enc r ∧ tL = ref08_Votes_Enough_obj r) := act_det (ref08_Votes_Enough_act v0 h)

/-! (*drover/view.Votes).Nodes -/
def view_Votes_Nodes_enc (v0 : eR3.T) : List Int → TV := fun r => (.vf 1 eI64 r.length false)
def view_Votes_Nodes_obj (v0 : eR3.T) : List Int → List TO := fun r => [(.arr [(.int .i64 v0.1), (.int .u64 v0.2)]), (.vec eI64 r)]
def view_Votes_Nodes_R (v0 : eR3.T) (Q : List Int → Prop) : TV → List TO → Prop := RetR (view_Votes_Nodes_enc v0) (view_Votes_Nodes_obj v0) Q
def view_Votes_Nodes_ret (v0 : eR3.T) (Q : List Int → Prop) (r : List Int) : Prop := view_Votes_Nodes_R v0 Q (view_Votes_Nodes_enc v0 r) (view_Votes_Nodes_obj v0 r)
theorem view_Votes_Nodes_ret.intro {v0 : eR3.T} {Q : List Int → Prop} {r : List Int} (h : Q r) : view_Votes_Nodes_ret v0 Q r := RetR.intro h
def view_Votes_Nodes_o2_0 : List WOp := .op (POper.mk (some 2) (.move (.const (.slice .none 0 0))) none) none :: []
def view_Votes_Nodes_w2 : WC := (.region view_Votes_Nodes_o2_0)
def view_Votes_Nodes_o4_0 : List WOp := .op (POper.mk (some 3) (.move (.const (.slice .none 0 0))) none) none :: []
def view_Votes_Nodes_w4 : WC := (.region view_Votes_Nodes_o4_0)
def view_Votes_Nodes_o7_0 : List WOp := .op (POper.mk (some 5) (.move (.tmp 0)) none) none :: .op (POper.mk (some 6) (.isnil 0 false (.tmp 5)) none) none :: []
def view_Votes_Nodes_w7 : WC := (.region view_Votes_Nodes_o7_0)
def view_Votes_Nodes_o10_0 : List WOp := .op (POper.mk (some 7) (.move (.tmp 3)) none) none :: .op (POper.mk (some 2) (.move (.tmp 7)) none) none :: []
def view_Votes_Nodes_w10 : WC := (.region view_Votes_Nodes_o10_0)
def view_Votes_Nodes_w9 : WC := (.seq view_Votes_Nodes_w10 .ret)
def view_Votes_Nodes_w8 : WC := (.cond (.tmp 6) view_Votes_Nodes_w9 .skip)
def view_Votes_Nodes_w6 : WC := (.seq view_Votes_Nodes_w7 view_Votes_Nodes_w8)
def view_Votes_Nodes_o15_0 : List WOp := .op (POper.mk (some 8) (.move (.tmp 0)) none) none :: .op (POper.mk (some 9) (.nilc (.tmp 8)) none) none :: .op (POper.mk (some 10) (.faddr 0 (.tmp 9)) none) none :: .op (POper.mk (some 11) (.load1 (.tmp 10)) none) none :: .op (POper.mk (some 12) (.bin .add (.tmp 11) (.const (.int .i64 1))) none) none :: .op (POper.mk (some 13) (.move (.const (.int .i64 0))) none) none :: []
def view_Votes_Nodes_w15 : WC := (.region view_Votes_Nodes_o15_0)
def view_Votes_Nodes_o19_0 : List WOp := .op (POper.mk (some 14) (.bin .lss (.tmp 13) (.tmp 12)) none) none :: []
def view_Votes_Nodes_w19 : WC := (.region view_Votes_Nodes_o19_0)
def view_Votes_Nodes_w21 : WC := (.cond (.tmp 14) .skip (.exit 0))
def view_Votes_Nodes_o27_0 : List WOp := .op (POper.mk (some 15) (.move (.tmp 13)) none) none :: .op (POper.mk (some 4) (.move (.tmp 15)) none) none :: []
def view_Votes_Nodes_w27 : WC := (.region view_Votes_Nodes_o27_0)
def view_Votes_Nodes_o29_3 : List WOp := []
def view_Votes_Nodes_o29_0 : List WOp := .op (POper.mk (some 16) (.move (.tmp 0)) none) none :: .op (POper.mk (some 17) (.move (.tmp 4)) none) none :: .ann [.mask [0, 3, 4, 12, 13, 16, 17], .gc] :: .op (POper.mk (some 18) (.callf 23 [(.tmp 16), (.tmp 17)]) none) none :: view_Votes_Nodes_o29_3
def view_Votes_Nodes_w29 : WC := (.region view_Votes_Nodes_o29_0)
def view_Votes_Nodes_o31_0 : List WOp := .op (POper.mk (some 19) (.move (.tmp 3)) none) none :: .op (POper.mk (some 20) (.move (.tmp 4)) none) none :: .op (POper.mk (some 21) (.bslice 1 1 [(.d (.int .i64 0))] [(0, (1, (.tmp 20)))]) none) none :: .op (POper.mk (some 22) (.append 1 8 (.tmp 19) (.tmp 21)) none) (some eI64) :: .op (POper.mk (some 3) (.move (.tmp 22)) none) none :: []
def view_Votes_Nodes_w31 : WC := (.region view_Votes_Nodes_o31_0)
def view_Votes_Nodes_w30 : WC := (.cond (.tmp 18) view_Votes_Nodes_w31 .skip)
def view_Votes_Nodes_w28 : WC := (.seq view_Votes_Nodes_w29 view_Votes_Nodes_w30)
def view_Votes_Nodes_w26 : WC := (.seq view_Votes_Nodes_w27 view_Votes_Nodes_w28)
def view_Votes_Nodes_w25 : WC := (.block 1 view_Votes_Nodes_w26)
def view_Votes_Nodes_o33_0 : List WOp := .op (POper.mk (some 23) (.bin .add (.tmp 13) (.const (.int .i64 1))) none) none :: .op (POper.mk (some 13) (.move (.tmp 23)) none) none :: []
def view_Votes_Nodes_w33 : WC := (.region view_Votes_Nodes_o33_0)
def view_Votes_Nodes_w24 : WC := (.seq view_Votes_Nodes_w25 view_Votes_Nodes_w33)
def view_Votes_Nodes_w20 : WC := (.seq view_Votes_Nodes_w21 view_Votes_Nodes_w24)
def view_Votes_Nodes_w18 : WC := (.seq view_Votes_Nodes_w19 view_Votes_Nodes_w20)
def view_Votes_Nodes_w17 : WC := (.loop [.mask [0, 3, 12, 13], .own (.s 3 []) eI64, .gc] view_Votes_Nodes_w18)
def view_Votes_Nodes_w16 : WC := (.block 0 (.ann [.mask [0, 3, 12, 13], .own (.s 3 []) eI64, .gc] view_Votes_Nodes_w17))
def view_Votes_Nodes_w14 : WC := (.seq view_Votes_Nodes_w15 view_Votes_Nodes_w16)
def view_Votes_Nodes_o35_0 : List WOp := .op (POper.mk (some 24) (.move (.tmp 3)) none) none :: .op (POper.mk (some 2) (.move (.tmp 24)) none) none :: []
def view_Votes_Nodes_w35 : WC := (.region view_Votes_Nodes_o35_0)
def view_Votes_Nodes_w34 : WC := (.seq view_Votes_Nodes_w35 .ret)
def view_Votes_Nodes_w13 : WC := (.seq view_Votes_Nodes_w14 view_Votes_Nodes_w34)
def view_Votes_Nodes_w5 : WC := (.seq view_Votes_Nodes_w6 view_Votes_Nodes_w13)
def view_Votes_Nodes_w3 : WC := (.seq view_Votes_Nodes_w4 view_Votes_Nodes_w5)
def view_Votes_Nodes_w1 : WC := (.seq view_Votes_Nodes_w2 view_Votes_Nodes_w3)
theorem view_Votes_Nodes_rc : resolveC Try.prog [] (Try.f27.body.getD .skip) = some (WC.er view_Votes_Nodes_w1) := by kernel_rfl
theorem view_Votes_Nodes_rr : resolveR Try.prog Try.f27.results.toList = some [(.move (.tmp 2))] := by kernel_rfl
def view_Votes_Nodes (v0 : eR3.T) (Q : List Int → Prop) : Prop := Run Try.prog 1 (FinS Try.prog 1 Try.f27 (view_Votes_Nodes_R v0 Q)) [.code view_Votes_Nodes_w1] [(.ptr 0 0), .und, .und, .und, .und, .und, .und, .und, .und, .und, .und, .und, .und, .und, .und, .und, .und, .und, .und, .und, .und, .und, .und, .und, .und] [(.arr [(.int .i64 v0.1), (.int .u64 v0.2)])]
def view_Votes_Nodes_l1 (l1 : List Int) (v0 : eR3.T) (x2 : Int) (Q : List Int → Prop) : Prop := Run Try.prog 1 (FinS Try.prog 1 Try.f27 (view_Votes_Nodes_R v0 Q)) [.lp [.mask [0, 3, 12, 13], .own (.s 3 []) eI64, .gc] view_Votes_Nodes_w18, .bend 0, .code view_Votes_Nodes_w34] [(.ptr 0 0), .dead, .dead, (.vf 1 eI64 l1.length false), .dead, .dead, .dead, .dead, .dead, .dead, .dead, .dead, (.int .i64 (addK .i64 v0.1 1)), (.int .i64 x2), .dead, .dead, .dead, .dead, .dead, .dead, .dead, .dead, .dead, .dead, .dead] [(.arr [(.int .i64 v0.1), (.int .u64 v0.2)]), (.vec eI64 l1)]
def view_Votes_Nodes_c1 (l1 : List Int) (x2 : Int) (v0 : eR3.T) (Q : List Int → Prop) : Prop := Run Try.prog 1 (FinS Try.prog 1 Try.f27 (view_Votes_Nodes_R v0 Q)) [.ops (.op (POper.mk (some 18) (.callf 23 [(.tmp 16), (.tmp 17)]) none) none :: view_Votes_Nodes_o29_3), .code view_Votes_Nodes_w30, .bend 1, .code view_Votes_Nodes_w33, .lp [.mask [0, 3, 12, 13], .own (.s 3 []) eI64, .gc] view_Votes_Nodes_w18, .bend 0, .code view_Votes_Nodes_w34] [(.ptr 0 0), .dead, .dead, (.vf 1 eI64 l1.length false), (.int .i64 x2), .dead, .dead, .dead, .dead, .dead, .dead, .dead, (.int .i64 (addK .i64 v0.1 1)), (.int .i64 x2), .dead, .dead, (.ptr 0 0), (.int .i64 x2), .dead, .dead, .dead, .dead, .dead, .dead, .dead] [(.arr [(.int .i64 v0.1), (.int .u64 v0.2)]), (.vec eI64 l1)]
theorem view_Votes_Nodes_step (v0 : eR3.T) {Q : List Int → Prop} (h :
    view_Votes_Nodes_l1 ([]) v0 0 Q) : view_Votes_Nodes v0 Q :=
  adv_go 6000 mixed view_Votes_Nodes_rr (fa := [.own (.s 0 []) eI64, .gc]) (by kernel_rfl) h
theorem view_Votes_Nodes_l1_step (l1 : List Int) (v0 : eR3.T) (x2 : Int) {Q : List Int → Prop} (h :
    Br (decide (x2 < (addK .i64 v0.1 1)))
      (view_Votes_Nodes_c1 l1 x2 v0 Q)
      (view_Votes_Nodes_ret v0 Q l1)) : view_Votes_Nodes_l1 l1 v0 x2 Q :=
  run_loop (adv_go 6000 mixed view_Votes_Nodes_rr (fa := [.own (.s 0 []) eI64, .gc]) (by kernel_rfl) h)
theorem view_Votes_Nodes_c1_step (l1 : List Int) (x2 : Int) (v0 : eR3.T) {Q : List Int → Prop} (r3 : Bool) (hc : view_Votes_Has v0 x2 (fun x => x = r3)) (h :
    Br (r3)
      (((l1.length = l1.length) ∧ (l1.length + 1 ≤ 1099511627776)) ∧
      view_Votes_Nodes_l1 (l1 ++ ([x2])) v0 (addK .i64 x2 1) Q)
      (view_Votes_Nodes_l1 l1 v0 (addK .i64 x2 1) Q)) : view_Votes_Nodes_c1 l1 x2 v0 Q :=
  run_callf (tout := (TOut.ro 0 (lendOut [] 2 (view_Votes_Has_enc r3) (view_Votes_Has_obj r3)))) (call_ro 0 eR3 v0 (by kernel_rfl) (call_typed [] (view_Votes_Has_ok v0 x2 r3 hc) (by kernel_rfl) (by kernel_rfl) (by kernel_rfl)) (by kernel_rfl) (by kernel_rfl) (by kernel_rfl)) (adv_go 6000 mixed view_Votes_Nodes_rr (fa := [.own (.s 0 []) eI64, .gc]) (by kernel_rfl) h)
theorem view_Votes_Nodes_act (v0 : eR3.T) {Q : List Int → Prop} (h : view_Votes_Nodes v0 Q) : ACT Try.prog 27 [(.ptr 0 0)] [(.arr [(.int .i64 v0.1), (.int .u64 v0.2)])] (view_Votes_Nodes_R v0 Q) :=
  act_go Try.func27 (by rfl) (by kernel_rfl) view_Votes_Nodes_rc (n0 := 1) rfl (by kernel_rfl) h
theorem view_Votes_Nodes_ok (v0 : eR3.T) (r : List Int) (h : view_Votes_Nodes v0 (fun x => x = r)) : ACT Try.prog 27 [(.ptr 0 0)] [(.arr [(.int .i64 v0.1), (.int .u64 v0.2)])] (fun tv tL => tv = view_Votes_Nodes_enc v0 r ∧ tL = view_Votes_Nodes_obj v0 r) := act_det (view_Votes_Nodes_act v0 h)

/-! drover/droverref01.Ints -/
def ref01_Ints_enc  : Bool → TV := fun r => (.bool r)
def ref01_Ints_obj  : Bool → List TO := fun r => []
def ref01_Ints_R  (Q : Bool → Prop) : TV → List TO → Prop := RetR (ref01_Ints_enc) (ref01_Ints_obj) Q
def ref01_Ints_ret  (Q : Bool → Prop) (r : Bool) : Prop := ref01_Ints_R Q (ref01_Ints_enc r) (ref01_Ints_obj r)
theorem ref01_Ints_ret.intro  {Q : Bool → Prop} {r : Bool} (h : Q r) : ref01_Ints_ret Q r := RetR.intro h
def ref01_Ints_o2_0 : List WOp := .op (POper.mk (some 4) (.move (.const (.bool false))) none) none :: []
def ref01_Ints_w2 : WC := (.region ref01_Ints_o2_0)
def ref01_Ints_o5_0 : List WOp := .op (POper.mk (some 6) (.move (.tmp 0)) none) none :: .op (POper.mk (some 7) (.len (.tmp 6)) none) none :: .op (POper.mk (some 8) (.move (.tmp 1)) none) none :: .op (POper.mk (some 9) (.len (.tmp 8)) none) none :: .op (POper.mk (some 10) (.bin .neq (.tmp 7) (.tmp 9)) none) none :: []
def ref01_Ints_w5 : WC := (.region ref01_Ints_o5_0)
def ref01_Ints_o8_0 : List WOp := .op (POper.mk (some 4) (.move (.const (.bool false))) none) none :: []
def ref01_Ints_w8 : WC := (.region ref01_Ints_o8_0)
def ref01_Ints_w7 : WC := (.seq ref01_Ints_w8 .ret)
def ref01_Ints_w6 : WC := (.cond (.tmp 10) ref01_Ints_w7 .skip)
def ref01_Ints_w4 : WC := (.seq ref01_Ints_w5 ref01_Ints_w6)
def ref01_Ints_o13_0 : List WOp := .op (POper.mk (some 11) (.move (.tmp 0)) none) none :: .op (POper.mk (some 12) (.len (.tmp 11)) none) none :: .op (POper.mk (some 13) (.move (.const (.int .i64 0))) none) none :: []
def ref01_Ints_w13 : WC := (.region ref01_Ints_o13_0)
def ref01_Ints_o17_0 : List WOp := .op (POper.mk (some 14) (.bin .lss (.tmp 13) (.tmp 12)) none) none :: []
def ref01_Ints_w17 : WC := (.region ref01_Ints_o17_0)
def ref01_Ints_w19 : WC := (.cond (.tmp 14) .skip (.exit 0))
def ref01_Ints_o25_0 : List WOp := .op (POper.mk (some 15) (.move (.tmp 13)) none) none :: .op (POper.mk (some 5) (.move (.tmp 15)) none) none :: []
def ref01_Ints_w25 : WC := (.region ref01_Ints_o25_0)
def ref01_Ints_o27_0 : List WOp := .op (POper.mk (some 16) (.move (.tmp 0)) none) none :: .op (POper.mk (some 17) (.move (.tmp 5)) none) none :: .op (POper.mk (some 18) (.iaddr 1 (.tmp 16) (.tmp 17)) none) none :: .op (POper.mk (some 19) (.load1 (.tmp 18)) none) none :: .op (POper.mk (some 20) (.move (.tmp 1)) none) none :: .op (POper.mk (some 21) (.move (.tmp 5)) none) none :: .op (POper.mk (some 22) (.iaddr 1 (.tmp 20) (.tmp 21)) none) none :: .op (POper.mk (some 23) (.load1 (.tmp 22)) none) none :: .op (POper.mk (some 24) (.bin .neq (.tmp 19) (.tmp 23)) none) none :: []
def ref01_Ints_e27 : List (List Nat) := [[], [], [0, 1], [2, 0, 1], [], [], [4, 5], [6, 4, 5], [3, 2, 0, 1, 7, 6, 4, 5]]
def ref01_Ints_w27 : WC := (.dregion ref01_Ints_o27_0 ref01_Ints_e27)
def ref01_Ints_o30_0 : List WOp := .op (POper.mk (some 4) (.move (.const (.bool false))) none) none :: []
def ref01_Ints_w30 : WC := (.region ref01_Ints_o30_0)
def ref01_Ints_w29 : WC := (.seq ref01_Ints_w30 .ret)
def ref01_Ints_w28 : WC := (.cond (.tmp 24) ref01_Ints_w29 .skip)
def ref01_Ints_w26 : WC := (.seq ref01_Ints_w27 ref01_Ints_w28)
def ref01_Ints_w24 : WC := (.seq ref01_Ints_w25 ref01_Ints_w26)
def ref01_Ints_w23 : WC := (.block 1 ref01_Ints_w24)
def ref01_Ints_o33_0 : List WOp := .op (POper.mk (some 25) (.bin .add (.tmp 13) (.const (.int .i64 1))) none) none :: .op (POper.mk (some 13) (.move (.tmp 25)) none) none :: []
def ref01_Ints_w33 : WC := (.region ref01_Ints_o33_0)
def ref01_Ints_w22 : WC := (.seq ref01_Ints_w23 ref01_Ints_w33)
def ref01_Ints_w18 : WC := (.seq ref01_Ints_w19 ref01_Ints_w22)
def ref01_Ints_w16 : WC := (.seq ref01_Ints_w17 ref01_Ints_w18)
def ref01_Ints_w15 : WC := (.loop [.mask [0, 1, 12, 13], .gc] ref01_Ints_w16)
def ref01_Ints_w14 : WC := (.block 0 (.ann [.mask [0, 1, 12, 13], .gc] ref01_Ints_w15))
def ref01_Ints_w12 : WC := (.seq ref01_Ints_w13 ref01_Ints_w14)
def ref01_Ints_o35_0 : List WOp := .op (POper.mk (some 4) (.move (.const (.bool true))) none) none :: []
def ref01_Ints_w35 : WC := (.region ref01_Ints_o35_0)
def ref01_Ints_w34 : WC := (.seq ref01_Ints_w35 .ret)
def ref01_Ints_w11 : WC := (.seq ref01_Ints_w12 ref01_Ints_w34)
def ref01_Ints_w3 : WC := (.seq ref01_Ints_w4 ref01_Ints_w11)
def ref01_Ints_w1 : WC := (.seq ref01_Ints_w2 ref01_Ints_w3)
theorem ref01_Ints_rc : resolveC Try.prog [] (Try.f32.body.getD .skip) = some (WC.er ref01_Ints_w1) := by kernel_rfl
theorem ref01_Ints_rr : resolveR Try.prog Try.f32.results.toList = some [(.move (.tmp 4))] := by kernel_rfl
def ref01_Ints (a0 : List Int) (b1 : List Int) (Q : Bool → Prop) : Prop := Run Try.prog 0 (FinS Try.prog 0 Try.f32 (ref01_Ints_R Q)) [.code ref01_Ints_w1] [(.sl eI64 a0), (.sl eI64 b1), .und, .und, .und, .und, .und, .und, .und, .und, .und, .und, .und, .und, .und, .und, .und, .und, .und, .und, .und, .und, .und, .und, .und, .und] []
def ref01_Ints_l1 (a0 : List Int) (b1 : List Int) (x2 : Int) (Q : Bool → Prop) : Prop := Run Try.prog 0 (FinS Try.prog 0 Try.f32 (ref01_Ints_R Q)) [.lp [.mask [0, 1, 12, 13], .gc] ref01_Ints_w16, .bend 0, .code ref01_Ints_w34] [(.sl eI64 a0), (.sl eI64 b1), .dead, .dead, .dead, .dead, .dead, .dead, .dead, .dead, .dead, .dead, (.int .i64 (a0.length : Int)), (.int .i64 x2), .dead, .dead, .dead, .dead, .dead, .dead, .dead, .dead, .dead, .dead, .dead, .dead] []
theorem ref01_Ints_step (a0 : List Int) (b1 : List Int) {Q : Bool → Prop} (h :
    Br ((a0.length : Int) != (b1.length : Int))
      (ref01_Ints_ret Q false)
      (ref01_Ints_l1 a0 b1 0 Q)) : ref01_Ints a0 b1 Q :=
  adv_go 6000 mixed ref01_Ints_rr (fa := [.gc]) (by kernel_rfl) h
theorem ref01_Ints_l1_step (a0 : List Int) (b1 : List Int) (x2 : Int) {Q : Bool → Prop} (h :
    Br (decide (x2 < (a0.length : Int)))
      ((0 ≤ x2 ∧ x2.toNat < a0.length) ∧
      (0 ≤ x2 ∧ x2.toNat < b1.length) ∧
      Br ((rdI a0 x2.toNat) != (rdI b1 x2.toNat))
        (ref01_Ints_ret Q false)
        (ref01_Ints_l1 a0 b1 (addK .i64 x2 1) Q))
      (ref01_Ints_ret Q true)) : ref01_Ints_l1 a0 b1 x2 Q :=
  run_loop (adv_go 6000 mixed ref01_Ints_rr (fa := [.gc]) (by kernel_rfl) h)
theorem ref01_Ints_act (a0 : List Int) (b1 : List Int) {Q : Bool → Prop} (h : ref01_Ints a0 b1 Q) : ACT Try.prog 32 [(.sl eI64 a0), (.sl eI64 b1)] [] (ref01_Ints_R Q) :=
  act_go Try.func32 (by rfl) (by kernel_rfl) ref01_Ints_rc (n0 := 0) rfl (by kernel_rfl) h
theorem ref01_Ints_ok (a0 : List Int) (b1 : List Int) (r : Bool) (h : ref01_Ints a0 b1 (fun x => x = r)) : ACT Try.prog 32 [(.sl eI64 a0), (.sl eI64 b1)] [] (fun tv tL => tv = ref01_Ints_enc r ∧ tL = ref01_Ints_obj r) := act_det (ref01_Ints_act a0 b1 h)

/-! drover/droverlaw08.ViewVotes -/
def law08_ViewVotes_enc  : Bool → TV := fun r => (.bool r)
def law08_ViewVotes_obj  : Bool → List TO := fun r => []
def law08_ViewVotes_R  (Q : Bool → Prop) : TV → List TO → Prop := RetR (law08_ViewVotes_enc) (law08_ViewVotes_obj) Q
def law08_ViewVotes_ret  (Q : Bool → Prop) (r : Bool) : Prop := law08_ViewVotes_R Q (law08_ViewVotes_enc r) (law08_ViewVotes_obj r)
theorem law08_ViewVotes_ret.intro  {Q : Bool → Prop} {r : Bool} (h : Q r) : law08_ViewVotes_ret Q r := RetR.intro h
def law08_ViewVotes_o2_0 : List WOp := .op (POper.mk (some 4) (.move (.const (.bool false))) none) none :: []
def law08_ViewVotes_w2 : WC := (.region law08_ViewVotes_o2_0)
def law08_ViewVotes_o4_4 : List WOp := .op (POper.mk (some 5) (.move (.tmp 10)) none) none :: .op (POper.mk (some 6) (.move (.tmp 12)) none) none :: []
def law08_ViewVotes_o4_2 : List WOp := .op (POper.mk (some 11) (.move (.tmp 0)) none) none :: .ann [.mask [1, 10, 11], .gc] :: .op (POper.mk (some 12) (.callf 28 [(.tmp 11)]) none) none :: law08_ViewVotes_o4_4
def law08_ViewVotes_o4_0 : List WOp := .op (POper.mk (some 9) (.move (.tmp 0)) none) none :: .ann [.mask [0, 1, 9], .gc] :: .op (POper.mk (some 10) (.callf 21 [(.tmp 9)]) none) none :: law08_ViewVotes_o4_2
def law08_ViewVotes_w4 : WC := (.region law08_ViewVotes_o4_0)
def law08_ViewVotes_o7_0 : List WOp := .op (POper.mk (some 13) (.move (.tmp 5)) none) none :: .op (POper.mk (some 14) (.isnil 0 false (.tmp 13)) none) none :: .op (POper.mk (some 15) (.move (.tmp 6)) none) none :: .op (POper.mk (some 16) (.isnil 0 false (.tmp 15)) none) none :: .op (POper.mk (some 17) (.binB true (.tmp 14) (.tmp 16)) none) none :: []
def law08_ViewVotes_w7 : WC := (.region law08_ViewVotes_o7_0)
def law08_ViewVotes_o10_0 : List WOp := .op (POper.mk (some 4) (.move (.const (.bool false))) none) none :: []
def law08_ViewVotes_w10 : WC := (.region law08_ViewVotes_o10_0)
def law08_ViewVotes_w9 : WC := (.seq law08_ViewVotes_w10 .ret)
def law08_ViewVotes_w8 : WC := (.cond (.tmp 17) law08_ViewVotes_w9 .skip)
def law08_ViewVotes_w6 : WC := (.seq law08_ViewVotes_w7 law08_ViewVotes_w8)
def law08_ViewVotes_o15_0 : List WOp := .op (POper.mk (some 18) (.move (.tmp 6)) none) none :: .op (POper.mk (some 19) (.isnil 0 false (.tmp 18)) none) none :: .op (POper.mk (some 20) (.move (.tmp 19)) none) none :: .op (POper.mk (some 21) (.move (.tmp 1)) (some (20, false))) none :: .op (POper.mk (some 22) (.len (.tmp 21)) (some (20, false))) none :: .op (POper.mk (some 23) (.bin .gtr (.tmp 22) (.const (.int .i64 100))) (some (20, false))) none :: .op (POper.mk (some 24) (.pick (.tmp 20) (.const (.bool true)) (.tmp 23)) none) none :: []
def law08_ViewVotes_w15 : WC := (.region law08_ViewVotes_o15_0)
def law08_ViewVotes_o18_1 : List WOp := .op (POper.mk (some 4) (.move (.tmp 25)) none) none :: []
def law08_ViewVotes_o18_0 : List WOp := .ann [.mask [], .gc] :: .op (POper.mk (some 25) (.callf 17 []) none) none :: law08_ViewVotes_o18_1
def law08_ViewVotes_w18 : WC := (.region law08_ViewVotes_o18_0)
def law08_ViewVotes_w17 : WC := (.seq law08_ViewVotes_w18 .ret)
def law08_ViewVotes_w16 : WC := (.cond (.tmp 24) law08_ViewVotes_w17 .skip)
def law08_ViewVotes_w14 : WC := (.seq law08_ViewVotes_w15 law08_ViewVotes_w16)
def law08_ViewVotes_o23_0 : List WOp := .op (POper.mk (some 26) (.move (.tmp 1)) none) none :: .op (POper.mk (some 27) (.len (.tmp 26)) none) none :: .op (POper.mk (some 28) (.move (.const (.int .i64 0))) none) none :: []
def law08_ViewVotes_w23 : WC := (.region law08_ViewVotes_o23_0)
def law08_ViewVotes_o27_0 : List WOp := .op (POper.mk (some 29) (.bin .lss (.tmp 28) (.tmp 27)) none) none :: []
def law08_ViewVotes_w27 : WC := (.region law08_ViewVotes_o27_0)
def law08_ViewVotes_w29 : WC := (.cond (.tmp 29) .skip (.exit 0))
def law08_ViewVotes_o35_0 : List WOp := .op (POper.mk (some 30) (.iaddr 1 (.tmp 26) (.tmp 28)) none) none :: .op (POper.mk (some 31) (.load1 (.tmp 30)) none) none :: .op (POper.mk (some 8) (.move (.tmp 31)) none) none :: []
def law08_ViewVotes_w35 : WC := (.region law08_ViewVotes_o35_0)
def law08_ViewVotes_o38_0 : List WOp := .op (POper.mk (some 32) (.move (.tmp 8)) none) none :: .op (POper.mk (some 33) (.bin .eql (.tmp 32) (.const (.int .i64 (-7)))) none) none :: []
def law08_ViewVotes_w38 : WC := (.region law08_ViewVotes_o38_0)
def law08_ViewVotes_o41_2 : List WOp := []
def law08_ViewVotes_o41_0 : List WOp := .op (POper.mk (some 34) (.move (.tmp 5)) none) none :: .ann [.mask [5, 6, 26, 27, 28, 34], .gc] :: .op (POper.mk (some 35) (.callf 26 [(.tmp 34)]) none) none :: law08_ViewVotes_o41_2
def law08_ViewVotes_w41 : WC := (.region law08_ViewVotes_o41_0)
def law08_ViewVotes_o43_0 : List WOp := .op (POper.mk (some 36) (.move (.tmp 6)) none) none :: .op (POper.mk (some 37) (.nilc (.tmp 36)) none) none :: .op (POper.mk (some 38) (.faddr 1 (.tmp 37)) none) none :: .op (POper.mk none (.store 1 (.tmp 38) (.const (.slice .none 0 0))) none) none :: []
def law08_ViewVotes_w43 : WC := (.region law08_ViewVotes_o43_0)
def law08_ViewVotes_w42 : WC := (.seq law08_ViewVotes_w43 (.exit 1))
def law08_ViewVotes_w40 : WC := (.seq law08_ViewVotes_w41 law08_ViewVotes_w42)
def law08_ViewVotes_w39 : WC := (.cond (.tmp 33) law08_ViewVotes_w40 .skip)
def law08_ViewVotes_w37 : WC := (.seq law08_ViewVotes_w38 law08_ViewVotes_w39)
def law08_ViewVotes_o47_41 : List WOp := .op (POper.mk (some 80) (.un .not (.tmp 79)) (some (72, false))) none :: .op (POper.mk (some 81) (.pick (.tmp 72) (.const (.bool true)) (.tmp 80)) none) none :: []
def law08_ViewVotes_o47_36 : List WOp := .op (POper.mk (some 75) (.move (.tmp 6)) (some (72, false))) none :: .op (POper.mk (some 76) (.nilc (.tmp 75)) (some (72, false))) none :: .op (POper.mk (some 77) (.faddr 1 (.tmp 76)) (some (72, false))) none :: .op (POper.mk (some 78) (.load1 (.tmp 77)) (some (72, false))) none :: .op (POper.mk (some 79) (.callf 32 [(.tmp 74), (.tmp 78)]) (some (72, false))) none :: law08_ViewVotes_o47_41
def law08_ViewVotes_o47_31 : List WOp := .op (POper.mk (some 70) (.binB true (.tmp 67) (.tmp 69)) (some (65, false))) none :: .op (POper.mk (some 71) (.pick (.tmp 65) (.const (.bool true)) (.tmp 70)) none) none :: .op (POper.mk (some 72) (.move (.tmp 71)) none) none :: .op (POper.mk (some 73) (.move (.tmp 5)) (some (72, false))) none :: .op (POper.mk (some 74) (.callf 27 [(.tmp 73)]) (some (72, false))) none :: law08_ViewVotes_o47_36
def law08_ViewVotes_o47_29 : List WOp := .op (POper.mk (some 68) (.move (.tmp 6)) (some (65, false))) none :: .op (POper.mk (some 69) (.callf 31 [(.tmp 68)]) (some (65, false))) none :: law08_ViewVotes_o47_31
def law08_ViewVotes_o47_19 : List WOp := .op (POper.mk (some 58) (.move (.tmp 6)) (some (55, false))) none :: .op (POper.mk (some 59) (.nilc (.tmp 58)) (some (55, false))) none :: .op (POper.mk (some 60) (.faddr 1 (.tmp 59)) (some (55, false))) none :: .op (POper.mk (some 61) (.load1 (.tmp 60)) (some (55, false))) none :: .op (POper.mk (some 62) (.len (.tmp 61)) (some (55, false))) none :: .op (POper.mk (some 63) (.bin .neq (.tmp 57) (.tmp 62)) (some (55, false))) none :: .op (POper.mk (some 64) (.pick (.tmp 55) (.const (.bool true)) (.tmp 63)) none) none :: .op (POper.mk (some 65) (.move (.tmp 64)) none) none :: .op (POper.mk (some 66) (.move (.tmp 5)) (some (65, false))) none :: .op (POper.mk (some 67) (.callf 24 [(.tmp 66)]) (some (65, false))) none :: law08_ViewVotes_o47_29
def law08_ViewVotes_o47_14 : List WOp := .op (POper.mk (some 53) (.binB true (.tmp 49) (.tmp 52)) (some (46, false))) none :: .op (POper.mk (some 54) (.pick (.tmp 46) (.const (.bool true)) (.tmp 53)) none) none :: .op (POper.mk (some 55) (.move (.tmp 54)) none) none :: .op (POper.mk (some 56) (.move (.tmp 5)) (some (55, false))) none :: .op (POper.mk (some 57) (.callf 25 [(.tmp 56)]) (some (55, false))) none :: law08_ViewVotes_o47_19
def law08_ViewVotes_o47_11 : List WOp := .op (POper.mk (some 50) (.move (.tmp 6)) (some (46, false))) none :: .op (POper.mk (some 51) (.move (.tmp 8)) (some (46, false))) none :: .op (POper.mk (some 52) (.callf 30 [(.tmp 50), (.tmp 51)]) (some (46, false))) none :: law08_ViewVotes_o47_14
def law08_ViewVotes_o47_6 : List WOp := .op (POper.mk (some 45) (.binB true (.tmp 41) (.tmp 44)) none) none :: .op (POper.mk (some 46) (.move (.tmp 45)) none) none :: .op (POper.mk (some 47) (.move (.tmp 5)) (some (46, false))) none :: .op (POper.mk (some 48) (.move (.tmp 8)) (some (46, false))) none :: .op (POper.mk (some 49) (.callf 23 [(.tmp 47), (.tmp 48)]) (some (46, false))) none :: law08_ViewVotes_o47_11
def law08_ViewVotes_o47_3 : List WOp := .op (POper.mk (some 42) (.move (.tmp 6)) none) none :: .op (POper.mk (some 43) (.move (.tmp 8)) none) none :: .op (POper.mk (some 44) (.callf 29 [(.tmp 42), (.tmp 43)]) none) none :: law08_ViewVotes_o47_6
def law08_ViewVotes_o47_0 : List WOp := .op (POper.mk (some 39) (.move (.tmp 5)) none) none :: .op (POper.mk (some 40) (.move (.tmp 8)) none) none :: .op (POper.mk (some 41) (.callf 22 [(.tmp 39), (.tmp 40)]) none) none :: law08_ViewVotes_o47_3
def law08_ViewVotes_e47 : List (List Nat) := [[], [], [0, 1], [], [], [3, 4, 2, 0, 1], [2, 0, 1, 5, 3, 4], [6, 2, 0, 1, 5, 3, 4], [7, 6, 2, 0, 1, 5, 3, 4], [7, 6, 2, 0, 1, 5, 3, 4], [8, 7, 6, 2, 0, 1, 5, 3, 4, 9], [7, 6, 2, 0, 1, 5, 3, 4], [7, 6, 2, 0, 1, 5, 3, 4], [11, 7, 6, 2, 0, 1, 5, 3, 4, 12, 10, 8, 9], [10, 8, 7, 6, 2, 0, 1, 5, 3, 4, 9, 13, 11, 12], [7, 6, 2, 0, 1, 5, 3, 4, 14, 10, 8, 9, 13, 11, 12], [15, 7, 6, 2, 0, 1, 5, 3, 4, 14, 10, 8, 9, 13, 11, 12], [16, 15, 7, 6, 2, 0, 1, 5, 3, 4, 14, 10, 8, 9, 13, 11, 12], [17, 16, 15, 7, 6, 2, 0, 1, 5, 3, 4, 14, 10, 8, 9, 13, 11, 12], [16, 15, 7, 6, 2, 0, 1, 5, 3, 4, 14, 10, 8, 9, 13, 11, 12], [19, 16, 15, 7, 6, 2, 0, 1, 5, 3, 4, 14, 10, 8, 9, 13, 11, 12], [20, 19, 16, 15, 7, 6, 2, 0, 1, 5, 3, 4, 14, 10, 8, 9, 13, 11, 12], [21, 20, 19, 16, 15, 7, 6, 2, 0, 1, 5, 3, 4, 14, 10, 8, 9, 13, 11, 12], [22, 21, 20, 19, 16, 15, 7, 6, 2, 0, 1, 5, 3, 4, 14, 10, 8, 9, 13, 11, 12], [18, 17, 16, 15, 7, 6, 2, 0, 1, 5, 3, 4, 14, 10, 8, 9, 13, 11, 12, 23, 22, 21, 20, 19], [16, 15, 7, 6, 2, 0, 1, 5, 3, 4, 14, 10, 8, 9, 13, 11, 12, 24, 18, 17, 23, 22, 21, 20, 19], [25, 16, 15, 7, 6, 2, 0, 1, 5, 3, 4, 14, 10, 8, 9, 13, 11, 12, 24, 18, 17, 23, 22, 21, 20, 19], [26, 25, 16, 15, 7, 6, 2, 0, 1, 5, 3, 4, 14, 10, 8, 9, 13, 11, 12, 24, 18, 17, 23, 22, 21, 20, 19], [27, 26, 25, 16, 15, 7, 6, 2, 0, 1, 5, 3, 4, 14, 10, 8, 9, 13, 11, 12, 24, 18, 17, 23, 22, 21, 20, 19], [26, 25, 16, 15, 7, 6, 2, 0, 1, 5, 3, 4, 14, 10, 8, 9, 13, 11, 12, 24, 18, 17, 23, 22, 21, 20, 19], [29, 26, 25, 16, 15, 7, 6, 2, 0, 1, 5, 3, 4, 14, 10, 8, 9, 13, 11, 12, 24, 18, 17, 23, 22, 21, 20, 19, 28, 27], [28, 27, 26, 25, 16, 15, 7, 6, 2, 0, 1, 5, 3, 4, 14, 10, 8, 9, 13, 11, 12, 24, 18, 17, 23, 22, 21, 20, 19, 30, 29], [26, 25, 16, 15, 7, 6, 2, 0, 1, 5, 3, 4, 14, 10, 8, 9, 13, 11, 12, 24, 18, 17, 23, 22, 21, 20, 19, 31, 28, 27, 30, 29], [32, 26, 25, 16, 15, 7, 6, 2, 0, 1, 5, 3, 4, 14, 10, 8, 9, 13, 11, 12, 24, 18, 17, 23, 22, 21, 20, 19, 31, 28, 27, 30, 29], [33, 32, 26, 25, 16, 15, 7, 6, 2, 0, 1, 5, 3, 4, 14, 10, 8, 9, 13, 11, 12, 24, 18, 17, 23, 22, 21, 20, 19, 31, 28, 27, 30, 29], [34, 33, 32, 26, 25, 16, 15, 7, 6, 2, 0, 1, 5, 3, 4, 14, 10, 8, 9, 13, 11, 12, 24, 18, 17, 23, 22, 21, 20, 19, 31, 28, 27, 30, 29], [33, 32, 26, 25, 16, 15, 7, 6, 2, 0, 1, 5, 3, 4, 14, 10, 8, 9, 13, 11, 12, 24, 18, 17, 23, 22, 21, 20, 19, 31, 28, 27, 30, 29], [36, 33, 32, 26, 25, 16, 15, 7, 6, 2, 0, 1, 5, 3, 4, 14, 10, 8, 9, 13, 11, 12, 24, 18, 17, 23, 22, 21, 20, 19, 31, 28, 27, 30, 29], [37, 36, 33, 32, 26, 25, 16, 15, 7, 6, 2, 0, 1, 5, 3, 4, 14, 10, 8, 9, 13, 11, 12, 24, 18, 17, 23, 22, 21, 20, 19, 31, 28, 27, 30, 29], [38, 37, 36, 33, 32, 26, 25, 16, 15, 7, 6, 2, 0, 1, 5, 3, 4, 14, 10, 8, 9, 13, 11, 12, 24, 18, 17, 23, 22, 21, 20, 19, 31, 28, 27, 30, 29], [35, 34, 33, 32, 26, 25, 16, 15, 7, 6, 2, 0, 1, 5, 3, 4, 14, 10, 8, 9, 13, 11, 12, 24, 18, 17, 23, 22, 21, 20, 19, 31, 28, 27, 30, 29, 39, 38, 37, 36], [40, 35, 34, 33, 32, 26, 25, 16, 15, 7, 6, 2, 0, 1, 5, 3, 4, 14, 10, 8, 9, 13, 11, 12, 24, 18, 17, 23, 22, 21, 20, 19, 31, 28, 27, 30, 29, 39, 38, 37, 36], [33, 32, 26, 25, 16, 15, 7, 6, 2, 0, 1, 5, 3, 4, 14, 10, 8, 9, 13, 11, 12, 24, 18, 17, 23, 22, 21, 20, 19, 31, 28, 27, 30, 29, 41, 40, 35, 34, 39, 38, 37, 36]]
def law08_ViewVotes_w47 : WC := (.dregion law08_ViewVotes_o47_0 law08_ViewVotes_e47)
def law08_ViewVotes_o50_0 : List WOp := .op (POper.mk (some 4) (.move (.const (.bool false))) none) none :: []
def law08_ViewVotes_w50 : WC := (.region law08_ViewVotes_o50_0)
def law08_ViewVotes_w49 : WC := (.seq law08_ViewVotes_w50 .ret)
def law08_ViewVotes_w48 : WC := (.cond (.tmp 81) law08_ViewVotes_w49 .skip)
def law08_ViewVotes_w46 : WC := (.seq law08_ViewVotes_w47 (.ann [.mask [5, 6, 26, 27, 28, 81], .gc] (.cut law08_ViewVotes_w48)))
def law08_ViewVotes_w36 : WC := (.seq law08_ViewVotes_w37 law08_ViewVotes_w46)
def law08_ViewVotes_w34 : WC := (.seq law08_ViewVotes_w35 law08_ViewVotes_w36)
def law08_ViewVotes_w33 : WC := (.block 1 law08_ViewVotes_w34)
def law08_ViewVotes_o53_0 : List WOp := .op (POper.mk (some 82) (.bin .add (.tmp 28) (.const (.int .i64 1))) none) none :: .op (POper.mk (some 28) (.move (.tmp 82)) none) none :: []
def law08_ViewVotes_w53 : WC := (.region law08_ViewVotes_o53_0)
def law08_ViewVotes_w32 : WC := (.seq law08_ViewVotes_w33 law08_ViewVotes_w53)
def law08_ViewVotes_w28 : WC := (.seq law08_ViewVotes_w29 law08_ViewVotes_w32)
def law08_ViewVotes_w26 : WC := (.seq law08_ViewVotes_w27 law08_ViewVotes_w28)
def law08_ViewVotes_w25 : WC := (.loop [.mask [5, 6, 26, 27, 28], .fit (.o 6 1) eI64, .gc] law08_ViewVotes_w26)
def law08_ViewVotes_w24 : WC := (.block 0 (.ann [.mask [5, 6, 26, 27, 28], .fit (.o 6 1) eI64, .gc] law08_ViewVotes_w25))
def law08_ViewVotes_w22 : WC := (.seq law08_ViewVotes_w23 law08_ViewVotes_w24)
def law08_ViewVotes_o55_1 : List WOp := .op (POper.mk (some 4) (.move (.tmp 83)) none) none :: []
def law08_ViewVotes_o55_0 : List WOp := .ann [.mask [], .gc] :: .op (POper.mk (some 83) (.callf 17 []) none) none :: law08_ViewVotes_o55_1
def law08_ViewVotes_w55 : WC := (.region law08_ViewVotes_o55_0)
def law08_ViewVotes_w54 : WC := (.seq law08_ViewVotes_w55 .ret)
def law08_ViewVotes_w21 : WC := (.seq law08_ViewVotes_w22 law08_ViewVotes_w54)
def law08_ViewVotes_w13 : WC := (.seq law08_ViewVotes_w14 (.ann [.mask [1, 5, 6], .gc] (.cut law08_ViewVotes_w21)))
def law08_ViewVotes_w5 : WC := (.seq law08_ViewVotes_w6 law08_ViewVotes_w13)
def law08_ViewVotes_w3 : WC := (.seq law08_ViewVotes_w4 law08_ViewVotes_w5)
def law08_ViewVotes_w1 : WC := (.seq law08_ViewVotes_w2 law08_ViewVotes_w3)
theorem law08_ViewVotes_rc : resolveC Try.prog [] (Try.f8.body.getD .skip) = some (WC.er law08_ViewVotes_w1) := by kernel_rfl
theorem law08_ViewVotes_rr : resolveR Try.prog Try.f8.results.toList = some [(.move (.tmp 4))] := by kernel_rfl
def law08_ViewVotes (n0 : Int) (nodes1 : List Int) (Q : Bool → Prop) : Prop := Run Try.prog 0 (FinS Try.prog 0 Try.f8 (law08_ViewVotes_R Q)) [.code law08_ViewVotes_w1] [(.int .i64 n0), (.sl eI64 nodes1), .und, .und, .und, .und, .und, .und, .und, .und, .und, .und, .und, .und, .und, .und, .und, .und, .und, .und, .und, .und, .und, .und, .und, .und, .und, .und, .und, .und, .und, .und, .und, .und, .und, .und, .und, .und, .und, .und, .und, .und, .und, .und, .und, .und, .und, .und, .und, .und, .und, .und, .und, .und, .und, .und, .und, .und, .und, .und, .und, .und, .und, .und, .und, .und, .und, .und, .und, .und, .und, .und, .und, .und, .und, .und, .und, .und, .und, .und, .und, .und, .und, .und] []
def law08_ViewVotes_c1 (n0 : Int) (nodes1 : List Int) (Q : Bool → Prop) : Prop := Run Try.prog 0 (FinS Try.prog 0 Try.f8 (law08_ViewVotes_R Q)) [.ops (.op (POper.mk (some 10) (.callf 21 [(.tmp 9)]) none) none :: law08_ViewVotes_o4_2), .code law08_ViewVotes_w5] [(.int .i64 n0), (.sl eI64 nodes1), .dead, .dead, .dead, .dead, .dead, .dead, .dead, (.int .i64 n0), .dead, .dead, .dead, .dead, .dead, .dead, .dead, .dead, .dead, .dead, .dead, .dead, .dead, .dead, .dead, .dead, .dead, .dead, .dead, .dead, .dead, .dead, .dead, .dead, .dead, .dead, .dead, .dead, .dead, .dead, .dead, .dead, .dead, .dead, .dead, .dead, .dead, .dead, .dead, .dead, .dead, .dead, .dead, .dead, .dead, .dead, .dead, .dead, .dead, .dead, .dead, .dead, .dead, .dead, .dead, .dead, .dead, .dead, .dead, .dead, .dead, .dead, .dead, .dead, .dead, .dead, .dead, .dead, .dead, .dead, .dead, .dead, .dead, .dead] []
def law08_ViewVotes_c2 (nodes1 : List Int) (n0 : Int) (Q : Bool → Prop) : Prop := Run Try.prog 0 (FinS Try.prog 0 Try.f8 (law08_ViewVotes_R Q)) [.ops (.op (POper.mk (some 12) (.callf 28 [(.tmp 11)]) none) none :: law08_ViewVotes_o4_4), .code law08_ViewVotes_w5] [.dead, (.sl eI64 nodes1), .dead, .dead, .dead, .dead, .dead, .dead, .dead, .dead, .nilp, (.int .i64 n0), .dead, .dead, .dead, .dead, .dead, .dead, .dead, .dead, .dead, .dead, .dead, .dead, .dead, .dead, .dead, .dead, .dead, .dead, .dead, .dead, .dead, .dead, .dead, .dead, .dead, .dead, .dead, .dead, .dead, .dead, .dead, .dead, .dead, .dead, .dead, .dead, .dead, .dead, .dead, .dead, .dead, .dead, .dead, .dead, .dead, .dead, .dead, .dead, .dead, .dead, .dead, .dead, .dead, .dead, .dead, .dead, .dead, .dead, .dead, .dead, .dead, .dead, .dead, .dead, .dead, .dead, .dead, .dead, .dead, .dead, .dead, .dead] []
def law08_ViewVotes_c3  (Q : Bool → Prop) : Prop := Run Try.prog 0 (FinS Try.prog 0 Try.f8 (law08_ViewVotes_R Q)) [.ops (.op (POper.mk (some 25) (.callf 17 []) none) none :: law08_ViewVotes_o18_1), .code .ret, .code (.ann [.mask [1, 5, 6], .gc] (.cut law08_ViewVotes_w21))] [.dead, .dead, .dead, .dead, .dead, .dead, .dead, .dead, .dead, .dead, .dead, .dead, .dead, .dead, .dead, .dead, .dead, .dead, .dead, .dead, .dead, .dead, .dead, .dead, .dead, .dead, .dead, .dead, .dead, .dead, .dead, .dead, .dead, .dead, .dead, .dead, .dead, .dead, .dead, .dead, .dead, .dead, .dead, .dead, .dead, .dead, .dead, .dead, .dead, .dead, .dead, .dead, .dead, .dead, .dead, .dead, .dead, .dead, .dead, .dead, .dead, .dead, .dead, .dead, .dead, .dead, .dead, .dead, .dead, .dead, .dead, .dead, .dead, .dead, .dead, .dead, .dead, .dead, .dead, .dead, .dead, .dead, .dead, .dead] []
def law08_ViewVotes_c4 (nodes1 : List Int) (n0 : Int) (r4 : eR3.T) (Q : Bool → Prop) : Prop := Run Try.prog 0 (FinS Try.prog 0 Try.f8 (law08_ViewVotes_R Q)) [.ops (.op (POper.mk (some 12) (.callf 28 [(.tmp 11)]) none) none :: law08_ViewVotes_o4_4), .code law08_ViewVotes_w5] [.dead, (.sl eI64 nodes1), .dead, .dead, .dead, .dead, .dead, .dead, .dead, .dead, (.ptr 0 0), (.int .i64 n0), .dead, .dead, .dead, .dead, .dead, .dead, .dead, .dead, .dead, .dead, .dead, .dead, .dead, .dead, .dead, .dead, .dead, .dead, .dead, .dead, .dead, .dead, .dead, .dead, .dead, .dead, .dead, .dead, .dead, .dead, .dead, .dead, .dead, .dead, .dead, .dead, .dead, .dead, .dead, .dead, .dead, .dead, .dead, .dead, .dead, .dead, .dead, .dead, .dead, .dead, .dead, .dead, .dead, .dead, .dead, .dead, .dead, .dead, .dead, .dead, .dead, .dead, .dead, .dead, .dead, .dead, .dead, .dead, .dead, .dead, .dead, .dead] [(.arr [(.int .i64 r4.1), (.int .u64 r4.2)])]
def law08_ViewVotes_c5  (Q : Bool → Prop) : Prop := Run Try.prog 0 (FinS Try.prog 0 Try.f8 (law08_ViewVotes_R Q)) [.ops (.op (POper.mk (some 25) (.callf 17 []) none) none :: law08_ViewVotes_o18_1), .code .ret, .code (.ann [.mask [1, 5, 6], .gc] (.cut law08_ViewVotes_w21))] [.dead, .dead, .dead, .dead, .dead, .dead, .dead, .dead, .dead, .dead, .dead, .dead, .dead, .dead, .dead, .dead, .dead, .dead, .dead, .dead, .dead, .dead, .dead, .dead, .dead, .dead, .dead, .dead, .dead, .dead, .dead, .dead, .dead, .dead, .dead, .dead, .dead, .dead, .dead, .dead, .dead, .dead, .dead, .dead, .dead, .dead, .dead, .dead, .dead, .dead, .dead, .dead, .dead, .dead, .dead, .dead, .dead, .dead, .dead, .dead, .dead, .dead, .dead, .dead, .dead, .dead, .dead, .dead, .dead, .dead, .dead, .dead, .dead, .dead, .dead, .dead, .dead, .dead, .dead, .dead, .dead, .dead, .dead, .dead] []
def law08_ViewVotes_k1 (nodes1 : List Int) (r4 : eR3.T) (r5 : eR4.T) (Q : Bool → Prop) : Prop := Run Try.prog 0 (FinS Try.prog 0 Try.f8 (law08_ViewVotes_R Q)) [.code law08_ViewVotes_w21] [.dead, (.sl eI64 nodes1), .dead, .dead, .dead, (.ptr 0 0), (.ptr 1 0), .dead, .dead, .dead, .dead, .dead, .dead, .dead, .dead, .dead, .dead, .dead, .dead, .dead, .dead, .dead, .dead, .dead, .dead, .dead, .dead, .dead, .dead, .dead, .dead, .dead, .dead, .dead, .dead, .dead, .dead, .dead, .dead, .dead, .dead, .dead, .dead, .dead, .dead, .dead, .dead, .dead, .dead, .dead, .dead, .dead, .dead, .dead, .dead, .dead, .dead, .dead, .dead, .dead, .dead, .dead, .dead, .dead, .dead, .dead, .dead, .dead, .dead, .dead, .dead, .dead, .dead, .dead, .dead, .dead, .dead, .dead, .dead, .dead, .dead, .dead, .dead, .dead] [(.arr [(.int .i64 r4.1), (.int .u64 r4.2)]), (.arr [(.int .i64 r5.1), (.sl eI64 r5.2)])]
def law08_ViewVotes_l2 (nodes1 : List Int) (x11 : Int) (v7 : Int) (v8 : Int) (r9 : Int) (r10 : List Int) (Q : Bool → Prop) : Prop := Run Try.prog 0 (FinS Try.prog 0 Try.f8 (law08_ViewVotes_R Q)) [.lp [.mask [5, 6, 26, 27, 28], .fit (.o 6 1) eI64, .gc] law08_ViewVotes_w26, .bend 0, .code law08_ViewVotes_w54] [.dead, .dead, .dead, .dead, .dead, (.ptr 0 0), (.ptr 1 0), .dead, .dead, .dead, .dead, .dead, .dead, .dead, .dead, .dead, .dead, .dead, .dead, .dead, .dead, .dead, .dead, .dead, .dead, .dead, (.sl eI64 nodes1), (.int .i64 (nodes1.length : Int)), (.int .i64 x11), .dead, .dead, .dead, .dead, .dead, .dead, .dead, .dead, .dead, .dead, .dead, .dead, .dead, .dead, .dead, .dead, .dead, .dead, .dead, .dead, .dead, .dead, .dead, .dead, .dead, .dead, .dead, .dead, .dead, .dead, .dead, .dead, .dead, .dead, .dead, .dead, .dead, .dead, .dead, .dead, .dead, .dead, .dead, .dead, .dead, .dead, .dead, .dead, .dead, .dead, .dead, .dead, .dead, .dead, .dead] [(.arr [(.int .i64 v7), (.int .u64 v8)]), (.arr [(.int .i64 r9), (.sl eI64 r10)])]
def law08_ViewVotes_c6 (nodes1 : List Int) (x11 : Int) (v7 : Int) (v8 : Int) (r9 : Int) (r10 : List Int) (Q : Bool → Prop) : Prop := Run Try.prog 0 (FinS Try.prog 0 Try.f8 (law08_ViewVotes_R Q)) [.ops (.op (POper.mk (some 35) (.callf 26 [(.tmp 34)]) none) none :: law08_ViewVotes_o41_2), .code law08_ViewVotes_w42, .code law08_ViewVotes_w46, .bend 1, .code law08_ViewVotes_w53, .lp [.mask [5, 6, 26, 27, 28], .fit (.o 6 1) eI64, .gc] law08_ViewVotes_w26, .bend 0, .code law08_ViewVotes_w54] [.dead, .dead, .dead, .dead, .dead, (.ptr 0 0), (.ptr 1 0), .dead, .dead, .dead, .dead, .dead, .dead, .dead, .dead, .dead, .dead, .dead, .dead, .dead, .dead, .dead, .dead, .dead, .dead, .dead, (.sl eI64 nodes1), (.int .i64 (nodes1.length : Int)), (.int .i64 x11), .dead, .dead, .dead, .dead, .dead, (.ptr 0 0), .dead, .dead, .dead, .dead, .dead, .dead, .dead, .dead, .dead, .dead, .dead, .dead, .dead, .dead, .dead, .dead, .dead, .dead, .dead, .dead, .dead, .dead, .dead, .dead, .dead, .dead, .dead, .dead, .dead, .dead, .dead, .dead, .dead, .dead, .dead, .dead, .dead, .dead, .dead, .dead, .dead, .dead, .dead, .dead, .dead, .dead, .dead, .dead, .dead] [(.arr [(.int .i64 v7), (.int .u64 v8)]), (.arr [(.int .i64 r9), (.sl eI64 r10)])]
def law08_ViewVotes_c7 (nodes1 : List Int) (x11 : Int) (v7 : Int) (v8 : Int) (r9 : Int) (r10 : List Int) (Q : Bool → Prop) : Prop := Run Try.prog 0 (FinS Try.prog 0 Try.f8 (law08_ViewVotes_R Q)) [.dops (.op (POper.mk (some 41) (.callf 22 [(.tmp 39), (.tmp 40)]) none) none :: law08_ViewVotes_o47_3) law08_ViewVotes_e47 [([], []), ([], [])], .code (.ann [.mask [5, 6, 26, 27, 28, 81], .gc] (.cut law08_ViewVotes_w48)), .bend 1, .code law08_ViewVotes_w53, .lp [.mask [5, 6, 26, 27, 28], .fit (.o 6 1) eI64, .gc] law08_ViewVotes_w26, .bend 0, .code law08_ViewVotes_w54] [.dead, .dead, .dead, .dead, .dead, (.ptr 0 0), (.ptr 1 0), .dead, (.int .i64 (rdI nodes1 x11.toNat)), .dead, .dead, .dead, .dead, .dead, .dead, .dead, .dead, .dead, .dead, .dead, .dead, .dead, .dead, .dead, .dead, .dead, (.sl eI64 nodes1), (.int .i64 (nodes1.length : Int)), (.int .i64 x11), (.bool true), (.fp eI64 (rdI nodes1 x11.toNat) 0), (.int .i64 (rdI nodes1 x11.toNat)), (.int .i64 (rdI nodes1 x11.toNat)), (.bool false), .dead, .dead, .dead, .dead, .dead, (.ptr 0 0), (.int .i64 (rdI nodes1 x11.toNat)), .dead, .dead, .dead, .dead, .dead, .dead, .dead, .dead, .dead, .dead, .dead, .dead, .dead, .dead, .dead, .dead, .dead, .dead, .dead, .dead, .dead, .dead, .dead, .dead, .dead, .dead, .dead, .dead, .dead, .dead, .dead, .dead, .dead, .dead, .dead, .dead, .dead, .dead, .dead, .dead, .dead, .dead, .dead] [(.arr [(.int .i64 v7), (.int .u64 v8)]), (.arr [(.int .i64 r9), (.sl eI64 r10)])]
def law08_ViewVotes_c8 (nodes1 : List Int) (x11 : Int) (r13 : Bool × eR3.T) (r9 : Int) (r10 : List Int) (Q : Bool → Prop) : Prop := Run Try.prog 0 (FinS Try.prog 0 Try.f8 (law08_ViewVotes_R Q)) [.dops (.op (POper.mk (some 44) (.callf 29 [(.tmp 42), (.tmp 43)]) none) none :: law08_ViewVotes_o47_6) law08_ViewVotes_e47 [([], []), ([], []), ([0], [0]), ([], []), ([], [])], .code (.ann [.mask [5, 6, 26, 27, 28, 81], .gc] (.cut law08_ViewVotes_w48)), .bend 1, .code law08_ViewVotes_w53, .lp [.mask [5, 6, 26, 27, 28], .fit (.o 6 1) eI64, .gc] law08_ViewVotes_w26, .bend 0, .code law08_ViewVotes_w54] [.dead, .dead, .dead, .dead, .dead, (.ptr 0 0), (.ptr 1 0), .dead, (.int .i64 (rdI nodes1 x11.toNat)), .dead, .dead, .dead, .dead, .dead, .dead, .dead, .dead, .dead, .dead, .dead, .dead, .dead, .dead, .dead, .dead, .dead, (.sl eI64 nodes1), (.int .i64 (nodes1.length : Int)), (.int .i64 x11), (.bool true), (.fp eI64 (rdI nodes1 x11.toNat) 0), (.int .i64 (rdI nodes1 x11.toNat)), (.int .i64 (rdI nodes1 x11.toNat)), (.bool false), .dead, .dead, .dead, .dead, .dead, (.ptr 0 0), (.int .i64 (rdI nodes1 x11.toNat)), (.bool r13.1), (.ptr 1 0), (.int .i64 (rdI nodes1 x11.toNat)), .dead, .dead, .dead, .dead, .dead, .dead, .dead, .dead, .dead, .dead, .dead, .dead, .dead, .dead, .dead, .dead, .dead, .dead, .dead, .dead, .dead, .dead, .dead, .dead, .dead, .dead, .dead, .dead, .dead, .dead, .dead, .dead, .dead, .dead, .dead, .dead, .dead, .dead, .dead, .dead] [(.arr [(.int .i64 r13.2.1), (.int .u64 r13.2.2)]), (.arr [(.int .i64 r9), (.sl eI64 r10)])]
def law08_ViewVotes_k3 (nodes1 : List Int) (x11 : Int) (x15 : Bool) (r13 : Bool × eR3.T) (r14 : Bool × eR4.T) (Q : Bool → Prop) : Prop := Run Try.prog 0 (FinS Try.prog 0 Try.f8 (law08_ViewVotes_R Q)) [.code law08_ViewVotes_w48, .bend 1, .code law08_ViewVotes_w53, .lp [.mask [5, 6, 26, 27, 28], .fit (.o 6 1) eI64, .gc] law08_ViewVotes_w26, .bend 0, .code law08_ViewVotes_w54] [.dead, .dead, .dead, .dead, .dead, (.ptr 0 0), (.ptr 1 0), .dead, .dead, .dead, .dead, .dead, .dead, .dead, .dead, .dead, .dead, .dead, .dead, .dead, .dead, .dead, .dead, .dead, .dead, .dead, (.sl eI64 nodes1), (.int .i64 (nodes1.length : Int)), (.int .i64 x11), .dead, .dead, .dead, .dead, .dead, .dead, .dead, .dead, .dead, .dead, .dead, .dead, .dead, .dead, .dead, .dead, .dead, .dead, .dead, .dead, .dead, .dead, .dead, .dead, .dead, .dead, .dead, .dead, .dead, .dead, .dead, .dead, .dead, .dead, .dead, .dead, .dead, .dead, .dead, .dead, .dead, .dead, .dead, .dead, .dead, .dead, .dead, .dead, .dead, .dead, .dead, .dead, (.bool x15), .dead, .dead] [(.arr [(.int .i64 r13.2.1), (.int .u64 r13.2.2)]), (.arr [(.int .i64 r14.2.1), (.sl eI64 r14.2.2)])]
def law08_ViewVotes_c9 (nodes1 : List Int) (x11 : Int) (r13 : Bool × eR3.T) (r14 : Bool × eR4.T) (Q : Bool → Prop) : Prop := Run Try.prog 0 (FinS Try.prog 0 Try.f8 (law08_ViewVotes_R Q)) [.dops (.op (POper.mk (some 49) (.callf 23 [(.tmp 47), (.tmp 48)]) none) none :: law08_ViewVotes_o47_11) law08_ViewVotes_e47 [([], []), ([], []), ([0], [0]), ([], []), ([], []), ([1], [1]), ([], []), ([], []), ([], []), ([], [])], .code (.ann [.mask [5, 6, 26, 27, 28, 81], .gc] (.cut law08_ViewVotes_w48)), .bend 1, .code law08_ViewVotes_w53, .lp [.mask [5, 6, 26, 27, 28], .fit (.o 6 1) eI64, .gc] law08_ViewVotes_w26, .bend 0, .code law08_ViewVotes_w54] [.dead, .dead, .dead, .dead, .dead, (.ptr 0 0), (.ptr 1 0), .dead, (.int .i64 (rdI nodes1 x11.toNat)), .dead, .dead, .dead, .dead, .dead, .dead, .dead, .dead, .dead, .dead, .dead, .dead, .dead, .dead, .dead, .dead, .dead, (.sl eI64 nodes1), (.int .i64 (nodes1.length : Int)), (.int .i64 x11), (.bool true), (.fp eI64 (rdI nodes1 x11.toNat) 0), (.int .i64 (rdI nodes1 x11.toNat)), (.int .i64 (rdI nodes1 x11.toNat)), (.bool false), .dead, .dead, .dead, .dead, .dead, (.ptr 0 0), (.int .i64 (rdI nodes1 x11.toNat)), (.bool r13.1), (.ptr 1 0), (.int .i64 (rdI nodes1 x11.toNat)), (.bool r14.1), (.bool (!(r13.1 == r14.1))), (.bool false), (.ptr 0 0), (.int .i64 (rdI nodes1 x11.toNat)), .dead, .dead, .dead, .dead, .dead, .dead, .dead, .dead, .dead, .dead, .dead, .dead, .dead, .dead, .dead, .dead, .dead, .dead, .dead, .dead, .dead, .dead, .dead, .dead, .dead, .dead, .dead, .dead, .dead, .dead, .dead, .dead, .dead, .dead, .dead] [(.arr [(.int .i64 r13.2.1), (.int .u64 r13.2.2)]), (.arr [(.int .i64 r14.2.1), (.sl eI64 r14.2.2)])]
def law08_ViewVotes_c10 (nodes1 : List Int) (x11 : Int) (r13 : Bool × eR3.T) (r14 : Bool × eR4.T) (r16 : Bool) (Q : Bool → Prop) : Prop := Run Try.prog 0 (FinS Try.prog 0 Try.f8 (law08_ViewVotes_R Q)) [.dops (.op (POper.mk (some 52) (.callf 30 [(.tmp 50), (.tmp 51)]) none) none :: law08_ViewVotes_o47_14) law08_ViewVotes_e47 [([], []), ([], []), ([0], [0]), ([], []), ([], []), ([1], [1]), ([], []), ([], []), ([], []), ([], []), ([], [0]), ([], []), ([], [])], .code (.ann [.mask [5, 6, 26, 27, 28, 81], .gc] (.cut law08_ViewVotes_w48)), .bend 1, .code law08_ViewVotes_w53, .lp [.mask [5, 6, 26, 27, 28], .fit (.o 6 1) eI64, .gc] law08_ViewVotes_w26, .bend 0, .code law08_ViewVotes_w54] [.dead, .dead, .dead, .dead, .dead, (.ptr 0 0), (.ptr 1 0), .dead, (.int .i64 (rdI nodes1 x11.toNat)), .dead, .dead, .dead, .dead, .dead, .dead, .dead, .dead, .dead, .dead, .dead, .dead, .dead, .dead, .dead, .dead, .dead, (.sl eI64 nodes1), (.int .i64 (nodes1.length : Int)), (.int .i64 x11), (.bool true), (.fp eI64 (rdI nodes1 x11.toNat) 0), (.int .i64 (rdI nodes1 x11.toNat)), (.int .i64 (rdI nodes1 x11.toNat)), (.bool false), .dead, .dead, .dead, .dead, .dead, (.ptr 0 0), (.int .i64 (rdI nodes1 x11.toNat)), (.bool r13.1), (.ptr 1 0), (.int .i64 (rdI nodes1 x11.toNat)), (.bool r14.1), (.bool (!(r13.1 == r14.1))), (.bool false), (.ptr 0 0), (.int .i64 (rdI nodes1 x11.toNat)), (.bool r16), (.ptr 1 0), (.int .i64 (rdI nodes1 x11.toNat)), .dead, .dead, .dead, .dead, .dead, .dead, .dead, .dead, .dead, .dead, .dead, .dead, .dead, .dead, .dead, .dead, .dead, .dead, .dead, .dead, .dead, .dead, .dead, .dead, .dead, .dead, .dead, .dead, .dead, .dead, .dead, .dead] [(.arr [(.int .i64 r13.2.1), (.int .u64 r13.2.2)]), (.arr [(.int .i64 r14.2.1), (.sl eI64 r14.2.2)])]
def law08_ViewVotes_c11 (nodes1 : List Int) (x11 : Int) (r13 : Bool × eR3.T) (r14 : Bool × eR4.T) (r16 : Bool) (r17 : Bool) (Q : Bool → Prop) : Prop := Run Try.prog 0 (FinS Try.prog 0 Try.f8 (law08_ViewVotes_R Q)) [.dops (.op (POper.mk (some 57) (.callf 25 [(.tmp 56)]) none) none :: law08_ViewVotes_o47_19) law08_ViewVotes_e47 [([], []), ([], []), ([0], [0]), ([], []), ([], []), ([1], [1]), ([], []), ([], []), ([], []), ([], []), ([], [0]), ([], []), ([], []), ([], [1]), ([], []), ([], []), ([], []), ([], [])], .code (.ann [.mask [5, 6, 26, 27, 28, 81], .gc] (.cut law08_ViewVotes_w48)), .bend 1, .code law08_ViewVotes_w53, .lp [.mask [5, 6, 26, 27, 28], .fit (.o 6 1) eI64, .gc] law08_ViewVotes_w26, .bend 0, .code law08_ViewVotes_w54] [.dead, .dead, .dead, .dead, .dead, (.ptr 0 0), (.ptr 1 0), .dead, (.int .i64 (rdI nodes1 x11.toNat)), .dead, .dead, .dead, .dead, .dead, .dead, .dead, .dead, .dead, .dead, .dead, .dead, .dead, .dead, .dead, .dead, .dead, (.sl eI64 nodes1), (.int .i64 (nodes1.length : Int)), (.int .i64 x11), (.bool true), (.fp eI64 (rdI nodes1 x11.toNat) 0), (.int .i64 (rdI nodes1 x11.toNat)), (.int .i64 (rdI nodes1 x11.toNat)), (.bool false), .dead, .dead, .dead, .dead, .dead, (.ptr 0 0), (.int .i64 (rdI nodes1 x11.toNat)), (.bool r13.1), (.ptr 1 0), (.int .i64 (rdI nodes1 x11.toNat)), (.bool r14.1), (.bool (!(r13.1 == r14.1))), (.bool false), (.ptr 0 0), (.int .i64 (rdI nodes1 x11.toNat)), (.bool r16), (.ptr 1 0), (.int .i64 (rdI nodes1 x11.toNat)), (.bool r17), (.bool (!(r16 == r17))), (.bool (!(r16 == r17))), (.bool false), (.ptr 0 0), .dead, .dead, .dead, .dead, .dead, .dead, .dead, .dead, .dead, .dead, .dead, .dead, .dead, .dead, .dead, .dead, .dead, .dead, .dead, .dead, .dead, .dead, .dead, .dead, .dead, .dead, .dead] [(.arr [(.int .i64 r13.2.1), (.int .u64 r13.2.2)]), (.arr [(.int .i64 r14.2.1), (.sl eI64 r14.2.2)])]
def law08_ViewVotes_c12 (nodes1 : List Int) (x11 : Int) (r13 : Bool × eR3.T) (r14 : Bool × eR4.T) (r16 : Bool) (r17 : Bool) (r18 : Int) (Q : Bool → Prop) : Prop := Run Try.prog 0 (FinS Try.prog 0 Try.f8 (law08_ViewVotes_R Q)) [.dops (.op (POper.mk (some 67) (.callf 24 [(.tmp 66)]) none) none :: law08_ViewVotes_o47_29) law08_ViewVotes_e47 [([], []), ([], []), ([0], [0]), ([], []), ([], []), ([1], [1]), ([], []), ([], []), ([], []), ([], []), ([], [0]), ([], []), ([], []), ([], [1]), ([], []), ([], []), ([], []), ([], []), ([], [0]), ([], []), ([], []), ([], []), ([], [1]), ([], []), ([], []), ([], []), ([], []), ([], [])], .code (.ann [.mask [5, 6, 26, 27, 28, 81], .gc] (.cut law08_ViewVotes_w48)), .bend 1, .code law08_ViewVotes_w53, .lp [.mask [5, 6, 26, 27, 28], .fit (.o 6 1) eI64, .gc] law08_ViewVotes_w26, .bend 0, .code law08_ViewVotes_w54] [.dead, .dead, .dead, .dead, .dead, (.ptr 0 0), (.ptr 1 0), .dead, (.int .i64 (rdI nodes1 x11.toNat)), .dead, .dead, .dead, .dead, .dead, .dead, .dead, .dead, .dead, .dead, .dead, .dead, .dead, .dead, .dead, .dead, .dead, (.sl eI64 nodes1), (.int .i64 (nodes1.length : Int)), (.int .i64 x11), (.bool true), (.fp eI64 (rdI nodes1 x11.toNat) 0), (.int .i64 (rdI nodes1 x11.toNat)), (.int .i64 (rdI nodes1 x11.toNat)), (.bool false), .dead, .dead, .dead, .dead, .dead, (.ptr 0 0), (.int .i64 (rdI nodes1 x11.toNat)), (.bool r13.1), (.ptr 1 0), (.int .i64 (rdI nodes1 x11.toNat)), (.bool r14.1), (.bool (!(r13.1 == r14.1))), (.bool false), (.ptr 0 0), (.int .i64 (rdI nodes1 x11.toNat)), (.bool r16), (.ptr 1 0), (.int .i64 (rdI nodes1 x11.toNat)), (.bool r17), (.bool (!(r16 == r17))), (.bool (!(r16 == r17))), (.bool false), (.ptr 0 0), (.int .i64 r18), (.ptr 1 0), (.ptr 1 0), (.ptr 1 1), (.sl eI64 r14.2.2), (.int .i64 (r14.2.2.length : Int)), (.bool (r18 != (r14.2.2.length : Int))), (.bool (r18 != (r14.2.2.length : Int))), (.bool false), (.ptr 0 0), .dead, .dead, .dead, .dead, .dead, .dead, .dead, .dead, .dead, .dead, .dead, .dead, .dead, .dead, .dead, .dead, .dead] [(.arr [(.int .i64 r13.2.1), (.int .u64 r13.2.2)]), (.arr [(.int .i64 r14.2.1), (.sl eI64 r14.2.2)])]
def law08_ViewVotes_c13 (nodes1 : List Int) (x11 : Int) (r13 : Bool × eR3.T) (r14 : Bool × eR4.T) (r16 : Bool) (r17 : Bool) (r18 : Int) (r19 : Bool) (Q : Bool → Prop) : Prop := Run Try.prog 0 (FinS Try.prog 0 Try.f8 (law08_ViewVotes_R Q)) [.dops (.op (POper.mk (some 69) (.callf 31 [(.tmp 68)]) none) none :: law08_ViewVotes_o47_31) law08_ViewVotes_e47 [([], []), ([], []), ([0], [0]), ([], []), ([], []), ([1], [1]), ([], []), ([], []), ([], []), ([], []), ([], [0]), ([], []), ([], []), ([], [1]), ([], []), ([], []), ([], []), ([], []), ([], [0]), ([], []), ([], []), ([], []), ([], [1]), ([], []), ([], []), ([], []), ([], []), ([], []), ([], [0]), ([], [])], .code (.ann [.mask [5, 6, 26, 27, 28, 81], .gc] (.cut law08_ViewVotes_w48)), .bend 1, .code law08_ViewVotes_w53, .lp [.mask [5, 6, 26, 27, 28], .fit (.o 6 1) eI64, .gc] law08_ViewVotes_w26, .bend 0, .code law08_ViewVotes_w54] [.dead, .dead, .dead, .dead, .dead, (.ptr 0 0), (.ptr 1 0), .dead, (.int .i64 (rdI nodes1 x11.toNat)), .dead, .dead, .dead, .dead, .dead, .dead, .dead, .dead, .dead, .dead, .dead, .dead, .dead, .dead, .dead, .dead, .dead, (.sl eI64 nodes1), (.int .i64 (nodes1.length : Int)), (.int .i64 x11), (.bool true), (.fp eI64 (rdI nodes1 x11.toNat) 0), (.int .i64 (rdI nodes1 x11.toNat)), (.int .i64 (rdI nodes1 x11.toNat)), (.bool false), .dead, .dead, .dead, .dead, .dead, (.ptr 0 0), (.int .i64 (rdI nodes1 x11.toNat)), (.bool r13.1), (.ptr 1 0), (.int .i64 (rdI nodes1 x11.toNat)), (.bool r14.1), (.bool (!(r13.1 == r14.1))), (.bool false), (.ptr 0 0), (.int .i64 (rdI nodes1 x11.toNat)), (.bool r16), (.ptr 1 0), (.int .i64 (rdI nodes1 x11.toNat)), (.bool r17), (.bool (!(r16 == r17))), (.bool (!(r16 == r17))), (.bool false), (.ptr 0 0), (.int .i64 r18), (.ptr 1 0), (.ptr 1 0), (.ptr 1 1), (.sl eI64 r14.2.2), (.int .i64 (r14.2.2.length : Int)), (.bool (r18 != (r14.2.2.length : Int))), (.bool (r18 != (r14.2.2.length : Int))), (.bool false), (.ptr 0 0), (.bool r19), (.ptr 1 0), .dead, .dead, .dead, .dead, .dead, .dead, .dead, .dead, .dead, .dead, .dead, .dead, .dead, .dead, .dead] [(.arr [(.int .i64 r13.2.1), (.int .u64 r13.2.2)]), (.arr [(.int .i64 r14.2.1), (.sl eI64 r14.2.2)])]
def law08_ViewVotes_c14 (nodes1 : List Int) (x11 : Int) (r13 : Bool × eR3.T) (r14 : Bool × eR4.T) (r16 : Bool) (r17 : Bool) (r18 : Int) (r19 : Bool) (r20 : Bool) (Q : Bool → Prop) : Prop := Run Try.prog 0 (FinS Try.prog 0 Try.f8 (law08_ViewVotes_R Q)) [.dops (.op (POper.mk (some 74) (.callf 27 [(.tmp 73)]) none) none :: law08_ViewVotes_o47_36) law08_ViewVotes_e47 [([], []), ([], []), ([0], [0]), ([], []), ([], []), ([1], [1]), ([], []), ([], []), ([], []), ([], []), ([], [0]), ([], []), ([], []), ([], [1]), ([], []), ([], []), ([], []), ([], []), ([], [0]), ([], []), ([], []), ([], []), ([], [1]), ([], []), ([], []), ([], []), ([], []), ([], []), ([], [0]), ([], []), ([], [1]), ([], []), ([], []), ([], []), ([], [])], .code (.ann [.mask [5, 6, 26, 27, 28, 81], .gc] (.cut law08_ViewVotes_w48)), .bend 1, .code law08_ViewVotes_w53, .lp [.mask [5, 6, 26, 27, 28], .fit (.o 6 1) eI64, .gc] law08_ViewVotes_w26, .bend 0, .code law08_ViewVotes_w54] [.dead, .dead, .dead, .dead, .dead, (.ptr 0 0), (.ptr 1 0), .dead, (.int .i64 (rdI nodes1 x11.toNat)), .dead, .dead, .dead, .dead, .dead, .dead, .dead, .dead, .dead, .dead, .dead, .dead, .dead, .dead, .dead, .dead, .dead, (.sl eI64 nodes1), (.int .i64 (nodes1.length : Int)), (.int .i64 x11), (.bool true), (.fp eI64 (rdI nodes1 x11.toNat) 0), (.int .i64 (rdI nodes1 x11.toNat)), (.int .i64 (rdI nodes1 x11.toNat)), (.bool false), .dead, .dead, .dead, .dead, .dead, (.ptr 0 0), (.int .i64 (rdI nodes1 x11.toNat)), (.bool r13.1), (.ptr 1 0), (.int .i64 (rdI nodes1 x11.toNat)), (.bool r14.1), (.bool (!(r13.1 == r14.1))), (.bool false), (.ptr 0 0), (.int .i64 (rdI nodes1 x11.toNat)), (.bool r16), (.ptr 1 0), (.int .i64 (rdI nodes1 x11.toNat)), (.bool r17), (.bool (!(r16 == r17))), (.bool (!(r16 == r17))), (.bool false), (.ptr 0 0), (.int .i64 r18), (.ptr 1 0), (.ptr 1 0), (.ptr 1 1), (.sl eI64 r14.2.2), (.int .i64 (r14.2.2.length : Int)), (.bool (r18 != (r14.2.2.length : Int))), (.bool (r18 != (r14.2.2.length : Int))), (.bool false), (.ptr 0 0), (.bool r19), (.ptr 1 0), (.bool r20), (.bool (!(r19 == r20))), (.bool (!(r19 == r20))), (.bool false), (.ptr 0 0), .dead, .dead, .dead, .dead, .dead, .dead, .dead, .dead, .dead, .dead] [(.arr [(.int .i64 r13.2.1), (.int .u64 r13.2.2)]), (.arr [(.int .i64 r14.2.1), (.sl eI64 r14.2.2)])]
def law08_ViewVotes_c15 (nodes1 : List Int) (x11 : Int) (r13 : Bool × eR3.T) (r14 : Bool × eR4.T) (r16 : Bool) (r17 : Bool) (r18 : Int) (r19 : Bool) (r20 : Bool) (r21 : List Int) (Q : Bool → Prop) : Prop := Run Try.prog 0 (FinS Try.prog 0 Try.f8 (law08_ViewVotes_R Q)) [.dops (.op (POper.mk (some 79) (.callf 32 [(.tmp 74), (.tmp 78)]) none) none :: law08_ViewVotes_o47_41) law08_ViewVotes_e47 [([], []), ([], []), ([0], [0]), ([], []), ([], []), ([1], [1]), ([], []), ([], []), ([], []), ([], []), ([], [0]), ([], []), ([], []), ([], [1]), ([], []), ([], []), ([], []), ([], []), ([], [0]), ([], []), ([], []), ([], []), ([], [1]), ([], []), ([], []), ([], []), ([], []), ([], []), ([], [0]), ([], []), ([], [1]), ([], []), ([], []), ([], []), ([], []), ([0, 2], [0]), ([], []), ([], []), ([], []), ([], [1])], .code (.ann [.mask [5, 6, 26, 27, 28, 81], .gc] (.cut law08_ViewVotes_w48)), .bend 1, .code law08_ViewVotes_w53, .lp [.mask [5, 6, 26, 27, 28], .fit (.o 6 1) eI64, .gc] law08_ViewVotes_w26, .bend 0, .code law08_ViewVotes_w54] [.dead, .dead, .dead, .dead, .dead, (.ptr 0 0), (.ptr 1 0), .dead, (.int .i64 (rdI nodes1 x11.toNat)), .dead, .dead, .dead, .dead, .dead, .dead, .dead, .dead, .dead, .dead, .dead, .dead, .dead, .dead, .dead, .dead, .dead, (.sl eI64 nodes1), (.int .i64 (nodes1.length : Int)), (.int .i64 x11), (.bool true), (.fp eI64 (rdI nodes1 x11.toNat) 0), (.int .i64 (rdI nodes1 x11.toNat)), (.int .i64 (rdI nodes1 x11.toNat)), (.bool false), .dead, .dead, .dead, .dead, .dead, (.ptr 0 0), (.int .i64 (rdI nodes1 x11.toNat)), (.bool r13.1), (.ptr 1 0), (.int .i64 (rdI nodes1 x11.toNat)), (.bool r14.1), (.bool (!(r13.1 == r14.1))), (.bool false), (.ptr 0 0), (.int .i64 (rdI nodes1 x11.toNat)), (.bool r16), (.ptr 1 0), (.int .i64 (rdI nodes1 x11.toNat)), (.bool r17), (.bool (!(r16 == r17))), (.bool (!(r16 == r17))), (.bool false), (.ptr 0 0), (.int .i64 r18), (.ptr 1 0), (.ptr 1 0), (.ptr 1 1), (.sl eI64 r14.2.2), (.int .i64 (r14.2.2.length : Int)), (.bool (r18 != (r14.2.2.length : Int))), (.bool (r18 != (r14.2.2.length : Int))), (.bool false), (.ptr 0 0), (.bool r19), (.ptr 1 0), (.bool r20), (.bool (!(r19 == r20))), (.bool (!(r19 == r20))), (.bool false), (.ptr 0 0), (.vf 2 eI64 r21.length false), (.ptr 1 0), (.ptr 1 0), (.ptr 1 1), (.sl eI64 r14.2.2), .dead, .dead, .dead, .dead, .dead] [(.arr [(.int .i64 r13.2.1), (.int .u64 r13.2.2)]), (.arr [(.int .i64 r14.2.1), (.sl eI64 r14.2.2)]), (.vec eI64 r21)]
def law08_ViewVotes_c16  (Q : Bool → Prop) : Prop := Run Try.prog 0 (FinS Try.prog 0 Try.f8 (law08_ViewVotes_R Q)) [.ops (.op (POper.mk (some 83) (.callf 17 []) none) none :: law08_ViewVotes_o55_1), .code .ret] [.dead, .dead, .dead, .dead, .dead, .dead, .dead, .dead, .dead, .dead, .dead, .dead, .dead, .dead, .dead, .dead, .dead, .dead, .dead, .dead, .dead, .dead, .dead, .dead, .dead, .dead, .dead, .dead, .dead, .dead, .dead, .dead, .dead, .dead, .dead, .dead, .dead, .dead, .dead, .dead, .dead, .dead, .dead, .dead, .dead, .dead, .dead, .dead, .dead, .dead, .dead, .dead, .dead, .dead, .dead, .dead, .dead, .dead, .dead, .dead, .dead, .dead, .dead, .dead, .dead, .dead, .dead, .dead, .dead, .dead, .dead, .dead, .dead, .dead, .dead, .dead, .dead, .dead, .dead, .dead, .dead, .dead, .dead, .dead] []
theorem law08_ViewVotes_step (n0 : Int) (nodes1 : List Int) {Q : Bool → Prop} (h :
    law08_ViewVotes_c1 n0 nodes1 Q) : law08_ViewVotes n0 nodes1 Q :=
  adv_go 6000 mixed law08_ViewVotes_rr (fa := [.gc]) (by kernel_rfl) h
theorem law08_ViewVotes_c1_step_none (n0 : Int) (nodes1 : List Int) {Q : Bool → Prop}  (hc : view_NewVotes n0 (fun x => x = none)) (h :
    law08_ViewVotes_c2 nodes1 n0 Q) : law08_ViewVotes_c1 n0 nodes1 Q :=
  run_callf (tout := (lendOut [] 0 (view_NewVotes_enc none) (view_NewVotes_obj none))) (call_typed [] (view_NewVotes_ok n0 none hc) (by kernel_rfl) (by kernel_rfl) (by kernel_rfl)) (adv_go 6000 mixed law08_ViewVotes_rr (fa := [.gc]) (by kernel_rfl) h)
theorem law08_ViewVotes_c1_step_some (n0 : Int) (nodes1 : List Int) {Q : Bool → Prop} (r4 : eR3.T) (hc : view_NewVotes n0 (fun x => x = (some r4))) (h :
    law08_ViewVotes_c4 nodes1 n0 r4 Q) : law08_ViewVotes_c1 n0 nodes1 Q :=
  run_callf (tout := (lendOut [] 0 (view_NewVotes_enc (some r4)) (view_NewVotes_obj (some r4)))) (call_typed [] (view_NewVotes_ok n0 (some r4) hc) (by kernel_rfl) (by kernel_rfl) (by kernel_rfl)) (adv_go 6000 mixed law08_ViewVotes_rr (fa := [.gc]) (by kernel_rfl) h)
theorem law08_ViewVotes_c2_step_none (nodes1 : List Int) (n0 : Int) {Q : Bool → Prop}  (hc : ref08_NewVotes n0 (fun x => x = none)) (h :
    law08_ViewVotes_c3 Q) : law08_ViewVotes_c2 nodes1 n0 Q :=
  run_callf (tout := (lendOut [] 0 (ref08_NewVotes_enc none) (ref08_NewVotes_obj none))) (call_typed [] (ref08_NewVotes_ok n0 none hc) (by kernel_rfl) (by kernel_rfl) (by kernel_rfl)) (adv_go 6000 mixed law08_ViewVotes_rr (fa := [.gc]) (by kernel_rfl) h)
theorem law08_ViewVotes_c2_step_some (nodes1 : List Int) (n0 : Int) {Q : Bool → Prop} (r3 : eR4.T) (hc : ref08_NewVotes n0 (fun x => x = (some r3))) (h :
    law08_ViewVotes_ret Q false) : law08_ViewVotes_c2 nodes1 n0 Q :=
  run_callf (tout := (lendOut [] 0 (ref08_NewVotes_enc (some r3)) (ref08_NewVotes_obj (some r3)))) (call_typed [] (ref08_NewVotes_ok n0 (some r3) hc) (by kernel_rfl) (by kernel_rfl) (by kernel_rfl)) (adv_go 6000 mixed law08_ViewVotes_rr (fa := [.gc]) (by kernel_rfl) h)
theorem law08_ViewVotes_c3_step  {Q : Bool → Prop} (r2 : Bool) (hc : law08_lives (fun x => x = r2)) (h :
    law08_ViewVotes_ret Q r2) : law08_ViewVotes_c3 Q :=
  run_callf (tout := (lendOut [] 0 (law08_lives_enc r2) (law08_lives_obj r2))) (call_typed [] (law08_lives_ok r2 hc) (by kernel_rfl) (by kernel_rfl) (by kernel_rfl)) (adv_go 6000 mixed law08_ViewVotes_rr (fa := [.gc]) (by kernel_rfl) h)
theorem law08_ViewVotes_c4_step_none (nodes1 : List Int) (n0 : Int) (r4 : eR3.T) {Q : Bool → Prop}  (hc : ref08_NewVotes n0 (fun x => x = none)) (h :
    law08_ViewVotes_ret Q false) : law08_ViewVotes_c4 nodes1 n0 r4 Q :=
  run_callf (tout := (lendOut [] 1 (ref08_NewVotes_enc none) (ref08_NewVotes_obj none))) (call_typed [] (ref08_NewVotes_ok n0 none hc) (by kernel_rfl) (by kernel_rfl) (by kernel_rfl)) (adv_go 6000 mixed law08_ViewVotes_rr (fa := [.gc]) (by kernel_rfl) h)
theorem law08_ViewVotes_c4_step_some (nodes1 : List Int) (n0 : Int) (r4 : eR3.T) {Q : Bool → Prop} (r5 : eR4.T) (hc : ref08_NewVotes n0 (fun x => x = (some r5))) (h :
    Br (decide ((nodes1.length : Int) > 100))
      (law08_ViewVotes_c5 Q)
      (law08_ViewVotes_k1 nodes1 r4 r5 Q)) : law08_ViewVotes_c4 nodes1 n0 r4 Q :=
  run_callf (tout := (lendOut [] 1 (ref08_NewVotes_enc (some r5)) (ref08_NewVotes_obj (some r5)))) (call_typed [] (ref08_NewVotes_ok n0 (some r5) hc) (by kernel_rfl) (by kernel_rfl) (by kernel_rfl)) (adv_go 6000 mixed law08_ViewVotes_rr (fa := [.gc]) (by kernel_rfl) h)
theorem law08_ViewVotes_c5_step  {Q : Bool → Prop} (r6 : Bool) (hc : law08_lives (fun x => x = r6)) (h :
    law08_ViewVotes_ret Q r6) : law08_ViewVotes_c5 Q :=
  run_callf (tout := (lendOut [] 0 (law08_lives_enc r6) (law08_lives_obj r6))) (call_typed [] (law08_lives_ok r6 hc) (by kernel_rfl) (by kernel_rfl) (by kernel_rfl)) (adv_go 6000 mixed law08_ViewVotes_rr (fa := [.gc]) (by kernel_rfl) h)
theorem law08_ViewVotes_k1_step (nodes1 : List Int) (r4 : eR3.T) (r5 : eR4.T) {Q : Bool → Prop} (h :
    law08_ViewVotes_l2 nodes1 0 r4.1 r4.2 r5.1 r5.2 Q) : law08_ViewVotes_k1 nodes1 r4 r5 Q :=
  adv_go 6000 mixed law08_ViewVotes_rr (fa := [.gc]) (by kernel_rfl) h
theorem law08_ViewVotes_l2_step (nodes1 : List Int) (x11 : Int) (v7 : Int) (v8 : Int) (r9 : Int) (r10 : List Int) {Q : Bool → Prop} (h :
    Br (decide (x11 < (nodes1.length : Int)))
      ((0 ≤ x11 ∧ x11.toNat < nodes1.length) ∧
      Br ((rdI nodes1 x11.toNat) == (-7))
        (law08_ViewVotes_c6 nodes1 x11 v7 v8 r9 r10 Q)
        (law08_ViewVotes_c7 nodes1 x11 v7 v8 r9 r10 Q))
      (law08_ViewVotes_c16 Q)) : law08_ViewVotes_l2 nodes1 x11 v7 v8 r9 r10 Q :=
  run_loop (adv_go 6000 mixed law08_ViewVotes_rr (fa := [.gc]) (by kernel_rfl) h)
theorem law08_ViewVotes_c6_step (nodes1 : List Int) (x11 : Int) (v7 : Int) (v8 : Int) (r9 : Int) (r10 : List Int) {Q : Bool → Prop} (r12 : eR3.T) (hc : view_Votes_Clear (v7, v8) (fun x => x = r12)) (h :
    law08_ViewVotes_l2 nodes1 (addK .i64 x11 1) r12.1 r12.2 r9 ([]) Q) : law08_ViewVotes_c6 nodes1 x11 v7 v8 r9 r10 Q :=
  run_callf (tout := (lendOut [0] 2 (view_Votes_Clear_enc r12) (view_Votes_Clear_obj r12))) (call_typed [0] (view_Votes_Clear_ok (v7, v8) r12 hc) (by kernel_rfl) (by kernel_rfl) (by kernel_rfl)) (adv_go 6000 mixed law08_ViewVotes_rr (fa := [.gc]) (by kernel_rfl) h)
theorem law08_ViewVotes_c7_step (nodes1 : List Int) (x11 : Int) (v7 : Int) (v8 : Int) (r9 : Int) (r10 : List Int) {Q : Bool → Prop} (r13 : Bool × eR3.T) (hc : view_Votes_Add (rdI nodes1 x11.toNat) (v7, v8) (fun x => x = r13)) (h :
    law08_ViewVotes_c8 nodes1 x11 r13 r9 r10 Q) : law08_ViewVotes_c7 nodes1 x11 v7 v8 r9 r10 Q :=
  run_dcallf (tout := (lendOut [0] 2 (view_Votes_Add_enc r13) (view_Votes_Add_obj r13))) (call_typed [0] (view_Votes_Add_ok (rdI nodes1 x11.toNat) (v7, v8) r13 hc) (by kernel_rfl) (by kernel_rfl) (by kernel_rfl)) (adv_go 6000 mixed law08_ViewVotes_rr (fa := [.gc]) (by kernel_rfl) h)
theorem law08_ViewVotes_c8_step (nodes1 : List Int) (x11 : Int) (r13 : Bool × eR3.T) (r9 : Int) (r10 : List Int) {Q : Bool → Prop} (r14 : Bool × eR4.T) (hc : ref08_Votes_Add (rdI nodes1 x11.toNat) (r9, r10) (fun x => x = r14)) (h :
    Br (!(r13.1 == r14.1))
      (law08_ViewVotes_k3 nodes1 x11 true r13 r14 Q)
      (law08_ViewVotes_c9 nodes1 x11 r13 r14 Q)) : law08_ViewVotes_c8 nodes1 x11 r13 r9 r10 Q :=
  run_dcallf (tout := (lendOut [1] 2 (ref08_Votes_Add_enc r14) (ref08_Votes_Add_obj r14))) (call_typed [1] (ref08_Votes_Add_ok (rdI nodes1 x11.toNat) (r9, r10) r14 hc) (by kernel_rfl) (by kernel_rfl) (by kernel_rfl)) (adv_go 6000 mixed law08_ViewVotes_rr (fa := [.gc]) (by kernel_rfl) h)
theorem law08_ViewVotes_k3_step (nodes1 : List Int) (x11 : Int) (x15 : Bool) (r13 : Bool × eR3.T) (r14 : Bool × eR4.T) {Q : Bool → Prop} (h :
    Br (x15)
      (law08_ViewVotes_ret Q false)
      (law08_ViewVotes_l2 nodes1 (addK .i64 x11 1) r13.2.1 r13.2.2 r14.2.1 r14.2.2 Q)) : law08_ViewVotes_k3 nodes1 x11 x15 r13 r14 Q :=
  adv_go 6000 mixed law08_ViewVotes_rr (fa := [.gc]) (by kernel_rfl) h
theorem law08_ViewVotes_c9_step (nodes1 : List Int) (x11 : Int) (r13 : Bool × eR3.T) (r14 : Bool × eR4.T) {Q : Bool → Prop} (r16 : Bool) (hc : view_Votes_Has r13.2 (rdI nodes1 x11.toNat) (fun x => x = r16)) (h :
    law08_ViewVotes_c10 nodes1 x11 r13 r14 r16 Q) : law08_ViewVotes_c9 nodes1 x11 r13 r14 Q :=
  run_dcallf (tout := (TOut.ro 0 (lendOut [] 2 (view_Votes_Has_enc r16) (view_Votes_Has_obj r16)))) (call_ro 0 eR3 r13.2 (by kernel_rfl) (call_typed [] (view_Votes_Has_ok r13.2 (rdI nodes1 x11.toNat) r16 hc) (by kernel_rfl) (by kernel_rfl) (by kernel_rfl)) (by kernel_rfl) (by kernel_rfl) (by kernel_rfl)) (adv_go 6000 mixed law08_ViewVotes_rr (fa := [.gc]) (by kernel_rfl) h)
theorem law08_ViewVotes_c10_step (nodes1 : List Int) (x11 : Int) (r13 : Bool × eR3.T) (r14 : Bool × eR4.T) (r16 : Bool) {Q : Bool → Prop} (r17 : Bool) (hc : ref08_Votes_Has r14.2 (rdI nodes1 x11.toNat) (fun x => x = r17)) (h :
    Br (!(r16 == r17))
      (law08_ViewVotes_k3 nodes1 x11 true r13 r14 Q)
      (law08_ViewVotes_c11 nodes1 x11 r13 r14 r16 r17 Q)) : law08_ViewVotes_c10 nodes1 x11 r13 r14 r16 Q :=
  run_dcallf (tout := (TOut.ro 1 (lendOut [] 2 (ref08_Votes_Has_enc r17) (ref08_Votes_Has_obj r17)))) (call_ro 1 eR4 r14.2 (by kernel_rfl) (call_typed [] (ref08_Votes_Has_ok r14.2 (rdI nodes1 x11.toNat) r17 hc) (by kernel_rfl) (by kernel_rfl) (by kernel_rfl)) (by kernel_rfl) (by kernel_rfl) (by kernel_rfl)) (adv_go 6000 mixed law08_ViewVotes_rr (fa := [.gc]) (by kernel_rfl) h)
theorem law08_ViewVotes_c11_step (nodes1 : List Int) (x11 : Int) (r13 : Bool × eR3.T) (r14 : Bool × eR4.T) (r16 : Bool) (r17 : Bool) {Q : Bool → Prop} (r18 : Int) (hc : view_Votes_Count r13.2 (fun x => x = r18)) (h :
    Br (r18 != (r14.2.2.length : Int))
      (law08_ViewVotes_k3 nodes1 x11 true r13 r14 Q)
      (law08_ViewVotes_c12 nodes1 x11 r13 r14 r16 r17 r18 Q)) : law08_ViewVotes_c11 nodes1 x11 r13 r14 r16 r17 Q :=
  run_dcallf (tout := (TOut.ro 0 (lendOut [] 2 (view_Votes_Count_enc r18) (view_Votes_Count_obj r18)))) (call_ro 0 eR3 r13.2 (by kernel_rfl) (call_typed [] (view_Votes_Count_ok r13.2 r18 hc) (by kernel_rfl) (by kernel_rfl) (by kernel_rfl)) (by kernel_rfl) (by kernel_rfl) (by kernel_rfl)) (adv_go 6000 mixed law08_ViewVotes_rr (fa := [.gc]) (by kernel_rfl) h)
theorem law08_ViewVotes_c12_step (nodes1 : List Int) (x11 : Int) (r13 : Bool × eR3.T) (r14 : Bool × eR4.T) (r16 : Bool) (r17 : Bool) (r18 : Int) {Q : Bool → Prop} (r19 : Bool) (hc : view_Votes_Enough r13.2 (fun x => x = r19)) (h :
    law08_ViewVotes_c13 nodes1 x11 r13 r14 r16 r17 r18 r19 Q) : law08_ViewVotes_c12 nodes1 x11 r13 r14 r16 r17 r18 Q :=
  run_dcallf (tout := (TOut.ro 0 (lendOut [] 2 (view_Votes_Enough_enc r19) (view_Votes_Enough_obj r19)))) (call_ro 0 eR3 r13.2 (by kernel_rfl) (call_typed [] (view_Votes_Enough_ok r13.2 r19 hc) (by kernel_rfl) (by kernel_rfl) (by kernel_rfl)) (by kernel_rfl) (by kernel_rfl) (by kernel_rfl)) (adv_go 6000 mixed law08_ViewVotes_rr (fa := [.gc]) (by kernel_rfl) h)
theorem law08_ViewVotes_c13_step (nodes1 : List Int) (x11 : Int) (r13 : Bool × eR3.T) (r14 : Bool × eR4.T) (r16 : Bool) (r17 : Bool) (r18 : Int) (r19 : Bool) {Q : Bool → Prop} (r20 : Bool) (hc : ref08_Votes_Enough r14.2 (fun x => x = r20)) (h :
    Br (!(r19 == r20))
      (law08_ViewVotes_k3 nodes1 x11 true r13 r14 Q)
      (law08_ViewVotes_c14 nodes1 x11 r13 r14 r16 r17 r18 r19 r20 Q)) : law08_ViewVotes_c13 nodes1 x11 r13 r14 r16 r17 r18 r19 Q :=
  run_dcallf (tout := (TOut.ro 1 (lendOut [] 2 (ref08_Votes_Enough_enc r20) (ref08_Votes_Enough_obj r20)))) (call_ro 1 eR4 r14.2 (by kernel_rfl) (call_typed [] (ref08_Votes_Enough_ok r14.2 r20 hc) (by kernel_rfl) (by kernel_rfl) (by kernel_rfl)) (by kernel_rfl) (by kernel_rfl) (by kernel_rfl)) (adv_go 6000 mixed law08_ViewVotes_rr (fa := [.gc]) (by kernel_rfl) h)
theorem law08_ViewVotes_c14_step (nodes1 : List Int) (x11 : Int) (r13 : Bool × eR3.T) (r14 : Bool × eR4.T) (r16 : Bool) (r17 : Bool) (r18 : Int) (r19 : Bool) (r20 : Bool) {Q : Bool → Prop} (r21 : List Int) (hc : view_Votes_Nodes r13.2 (fun x => x = r21)) (h :
    law08_ViewVotes_c15 nodes1 x11 r13 r14 r16 r17 r18 r19 r20 r21 Q) : law08_ViewVotes_c14 nodes1 x11 r13 r14 r16 r17 r18 r19 r20 Q :=
  run_dcallf (tout := (lendOut [0] 2 (view_Votes_Nodes_enc r13.2 r21) (view_Votes_Nodes_obj r13.2 r21))) (call_typed [0] (view_Votes_Nodes_ok r13.2 r21 hc) (by kernel_rfl) (by kernel_rfl) (by kernel_rfl)) (adv_go 6000 mixed law08_ViewVotes_rr (fa := [.gc]) (by kernel_rfl) h)
theorem law08_ViewVotes_c15_step (nodes1 : List Int) (x11 : Int) (r13 : Bool × eR3.T) (r14 : Bool × eR4.T) (r16 : Bool) (r17 : Bool) (r18 : Int) (r19 : Bool) (r20 : Bool) (r21 : List Int) {Q : Bool → Prop} (r22 : Bool) (hc : ref01_Ints r21 r14.2.2 (fun x => x = r22)) (h :
    law08_ViewVotes_k3 nodes1 x11 (!r22) r13 r14 Q) : law08_ViewVotes_c15 nodes1 x11 r13 r14 r16 r17 r18 r19 r20 r21 Q :=
  run_dcallf (tout := (TOut.kill 2 (lendOut [] 3 (ref01_Ints_enc r22) (ref01_Ints_obj r22)))) (call_frz 2 eI64 r21 (by kernel_rfl) (rfl) (call_typed [] (ref01_Ints_ok r21 r14.2.2 r22 hc) (by kernel_rfl) (by kernel_rfl) (by kernel_rfl)) (by kernel_rfl)) (adv_go 6000 mixed law08_ViewVotes_rr (fa := [.gc]) (by kernel_rfl) h)
theorem law08_ViewVotes_c16_step  {Q : Bool → Prop} (r23 : Bool) (hc : law08_lives (fun x => x = r23)) (h :
    law08_ViewVotes_ret Q r23) : law08_ViewVotes_c16 Q :=
  run_callf (tout := (lendOut [] 0 (law08_lives_enc r23) (law08_lives_obj r23))) (call_typed [] (law08_lives_ok r23 hc) (by kernel_rfl) (by kernel_rfl) (by kernel_rfl)) (adv_go 6000 mixed law08_ViewVotes_rr (fa := [.gc]) (by kernel_rfl) h)
theorem law08_ViewVotes_act (n0 : Int) (nodes1 : List Int) {Q : Bool → Prop} (h : law08_ViewVotes n0 nodes1 Q) : ACT Try.prog 8 [(.int .i64 n0), (.sl eI64 nodes1)] [] (law08_ViewVotes_R Q) :=
  act_go Try.func8 (by rfl) (by kernel_rfl) law08_ViewVotes_rc (n0 := 0) rfl (by kernel_rfl) h
theorem law08_ViewVotes_ok (n0 : Int) (nodes1 : List Int) (r : Bool) (h : law08_ViewVotes n0 nodes1 (fun x => x = r)) : ACT Try.prog 8 [(.int .i64 n0), (.sl eI64 nodes1)] [] (fun tv tL => tv = law08_ViewVotes_enc r ∧ tL = law08_ViewVotes_obj r) := act_det (law08_ViewVotes_act n0 nodes1 h)

end Go.Proofs.Ytpfdldcejeilnaa
